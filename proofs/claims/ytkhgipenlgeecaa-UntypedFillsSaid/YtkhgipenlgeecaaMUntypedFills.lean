/- The plain laws of spans over the printed functions: what is right, ends, lies in what, is apart; no memory and no Go in it. Conditions: none but those each theorem names. -/
import Derived.Test.YtkhgipenlgeecaaPUntypedFillsx4
namespace Go.Proofs.Ytkhgipenlgeecaa.PUntypedFills
open Go.RowKit Go.Proofs.YtkhgipenlgeecaaW.PrintWords Go.Proofs.YtkhgipenlgeecaaW.PrintLast Go.Proofs.YtkhgipenlgeecaaW.PrintMore
set_option linter.unusedVariables false
set_option linter.unusedSimpArgs false
/-- A power of two. -/
def pw (b : Int) : Int := 2 ^ b.toNat

/-- Right: as the document says. -/
def Rt (a b : Int) : Prop := 0 ≤ b ∧ b ≤ 16 ∧ 0 ≤ a ∧ a + pw b ≤ 65536 ∧ a % pw b = 0
instance (a b : Int) : Decidable (Rt a b) := by unfold Rt; infer_instance

theorem pw_pos (b : Int) : 0 < pw b := by unfold pw; exact Int.pow_pos (by decide)
theorem pw_le {b : Int} (h : b ≤ 16) : pw b ≤ 65536 := by
  unfold pw
  have h1 : b.toNat ≤ 16 := by omega
  have h2 : (2 : Nat) ^ b.toNat ≤ 2 ^ 16 := Nat.pow_le_pow_right (by decide) h1
  have h3 : ((2 ^ b.toNat : Nat) : Int) ≤ ((2 ^ 16 : Nat) : Int) := by exact_mod_cast h2
  have h4 : ((2 ^ b.toNat : Nat) : Int) = (2 : Int) ^ b.toNat := by simp
  rw [h4] at h3
  exact h3
theorem pw_add {b c : Int} (hb : 0 ≤ b) (hc : 0 ≤ c) : pw (b + c) = pw b * pw c := by
  unfold pw
  rw [Int.toNat_add hb hc, Int.pow_add]
theorem shl1 {b : Int} (h0 : 0 ≤ b) (h : b ≤ 16) : shl .i64 1 b = pw b := by
  have h1 := pw_le h
  have h2 := pw_pos b
  unfold shl
  rw [Int.one_mul, show min b.toNat IntKind.i64.bits = b.toNat from Nat.min_eq_left (by show b.toNat ≤ 64; omega)]
  show IntKind.i64.wrap (pw b) = pw b
  rw [i64_w]
  unfold wrap64
  omega
theorem shr_of {x b : Int} (h0 : 0 ≤ b) (h : b ≤ 16) : shr .i64 x b = x / pw b := by
  unfold shr
  rw [show min b.toNat IntKind.i64.bits = b.toNat from Nat.min_eq_left (by show b.toNat ≤ 64; omega)]
  rfl
theorem and_pw {a b : Int} (h0 : 0 ≤ b) (h : b ≤ 16) (ha : 0 ≤ a) (ha' : a < 131072) : Go.bits .and .i64 a (pw b - 1) = a % pw b := by
  unfold pw
  exact bits_mask .i64 17 (by decide) (fun n h0 h1 => by rw [i64_w]; unfold wrap64; omega) b.toNat (by omega) a ha (by omega)
theorem wrap_small {x : Int} (h0 : -1000000 ≤ x) (h1 : x ≤ 1000000) : wrap64 x = x := by unfold wrap64; omega

theorem inRange_eq (a b : Int) : span_inRange.f a b = some (decide (0 ≤ b ∧ b ≤ 16 ∧ 0 ≤ a ∧ a + pw b ≤ 65536)) := by
  unfold span_inRange.f
  by_cases h1 : b ≥ 0
  · rw [if_pos h1]
    by_cases h2 : b ≤ 16
    · rw [if_pos h2]
      have hp := pw_pos b
      have hl := pw_le h2
      by_cases h3 : a ≥ 0
      · rw [if_pos h3, if_pos h1, shl1 h1 h2, wrap_small (by omega) (by omega)]
        congr 1
        rw [decide_eq_decide]
        omega
      · rw [if_neg h3]
        congr 1
        symm
        rw [decide_eq_false_iff_not]
        omega
    · rw [if_neg h2]
      congr 1
      symm
      rw [decide_eq_false_iff_not]
      omega
  · rw [if_neg h1]
    congr 1
    symm
    rw [decide_eq_false_iff_not]
    omega
theorem right_eq (a b : Int) : span_right.f a b = some (decide (Rt a b)) := by
  unfold span_right.f
  rw [inRange_eq, Option.bind_some]
  by_cases h : 0 ≤ b ∧ b ≤ 16 ∧ 0 ≤ a ∧ a + pw b ≤ 65536
  · obtain ⟨h1, h2, h3, h4⟩ := h
    have hp := pw_pos b
    have hl := pw_le h2
    rw [if_pos (decide_eq_true ⟨h1, h2, h3, h4⟩), if_pos h1, shl1 h1 h2, wrap_small (by omega) (by omega), and_pw h1 h2 h3 (by omega)]
    congr 1
    by_cases h5 : a % pw b = 0
    · rw [decide_eq_true (show Rt a b from ⟨h1, h2, h3, h4, h5⟩)]; exact beq_iff_eq.2 h5
    · rw [decide_eq_false (fun h : Rt a b => h5 h.2.2.2.2)]; exact beq_eq_false_iff_ne.2 h5
  · rw [if_neg (by simpa using h)]
    congr 1
    symm
    rw [decide_eq_false_iff_not]
    exact fun hr => h ⟨hr.1, hr.2.1, hr.2.2.1, hr.2.2.2.1⟩
theorem end_eq {a b : Int} (h0 : 0 ≤ b) (h : b ≤ 16) (ha : 0 ≤ a) (ha' : a ≤ 900000) : span_end.f a b = some (a + pw b) := by
  unfold span_end.f
  have hp := pw_pos b
  have hl := pw_le h
  rw [if_pos h0, shl1 h0 h, wrap_small (by omega) (by omega)]

/-- What lies in what. -/
def Ins (a b c d : Int) : Prop := Rt a b ∧ Rt c d ∧ c ≤ a ∧ a + pw b ≤ c + pw d
instance (a b c d : Int) : Decidable (Ins a b c d) := by unfold Ins; infer_instance
/-- What is apart. -/
def Apt (a b c d : Int) : Prop := Rt a b ∧ Rt c d ∧ (a + pw b ≤ c ∨ c + pw d ≤ a)
instance (a b c d : Int) : Decidable (Apt a b c d) := by unfold Apt; infer_instance

/-- A multiple below another one is a whole step below. -/
theorem step_up {p x y : Int} (hp : 0 < p) (hx : x % p = 0) (hy : y % p = 0) (h : x < y) : x + p ≤ y := by
  obtain ⟨i, rfl⟩ := Int.dvd_of_emod_eq_zero hx
  obtain ⟨j, rfl⟩ := Int.dvd_of_emod_eq_zero hy
  have hij : i < j := Int.lt_of_mul_lt_mul_left h (Int.le_of_lt hp)
  have : p * (i + 1) ≤ p * j := Int.mul_le_mul_of_nonneg_left (by omega) (Int.le_of_lt hp)
  rw [Int.mul_add, Int.mul_one] at this
  exact this
theorem pw_dvd {b d : Int} (h0 : 0 ≤ b) (h : b ≤ d) {x : Int} (hx : x % pw d = 0) : x % pw b = 0 := by
  have hd : pw d = pw b * pw (d - b) := by rw [← pw_add h0 (by omega)]; congr 1; omega
  rw [hd] at hx
  obtain ⟨i, rfl⟩ := Int.dvd_of_emod_eq_zero hx
  rw [Int.mul_assoc]
  exact Int.mul_emod_right _ _
theorem pw_mono {b d : Int} (h0 : 0 ≤ b) (h : b ≤ d) : pw b ≤ pw d := by
  have hd : pw d = pw b * pw (d - b) := by rw [← pw_add h0 (by omega)]; congr 1; omega
  have h1 := pw_pos (d - b)
  have h2 := pw_pos b
  rw [hd]
  have : pw b * 1 ≤ pw b * pw (d - b) := Int.mul_le_mul_of_nonneg_left (by omega) (Int.le_of_lt h2)
  omega
theorem pw_lt {b d : Int} (h0 : 0 ≤ b) (h : b < d) : 2 * pw b ≤ pw d := by
  have hd : pw d = pw b * pw (d - b) := by rw [← pw_add h0 (by omega)]; congr 1; omega
  have h2 := pw_pos b
  have h1 : pw (d - b) = pw (d - b - 1) * pw 1 := by rw [← pw_add (by omega) (by omega)]; congr 1; omega
  have h3 := pw_pos (d - b - 1)
  have h4 : pw 1 = 2 := rfl
  rw [hd, h1, h4]
  have : pw b * 2 ≤ pw b * (pw (d - b - 1) * 2) := Int.mul_le_mul_of_nonneg_left (by omega) (Int.le_of_lt h2)
  omega
/-- The quotient's meaning. -/
theorem quot_iff {x q p : Int} (hp : 0 < p) (hq : q % p = 0) : x / p = q / p ↔ q ≤ x ∧ x < q + p := by
  obtain ⟨j, rfl⟩ := Int.dvd_of_emod_eq_zero hq
  rw [Int.mul_ediv_cancel_left _ (by omega : p ≠ 0)]
  have h1 := Int.emod_nonneg x (by omega : p ≠ 0)
  have h2 := Int.emod_lt_of_pos x hp
  have h3 := Int.mul_ediv_add_emod x p
  constructor
  · rintro rfl; omega
  · rintro ⟨h4, h5⟩
    have a1 : p * j < p * (x / p + 1) := by rw [Int.mul_add, Int.mul_one]; omega
    have a2 : p * (x / p) < p * (j + 1) := by rw [Int.mul_add, Int.mul_one]; omega
    have b1 := Int.lt_of_mul_lt_mul_left a1 (Int.le_of_lt hp)
    have b2 := Int.lt_of_mul_lt_mul_left a2 (Int.le_of_lt hp)
    omega
theorem ins_iff {a b c d : Int} (hs : Rt a b) (ht : Rt c d) : (b ≤ d ∧ a / pw d = c / pw d) ↔ Ins a b c d := by
  obtain ⟨s1, s2, s3, s4, s5⟩ := hs
  obtain ⟨t1, t2, t3, t4, t5⟩ := ht
  have hp := pw_pos b
  have hq := pw_pos d
  unfold Ins
  rw [quot_iff hq t5]
  constructor
  · rintro ⟨h1, h2, h3⟩
    refine ⟨⟨s1, s2, s3, s4, s5⟩, ⟨t1, t2, t3, t4, t5⟩, h2, ?_⟩
    have e1 : (c + pw d) % pw b = 0 := pw_dvd s1 h1 (by rw [Int.add_emod_right]; exact t5)
    exact step_up hp s5 e1 h3
  · rintro ⟨_, _, h1, h2⟩
    refine ⟨?_, h1, by omega⟩
    by_cases h : b ≤ d
    · exact h
    · have := pw_lt t1 (show d < b by omega)
      omega
/-- Of two right spans the one lies in the other, or they are apart. -/
theorem nest {a b c d : Int} (hs : Rt a b) (ht : Rt c d) : Ins a b c d ∨ Ins c d a b ∨ a + pw b ≤ c ∨ c + pw d ≤ a := by
  have key : ∀ {a b c d : Int}, Rt a b → Rt c d → b ≤ d → Ins a b c d ∨ a + pw b ≤ c ∨ c + pw d ≤ a := by
    intro a b c d hs ht h
    have hp := pw_pos b
    by_cases h1 : a < c
    · exact .inr (.inl (step_up hp hs.2.2.2.2 (pw_dvd hs.1 h ht.2.2.2.2) h1))
    · by_cases h2 : a < c + pw d
      · refine .inl ⟨hs, ht, by omega, ?_⟩
        have e1 : (c + pw d) % pw b = 0 := pw_dvd hs.1 h (by rw [Int.add_emod_right]; exact ht.2.2.2.2)
        exact step_up hp hs.2.2.2.2 e1 h2
      · exact .inr (.inr (by omega))
  by_cases h : b ≤ d
  · rcases key hs ht h with h | h | h
    · exact .inl h
    · exact .inr (.inr (.inl h))
    · exact .inr (.inr (.inr h))
  · rcases key ht hs (by omega) with h | h | h
    · exact .inr (.inl h)
    · exact .inr (.inr (.inr h))
    · exact .inr (.inr (.inl h))
theorem apt_iff {a b c d : Int} : Apt a b c d ↔ Rt a b ∧ Rt c d ∧ ¬ Ins a b c d ∧ ¬ Ins c d a b := by
  have hp := pw_pos b
  have hq := pw_pos d
  unfold Apt
  constructor
  · rintro ⟨h1, h2, h3⟩
    refine ⟨h1, h2, fun h => ?_, fun h => ?_⟩
    · have := h.2.2.1; have := h.2.2.2; omega
    · have := h.2.2.1; have := h.2.2.2; omega
  · rintro ⟨h1, h2, h3, h4⟩
    refine ⟨h1, h2, ?_⟩
    rcases nest h1 h2 with h | h | h | h
    · exact absurd h h3
    · exact absurd h h4
    · exact .inl h
    · exact .inr h

theorem Check_eq (a b n : Int) : span_Check.f a b n = some (if 0 ≤ b ∧ b ≤ 16 ∧ 0 ≤ a ∧ a + pw b ≤ 65536 then (if a % pw b = 0 then (if a + pw b > n then 7 else 0) else 9) else 1) := by
  unfold span_Check.f
  rw [inRange_eq, Option.bind_some, right_eq, Option.bind_some]
  by_cases h : 0 ≤ b ∧ b ≤ 16 ∧ 0 ≤ a ∧ a + pw b ≤ 65536
  · rw [if_pos (decide_eq_true h), if_pos h]
    obtain ⟨h1, h2, h3, h4⟩ := h
    have hp := pw_pos b
    by_cases h5 : a % pw b = 0
    · rw [if_pos (decide_eq_true ⟨h1, h2, h3, h4, h5⟩), if_pos h5, end_eq h1 h2 h3 (by omega), Option.bind_some]
      split <;> rfl
    · rw [if_neg (by intro hh; exact h5 (of_decide_eq_true hh).2.2.2.2), if_neg h5]
  · rw [if_neg (by simpa using h), if_neg h]
theorem Check_zero {a b n : Int} (h : Rt a b) (hn : a + pw b ≤ n) : span_Check.f a b n = some 0 := by
  rw [Check_eq, if_pos ⟨h.1, h.2.1, h.2.2.1, h.2.2.2.1⟩, if_pos h.2.2.2.2, if_neg (by omega)]


theorem wrap_big {x : Int} (h0 : -1000000000000000 ≤ x) (h1 : x ≤ 1000000000000000) : wrap64 x = x := by unfold wrap64; omega
theorem shl_at {x b : Int} (h0 : 0 ≤ b) (h : b ≤ 16) (hx : 0 ≤ x) (hx' : x ≤ 1000000) : shl .i64 x b = x * pw b := by
  have h1 := pw_le h
  have h2 := pw_pos b
  have h3 : x * pw b ≤ 1000000 * 65536 := by
    have a1 : x * pw b ≤ 1000000 * pw b := Int.mul_le_mul_of_nonneg_right hx' (Int.le_of_lt h2)
    omega
  have h4 : 0 ≤ x * pw b := Int.mul_nonneg hx (Int.le_of_lt h2)
  unfold shl
  rw [show min b.toNat IntKind.i64.bits = b.toNat from Nat.min_eq_left (by show b.toNat ≤ 64; omega)]
  show IntKind.i64.wrap (x * pw b) = x * pw b
  rw [i64_w, wrap_big (by omega) (by omega)]

/-- How long an object of a kind is, and the error. -/
def bitsOf (kind n : Int) : Int × Int :=
  if kind = 1 then (if 0 ≤ n ∧ n ≤ 16 then (n, 0) else (0, 1))
  else if kind = 2 then (if 1 ≤ n ∧ n ≤ 4 then (n + 1, 0) else (0, 1))
  else if kind = 3 ∨ kind = 6 ∨ kind = 7 ∨ kind = 8 then (4, 0)
  else if kind = 4 ∨ kind = 5 then (1, 0)
  else (0, 2)
theorem bitsOf_range {kind n : Int} (h : (bitsOf kind n).2 = 0) : 0 ≤ (bitsOf kind n).1 ∧ (bitsOf kind n).1 ≤ 16 := by
  unfold bitsOf at h ⊢
  split
  · rename_i h1; rw [if_pos h1] at h; split
    · rename_i h2; exact h2
    · rename_i h2; rw [if_neg h2] at h; cases h
  · rename_i h1; rw [if_neg h1] at h
    split
    · rename_i h2; rw [if_pos h2] at h; split
      · rename_i h3; dsimp only; omega
      · rename_i h3; rw [if_neg h3] at h; cases h
    · rename_i h2; rw [if_neg h2] at h
      split
      · dsimp only; omega
      · rename_i h3; rw [if_neg h3] at h
        split
        · dsimp only; omega
        · rename_i h4; rw [if_neg h4] at h; cases h
theorem Bits_eq (kind n : Int) {k : Nat} (hk : 10 ≤ k) : untyped_Bits.f k kind n = some (bitsOf kind n) := by
  obtain ⟨k, rfl⟩ : ∃ m, k = m + 10 := ⟨k - 10, by omega⟩
  unfold untyped_Bits.f bitsOf
  by_cases h3 : kind = 3
  · subst h3; rfl
  by_cases h6 : kind = 6
  · subst h6; rfl
  by_cases h7 : kind = 7
  · subst h7; rfl
  by_cases h8 : kind = 8
  · subst h8; rfl
  by_cases h4 : kind = 4
  · subst h4; rfl
  by_cases h5 : kind = 5
  · subst h5; rfl
  rw [if_neg h3, if_neg h6, if_neg h7]
  simp only [untyped_Bits.j0]
  rw [if_neg (by simpa using h8), if_neg h4]
  simp only [untyped_Bits.j1]
  rw [if_neg (by simpa using h5)]
  by_cases h2 : kind = 2
  · subst h2
    rw [if_pos rfl, if_neg (by decide), if_pos (by decide)]
    simp only [untyped_Bits.j2]
    by_cases a : n < 1
    · rw [if_pos a, if_neg (by omega)]; rfl
    · rw [if_neg a]
      by_cases b : n > 4
      · rw [decide_eq_true b, if_neg (by omega)]; rfl
      · rw [decide_eq_false b, if_pos (by omega)]
        simp only [untyped_Bits.j3]
        rw [if_neg (by decide), if_pos (by trivial), wrap_big (by omega) (by omega)]
  · rw [if_neg h2]
    by_cases h1 : kind = 1
    · subst h1
      rw [if_pos rfl, if_pos rfl]
      simp only [untyped_Bits.j2]
      by_cases a : n < 0
      · rw [if_pos a, if_neg (by omega)]; rfl
      · rw [if_neg a]
        by_cases b : n > 16
        · rw [decide_eq_true b, if_neg (by omega)]; rfl
        · rw [decide_eq_false b, if_pos (by omega)]
          simp only [untyped_Bits.j3]
          rw [if_neg (by decide), if_neg (by decide)]
    · rw [if_neg h1, if_neg h1, if_neg h2, if_neg (by omega), if_neg (by omega)]
/-- How much of a span may be used. -/
def Use (a b u : Int) : Prop := Rt a b ∧ 0 ≤ u ∧ u ≤ pw b
instance (a b u : Int) : Decidable (Use a b u) := by unfold Use; infer_instance
theorem Check_bad {a b n : Int} (h : ¬ Rt a b) : ∃ e : Int, e ≠ 0 ∧ span_Check.f a b n = some e := by
  rw [Check_eq]
  by_cases h1 : 0 ≤ b ∧ b ≤ 16 ∧ 0 ≤ a ∧ a + pw b ≤ 65536
  · have h5 : a % pw b ≠ 0 := fun h5 => h ⟨h1.1, h1.2.1, h1.2.2.1, h1.2.2.2, h5⟩
    exact ⟨9, by decide, by rw [if_pos h1, if_neg h5]⟩
  · exact ⟨1, by decide, by rw [if_neg h1]⟩
theorem uright_eq (a b u : Int) : untyped_right.f a b u = some (decide (Use a b u)) := by
  unfold untyped_right.f
  by_cases h : Rt a b
  · rw [Check_zero h h.2.2.2.1, Option.bind_some, if_pos rfl]
    by_cases h0 : u ≥ 0
    · rw [if_pos h0, if_pos h.1, shl1 h.1 h.2.1]
      congr 1
      rw [decide_eq_decide]
      exact ⟨fun hh => ⟨h, h0, hh⟩, fun hh => hh.2.2⟩
    · rw [if_neg h0, decide_eq_false (fun hh : Use a b u => h0 hh.2.1)]
  · rw [decide_eq_false (fun hh : Use a b u => h hh.1)]
    obtain ⟨e, he, hc⟩ := Check_bad (n := 65536) h
    rw [hc, Option.bind_some, if_neg he]
theorem nat_andNot (y i : Nat) (hy : y < 2 ^ 64) (hi : i ≤ 64) : y &&& (2 ^ 64 - 1 - (2 ^ i - 1)) = y / 2 ^ i * 2 ^ i := by
  have hp : 0 < 2 ^ i := Nat.two_pow_pos i
  have hle : 2 ^ i ≤ 2 ^ 64 := Nat.pow_le_pow_right (by decide) hi
  apply Nat.eq_of_testBit_eq
  intro j
  rw [show 2 ^ 64 - 1 - (2 ^ i - 1) = 2 ^ 64 - ((2 ^ i - 1) + 1) by omega, Nat.testBit_and, Nat.testBit_two_pow_sub_succ (by omega), Nat.testBit_two_pow_sub_one, Nat.testBit_mul_two_pow, Nat.testBit_div_two_pow]
  by_cases h1 : i ≤ j
  · by_cases h2 : j < 64
    · have : ¬ j < i := by omega
      simp [h1, h2, this]
    · have : y.testBit j = false := Nat.testBit_lt_two_pow (Nat.lt_of_lt_of_le hy (Nat.pow_le_pow_right (by decide) (by omega)))
      simp [this, h1]
  · have : j < i := by omega
    simp [h1, this]
/-- The least multiple of 2^b that is not below x. -/
def up (x b : Int) : Int := (x + pw b - 1) / pw b * pw b
theorem andNot_pw {y b : Int} (h0 : 0 ≤ b) (h : b ≤ 16) (hy : 0 ≤ y) (hy' : y ≤ 1000000) : Go.bits .andNot .i64 y (pw b - 1) = y / pw b * pw b := by
  obtain ⟨n, rfl⟩ := Int.eq_ofNat_of_zero_le hy
  obtain ⟨i, rfl⟩ := Int.eq_ofNat_of_zero_le h0
  have hp : 0 < 2 ^ i := Nat.two_pow_pos i
  have hle : 2 ^ i ≤ 2 ^ 16 := Nat.pow_le_pow_right (by decide) (by omega)
  have e1 : pw (i : Int) = ((2 ^ i : Nat) : Int) := by unfold pw; simp
  have e2 : pw (i : Int) - 1 = ((2 ^ i - 1 : Nat) : Int) := by rw [e1]; omega
  rw [e2, e1]
  show IntKind.i64.wrap ((BitVec.ofInt 64 (n : Int) &&& ~~~BitVec.ofInt 64 ((2 ^ i - 1 : Nat) : Int)).toNat : Int) = _
  rw [BitVec.toNat_and, BitVec.toNat_not, BitVec.ofInt_natCast, BitVec.ofInt_natCast, BitVec.toNat_ofNat, BitVec.toNat_ofNat, Nat.mod_eq_of_lt (show n < 2 ^ 64 by omega), Nat.mod_eq_of_lt (show 2 ^ i - 1 < 2 ^ 64 by omega), nat_andNot n i (by omega) (by omega), i64_w]
  have h3 : n / 2 ^ i * 2 ^ i ≤ n := Nat.div_mul_le_self n (2 ^ i)
  rw [wrap_big (by omega) (by omega)]
  simp
theorem up_bounds {x b : Int} : x ≤ up x b ∧ up x b < x + pw b ∧ up x b % pw b = 0 := by
  have hp := pw_pos b
  have h1 := Int.mul_ediv_add_emod (x + pw b - 1) (pw b)
  have h2 := Int.emod_nonneg (x + pw b - 1) (by omega : pw b ≠ 0)
  have h3 := Int.emod_lt_of_pos (x + pw b - 1) hp
  rw [Int.mul_comm] at h1
  refine ⟨?_, ?_, ?_⟩
  · show x ≤ (x + pw b - 1) / pw b * pw b; omega
  · show (x + pw b - 1) / pw b * pw b < x + pw b; omega
  · exact Int.mul_emod_left _ _
theorem up_self {x b : Int} (h : x % pw b = 0) : up x b = x := by
  have hp := pw_pos b
  obtain ⟨h1, h2, h3⟩ := @up_bounds x b
  by_cases e : x < up x b
  · have := step_up hp h h3 e; omega
  · omega
theorem Up_eq {x b : Int} (h0 : 0 ≤ b) (h : b ≤ 16) (hx : 0 ≤ x) (hx' : x ≤ 900000) : bits_Up.f x b = some (up x b, 0) := by
  have hp := pw_pos b
  have hl := pw_le h
  unfold bits_Up.f
  rw [if_neg (by omega), if_neg (by omega), if_neg (by omega), if_neg (by omega), if_pos h0, shl1 h0 h, wrap_big (x := pw b - 1) (by omega) (by omega), wrap_big (x := x + (pw b - 1)) (by omega) (by omega), andNot_pw h0 h (by omega) (by omega), show x + (pw b - 1) = x + pw b - 1 by omega]
  rfl
/-- Objects, one behind the other. -/
def obj (first long : Int) (i : Nat) : S23 := ⟨first + i * pw long, long⟩
def objs (first long : Int) (c : Nat) : List S23 := (List.range c).map (obj first long)
theorem objs_len (first long : Int) (c : Nat) : (objs first long c).length = c := by simp [objs]
theorem objs_get (first long : Int) (c i : Nat) (h : i < (objs first long c).length) : (objs first long c)[i] = obj first long i := by simp [objs]
theorem objs_succ (first long : Int) (c : Nat) : objs first long (c + 1) = objs first long c ++ [obj first long c] := by simp [objs, List.range_succ]
/-- Where objects come, and how much is used then. -/
def planOf (a b u kind n c : Int) : List S23 × Int × Int :=
  if (bitsOf kind n).2 ≠ 0 then ([], 0, (bitsOf kind n).2)
  else if ¬ Use a b u ∨ c < 1 ∨ c > 16 then ([], 0, 1)
  else if up (a + u) (bitsOf kind n).1 + c * pw (bitsOf kind n).1 - a > pw b then ([], 0, 7)
  else (objs (up (a + u) (bitsOf kind n).1) (bitsOf kind n).1 c.toNat, up (a + u) (bitsOf kind n).1 + c * pw (bitsOf kind n).1 - a, 0)
theorem plan_loop {long first end_ : Int} (h0 : 0 ≤ long) (h : long ≤ 16) (hf : 0 ≤ first) (hf' : first ≤ 900000) (c : Nat) (hc : c ≤ 16) : ∀ (d j k : Nat), c - j = d → j ≤ c → d < k → ∀ l : List S23, l.length = c → (∀ i, i < j → l[i]? = some (obj first long i)) →
    untyped_Plan.l0 k long first end_ l c j = some (objs first long c, end_, 0) := by
  intro d
  induction d with
  | zero =>
    intro j k hd hj hk l hl hall
    obtain ⟨k, rfl⟩ : ∃ m, k = m + 1 := ⟨k - 1, by omega⟩
    simp only [untyped_Plan.l0]
    rw [if_neg (by omega)]
    have : l = objs first long c := by
      apply List.ext_getElem?
      intro i
      by_cases hi : i < c
      · rw [hall i (by omega), List.getElem?_eq_getElem (by rw [objs_len]; exact hi), objs_get]
      · rw [List.getElem?_eq_none (by omega), List.getElem?_eq_none (by rw [objs_len]; omega)]
    rw [this]
  | succ d ih =>
    intro j k hd hj hk l hl hall
    obtain ⟨k, rfl⟩ : ∃ m, k = m + 1 := ⟨k - 1, by omega⟩
    have hlp := pw_le h
    have hp := pw_pos long
    have hm : (j : Int) * pw long ≤ 16 * 65536 := by
      have a1 : (j : Int) * pw long ≤ 16 * pw long := Int.mul_le_mul_of_nonneg_right (by omega) (Int.le_of_lt hp)
      omega
    have hm0 : 0 ≤ (j : Int) * pw long := Int.mul_nonneg (by omega) (Int.le_of_lt hp)
    simp only [untyped_Plan.l0]
    rw [if_pos (by omega), if_pos h0, if_pos (by omega), if_pos (by omega), shl_at h0 h (by omega) (by omega), wrap_big (x := first + (j : Int) * pw long) (by omega) (by omega), wrap_big (x := (j : Int) + 1) (by omega) (by omega), show ((j : Int) + 1) = ((j + 1 : Nat) : Int) by omega, Int.toNat_natCast]
    refine ih (j + 1) k (by omega) (by omega) (by omega) _ (by simp [hl]) (fun i hi => ?_)
    rw [List.getElem?_set]
    by_cases e : j = i
    · rw [if_pos e, if_pos (by omega), ← e]; rfl
    · rw [if_neg e]; exact hall i (by omega)
theorem Plan_eq (a b u kind n c : Int) {k : Nat} (hk : 100 ≤ k) : untyped_Plan.f k a b u kind n c = some (planOf a b u kind n c) := by
  unfold untyped_Plan.f planOf
  rw [Bits_eq kind n (by omega), Option.bind_some]
  by_cases hb : (bitsOf kind n).2 = 0
  · obtain ⟨h0, h1⟩ := bitsOf_range hb
    rw [if_pos hb, if_neg (show ¬ ((bitsOf kind n).2 ≠ 0) from fun h => h hb), uright_eq, Option.bind_some]
    generalize (bitsOf kind n).1 = long at h0 h1 ⊢
    by_cases hu : Use a b u
    · rw [if_pos (decide_eq_true hu)]
      by_cases c1 : c < 1
      · rw [if_pos c1, if_pos (show ¬ Use a b u ∨ c < 1 ∨ c > 16 from .inr (.inl c1))]
      · rw [if_neg c1]
        by_cases c2 : c > 16
        · rw [if_pos c2, if_pos (show ¬ Use a b u ∨ c < 1 ∨ c > 16 from .inr (.inr c2))]
        · obtain ⟨⟨s1, s2, s3, s4, s5⟩, u1, u2⟩ := hu
          have hlb := pw_le s2
          have hl := pw_le h1
          have hp := pw_pos long
          obtain ⟨p1, p2, p3⟩ := @up_bounds (a + u) long
          have hm : c * pw long ≤ 16 * 65536 := by
            have a1 : c * pw long ≤ 16 * pw long := Int.mul_le_mul_of_nonneg_right (by omega) (Int.le_of_lt hp)
            omega
          have hm0 : 0 ≤ c * pw long := Int.mul_nonneg (by omega) (Int.le_of_lt hp)
          rw [if_neg c2, if_neg (show ¬ (¬ Use a b u ∨ c < 1 ∨ c > 16) from fun h => h.elim (fun h => h ⟨⟨s1, s2, s3, s4, s5⟩, u1, u2⟩) (by omega)), wrap_big (x := a + u) (by omega) (by omega), Up_eq h0 h1 (by omega) (by omega), Option.bind_some]
          dsimp only
          rw [if_pos h0, if_pos s1, shl_at h0 h1 (by omega) (by omega), shl1 s1 s2, wrap_big (x := up (a + u) long + c * pw long) (by omega) (by omega), wrap_big (by omega) (by omega)]
          by_cases hf : up (a + u) long + c * pw long - a > pw b
          · rw [if_pos hf, if_pos hf]
          · rw [if_neg hf, if_neg hf, if_pos (by omega), if_pos (by omega), Option.bind_some]
            have := plan_loop (first := up (a + u) long) (end_ := up (a + u) long + c * pw long - a) h0 h1 (by omega) (by omega) c.toNat (by omega) c.toNat 0 k (by omega) (by omega) (by omega) (List.replicate c.toNat z23) (by simp) (fun i hi => by omega)
            rw [List.length_replicate]
            exact this
    · rw [if_neg (by simpa using hu), if_pos (show ¬ Use a b u ∨ c < 1 ∨ c > 16 from .inl hu)]
  · rw [if_neg hb, if_pos (show (bitsOf kind n).2 ≠ 0 from hb)]
theorem Left_eq (a b u : Int) : untyped_Left.f a b u = some (if Use a b u then pw b - u else 0) := by
  unfold untyped_Left.f
  rw [uright_eq, Option.bind_some]
  by_cases hu : Use a b u
  · obtain ⟨⟨s1, s2, s3, s4, s5⟩, u1, u2⟩ := hu
    have hlb := pw_le s2
    rw [if_pos (decide_eq_true ⟨⟨s1, s2, s3, s4, s5⟩, u1, u2⟩), if_pos s1, if_pos ⟨⟨s1, s2, s3, s4, s5⟩, u1, u2⟩, shl1 s1 s2, wrap_big (by omega) (by omega)]
  · rw [if_neg (by simpa using hu), if_neg hu]

theorem works_ok : donjonlaw06_works.f 300 = some true := by kernel_rfl
theorem works_at {k : Nat} (hk : 300 ≤ k) : donjonlaw06_works.f k = some true := at_rounds donjonlaw06_works.mono hk works_ok
theorem wrapu_nonneg (x : Int) : 0 ≤ IntKind.u64.wrap x := by
  simp only [IntKind.wrap, IntKind.bits, IntKind.signed]
  simp
  omega

theorem planOf_len (a b u kind n c : Int) : (planOf a b u kind n c).1.length ≤ 16 := by
  unfold planOf
  split
  · simp
  · split
    · simp
    · rename_i h
      split
      · simp
      · rw [objs_len]; omega
/-- A plan that goes. -/
theorem plan_ok {a b u kind n c : Int} (h : (planOf a b u kind n c).2.2 = 0) : (bitsOf kind n).2 = 0 ∧ Use a b u ∧ 1 ≤ c ∧ c ≤ 16 ∧ up (a + u) (bitsOf kind n).1 + c * pw (bitsOf kind n).1 - a ≤ pw b ∧
    planOf a b u kind n c = (objs (up (a + u) (bitsOf kind n).1) (bitsOf kind n).1 c.toNat, up (a + u) (bitsOf kind n).1 + c * pw (bitsOf kind n).1 - a, 0) := by
  unfold planOf at h ⊢
  by_cases hb : (bitsOf kind n).2 ≠ 0
  · rw [if_pos hb] at h; exact absurd h hb
  · rw [if_neg hb] at h ⊢
    by_cases hu : ¬ Use a b u ∨ c < 1 ∨ c > 16
    · rw [if_pos hu] at h; cases h
    · rw [if_neg hu] at h ⊢
      by_cases hf : up (a + u) (bitsOf kind n).1 + c * pw (bitsOf kind n).1 - a > pw b
      · rw [if_pos hf] at h; cases h
      · rw [if_neg hf]
        have h1 : Use a b u := by
          by_cases g : Use a b u
          · exact g
          · exact absurd (.inl g) hu
        exact ⟨by omega, h1, by omega, by omega, by omega, rfl⟩
theorem plan_fail {a b u kind n c : Int} (h : (planOf a b u kind n c).2.2 ≠ 0) : (planOf a b u kind n c).1 = [] ∧ (planOf a b u kind n c).2.1 = 0 := by
  unfold planOf at h ⊢
  split
  · exact ⟨rfl, rfl⟩
  · rename_i hb; rw [if_neg hb] at h
    split
    · exact ⟨rfl, rfl⟩
    · rename_i hu; rw [if_neg hu] at h
      split
      · exact ⟨rfl, rfl⟩
      · rename_i hf; rw [if_neg hf] at h; exact absurd rfl h
/-- One object at a place where it may begin. -/
theorem plan_one {a b u kind n : Int} (hb : (bitsOf kind n).2 = 0) (hu : Use a b u) (hal : (a + u) % pw (bitsOf kind n).1 = 0) (hf : u + pw (bitsOf kind n).1 ≤ pw b) :
    planOf a b u kind n 1 = ([⟨a + u, (bitsOf kind n).1⟩], u + pw (bitsOf kind n).1, 0) := by
  unfold planOf
  rw [if_neg (fun h => h hb), if_neg (fun h => h.elim (fun h => h hu) (by omega)), up_self hal, if_neg (by omega)]
  have e1 : objs (a + u) (bitsOf kind n).1 (1 : Int).toNat = [⟨a + u, (bitsOf kind n).1⟩] := by
    show objs (a + u) (bitsOf kind n).1 1 = _
    simp [objs, obj, List.range_succ]
  rw [e1, show a + u + 1 * pw (bitsOf kind n).1 - a = u + pw (bitsOf kind n).1 by omega]
theorem plan_first {a b u kind n : Int} (hb : (bitsOf kind n).2 = 0) (hu : Use a b u) (hf : up (a + u) (bitsOf kind n).1 - a + pw (bitsOf kind n).1 ≤ pw b) :
    planOf a b u kind n 1 = ([⟨up (a + u) (bitsOf kind n).1, (bitsOf kind n).1⟩], up (a + u) (bitsOf kind n).1 - a + pw (bitsOf kind n).1, 0) := by
  unfold planOf
  rw [if_neg (fun h => h hb), if_neg (fun h => h.elim (fun h => h hu) (by omega)), if_neg (by omega)]
  have e1 : objs (up (a + u) (bitsOf kind n).1) (bitsOf kind n).1 (1 : Int).toNat = [⟨up (a + u) (bitsOf kind n).1, (bitsOf kind n).1⟩] := by
    show objs (up (a + u) (bitsOf kind n).1) (bitsOf kind n).1 1 = _
    simp [objs, obj, List.range_succ]
  rw [e1, show up (a + u) (bitsOf kind n).1 + 1 * pw (bitsOf kind n).1 - a = up (a + u) (bitsOf kind n).1 - a + pw (bitsOf kind n).1 by omega]

/-- The loop at its j-th object. -/
theorem fills_loop {n k : Nat} (hn : n ≤ 8) (hk : k ≤ n) : ∀ (d j r : Nat), 2 ^ (n - k) - j = d → j ≤ 2 ^ (n - k) → 200 + d < r →
    donjonlaw06_UntypedFills.l0 r n k (j * pw k) j j 512 n = some true := by
  have hpow : pw (n : Int) = ((2 ^ (n - k) : Nat) : Int) * pw k := by
    have e : (n : Int) = ((n - k : Nat) : Int) + (k : Int) := by omega
    rw [e, pw_add (by omega) (by omega)]
    congr 1
  have h256 : 2 ^ (n - k) ≤ 2 ^ 8 := Nat.pow_le_pow_right (by decide) (by omega)
  have hr : Rt 512 n := ⟨by omega, by omega, by omega, by have := pw_le (b := (n : Int)) (by omega); have h8 := pw_mono (b := (n : Int)) (d := 8) (by omega) (by omega); have : pw 8 = 256 := rfl; omega, pw_dvd (d := 9) (by omega) (by omega) (by rfl)⟩
  have hp := pw_pos (k : Int)
  have hbit : bitsOf 1 (k : Int) = ((k : Int), 0) := by unfold bitsOf; rw [if_pos rfl, if_pos (by omega)]
  intro d
  induction d with
  | zero =>
    intro j r hd hj hr'
    obtain ⟨r, rfl⟩ : ∃ m, r = m + 1 := ⟨r - 1, by omega⟩
    have hje : j = 2 ^ (n - k) := by omega
    have hu : Use 512 n (j * pw k) := ⟨hr, Int.mul_nonneg (by omega) (by omega), by rw [hpow, hje]; omega⟩
    have hal : (512 + (j : Int) * pw k) % pw k = 0 := by rw [Int.add_mul_emod_self_right]; exact pw_dvd (d := 9) (by omega) (by omega) (by rfl)
    have hpl : (planOf 512 n (j * pw k) 1 k 1).2.2 = 7 := by
      unfold planOf
      rw [hbit]
      dsimp only
      rw [if_neg (by decide), if_neg (fun h => h.elim (fun h => h hu) (by omega)), up_self hal, if_pos (by rw [hpow, ← hje]; omega)]
    simp only [donjonlaw06_UntypedFills.l0]
    rw [if_pos (by omega), Plan_eq _ _ _ _ _ _ (by omega), Option.bind_some, hpl, if_neg (by decide), if_neg (by omega), wrap_big (x := (n : Int) - (k : Int)) (by omega) (by omega), if_pos (by omega), shl1 (by omega) (by omega)]
    have e2 : pw ((n : Int) - (k : Int)) = (j : Int) := by
      rw [hje, show (n : Int) - (k : Int) = ((n - k : Nat) : Int) by omega]
      unfold pw
      simp
    rw [e2, if_pos rfl, Left_eq, Option.bind_some, if_pos hu, hpow, ← hje, Int.sub_self]; try rfl
  | succ d ih =>
    intro j r hd hj hr'
    obtain ⟨r, rfl⟩ : ∃ m, r = m + 1 := ⟨r - 1, by omega⟩
    have hlt : j + 1 ≤ 2 ^ (n - k) := by omega
    have hm : ((j + 1 : Nat) : Int) * pw k ≤ ((2 ^ (n - k) : Nat) : Int) * pw k := Int.mul_le_mul_of_nonneg_right (by omega) (by omega)
    have hs : ((j + 1 : Nat) : Int) * pw k = (j : Int) * pw k + pw k := by rw [show (((j + 1 : Nat)) : Int) = (j : Int) + 1 by omega, Int.add_mul, Int.one_mul]
    have hu : Use 512 n (j * pw k) := ⟨hr, Int.mul_nonneg (by omega) (by omega), by rw [hpow]; omega⟩
    have hal : (512 + (j : Int) * pw k) % pw k = 0 := by rw [Int.add_mul_emod_self_right]; exact pw_dvd (d := 9) (by omega) (by omega) (by rfl)
    have hpl := plan_one (a := 512) (b := n) (u := j * pw k) (kind := 1) (n := k) (by rw [hbit]) hu (by rw [hbit]; exact hal) (by rw [hbit]; dsimp only; rw [hpow]; omega)
    rw [hbit] at hpl
    dsimp only at hpl
    simp only [donjonlaw06_UntypedFills.l0]
    rw [if_pos (by omega), Plan_eq _ _ _ _ _ _ (by omega), Option.bind_some, hpl]
    dsimp only
    rw [if_pos (by trivial), wrap_big (x := (j : Int) + 1) (by omega) (by omega), ← hs, show ((j : Int) + 1) = ((j + 1 : Nat) : Int) by omega]
    exact ih (j + 1) r (by omega) (by omega) (by omega)
theorem fills_none {n k : Nat} (hk8 : k ≤ 8) (hk : n < k) (r : Nat) (hr' : 200 < r) : donjonlaw06_UntypedFills.l0 r n k 0 0 0 512 n = some true := by
  obtain ⟨r, rfl⟩ : ∃ m, r = m + 1 := ⟨r - 1, by omega⟩
  have hr : Rt 512 n := ⟨by omega, by omega, by omega, by have h8 := pw_mono (b := (n : Int)) (d := 8) (by omega) (by omega); have : pw 8 = 256 := rfl; omega, pw_dvd (d := 9) (by omega) (by omega) (by rfl)⟩
  have hp := pw_pos (n : Int)
  have hlt := pw_lt (b := (n : Int)) (d := (k : Int)) (by omega) (by omega)
  have hbit : bitsOf 1 (k : Int) = ((k : Int), 0) := by unfold bitsOf; rw [if_pos rfl, if_pos (by omega)]
  have hu : Use 512 n 0 := ⟨hr, by omega, by omega⟩
  have hal : (512 + 0 : Int) % pw k = 0 := pw_dvd (d := 9) (by omega) (by omega) (by rfl)
  have hpl : (planOf 512 n 0 1 k 1).2.2 = 7 := by
    unfold planOf
    rw [hbit]
    dsimp only
    rw [if_neg (by decide), if_neg (fun h => h.elim (fun h => h hu) (by omega)), up_self hal, if_pos (by omega)]
  simp only [donjonlaw06_UntypedFills.l0]
  rw [if_pos (by omega), Plan_eq _ _ _ _ _ _ (by omega), Option.bind_some, hpl, if_neg (by decide), if_pos (by omega)]
  rfl
theorem pureUntypedFills (a b : Int) : donjonlaw06_UntypedFills.f 1000 a b = some true := by
  have ha := wrapu_nonneg a
  have hb := wrapu_nonneg b
  unfold donjonlaw06_UntypedFills.f
  rw [works_at (by omega), Option.bind_some, if_pos rfl, Int.tmod_eq_emod_of_nonneg ha, Int.tmod_eq_emod_of_nonneg hb, wrap_big (x := IntKind.u64.wrap a % 9) (by omega) (by omega), wrap_big (x := IntKind.u64.wrap b % 9) (by omega) (by omega)]
  obtain ⟨n, hn⟩ := Int.eq_ofNat_of_zero_le (show 0 ≤ IntKind.u64.wrap a % 9 by omega)
  obtain ⟨k, hk⟩ := Int.eq_ofNat_of_zero_le (show 0 ≤ IntKind.u64.wrap b % 9 by omega)
  have hn8 : n ≤ 8 := by omega
  have hk8 : k ≤ 8 := by omega
  rw [hn, hk]
  by_cases h : k ≤ n
  · have h256 : 2 ^ (n - k) ≤ 2 ^ 8 := Nat.pow_le_pow_right (by decide) (by omega)
    have := fills_loop hn8 h (2 ^ (n - k)) 0 1000 (Nat.sub_zero _) (Nat.zero_le _) (Nat.lt_of_le_of_lt (Nat.add_le_add_left h256 200) (by decide))
    simpa using this
  · exact fills_none hk8 (by omega) 1000 (by omega)
/-- The call of the law, for the row. -/
theorem callUntypedFills (a b : Int) (w : World) (_ : (Lit.int .i64 a).wf = true) (_ : (Lit.int .i64 b).wf = true) :
    Calls Try.prog 11 #[.int .i64 a, .int .i64 b] w fun e w' => e = .returned (.bool true) ∧ Below w.heap.size w w' :=
  donjonlaw06_UntypedFills.calls 1000 a b true w (pureUntypedFills a b)

end Go.Proofs.Ytkhgipenlgeecaa.PUntypedFills
