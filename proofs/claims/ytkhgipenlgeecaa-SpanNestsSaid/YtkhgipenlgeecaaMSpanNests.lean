/- The plain laws of spans over the printed functions: what is right, ends, lies in what, is apart; no memory and no Go in it. Conditions: none but those each theorem names. -/
import Derived.Test.YtkhgipenlgeecaaPSpanNestsx9
namespace Go.Proofs.Ytkhgipenlgeecaa.PSpanNests
open Go.RowKit Go.Proofs.YtkhgipenlgeecaaW.PrintWords Go.Proofs.YtkhgipenlgeecaaW.PrintLast Go.Proofs.YtkhgipenlgeecaaW.PrintMore
set_option linter.unusedVariables false
set_option linter.unusedSimpArgs false
/-- A power of two. -/
def pw (b : Int) : Int := 2 ^ b.toNat

/-- Right: as the document says. -/
def Rt (a b : Int) : Prop := 0 ≤ b ∧ b ≤ 16 ∧ 0 ≤ a ∧ a + pw b ≤ 65536 ∧ a % pw b = 0
instance (a b : Int) : Decidable (Rt a b) := by unfold Rt; infer_instance

theorem pw_pos (b : Int) : 0 < pw b := by unfold pw; exact Int.pow_pos (by decide)
theorem pw_le {b : Int} (h : b ≤ 16) : pw b ≤ 65536 := by
  unfold pw
  have h1 : b.toNat ≤ 16 := by omega
  have h2 : (2 : Nat) ^ b.toNat ≤ 2 ^ 16 := Nat.pow_le_pow_right (by decide) h1
  have h3 : ((2 ^ b.toNat : Nat) : Int) ≤ ((2 ^ 16 : Nat) : Int) := by exact_mod_cast h2
  have h4 : ((2 ^ b.toNat : Nat) : Int) = (2 : Int) ^ b.toNat := by simp
  rw [h4] at h3
  exact h3
theorem pw_add {b c : Int} (hb : 0 ≤ b) (hc : 0 ≤ c) : pw (b + c) = pw b * pw c := by
  unfold pw
  rw [Int.toNat_add hb hc, Int.pow_add]
theorem shl1 {b : Int} (h0 : 0 ≤ b) (h : b ≤ 16) : shl .i64 1 b = pw b := by
  have h1 := pw_le h
  have h2 := pw_pos b
  unfold shl
  rw [Int.one_mul, show min b.toNat IntKind.i64.bits = b.toNat from Nat.min_eq_left (by show b.toNat ≤ 64; omega)]
  show IntKind.i64.wrap (pw b) = pw b
  rw [i64_w]
  unfold wrap64
  omega
theorem shr_of {x b : Int} (h0 : 0 ≤ b) (h : b ≤ 16) : shr .i64 x b = x / pw b := by
  unfold shr
  rw [show min b.toNat IntKind.i64.bits = b.toNat from Nat.min_eq_left (by show b.toNat ≤ 64; omega)]
  rfl
theorem and_pw {a b : Int} (h0 : 0 ≤ b) (h : b ≤ 16) (ha : 0 ≤ a) (ha' : a < 131072) : Go.bits .and .i64 a (pw b - 1) = a % pw b := by
  unfold pw
  exact bits_mask .i64 17 (by decide) (fun n h0 h1 => by rw [i64_w]; unfold wrap64; omega) b.toNat (by omega) a ha (by omega)
theorem wrap_small {x : Int} (h0 : -1000000 ≤ x) (h1 : x ≤ 1000000) : wrap64 x = x := by unfold wrap64; omega

theorem inRange_eq (a b : Int) : span_inRange.f a b = some (decide (0 ≤ b ∧ b ≤ 16 ∧ 0 ≤ a ∧ a + pw b ≤ 65536)) := by
  unfold span_inRange.f
  by_cases h1 : b ≥ 0
  · rw [if_pos h1]
    by_cases h2 : b ≤ 16
    · rw [if_pos h2]
      have hp := pw_pos b
      have hl := pw_le h2
      by_cases h3 : a ≥ 0
      · rw [if_pos h3, if_pos h1, shl1 h1 h2, wrap_small (by omega) (by omega)]
        congr 1
        rw [decide_eq_decide]
        omega
      · rw [if_neg h3]
        congr 1
        symm
        rw [decide_eq_false_iff_not]
        omega
    · rw [if_neg h2]
      congr 1
      symm
      rw [decide_eq_false_iff_not]
      omega
  · rw [if_neg h1]
    congr 1
    symm
    rw [decide_eq_false_iff_not]
    omega
theorem right_eq (a b : Int) : span_right.f a b = some (decide (Rt a b)) := by
  unfold span_right.f
  rw [inRange_eq, Option.bind_some]
  by_cases h : 0 ≤ b ∧ b ≤ 16 ∧ 0 ≤ a ∧ a + pw b ≤ 65536
  · obtain ⟨h1, h2, h3, h4⟩ := h
    have hp := pw_pos b
    have hl := pw_le h2
    rw [if_pos (decide_eq_true ⟨h1, h2, h3, h4⟩), if_pos h1, shl1 h1 h2, wrap_small (by omega) (by omega), and_pw h1 h2 h3 (by omega)]
    congr 1
    by_cases h5 : a % pw b = 0
    · rw [decide_eq_true (show Rt a b from ⟨h1, h2, h3, h4, h5⟩)]; exact beq_iff_eq.2 h5
    · rw [decide_eq_false (fun h : Rt a b => h5 h.2.2.2.2)]; exact beq_eq_false_iff_ne.2 h5
  · rw [if_neg (by simpa using h)]
    congr 1
    symm
    rw [decide_eq_false_iff_not]
    exact fun hr => h ⟨hr.1, hr.2.1, hr.2.2.1, hr.2.2.2.1⟩
theorem end_eq {a b : Int} (h0 : 0 ≤ b) (h : b ≤ 16) (ha : 0 ≤ a) (ha' : a ≤ 900000) : span_end.f a b = some (a + pw b) := by
  unfold span_end.f
  have hp := pw_pos b
  have hl := pw_le h
  rw [if_pos h0, shl1 h0 h, wrap_small (by omega) (by omega)]
theorem Check_eq (a b n : Int) : span_Check.f a b n = some (if 0 ≤ b ∧ b ≤ 16 ∧ 0 ≤ a ∧ a + pw b ≤ 65536 then (if a % pw b = 0 then (if a + pw b > n then 7 else 0) else 9) else 1) := by
  unfold span_Check.f
  rw [inRange_eq, Option.bind_some, right_eq, Option.bind_some]
  by_cases h : 0 ≤ b ∧ b ≤ 16 ∧ 0 ≤ a ∧ a + pw b ≤ 65536
  · rw [if_pos (decide_eq_true h), if_pos h]
    obtain ⟨h1, h2, h3, h4⟩ := h
    have hp := pw_pos b
    by_cases h5 : a % pw b = 0
    · rw [if_pos (decide_eq_true ⟨h1, h2, h3, h4, h5⟩), if_pos h5, end_eq h1 h2 h3 (by omega), Option.bind_some]
      split <;> rfl
    · rw [if_neg (by intro hh; exact h5 (of_decide_eq_true hh).2.2.2.2), if_neg h5]
  · rw [if_neg (by simpa using h), if_neg h]
theorem Check_zero {a b n : Int} (h : Rt a b) (hn : a + pw b ≤ n) : span_Check.f a b n = some 0 := by
  rw [Check_eq, if_pos ⟨h.1, h.2.1, h.2.2.1, h.2.2.2.1⟩, if_pos h.2.2.2.2, if_neg (by omega)]

/-- What lies in what. -/
def Ins (a b c d : Int) : Prop := Rt a b ∧ Rt c d ∧ c ≤ a ∧ a + pw b ≤ c + pw d
instance (a b c d : Int) : Decidable (Ins a b c d) := by unfold Ins; infer_instance
/-- What is apart. -/
def Apt (a b c d : Int) : Prop := Rt a b ∧ Rt c d ∧ (a + pw b ≤ c ∨ c + pw d ≤ a)
instance (a b c d : Int) : Decidable (Apt a b c d) := by unfold Apt; infer_instance

/-- A multiple below another one is a whole step below. -/
theorem step_up {p x y : Int} (hp : 0 < p) (hx : x % p = 0) (hy : y % p = 0) (h : x < y) : x + p ≤ y := by
  obtain ⟨i, rfl⟩ := Int.dvd_of_emod_eq_zero hx
  obtain ⟨j, rfl⟩ := Int.dvd_of_emod_eq_zero hy
  have hij : i < j := Int.lt_of_mul_lt_mul_left h (Int.le_of_lt hp)
  have : p * (i + 1) ≤ p * j := Int.mul_le_mul_of_nonneg_left (by omega) (Int.le_of_lt hp)
  rw [Int.mul_add, Int.mul_one] at this
  exact this
theorem pw_dvd {b d : Int} (h0 : 0 ≤ b) (h : b ≤ d) {x : Int} (hx : x % pw d = 0) : x % pw b = 0 := by
  have hd : pw d = pw b * pw (d - b) := by rw [← pw_add h0 (by omega)]; congr 1; omega
  rw [hd] at hx
  obtain ⟨i, rfl⟩ := Int.dvd_of_emod_eq_zero hx
  rw [Int.mul_assoc]
  exact Int.mul_emod_right _ _
theorem pw_mono {b d : Int} (h0 : 0 ≤ b) (h : b ≤ d) : pw b ≤ pw d := by
  have hd : pw d = pw b * pw (d - b) := by rw [← pw_add h0 (by omega)]; congr 1; omega
  have h1 := pw_pos (d - b)
  have h2 := pw_pos b
  rw [hd]
  have : pw b * 1 ≤ pw b * pw (d - b) := Int.mul_le_mul_of_nonneg_left (by omega) (Int.le_of_lt h2)
  omega
theorem pw_lt {b d : Int} (h0 : 0 ≤ b) (h : b < d) : 2 * pw b ≤ pw d := by
  have hd : pw d = pw b * pw (d - b) := by rw [← pw_add h0 (by omega)]; congr 1; omega
  have h2 := pw_pos b
  have h1 : pw (d - b) = pw (d - b - 1) * pw 1 := by rw [← pw_add (by omega) (by omega)]; congr 1; omega
  have h3 := pw_pos (d - b - 1)
  have h4 : pw 1 = 2 := rfl
  rw [hd, h1, h4]
  have : pw b * 2 ≤ pw b * (pw (d - b - 1) * 2) := Int.mul_le_mul_of_nonneg_left (by omega) (Int.le_of_lt h2)
  omega
/-- The quotient's meaning. -/
theorem quot_iff {x q p : Int} (hp : 0 < p) (hq : q % p = 0) : x / p = q / p ↔ q ≤ x ∧ x < q + p := by
  obtain ⟨j, rfl⟩ := Int.dvd_of_emod_eq_zero hq
  rw [Int.mul_ediv_cancel_left _ (by omega : p ≠ 0)]
  have h1 := Int.emod_nonneg x (by omega : p ≠ 0)
  have h2 := Int.emod_lt_of_pos x hp
  have h3 := Int.mul_ediv_add_emod x p
  constructor
  · rintro rfl; omega
  · rintro ⟨h4, h5⟩
    have a1 : p * j < p * (x / p + 1) := by rw [Int.mul_add, Int.mul_one]; omega
    have a2 : p * (x / p) < p * (j + 1) := by rw [Int.mul_add, Int.mul_one]; omega
    have b1 := Int.lt_of_mul_lt_mul_left a1 (Int.le_of_lt hp)
    have b2 := Int.lt_of_mul_lt_mul_left a2 (Int.le_of_lt hp)
    omega
theorem ins_iff {a b c d : Int} (hs : Rt a b) (ht : Rt c d) : (b ≤ d ∧ a / pw d = c / pw d) ↔ Ins a b c d := by
  obtain ⟨s1, s2, s3, s4, s5⟩ := hs
  obtain ⟨t1, t2, t3, t4, t5⟩ := ht
  have hp := pw_pos b
  have hq := pw_pos d
  unfold Ins
  rw [quot_iff hq t5]
  constructor
  · rintro ⟨h1, h2, h3⟩
    refine ⟨⟨s1, s2, s3, s4, s5⟩, ⟨t1, t2, t3, t4, t5⟩, h2, ?_⟩
    have e1 : (c + pw d) % pw b = 0 := pw_dvd s1 h1 (by rw [Int.add_emod_right]; exact t5)
    exact step_up hp s5 e1 h3
  · rintro ⟨_, _, h1, h2⟩
    refine ⟨?_, h1, by omega⟩
    by_cases h : b ≤ d
    · exact h
    · have := pw_lt t1 (show d < b by omega)
      omega
theorem In_eq (a b c d : Int) : span_In.f a b c d = some (decide (Ins a b c d)) := by
  unfold span_In.f
  rw [right_eq, Option.bind_some, right_eq, Option.bind_some]
  by_cases hs : Rt a b
  · rw [if_pos (decide_eq_true hs)]
    by_cases ht : Rt c d
    · rw [if_pos (decide_eq_true ht)]
      have hi := ins_iff hs ht
      by_cases h : b ≤ d
      · rw [if_pos h, if_pos ht.1, shr_of ht.1 ht.2.1, shr_of ht.1 ht.2.1]
        congr 1
        by_cases hq : a / pw d = c / pw d
        · rw [decide_eq_true (hi.1 ⟨h, hq⟩)]; exact beq_iff_eq.2 hq
        · rw [decide_eq_false (fun hh => hq (hi.2 hh).2)]; exact beq_eq_false_iff_ne.2 hq
      · rw [if_neg h, decide_eq_false (fun hh => h (hi.2 hh).1)]
    · rw [if_neg (by simpa using ht), decide_eq_false (fun hh => ht hh.2.1)]
  · rw [if_neg (by simpa using hs), decide_eq_false (fun hh => hs hh.1)]
/-- Of two right spans the one lies in the other, or they are apart. -/
theorem nest {a b c d : Int} (hs : Rt a b) (ht : Rt c d) : Ins a b c d ∨ Ins c d a b ∨ a + pw b ≤ c ∨ c + pw d ≤ a := by
  have key : ∀ {a b c d : Int}, Rt a b → Rt c d → b ≤ d → Ins a b c d ∨ a + pw b ≤ c ∨ c + pw d ≤ a := by
    intro a b c d hs ht h
    have hp := pw_pos b
    by_cases h1 : a < c
    · exact .inr (.inl (step_up hp hs.2.2.2.2 (pw_dvd hs.1 h ht.2.2.2.2) h1))
    · by_cases h2 : a < c + pw d
      · refine .inl ⟨hs, ht, by omega, ?_⟩
        have e1 : (c + pw d) % pw b = 0 := pw_dvd hs.1 h (by rw [Int.add_emod_right]; exact ht.2.2.2.2)
        exact step_up hp hs.2.2.2.2 e1 h2
      · exact .inr (.inr (by omega))
  by_cases h : b ≤ d
  · rcases key hs ht h with h | h | h
    · exact .inl h
    · exact .inr (.inr (.inl h))
    · exact .inr (.inr (.inr h))
  · rcases key ht hs (by omega) with h | h | h
    · exact .inr (.inl h)
    · exact .inr (.inr (.inr h))
    · exact .inr (.inr (.inl h))
theorem apt_iff {a b c d : Int} : Apt a b c d ↔ Rt a b ∧ Rt c d ∧ ¬ Ins a b c d ∧ ¬ Ins c d a b := by
  have hp := pw_pos b
  have hq := pw_pos d
  unfold Apt
  constructor
  · rintro ⟨h1, h2, h3⟩
    refine ⟨h1, h2, fun h => ?_, fun h => ?_⟩
    · have := h.2.2.1; have := h.2.2.2; omega
    · have := h.2.2.1; have := h.2.2.2; omega
  · rintro ⟨h1, h2, h3, h4⟩
    refine ⟨h1, h2, ?_⟩
    rcases nest h1 h2 with h | h | h | h
    · exact absurd h h3
    · exact absurd h h4
    · exact .inl h
    · exact .inr h
theorem Apart_eq (a b c d : Int) : span_Apart.f a b c d = some (decide (Apt a b c d)) := by
  unfold span_Apart.f
  rw [right_eq, Option.bind_some, right_eq, Option.bind_some, In_eq, Option.bind_some, In_eq, Option.bind_some]
  have hi := @apt_iff a b c d
  by_cases hs : Rt a b <;> by_cases ht : Rt c d <;> by_cases h1 : Ins a b c d <;> by_cases h2 : Ins c d a b <;> by_cases h3 : Apt a b c d <;> simp_all

theorem Has_eq (a b x : Int) : span_Has.f a b x = some (decide (Rt a b ∧ a ≤ x ∧ x < a + pw b)) := by
  unfold span_Has.f
  rw [right_eq, Option.bind_some]
  by_cases hs : Rt a b
  · rw [if_pos (decide_eq_true hs), if_pos hs.1, shr_of hs.1 hs.2.1, shr_of hs.1 hs.2.1]
    congr 1
    have hi := quot_iff (x := x) (pw_pos b) hs.2.2.2.2
    by_cases hq : x / pw b = a / pw b
    · rw [decide_eq_true ⟨hs, hi.1 hq⟩]; exact beq_iff_eq.2 hq
    · rw [decide_eq_false (fun hh => hq (hi.2 hh.2))]; exact beq_eq_false_iff_ne.2 hq
  · rw [if_neg (by simpa using hs), decide_eq_false (fun hh => hs hh.1)]
theorem Halves_eq (a b : Int) : span_Halves.f a b = some (if Rt a b ∧ b ≠ 0 then (a, b - 1, a + pw (b - 1), b - 1, 0) else (0, 0, 0, 0, 1)) := by
  unfold span_Halves.f
  rw [right_eq, Option.bind_some]
  by_cases hs : Rt a b
  · rw [if_pos (decide_eq_true hs)]
    by_cases h : b = 0
    · rw [if_pos h, if_neg (by simp [h])]
    · obtain ⟨s1, s2, s3, s4, s5⟩ := hs
      have hp := pw_pos b
      rw [if_neg h, if_pos ⟨⟨s1, s2, s3, s4, s5⟩, h⟩, wrap_small (by omega) (by omega), end_eq (by omega) (by omega) s3 (by omega), Option.bind_some]
  · rw [if_neg (by simpa using hs), if_neg (fun h => hs h.1)]
/-- Halves are right. -/
theorem pw_half {b : Int} (h : 1 ≤ b) : pw b = pw (b - 1) + pw (b - 1) := by
  have h1 : pw b = pw (b - 1) * pw 1 := by rw [← pw_add (by omega) (by omega)]; congr 1; omega
  have h4 : pw 1 = 2 := rfl
  rw [h4] at h1
  omega
theorem half_right {a b : Int} (h : Rt a b) (h1 : b ≠ 0) : Rt a (b - 1) ∧ Rt (a + pw (b - 1)) (b - 1) := by
  obtain ⟨s1, s2, s3, s4, s5⟩ := h
  have hb := pw_half (b := b) (by omega)
  have hp := pw_pos (b - 1)
  have hd := pw_dvd (b := b - 1) (d := b) (by omega) (by omega) s5
  exact ⟨⟨by omega, by omega, s3, by omega, hd⟩, ⟨by omega, by omega, by omega, by omega, by rw [Int.add_emod_right]; exact hd⟩⟩

theorem ranges_eq (a b : Int) : donjonref03_ranges.f a b = some (decide (0 ≤ b ∧ b ≤ 16 ∧ 0 ≤ a ∧ a + pw b ≤ 65536)) := inRange_eq a b
theorem Right_eq (a b : Int) : donjonref03_Right.f a b = some (decide (Rt a b)) := by
  unfold donjonref03_Right.f
  rw [ranges_eq, Option.bind_some]
  by_cases h : 0 ≤ b ∧ b ≤ 16 ∧ 0 ≤ a ∧ a + pw b ≤ 65536
  · obtain ⟨h1, h2, h3, h4⟩ := h
    have hp := pw_pos b
    have hl := pw_le h2
    rw [if_pos (decide_eq_true ⟨h1, h2, h3, h4⟩), if_pos h1, shl1 h1 h2, if_neg (by omega), Int.tmod_eq_emod_of_nonneg h3]
    congr 1
    by_cases h5 : a % pw b = 0
    · rw [decide_eq_true (show Rt a b from ⟨h1, h2, h3, h4, h5⟩)]; exact beq_iff_eq.2 h5
    · rw [decide_eq_false (fun h : Rt a b => h5 h.2.2.2.2)]; exact beq_eq_false_iff_ne.2 h5
  · rw [if_neg (by simpa using h)]
    congr 1
    symm
    rw [decide_eq_false_iff_not]
    exact fun hr => h ⟨hr.1, hr.2.1, hr.2.2.1, hr.2.2.2.1⟩

theorem works_ok : donjonlaw03_works.f 300 = some true := by kernel_rfl
theorem works_at {k : Nat} (hk : 300 ≤ k) : donjonlaw03_works.f k = some true := at_rounds donjonlaw03_works.mono hk works_ok

theorem nests_j1 (k : Nat) {a b c d : Int} (hs : Rt a b) (ht : Rt c d) (x : Bool) (hx : x = decide (Ins a b c d ∨ Ins c d a b)) : donjonlaw03_SpanNests.j1 (k + 1) x a b c d = some true := by
  simp only [donjonlaw03_SpanNests.j1]
  have hp := pw_pos b
  have hq := pw_pos d
  have hi := @apt_iff a b c d
  have hj := @apt_iff c d a b
  have hself : Ins a b a b := ⟨hs, hs, by omega, by omega⟩
  have hboth : Ins a b c d → Ins c d a b → a = c ∧ b = d := by
    intro h1 h2
    have e1 := h1.2.2; have e2 := h2.2.2
    refine ⟨by omega, ?_⟩
    by_cases h3 : b < d
    · have := pw_lt hs.1 h3; omega
    · by_cases h4 : d < b
      · have := pw_lt ht.1 h4; omega
      · omega
  simp only [Apart_eq, In_eq, Option.bind_some]
  subst hx
  by_cases h1 : Ins a b c d <;> by_cases h2 : Ins c d a b <;> by_cases h3 : Apt a b c d <;> by_cases h4 : Apt c d a b <;> simp_all
theorem pureSpanNests (a b c d : Int) : donjonlaw03_SpanNests.f 302 a b c d = some true := by
  unfold donjonlaw03_SpanNests.f
  rw [works_at (by omega), Option.bind_some, if_pos rfl, Right_eq, Option.bind_some, Right_eq, Option.bind_some]
  by_cases hs : Rt a b
  · rw [if_pos (decide_eq_true hs)]
    by_cases ht : Rt c d
    · simp only [donjonlaw03_SpanNests.j0, ht, In_eq, Option.bind_some, decide_true, Bool.not_true]
      rw [if_neg (by decide)]
      by_cases h1 : Ins a b c d
      · rw [if_pos (decide_eq_true h1)]
        exact nests_j1 300 hs ht _ (by simp [h1])
      · rw [if_neg (by simpa using h1)]
        exact nests_j1 300 hs ht _ (by simp [h1])
    · have h1 : ¬ Ins a b c d := fun h => ht h.2.1
      have h2 : ¬ Apt a b c d := fun h => ht h.2.1
      simp [donjonlaw03_SpanNests.j0, ht, In_eq, Apart_eq, h1, h2]
  · rw [if_neg (by simpa using hs)]
    have h1 : ¬ Ins a b c d := fun h => hs h.1
    have h2 : ¬ Apt a b c d := fun h => hs h.1
    simp [donjonlaw03_SpanNests.j0, In_eq, Apart_eq, h1, h2]
/-- The call of the law, for the row. -/
theorem callSpanNests (a0 a1 b0 b1 : Int) (w : World) (_ : (Lit.int .i64 a0).wf = true) (_ : (Lit.int .i64 a1).wf = true) (_ : (Lit.int .i64 b0).wf = true) (_ : (Lit.int .i64 b1).wf = true) :
    Calls Try.prog 5 #[.agg #[.int .i64 a0, .int .i64 a1], .agg #[.int .i64 b0, .int .i64 b1]] w fun e w' => e = .returned (.bool true) ∧ Below w.heap.size w w' :=
  donjonlaw03_SpanNests.calls 302 a0 a1 b0 b1 true w (pureSpanNests a0 a1 b0 b1)

end Go.Proofs.Ytkhgipenlgeecaa.PSpanNests
