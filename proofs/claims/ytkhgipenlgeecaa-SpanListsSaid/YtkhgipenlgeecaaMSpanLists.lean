/- The plain laws of spans over the printed functions: what is right, ends, lies in what, is apart; no memory and no Go in it. Conditions: none but those each theorem names. -/
import Derived.Test.YtkhgipenlgeecaaPSpanListsx7
namespace Go.Proofs.Ytkhgipenlgeecaa.PSpanLists
open Go.RowKit Go.Proofs.YtkhgipenlgeecaaW.PrintWords Go.Proofs.YtkhgipenlgeecaaW.PrintLast Go.Proofs.YtkhgipenlgeecaaW.PrintMore
set_option linter.unusedVariables false
set_option linter.unusedSimpArgs false
/-- A power of two. -/
def pw (b : Int) : Int := 2 ^ b.toNat

/-- Right: as the document says. -/
def Rt (a b : Int) : Prop := 0 ≤ b ∧ b ≤ 16 ∧ 0 ≤ a ∧ a + pw b ≤ 65536 ∧ a % pw b = 0
instance (a b : Int) : Decidable (Rt a b) := by unfold Rt; infer_instance

theorem pw_pos (b : Int) : 0 < pw b := by unfold pw; exact Int.pow_pos (by decide)
theorem pw_le {b : Int} (h : b ≤ 16) : pw b ≤ 65536 := by
  unfold pw
  have h1 : b.toNat ≤ 16 := by omega
  have h2 : (2 : Nat) ^ b.toNat ≤ 2 ^ 16 := Nat.pow_le_pow_right (by decide) h1
  have h3 : ((2 ^ b.toNat : Nat) : Int) ≤ ((2 ^ 16 : Nat) : Int) := by exact_mod_cast h2
  have h4 : ((2 ^ b.toNat : Nat) : Int) = (2 : Int) ^ b.toNat := by simp
  rw [h4] at h3
  exact h3
theorem pw_add {b c : Int} (hb : 0 ≤ b) (hc : 0 ≤ c) : pw (b + c) = pw b * pw c := by
  unfold pw
  rw [Int.toNat_add hb hc, Int.pow_add]
theorem shl1 {b : Int} (h0 : 0 ≤ b) (h : b ≤ 16) : shl .i64 1 b = pw b := by
  have h1 := pw_le h
  have h2 := pw_pos b
  unfold shl
  rw [Int.one_mul, show min b.toNat IntKind.i64.bits = b.toNat from Nat.min_eq_left (by show b.toNat ≤ 64; omega)]
  show IntKind.i64.wrap (pw b) = pw b
  rw [i64_w]
  unfold wrap64
  omega
theorem shr_of {x b : Int} (h0 : 0 ≤ b) (h : b ≤ 16) : shr .i64 x b = x / pw b := by
  unfold shr
  rw [show min b.toNat IntKind.i64.bits = b.toNat from Nat.min_eq_left (by show b.toNat ≤ 64; omega)]
  rfl
theorem and_pw {a b : Int} (h0 : 0 ≤ b) (h : b ≤ 16) (ha : 0 ≤ a) (ha' : a < 131072) : Go.bits .and .i64 a (pw b - 1) = a % pw b := by
  unfold pw
  exact bits_mask .i64 17 (by decide) (fun n h0 h1 => by rw [i64_w]; unfold wrap64; omega) b.toNat (by omega) a ha (by omega)
theorem wrap_small {x : Int} (h0 : -1000000 ≤ x) (h1 : x ≤ 1000000) : wrap64 x = x := by unfold wrap64; omega

theorem inRange_eq (a b : Int) : span_inRange.f a b = some (decide (0 ≤ b ∧ b ≤ 16 ∧ 0 ≤ a ∧ a + pw b ≤ 65536)) := by
  unfold span_inRange.f
  by_cases h1 : b ≥ 0
  · rw [if_pos h1]
    by_cases h2 : b ≤ 16
    · rw [if_pos h2]
      have hp := pw_pos b
      have hl := pw_le h2
      by_cases h3 : a ≥ 0
      · rw [if_pos h3, if_pos h1, shl1 h1 h2, wrap_small (by omega) (by omega)]
        congr 1
        rw [decide_eq_decide]
        omega
      · rw [if_neg h3]
        congr 1
        symm
        rw [decide_eq_false_iff_not]
        omega
    · rw [if_neg h2]
      congr 1
      symm
      rw [decide_eq_false_iff_not]
      omega
  · rw [if_neg h1]
    congr 1
    symm
    rw [decide_eq_false_iff_not]
    omega
theorem right_eq (a b : Int) : span_right.f a b = some (decide (Rt a b)) := by
  unfold span_right.f
  rw [inRange_eq, Option.bind_some]
  by_cases h : 0 ≤ b ∧ b ≤ 16 ∧ 0 ≤ a ∧ a + pw b ≤ 65536
  · obtain ⟨h1, h2, h3, h4⟩ := h
    have hp := pw_pos b
    have hl := pw_le h2
    rw [if_pos (decide_eq_true ⟨h1, h2, h3, h4⟩), if_pos h1, shl1 h1 h2, wrap_small (by omega) (by omega), and_pw h1 h2 h3 (by omega)]
    congr 1
    by_cases h5 : a % pw b = 0
    · rw [decide_eq_true (show Rt a b from ⟨h1, h2, h3, h4, h5⟩)]; exact beq_iff_eq.2 h5
    · rw [decide_eq_false (fun h : Rt a b => h5 h.2.2.2.2)]; exact beq_eq_false_iff_ne.2 h5
  · rw [if_neg (by simpa using h)]
    congr 1
    symm
    rw [decide_eq_false_iff_not]
    exact fun hr => h ⟨hr.1, hr.2.1, hr.2.2.1, hr.2.2.2.1⟩
theorem end_eq {a b : Int} (h0 : 0 ≤ b) (h : b ≤ 16) (ha : 0 ≤ a) (ha' : a ≤ 900000) : span_end.f a b = some (a + pw b) := by
  unfold span_end.f
  have hp := pw_pos b
  have hl := pw_le h
  rw [if_pos h0, shl1 h0 h, wrap_small (by omega) (by omega)]
/-- What lies in what. -/
def Ins (a b c d : Int) : Prop := Rt a b ∧ Rt c d ∧ c ≤ a ∧ a + pw b ≤ c + pw d
instance (a b c d : Int) : Decidable (Ins a b c d) := by unfold Ins; infer_instance
/-- What is apart. -/
def Apt (a b c d : Int) : Prop := Rt a b ∧ Rt c d ∧ (a + pw b ≤ c ∨ c + pw d ≤ a)
instance (a b c d : Int) : Decidable (Apt a b c d) := by unfold Apt; infer_instance

/-- A multiple below another one is a whole step below. -/
theorem step_up {p x y : Int} (hp : 0 < p) (hx : x % p = 0) (hy : y % p = 0) (h : x < y) : x + p ≤ y := by
  obtain ⟨i, rfl⟩ := Int.dvd_of_emod_eq_zero hx
  obtain ⟨j, rfl⟩ := Int.dvd_of_emod_eq_zero hy
  have hij : i < j := Int.lt_of_mul_lt_mul_left h (Int.le_of_lt hp)
  have : p * (i + 1) ≤ p * j := Int.mul_le_mul_of_nonneg_left (by omega) (Int.le_of_lt hp)
  rw [Int.mul_add, Int.mul_one] at this
  exact this
theorem pw_dvd {b d : Int} (h0 : 0 ≤ b) (h : b ≤ d) {x : Int} (hx : x % pw d = 0) : x % pw b = 0 := by
  have hd : pw d = pw b * pw (d - b) := by rw [← pw_add h0 (by omega)]; congr 1; omega
  rw [hd] at hx
  obtain ⟨i, rfl⟩ := Int.dvd_of_emod_eq_zero hx
  rw [Int.mul_assoc]
  exact Int.mul_emod_right _ _
theorem pw_mono {b d : Int} (h0 : 0 ≤ b) (h : b ≤ d) : pw b ≤ pw d := by
  have hd : pw d = pw b * pw (d - b) := by rw [← pw_add h0 (by omega)]; congr 1; omega
  have h1 := pw_pos (d - b)
  have h2 := pw_pos b
  rw [hd]
  have : pw b * 1 ≤ pw b * pw (d - b) := Int.mul_le_mul_of_nonneg_left (by omega) (Int.le_of_lt h2)
  omega
theorem pw_lt {b d : Int} (h0 : 0 ≤ b) (h : b < d) : 2 * pw b ≤ pw d := by
  have hd : pw d = pw b * pw (d - b) := by rw [← pw_add h0 (by omega)]; congr 1; omega
  have h2 := pw_pos b
  have h1 : pw (d - b) = pw (d - b - 1) * pw 1 := by rw [← pw_add (by omega) (by omega)]; congr 1; omega
  have h3 := pw_pos (d - b - 1)
  have h4 : pw 1 = 2 := rfl
  rw [hd, h1, h4]
  have : pw b * 2 ≤ pw b * (pw (d - b - 1) * 2) := Int.mul_le_mul_of_nonneg_left (by omega) (Int.le_of_lt h2)
  omega
/-- The quotient's meaning. -/
theorem quot_iff {x q p : Int} (hp : 0 < p) (hq : q % p = 0) : x / p = q / p ↔ q ≤ x ∧ x < q + p := by
  obtain ⟨j, rfl⟩ := Int.dvd_of_emod_eq_zero hq
  rw [Int.mul_ediv_cancel_left _ (by omega : p ≠ 0)]
  have h1 := Int.emod_nonneg x (by omega : p ≠ 0)
  have h2 := Int.emod_lt_of_pos x hp
  have h3 := Int.mul_ediv_add_emod x p
  constructor
  · rintro rfl; omega
  · rintro ⟨h4, h5⟩
    have a1 : p * j < p * (x / p + 1) := by rw [Int.mul_add, Int.mul_one]; omega
    have a2 : p * (x / p) < p * (j + 1) := by rw [Int.mul_add, Int.mul_one]; omega
    have b1 := Int.lt_of_mul_lt_mul_left a1 (Int.le_of_lt hp)
    have b2 := Int.lt_of_mul_lt_mul_left a2 (Int.le_of_lt hp)
    omega
theorem ins_iff {a b c d : Int} (hs : Rt a b) (ht : Rt c d) : (b ≤ d ∧ a / pw d = c / pw d) ↔ Ins a b c d := by
  obtain ⟨s1, s2, s3, s4, s5⟩ := hs
  obtain ⟨t1, t2, t3, t4, t5⟩ := ht
  have hp := pw_pos b
  have hq := pw_pos d
  unfold Ins
  rw [quot_iff hq t5]
  constructor
  · rintro ⟨h1, h2, h3⟩
    refine ⟨⟨s1, s2, s3, s4, s5⟩, ⟨t1, t2, t3, t4, t5⟩, h2, ?_⟩
    have e1 : (c + pw d) % pw b = 0 := pw_dvd s1 h1 (by rw [Int.add_emod_right]; exact t5)
    exact step_up hp s5 e1 h3
  · rintro ⟨_, _, h1, h2⟩
    refine ⟨?_, h1, by omega⟩
    by_cases h : b ≤ d
    · exact h
    · have := pw_lt t1 (show d < b by omega)
      omega
theorem In_eq (a b c d : Int) : span_In.f a b c d = some (decide (Ins a b c d)) := by
  unfold span_In.f
  rw [right_eq, Option.bind_some, right_eq, Option.bind_some]
  by_cases hs : Rt a b
  · rw [if_pos (decide_eq_true hs)]
    by_cases ht : Rt c d
    · rw [if_pos (decide_eq_true ht)]
      have hi := ins_iff hs ht
      by_cases h : b ≤ d
      · rw [if_pos h, if_pos ht.1, shr_of ht.1 ht.2.1, shr_of ht.1 ht.2.1]
        congr 1
        by_cases hq : a / pw d = c / pw d
        · rw [decide_eq_true (hi.1 ⟨h, hq⟩)]; exact beq_iff_eq.2 hq
        · rw [decide_eq_false (fun hh => hq (hi.2 hh).2)]; exact beq_eq_false_iff_ne.2 hq
      · rw [if_neg h, decide_eq_false (fun hh => h (hi.2 hh).1)]
    · rw [if_neg (by simpa using ht), decide_eq_false (fun hh => ht hh.2.1)]
  · rw [if_neg (by simpa using hs), decide_eq_false (fun hh => hs hh.1)]
/-- Of two right spans the one lies in the other, or they are apart. -/
theorem nest {a b c d : Int} (hs : Rt a b) (ht : Rt c d) : Ins a b c d ∨ Ins c d a b ∨ a + pw b ≤ c ∨ c + pw d ≤ a := by
  have key : ∀ {a b c d : Int}, Rt a b → Rt c d → b ≤ d → Ins a b c d ∨ a + pw b ≤ c ∨ c + pw d ≤ a := by
    intro a b c d hs ht h
    have hp := pw_pos b
    by_cases h1 : a < c
    · exact .inr (.inl (step_up hp hs.2.2.2.2 (pw_dvd hs.1 h ht.2.2.2.2) h1))
    · by_cases h2 : a < c + pw d
      · refine .inl ⟨hs, ht, by omega, ?_⟩
        have e1 : (c + pw d) % pw b = 0 := pw_dvd hs.1 h (by rw [Int.add_emod_right]; exact ht.2.2.2.2)
        exact step_up hp hs.2.2.2.2 e1 h2
      · exact .inr (.inr (by omega))
  by_cases h : b ≤ d
  · rcases key hs ht h with h | h | h
    · exact .inl h
    · exact .inr (.inr (.inl h))
    · exact .inr (.inr (.inr h))
  · rcases key ht hs (by omega) with h | h | h
    · exact .inr (.inl h)
    · exact .inr (.inr (.inr h))
    · exact .inr (.inr (.inl h))
theorem apt_iff {a b c d : Int} : Apt a b c d ↔ Rt a b ∧ Rt c d ∧ ¬ Ins a b c d ∧ ¬ Ins c d a b := by
  have hp := pw_pos b
  have hq := pw_pos d
  unfold Apt
  constructor
  · rintro ⟨h1, h2, h3⟩
    refine ⟨h1, h2, fun h => ?_, fun h => ?_⟩
    · have := h.2.2.1; have := h.2.2.2; omega
    · have := h.2.2.1; have := h.2.2.2; omega
  · rintro ⟨h1, h2, h3, h4⟩
    refine ⟨h1, h2, ?_⟩
    rcases nest h1 h2 with h | h | h | h
    · exact absurd h h3
    · exact absurd h h4
    · exact .inl h
    · exact .inr h
theorem Apart_eq (a b c d : Int) : span_Apart.f a b c d = some (decide (Apt a b c d)) := by
  unfold span_Apart.f
  rw [right_eq, Option.bind_some, right_eq, Option.bind_some, In_eq, Option.bind_some, In_eq, Option.bind_some]
  have hi := @apt_iff a b c d
  by_cases hs : Rt a b <;> by_cases ht : Rt c d <;> by_cases h1 : Ins a b c d <;> by_cases h2 : Ins c d a b <;> by_cases h3 : Apt a b c d <;> simp_all

theorem ranges_eq (a b : Int) : donjonref03_ranges.f a b = some (decide (0 ≤ b ∧ b ≤ 16 ∧ 0 ≤ a ∧ a + pw b ≤ 65536)) := inRange_eq a b
theorem Right_eq (a b : Int) : donjonref03_Right.f a b = some (decide (Rt a b)) := by
  unfold donjonref03_Right.f
  rw [ranges_eq, Option.bind_some]
  by_cases h : 0 ≤ b ∧ b ≤ 16 ∧ 0 ≤ a ∧ a + pw b ≤ 65536
  · obtain ⟨h1, h2, h3, h4⟩ := h
    have hp := pw_pos b
    have hl := pw_le h2
    rw [if_pos (decide_eq_true ⟨h1, h2, h3, h4⟩), if_pos h1, shl1 h1 h2, if_neg (by omega), Int.tmod_eq_emod_of_nonneg h3]
    congr 1
    by_cases h5 : a % pw b = 0
    · rw [decide_eq_true (show Rt a b from ⟨h1, h2, h3, h4, h5⟩)]; exact beq_iff_eq.2 h5
    · rw [decide_eq_false (fun h : Rt a b => h5 h.2.2.2.2)]; exact beq_eq_false_iff_ne.2 h5
  · rw [if_neg (by simpa using h)]
    congr 1
    symm
    rw [decide_eq_false_iff_not]
    exact fun hr => h ⟨hr.1, hr.2.1, hr.2.2.1, hr.2.2.2.1⟩

theorem End_eq {a b : Int} (h0 : 0 ≤ b) (h : b ≤ 16) (ha : 0 ≤ a) (ha' : a ≤ 900000) : donjonref03_End.f a b = some (a + pw b) := end_eq h0 h ha ha'
theorem RApart_eq (a b c d : Int) : donjonref03_Apart.f a b c d = some (decide (Apt a b c d)) := by
  unfold donjonref03_Apart.f
  rw [Right_eq, Option.bind_some, Right_eq, Option.bind_some]
  by_cases hs : Rt a b
  · rw [if_pos (decide_eq_true hs)]
    by_cases ht : Rt c d
    · have hp := pw_pos b
      have hq := pw_pos d
      rw [if_pos (decide_eq_true ht), End_eq hs.1 hs.2.1 hs.2.2.1 (by have := hs.2.2.2.1; omega), Option.bind_some]
      by_cases h1 : a + pw b ≤ c
      · rw [if_pos h1, decide_eq_true (show Apt a b c d from ⟨hs, ht, .inl h1⟩)]
      · rw [if_neg h1, End_eq ht.1 ht.2.1 ht.2.2.1 (by have := ht.2.2.2.1; omega), Option.bind_some]
        by_cases h2 : c + pw d ≤ a
        · rw [decide_eq_true h2, decide_eq_true (show Apt a b c d from ⟨hs, ht, .inr h2⟩)]
        · rw [decide_eq_false h2, decide_eq_false (fun h : Apt a b c d => h.2.2.elim h1 h2)]
    · rw [if_neg (by simpa using ht), decide_eq_false (fun h : Apt a b c d => ht h.2.1)]
  · rw [if_neg (by simpa using hs), decide_eq_false (fun h : Apt a b c d => hs h.1)]

/-- May a span of n bits begin at a, and not go beyond t? -/
def good (a t n : Int) : Prop := a % pw n = 0 ∧ a + pw n ≤ t
instance (a t n : Int) : Decidable (good a t n) := by unfold good; infer_instance
/-- The greatest one, from n downwards. -/
def best (a t : Int) : Nat → Nat
  | 0 => 0
  | n + 1 => if good a t (((n + 1 : Nat)) : Int) then n + 1 else best a t n
theorem best_le (a t : Int) : ∀ n, best a t n ≤ n
  | 0 => Nat.le_refl _
  | n + 1 => by
    unfold best
    split
    · exact Nat.le_refl _
    · exact Nat.le_trans (best_le a t n) (Nat.le_succ n)
theorem best_good {a t : Int} (h : a < t) : ∀ n, good a t (best a t n)
  | 0 => ⟨by show a % 1 = 0; omega, by show a + 1 ≤ t; omega⟩
  | n + 1 => by
    unfold best
    split
    · assumption
    · exact best_good h n
theorem best_most {a t : Int} : ∀ (n m : Nat), best a t n < m → m ≤ n → ¬ good a t m
  | 0, m, h1, h2 => by omega
  | n + 1, m, h1, h2 => by
    unfold best at h1
    split at h1
    · omega
    · by_cases e : m = n + 1
      · subst e; assumption
      · exact best_most n m h1 (by omega)
theorem good_right {a t n : Int} (h0 : 0 ≤ a) (ht : t ≤ 65536) (hn : 0 ≤ n) (hn' : n ≤ 16) : good a t n ↔ Rt a n ∧ a + pw n ≤ t := by
  unfold good Rt
  constructor
  · rintro ⟨h1, h2⟩; exact ⟨⟨hn, hn', h0, by omega, h1⟩, h2⟩
  · rintro ⟨⟨_, _, _, _, h1⟩, h2⟩; exact ⟨h1, h2⟩
/-- The spans that cover what lies from a up to t (as many as d rounds tell). -/
def cv : Nat → Int → Int → List S23
  | 0, _, _ => []
  | d + 1, a, t => if a < t then ⟨a, best a t 16⟩ :: cv d (a + pw (best a t 16)) t else []
theorem cover_inner {t : Int} (ht : t ≤ 65536) {a : Int} (h0 : 0 ≤ a) (hat : a < t) (xs : List S23) (hx : xs.length < 8796093022208) (k : Nat) : ∀ n : Nat, n ≤ 16 →
    span_Cover.l1 (k + (n - best a t n) + 1) t xs a n = span_Cover.l0 k (a + pw (best a t n)) t (xs ++ [⟨a, best a t n⟩]) := by
  intro n
  induction n with
  | zero =>
    intro _
    have hg : Rt a 0 ∧ a + pw 0 ≤ t := (good_right h0 ht (Int.le_refl 0) (by decide)).1 (best_good hat 0)
    show span_Cover.l1 (k + 1) t xs a 0 = span_Cover.l0 k (a + pw 0) t (xs ++ [⟨a, 0⟩])
    simp only [span_Cover.l1]
    have hp := pw_pos 0
    rw [right_eq, Option.bind_some, if_pos (decide_eq_true hg.1), end_eq (by omega) (by omega) h0 (by omega), Option.bind_some, if_neg (by have := hg.2; omega), if_pos hx, Option.bind_some]
  | succ n ih =>
    intro hn
    have hp := pw_pos ((n + 1 : Nat) : Int)
    by_cases hg : good a t ((n + 1 : Nat) : Int)
    · have e : best a t (n + 1) = n + 1 := by simp only [best]; rw [if_pos hg]
      rw [e, Nat.sub_self]
      rw [good_right h0 ht (by omega) (by omega)] at hg
      simp only [span_Cover.l1]
      rw [right_eq, Option.bind_some, if_pos (decide_eq_true hg.1), end_eq (by omega) (by omega) h0 (by omega), Option.bind_some, if_neg (by omega), if_pos hx, Option.bind_some]
    · have e : best a t (n + 1) = best a t n := by simp only [best]; rw [if_neg hg]
      have hb := best_le a t n
      rw [e, show k + (n + 1 - best a t n) + 1 = (k + (n - best a t n) + 1) + 1 by omega]
      have ih' := ih (by omega)
      generalize k + (n - best a t n) + 1 = K at ih' ⊢
      simp only [span_Cover.l1]
      have hng := hg
      rw [good_right h0 ht (by omega) (by omega)] at hng
      have ew : wrap64 (((n + 1 : Nat) : Int) - 1) = (n : Int) := by rw [wrap_small (by omega) (by omega)]; omega
      rw [right_eq, Option.bind_some]
      by_cases hr : Rt a ((n + 1 : Nat) : Int)
      · rw [if_pos (decide_eq_true hr), end_eq (by omega) (by omega) h0 (by omega), Option.bind_some, if_pos (by have : ¬ (a + pw ((n + 1 : Nat) : Int) ≤ t) := fun h => hng ⟨hr, h⟩; omega), ew]
        exact ih'
      · rw [if_neg (by simpa using hr), ew]
        exact ih'
theorem cover_outer {t : Int} (ht : t ≤ 65536) (d : Nat) : ∀ (a : Int) (xs : List S23) (k : Nat), 0 ≤ a → t - a ≤ d → 18 * d < k → xs.length + d < 8796093022208 →
    span_Cover.l0 k a t xs = some (xs ++ cv d a t, 0) := by
  induction d with
  | zero =>
    intro a xs k h0 hd hk hx
    obtain ⟨k, rfl⟩ : ∃ m, k = m + 1 := ⟨k - 1, by omega⟩
    simp only [span_Cover.l0]
    rw [if_neg (by omega)]
    simp [cv]
  | succ d ih =>
    intro a xs k h0 hd hk hx
    obtain ⟨k, rfl⟩ : ∃ m, k = m + 1 := ⟨k - 1, by omega⟩
    simp only [span_Cover.l0]
    by_cases h : a < t
    · rw [if_pos h]
      have hb := best_le a t 16
      have hp := pw_pos (best a t 16 : Int)
      obtain ⟨j, rfl⟩ : ∃ j, k = j + (16 - best a t 16) + 1 := ⟨k - (16 - best a t 16) - 1, by omega⟩
      have hi := cover_inner ht h0 h xs (by omega) j 16 (by omega)
      rw [show ((16 : Nat) : Int) = 16 from rfl] at hi
      rw [hi, ih _ _ j (by omega) (by omega) (by omega) (by simp; omega)]
      simp [cv, h]
    · rw [if_neg h]
      simp [cv, h]
theorem Cover_ok {f t : Int} (h0 : 0 ≤ f) (h1 : f ≤ t) (h2 : t ≤ 65536) {k : Nat} (hk : 1179700 ≤ k) : span_Cover.f k f t = some (cv (t - f).toNat f t, 0) := by
  unfold span_Cover.f
  obtain ⟨k, rfl⟩ : ∃ m, k = m + 1 := ⟨k - 1, by omega⟩
  rw [if_neg (by omega), if_neg (by omega), decide_eq_false (by omega)]
  simp only [span_Cover.j0]
  rw [if_neg (by decide), cover_outer h2 (t - f).toNat f [] k h0 (by omega) (by omega) (by simp; omega)]
  rfl
theorem Cover_bad {f t : Int} (h : f < 0 ∨ t < f ∨ 65536 < t) {k : Nat} (hk : 1 ≤ k) : span_Cover.f k f t = some ([], 1) := by
  unfold span_Cover.f
  obtain ⟨k, rfl⟩ : ∃ m, k = m + 1 := ⟨k - 1, by omega⟩
  by_cases a : f < 0
  · rw [if_pos a]; rfl
  · rw [if_neg a]
    by_cases b : f > t
    · rw [if_pos b]; rfl
    · rw [if_neg b, decide_eq_true (by omega)]; rfl

theorem rd_get (l : List S23) (i : Nat) (h : i < l.length) : rd_T23 l i = l[i] := by
  unfold rd_T23
  rw [Int.toNat_natCast, List.getD_eq_getElem?_getD, List.getElem?_eq_getElem h]
  rfl
/-- Each two, at different places, are apart. -/
def AllApt (l : List S23) : Prop := ∀ i j : Nat, j < i → i < l.length → Apt (rd_T23 l i).f0 (rd_T23 l i).f1 (rd_T23 l j).f0 (rd_T23 l j).f1
theorem all_l1 (l : List S23) (hl : l.length ≤ 1000000) (r : Bool) (i : Nat) (hi : i < l.length) (k : Nat)
    (hnext : r = true → span_All.l0 k l true l l.length ((i + 1 : Nat) : Int) = some true)
    (hmore : (∀ j : Nat, j < i → Apt (rd_T23 l i).f0 (rd_T23 l i).f1 (rd_T23 l j).f0 (rd_T23 l j).f1) → span_All.l0 k l true l l.length ((i + 1 : Nat) : Int) = some r)
    (hfail : ¬ (∀ j : Nat, j < i → Apt (rd_T23 l i).f0 (rd_T23 l i).f1 (rd_T23 l j).f0 (rd_T23 l j).f1) → r = false) :
    ∀ (d j : Nat), i - j = d → j ≤ i → (∀ j' : Nat, j' < j → Apt (rd_T23 l i).f0 (rd_T23 l i).f1 (rd_T23 l j').f0 (rd_T23 l j').f1) →
    span_All.l1 (k + d + 1) l true l l.length i (l.take i) ((l.take i).length : Int) j (rd_T23 l i).f0 (rd_T23 l i).f1 = some r := by
  have hlen : (l.take i).length = i := by rw [List.length_take]; omega
  intro d
  induction d with
  | zero =>
    intro j hd hj hall
    have : j = i := by omega
    subst this
    simp only [span_All.l1, hlen]
    rw [if_neg (by omega), wrap_small (by omega) (by omega), show ((j : Int) + 1) = ((j + 1 : Nat) : Int) by omega]
    exact hmore hall
  | succ d ih =>
    intro j hd hj hall
    have hj' : j < i := by omega
    have erd : rd_T23 (l.take i) j = rd_T23 l j := by
      unfold rd_T23
      simp only [Int.toNat_natCast, List.getD_eq_getElem?_getD]
      rw [List.getElem?_take_of_lt hj']
    have ih' := ih (j + 1) (by omega) (by omega)
    rw [show k + (d + 1) + 1 = (k + d + 1) + 1 by omega]
    generalize k + d + 1 = K at ih' ⊢
    rw [hlen] at ih'
    simp only [span_All.l1, hlen]
    rw [if_pos (by omega), if_pos (by omega), if_pos (by omega), erd, Apart_eq, Option.bind_some]
    by_cases ha : Apt (rd_T23 l i).f0 (rd_T23 l i).f1 (rd_T23 l j).f0 (rd_T23 l j).f1
    · rw [if_pos (decide_eq_true ha), wrap_small (by omega) (by omega), show ((j : Int) + 1) = ((j + 1 : Nat) : Int) by omega]
      exact ih' (fun j' h' => by
        by_cases e : j' = j
        · rw [e]; exact ha
        · exact hall j' (by omega))
    · rw [if_neg (by simpa using ha), hfail (fun h => ha (h j hj'))]
theorem all_l0 (l : List S23) (hl : l.length ≤ 1000000) (r : Bool) (hr : r = true ↔ AllApt l) : ∀ (d i : Nat), l.length - i = d → i ≤ l.length →
    (∀ i' j : Nat, j < i' → i' < i → Apt (rd_T23 l i').f0 (rd_T23 l i').f1 (rd_T23 l j).f0 (rd_T23 l j).f1) →
    ∀ k, d * (l.length + 2) < k → span_All.l0 k l true l l.length i = some r := by
  intro d
  induction d with
  | zero =>
    intro i hd hi hall k hk
    have : i = l.length := by omega
    subst this
    obtain ⟨k, rfl⟩ : ∃ m, k = m + 1 := ⟨k - 1, by omega⟩
    simp only [span_All.l0]
    rw [if_neg (by omega), hr.2 (fun i j h1 h2 => hall i j h1 h2)]
  | succ d ih =>
    intro i hd hi hall k hk
    obtain ⟨k, rfl⟩ : ∃ m, k = m + 1 := ⟨k - 1, by omega⟩
    have hi' : i < l.length := by omega
    have hmul : (d + 1) * (l.length + 2) = d * (l.length + 2) + (l.length + 2) := by rw [Nat.add_mul, Nat.one_mul]
    simp only [span_All.l0]
    rw [if_pos (by omega), if_pos (by omega), if_pos (by omega), if_pos (by omega), Option.bind_some, Int.toNat_natCast]
    obtain ⟨j, rfl⟩ : ∃ j, k = j + i + 1 := ⟨k - i - 1, by omega⟩
    have hm : (∀ j : Nat, j < i → Apt (rd_T23 l i).f0 (rd_T23 l i).f1 (rd_T23 l j).f0 (rd_T23 l j).f1) → span_All.l0 j l true l l.length ((i + 1 : Nat) : Int) = some r := fun h =>
      ih (i + 1) (by omega) (by omega) (fun i' j' h1 h2 => by
        by_cases e : i' = i
        · rw [e] at h1 ⊢; exact h j' h1
        · exact hall i' j' h1 (by omega)) j (by omega)
    exact all_l1 l hl r i hi' j (fun h => by rw [hm (fun j' hj' => (hr.1 h) i j' hj' hi'), h]) hm (fun h => by
      cases r with
      | false => rfl
      | true => exact absurd (fun j' hj' => (hr.1 rfl) i j' hj' hi') h) i 0 (by omega) (by omega) (fun j' h => by omega)
theorem All_is (l : List S23) (hl : l.length ≤ 1000000) (r : Bool) (hr : r = true ↔ AllApt l) {k : Nat} (hk : l.length * (l.length + 2) < k) : span_All.f k l = some r := by
  unfold span_All.f
  exact all_l0 l hl r hr l.length 0 (by omega) (by omega) (fun i' j h1 h2 => by omega) k hk
theorem cv_len {t : Int} (d : Nat) : ∀ a : Int, (cv d a t).length ≤ d := by
  induction d with
  | zero => intro a; simp [cv]
  | succ d ih =>
    intro a
    unfold cv
    by_cases h : a < t
    · rw [if_pos h]; have := ih (a + pw (best a t 16)); simp; omega
    · rw [if_neg h]; simp

theorem rcover_inner {t : Int} (ht : t ≤ 65536) {a : Int} (h0 : 0 ≤ a) (hat : a < t) (xs : List S23) (hx : xs.length < 8796093022208) (k : Nat) : ∀ n : Nat, n ≤ 16 →
    donjonref03_Cover.l1 (k + (n - best a t n) + 1) a t xs n = donjonref03_Cover.l0 k (a + pw (best a t n)) t (xs ++ [⟨a, best a t n⟩]) := by
  intro n
  induction n with
  | zero =>
    intro _
    have hg : Rt a 0 ∧ a + pw 0 ≤ t := (good_right h0 ht (Int.le_refl 0) (by decide)).1 (best_good hat 0)
    show donjonref03_Cover.l1 (k + 1) a t xs 0 = donjonref03_Cover.l0 k (a + pw 0) t (xs ++ [⟨a, 0⟩])
    simp only [donjonref03_Cover.l1]
    have hp := pw_pos 0
    have hl := pw_le (b := 0) (by omega)
    rw [if_pos (by omega), shl1 (by omega) (by omega), if_neg (by omega), Int.tmod_eq_emod_of_nonneg h0, if_pos hg.1.2.2.2.2, wrap_small (x := a + pw 0) (by omega) (by omega), if_neg (by have := hg.2; omega), if_pos hx]
  | succ n ih =>
    intro hn
    have hp := pw_pos ((n + 1 : Nat) : Int)
    have hl := pw_le (b := ((n + 1 : Nat) : Int)) (by omega)
    by_cases hg : good a t ((n + 1 : Nat) : Int)
    · have e : best a t (n + 1) = n + 1 := by simp only [best]; rw [if_pos hg]
      rw [e, Nat.sub_self]
      simp only [donjonref03_Cover.l1]
      rw [if_pos (by omega), shl1 (by omega) (by omega), if_neg (by omega), Int.tmod_eq_emod_of_nonneg h0, if_pos hg.1, wrap_small (x := a + pw ((n + 1 : Nat) : Int)) (by omega) (by omega), if_neg (by have := hg.2; omega), if_pos hx]
    · have e : best a t (n + 1) = best a t n := by simp only [best]; rw [if_neg hg]
      have hb := best_le a t n
      rw [e, show k + (n + 1 - best a t n) + 1 = (k + (n - best a t n) + 1) + 1 by omega]
      have ih' := ih (by omega)
      generalize k + (n - best a t n) + 1 = K at ih' ⊢
      simp only [donjonref03_Cover.l1]
      have ew : wrap64 (((n + 1 : Nat) : Int) - 1) = (n : Int) := by rw [wrap_small (by omega) (by omega)]; omega
      rw [if_pos (by omega), shl1 (by omega) (by omega), if_neg (by omega), Int.tmod_eq_emod_of_nonneg h0, wrap_small (x := a + pw ((n + 1 : Nat) : Int)) (by omega) (by omega), ew]
      by_cases hr : a % pw ((n + 1 : Nat) : Int) = 0
      · rw [if_pos hr, if_pos (by have : ¬ (a + pw ((n + 1 : Nat) : Int) ≤ t) := fun h => hg ⟨hr, h⟩; omega)]
        exact ih'
      · rw [if_neg hr]
        exact ih'
theorem rcover_outer {t : Int} (ht : t ≤ 65536) (d : Nat) : ∀ (a : Int) (xs : List S23) (k : Nat), 0 ≤ a → t - a ≤ d → 18 * d < k → xs.length + d < 8796093022208 →
    donjonref03_Cover.l0 k a t xs = some (xs ++ cv d a t, 0) := by
  induction d with
  | zero =>
    intro a xs k h0 hd hk hx
    obtain ⟨k, rfl⟩ : ∃ m, k = m + 1 := ⟨k - 1, by omega⟩
    simp only [donjonref03_Cover.l0]
    rw [if_neg (by omega)]
    simp [cv]
  | succ d ih =>
    intro a xs k h0 hd hk hx
    obtain ⟨k, rfl⟩ : ∃ m, k = m + 1 := ⟨k - 1, by omega⟩
    simp only [donjonref03_Cover.l0]
    by_cases h : a < t
    · rw [if_pos h]
      have hb := best_le a t 16
      have hp := pw_pos (best a t 16 : Int)
      obtain ⟨j, rfl⟩ : ∃ j, k = j + (16 - best a t 16) + 1 := ⟨k - (16 - best a t 16) - 1, by omega⟩
      have hi := rcover_inner ht h0 h xs (by omega) j 16 (by omega)
      rw [show ((16 : Nat) : Int) = 16 from rfl] at hi
      rw [hi, ih _ _ j (by omega) (by omega) (by omega) (by simp; omega)]
      simp [cv, h]
    · rw [if_neg h]
      simp [cv, h]
theorem RCover_ok {f t : Int} (h0 : 0 ≤ f) (h1 : f ≤ t) (h2 : t ≤ 65536) {k : Nat} (hk : 1179700 ≤ k) : donjonref03_Cover.f k f t = some (cv (t - f).toNat f t, 0) := by
  unfold donjonref03_Cover.f
  obtain ⟨k, rfl⟩ : ∃ m, k = m + 1 := ⟨k - 1, by omega⟩
  rw [if_neg (by omega), if_neg (by omega), decide_eq_false (by omega)]
  simp only [donjonref03_Cover.j0]
  rw [if_neg (by decide), rcover_outer h2 (t - f).toNat f [] k h0 (by omega) (by omega) (by simp; omega)]
  rfl
theorem RCover_bad {f t : Int} (h : f < 0 ∨ t < f ∨ 65536 < t) {k : Nat} (hk : 1 ≤ k) : donjonref03_Cover.f k f t = some ([], 1) := by
  unfold donjonref03_Cover.f
  obtain ⟨k, rfl⟩ : ∃ m, k = m + 1 := ⟨k - 1, by omega⟩
  by_cases a : f < 0
  · rw [if_pos a]; rfl
  · rw [if_neg a]
    by_cases b : f > t
    · rw [if_pos b]; rfl
    · rw [if_neg b, decide_eq_true (by omega)]; rfl
theorem rall_l1 (l : List S23) (hl : l.length ≤ 1000000) (r : Bool) (i : Nat) (hi : i < l.length) (k : Nat)
    (hmore : (∀ j : Nat, j < i → Apt (rd_T23 l i).f0 (rd_T23 l i).f1 (rd_T23 l j).f0 (rd_T23 l j).f1) → donjonref03_All.l0 k l ((i + 1 : Nat) : Int) = some r)
    (hfail : ¬ (∀ j : Nat, j < i → Apt (rd_T23 l i).f0 (rd_T23 l i).f1 (rd_T23 l j).f0 (rd_T23 l j).f1) → r = false) :
    ∀ (d j : Nat), i - j = d → j ≤ i → (∀ j' : Nat, j' < j → Apt (rd_T23 l i).f0 (rd_T23 l i).f1 (rd_T23 l j').f0 (rd_T23 l j').f1) →
    donjonref03_All.l1 (k + d + 1) l i j = some r := by
  intro d
  induction d with
  | zero =>
    intro j hd hj hall
    have : j = i := by omega
    subst this
    simp only [donjonref03_All.l1]
    rw [if_neg (by omega), wrap_small (by omega) (by omega), show ((j : Int) + 1) = ((j + 1 : Nat) : Int) by omega]
    exact hmore hall
  | succ d ih =>
    intro j hd hj hall
    have hj' : j < i := by omega
    have ih' := ih (j + 1) (by omega) (by omega)
    rw [show k + (d + 1) + 1 = (k + d + 1) + 1 by omega]
    generalize k + d + 1 = K at ih' ⊢
    simp only [donjonref03_All.l1]
    rw [if_pos (by omega), if_pos (by omega), if_pos (by omega), if_pos (by omega), if_pos (by omega), RApart_eq, Option.bind_some]
    by_cases ha : Apt (rd_T23 l i).f0 (rd_T23 l i).f1 (rd_T23 l j).f0 (rd_T23 l j).f1
    · rw [if_pos (decide_eq_true ha), wrap_small (by omega) (by omega), show ((j : Int) + 1) = ((j + 1 : Nat) : Int) by omega]
      exact ih' (fun j' h' => by
        by_cases e : j' = j
        · rw [e]; exact ha
        · exact hall j' (by omega))
    · rw [if_neg (by simpa using ha), hfail (fun h => ha (h j hj'))]
theorem rall_l0 (l : List S23) (hl : l.length ≤ 1000000) (r : Bool) (hr : r = true ↔ AllApt l) : ∀ (d i : Nat), l.length - i = d → i ≤ l.length →
    (∀ i' j : Nat, j < i' → i' < i → Apt (rd_T23 l i').f0 (rd_T23 l i').f1 (rd_T23 l j).f0 (rd_T23 l j).f1) →
    ∀ k, d * (l.length + 2) < k → donjonref03_All.l0 k l i = some r := by
  intro d
  induction d with
  | zero =>
    intro i hd hi hall k hk
    have : i = l.length := by omega
    subst this
    obtain ⟨k, rfl⟩ : ∃ m, k = m + 1 := ⟨k - 1, by omega⟩
    simp only [donjonref03_All.l0]
    rw [if_neg (by omega), hr.2 (fun i j h1 h2 => hall i j h1 h2)]
  | succ d ih =>
    intro i hd hi hall k hk
    obtain ⟨k, rfl⟩ : ∃ m, k = m + 1 := ⟨k - 1, by omega⟩
    have hi' : i < l.length := by omega
    have hmul : (d + 1) * (l.length + 2) = d * (l.length + 2) + (l.length + 2) := by rw [Nat.add_mul, Nat.one_mul]
    simp only [donjonref03_All.l0]
    rw [if_pos (by omega)]
    obtain ⟨j, rfl⟩ : ∃ j, k = j + i + 1 := ⟨k - i - 1, by omega⟩
    have hm : (∀ j : Nat, j < i → Apt (rd_T23 l i).f0 (rd_T23 l i).f1 (rd_T23 l j).f0 (rd_T23 l j).f1) → donjonref03_All.l0 j l ((i + 1 : Nat) : Int) = some r := fun h =>
      ih (i + 1) (by omega) (by omega) (fun i' j' h1 h2 => by
        by_cases e : i' = i
        · rw [e] at h1 ⊢; exact h j' h1
        · exact hall i' j' h1 (by omega)) j (by omega)
    exact rall_l1 l hl r i hi' j hm (fun h => by
      cases r with
      | false => rfl
      | true => exact absurd (fun j' hj' => (hr.1 rfl) i j' hj' hi') h) i 0 (by omega) (by omega) (fun j' h => by omega)
theorem RAll_is (l : List S23) (hl : l.length ≤ 1000000) (r : Bool) (hr : r = true ↔ AllApt l) {k : Nat} (hk : l.length * (l.length + 2) < k) : donjonref03_All.f k l = some r := by
  unfold donjonref03_All.f
  exact rall_l0 l hl r hr l.length 0 (by omega) (by omega) (fun i' j h1 h2 => by omega) k hk
theorem same_self (l : List S23) (hl : l.length ≤ 1000000) : ∀ (d i k : Nat), l.length - i = d → i ≤ l.length → d < k → donjonref03_Same.l0 k l l i = some true := by
  intro d
  induction d with
  | zero =>
    intro i k hd hi hk
    obtain ⟨k, rfl⟩ : ∃ m, k = m + 1 := ⟨k - 1, by omega⟩
    simp only [donjonref03_Same.l0]
    rw [if_neg (by omega)]
  | succ d ih =>
    intro i k hd hi hk
    obtain ⟨k, rfl⟩ : ∃ m, k = m + 1 := ⟨k - 1, by omega⟩
    simp only [donjonref03_Same.l0]
    rw [if_pos (by omega), if_pos (by omega), if_pos (by omega), if_neg (by simp), wrap_small (by omega) (by omega), show ((i : Int) + 1) = ((i + 1 : Nat) : Int) by omega]
    exact ih (i + 1) k (by omega) (by omega) (by omega)
theorem Same_self (l : List S23) (hl : l.length ≤ 1000000) {k : Nat} (hk : 1000001 ≤ k) : donjonref03_Same.f k l l = some true := by
  unfold donjonref03_Same.f
  rw [if_pos rfl]
  exact same_self l hl l.length 0 k (by omega) (by omega) (by omega)
theorem pureSpanLists (l : List S23) (f t : Int) : donjonlaw03_SpanLists.f 2000000 l f t = some true := by
  unfold donjonlaw03_SpanLists.f
  by_cases h : (l.length : Int) > 200
  · rw [if_pos h]
  · have hl : l.length ≤ 200 := by omega
    have hm : l.length * (l.length + 2) ≤ 200 * 202 := Nat.mul_le_mul hl (by omega)
    have ha : ∃ r : Bool, r = true ↔ AllApt l := by
      by_cases h : AllApt l
      · exact ⟨true, by simp [h]⟩
      · exact ⟨false, by simp [h]⟩
    obtain ⟨r, hr⟩ := ha
    have hc : ∃ c : List S23 × Int, c.1.length ≤ 65536 ∧ span_Cover.f 2000000 f t = some c ∧ donjonref03_Cover.f 2000000 f t = some c := by
      by_cases g : f < 0 ∨ t < f ∨ 65536 < t
      · exact ⟨([], 1), by simp, Cover_bad g (by omega), RCover_bad g (by omega)⟩
      · refine ⟨(cv (t - f).toNat f t, 0), ?_, Cover_ok (by omega) (by omega) (by omega) (by omega), RCover_ok (by omega) (by omega) (by omega) (by omega)⟩
        have := cv_len (t := t) (t - f).toNat f
        show (cv (t - f).toNat f t).length ≤ 65536
        omega
    obtain ⟨c, hc0, hc1, hc2⟩ := hc
    rw [if_neg h, hc1, hc2, Option.bind_some, Option.bind_some, Option.bind_some, if_pos (by simp; omega), List.nil_append, All_is l (by omega) r hr (by omega), RAll_is l (by omega) r hr (by omega), Option.bind_some, Option.bind_some,
      if_pos (by simp), Same_self _ (by omega) (by omega), Option.bind_some, if_pos rfl]
    simp
/-- The call of the law, for the row. -/
theorem callSpanLists (A : Option Addr) (c : Nat) (l : List S23) (f t : Int) (w : World) (hC : Kd.C k23 w A l.length l) (hc : l.length ≤ c) (_ : True) (_ : (Lit.int .i64 f).wf = true) (_ : (Lit.int .i64 t).wf = true) :
    Calls Try.prog 4 #[.slice A l.length c, .int .i64 f, .int .i64 t] w fun e w' => e = .returned (.bool true) ∧ Below w.heap.size w w' :=
  donjonlaw03_SpanLists.calls 2000000 A c l f t true w hC hc (pureSpanLists l f t)

end Go.Proofs.Ytkhgipenlgeecaa.PSpanLists
