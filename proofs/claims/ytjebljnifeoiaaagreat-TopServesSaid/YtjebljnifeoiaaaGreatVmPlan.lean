/- The machine's walk is the model's: what waits for what in a region that draws its order. No condition but those each theorem names. -/
import Derived.Test.YtjebljnifeoiaaaGreatVmRegion
namespace Go.Proofs.YtjebljnifeoiaaaGreat.Vm
open Go
set_option linter.unusedVariables false
set_option linter.unusedSimpArgs false
theorem bit_test (m i : Nat) : bit m i = m.testBit i := by
  rw [Nat.testBit_eq_decide_div_mod_eq]
  show Nat.beq (m / 2 ^ i % 2) 1 = _
  rw [Bool.eq_iff_iff, Nat.beq_eq]; simp
theorem bit_or (a b i : Nat) : bit (Nat.lor a b) i = (bit a i || bit b i) := by
  rw [bit_test, bit_test, bit_test]
  exact Nat.testBit_or a b i
theorem bit_pow (k i : Nat) : bit (Nat.pow 2 k) i = decide (k = i) := by
  rw [bit_test]
  exact Nat.testBit_two_pow
theorem bit_zero (i : Nat) : bit 0 i = false := by rw [bit_test]; simp
theorem predsOf_mem : ∀ {l : List Edge} {i : Nat}, i ∈ predsOf l ↔ ∃ e ∈ l, Region.binds .any e = true ∧ e.on = i
  | [], i => by simp [predsOf]
  | e :: l, i => by
    have h : predsOf (e :: l) = ife (Region.binds .any e) (e.on :: predsOf l) (predsOf l) := rfl
    rw [h, ife_eq]
    split
    · rename_i hb
      rw [List.mem_cons, predsOf_mem]
      constructor
      · rintro (rfl | ⟨e', h1, h2⟩)
        · exact ⟨e, by simp, hb, rfl⟩
        · exact ⟨e', by simp [h1], h2⟩
      · rintro ⟨e', h1, h2, h3⟩
        rw [List.mem_cons] at h1
        rcases h1 with rfl | h1
        · exact .inl h3.symm
        · exact .inr ⟨e', h1, h2, h3⟩
    · rename_i hb
      rw [predsOf_mem]
      constructor
      · rintro ⟨e', h1, h2⟩; exact ⟨e', by simp [h1], h2⟩
      · rintro ⟨e', h1, h2, h3⟩
        rw [List.mem_cons] at h1
        rcases h1 with rfl | h1
        · exact absurd h2 hb
        · exact ⟨e', h1, h2, h3⟩
/-- What j waits for, in all. -/
noncomputable def mask (ms : Tr Nat) (j : Nat) : Nat := (ms.get j).getD 0
theorem maskOf_bit (ms : Tr Nat) : ∀ (l : List Nat) (m i : Nat), bit (maskOf ms m l) i = true → bit m i = true ∨ ∃ p ∈ l, i = p ∨ bit (mask ms p) i = true
  | [], m, i, h => .inl h
  | p :: l, m, i, h => by
    have h' : bit (maskOf ms (Nat.lor (Nat.lor m (Nat.pow 2 p)) ((ms.get p).getD 0)) l) i = true := h
    rcases maskOf_bit ms l _ i h' with h1 | ⟨q, h1, h2⟩
    · rw [bit_or, bit_or, bit_pow] at h1
      simp only [Bool.or_eq_true, decide_eq_true_eq] at h1
      rcases h1 with (h1 | h1) | h1
      · exact .inl h1
      · exact .inr ⟨p, by simp, .inl h1.symm⟩
      · exact .inr ⟨p, by simp, .inr h1⟩
    · exact .inr ⟨q, by simp [h1], h2⟩
theorem allLt_ok {j : Nat} : ∀ {l : List Nat}, allLt j l = true → ∀ i ∈ l, i < j
  | [], _, i, hi => by simp at hi
  | a :: l, h, i, hi => by
    have h' : (Nat.blt a j && allLt j l) = true := h
    rw [Bool.and_eq_true, Nat.blt_eq] at h'
    rw [List.mem_cons] at hi
    rcases hi with rfl | hi
    · exact h'.1
    · exact allLt_ok h'.2 i hi
/-- What is so of the masks up to j. -/
structure Masks (ops : List Oper) (ms : Tr Nat) (j : Nat) : Prop where
  lt : ∀ (i : Nat) (o : Oper), i < j → ops[i]? = some o → ∀ p ∈ predsOf o.after.toList, p < i
  bit : ∀ (i : Nat) (o : Oper), i < j → ops[i]? = some o → ∀ q, bit (mask ms i) q = true → ∃ p ∈ predsOf o.after.toList, q = p ∨ bit (mask ms p) q = true
theorem Masks.low {ops : List Oper} {ms : Tr Nat} {j : Nat} (h : Masks ops ms j) (hj : j ≤ ops.length) : ∀ i, i < j → ∀ q, Vm.bit (mask ms i) q = true → q < i := by
  intro i
  induction i using Nat.strongRecOn with
  | _ i ih =>
    intro hi q hq
    have ho : ops[i]? = some ops[i] := List.getElem?_eq_getElem (by omega)
    obtain ⟨p, hp, h1⟩ := h.bit i _ hi ho q hq
    have hlt := h.lt i _ hi ho p hp
    rcases h1 with rfl | h1
    · exact hlt
    · have := ih p hlt (by omega) q h1; omega
theorem masksA_ok (ops : List Oper) : ∀ (l : List Oper) (j : Nat) (ms ms' : Tr Nat), (∀ i, ops[j + i]? = l[i]?) → j + l.length < 2 ^ 63 → Masks ops ms j → masksA ms j l = some ms' → Masks ops ms' (j + l.length)
  | [], j, ms, ms', _, _, hm, h => by
    have h' : some ms = some ms' := h
    injection h' with h'; subst h'; exact hm
  | o :: l, j, ms, ms', hl, hb, hm, h => by
    have h' : ife (allLt j (predsOf o.after.toList)) (masksA (ms.set j (some (maskOf ms 0 (predsOf o.after.toList)))) (j + 1) l) none = some ms' := h
    rw [ife_iff (by simp)] at h'
    obtain ⟨h1, h2⟩ := h'
    have hlt := allLt_ok h1
    have ho : ops[j]? = some o := by have := hl 0; simpa using this
    simp only [List.length_cons] at hb ⊢
    have hget : ∀ i, (ms.set j (some (maskOf ms 0 (predsOf o.after.toList)))).get i = if i = j then some (maskOf ms 0 (predsOf o.after.toList)) else ms.get i := fun i => Tr.get_set ms j _ i (by omega)
    have hmask : ∀ i, i ≠ j → mask (ms.set j (some (maskOf ms 0 (predsOf o.after.toList)))) i = mask ms i := fun i hi => by
      unfold mask; rw [hget, if_neg hi]
    have hmaskj : mask (ms.set j (some (maskOf ms 0 (predsOf o.after.toList)))) j = maskOf ms 0 (predsOf o.after.toList) := by
      unfold mask; rw [hget, if_pos rfl]; rfl
    rw [show j + (l.length + 1) = j + 1 + l.length by omega]
    refine masksA_ok ops l (j + 1) _ ms' (fun i => by have := hl (i + 1); rw [show j + 1 + i = j + (i + 1) by omega, this]; simp) (by omega) ⟨fun i o' hi ho' p hp => ?_, fun i o' hi ho' q hq => ?_⟩ h2
    · by_cases hij : i = j
      · subst hij
        rw [ho] at ho'; injection ho' with ho'; subst ho'
        exact hlt p hp
      · exact hm.lt i o' (by omega) ho' p hp
    · by_cases hij : i = j
      · subst hij
        rw [ho] at ho'; injection ho' with ho'; subst ho'
        rw [hmaskj] at hq
        rcases maskOf_bit ms _ 0 q hq with h3 | ⟨p, hp, h3⟩
        · rw [bit_zero] at h3; cases h3
        · refine ⟨p, hp, h3.imp id (fun h4 => ?_)⟩
          rw [hmask p (by have := hlt p hp; omega)]; exact h4
      · rw [hmask i hij] at hq
        obtain ⟨p, hp, h3⟩ := hm.bit i o' (by omega) ho' q hq
        have := hm.lt i o' (by omega) ho' p hp
        exact ⟨p, hp, h3.imp id (fun h4 => by rw [hmask p (by omega)]; exact h4)⟩
/-- Who writes which slot. -/
theorem writersA_ok (ops : List Oper) {N : Nat} (hN : N < 2 ^ 62) : ∀ (l : List Oper) (j : Nat) (W W' : Tr Nat), (∀ i, ops[j + i]? = l[i]?) → dstsOk N l = true → (∀ i o d, i < j → ops[i]? = some o → o.dst = some d → W.get d = some i) → writersA W j l = some W' →
    ∀ i o d, i < j + l.length → ops[i]? = some o → o.dst = some d → W'.get d = some i
  | [], j, W, W', _, _, hW, h => by
    have h' : some W = some W' := h
    injection h' with h'; subst h'; exact hW
  | o :: l, j, W, W', hl, hd, hW, h => by
    obtain ⟨hd1, hd2⟩ := dstsOk_cons hd
    have ho : ops[j]? = some o := by have := hl 0; simpa using this
    have hl' : ∀ i, ops[j + 1 + i]? = l[i]? := fun i => by have := hl (i + 1); rw [show j + 1 + i = j + (i + 1) by omega, this]; simp
    have h' : (onSome o.dst (writersA W (j + 1) l) fun d => onSome (W.get d) (writersA (W.set d (some j)) (j + 1) l) fun _ => none) = some W' := h
    rw [List.length_cons, show j + (l.length + 1) = j + 1 + l.length by omega]
    cases hdst : o.dst with
    | none =>
      rw [hdst] at h'
      refine writersA_ok ops hN l (j + 1) W W' hl' hd2 (fun i o' d hi ho' hd' => ?_) h'
      by_cases hij : i = j
      · subst hij
        rw [ho] at ho'; injection ho' with ho'; subst ho'
        rw [hdst] at hd'; cases hd'
      · exact hW i o' d (by omega) ho' hd'
    | some d =>
      rw [hdst] at h'
      have h2 : (onSome (W.get d) (writersA (W.set d (some j)) (j + 1) l) fun _ => none) = some W' := h'
      cases hWd : W.get d with
      | some x => rw [hWd] at h2; cases h2
      | none =>
        rw [hWd] at h2
        have hdN : d < 2 ^ 63 := Nat.lt_of_lt_of_le (hd1 d hdst) (by omega)
        have hget : ∀ e, (W.set d (some j)).get e = if e = d then some j else W.get e := fun e => Tr.get_set W d _ e hdN
        refine writersA_ok ops hN l (j + 1) _ W' hl' hd2 (fun i o' e hi ho' he => ?_) h2
        rw [hget]
        by_cases hij : i = j
        · subst hij
          rw [ho] at ho'; injection ho' with ho'; subst ho'
          rw [hdst] at he; injection he with he; subst he
          rw [if_pos rfl]
        · have h3 := hW i o' e (by omega) ho' he
          rw [if_neg (fun he => by rw [he, hWd] at h3; cases h3)]
          exact h3
theorem looksOk_ok {ms W : Tr Nat} {r : Nat} : ∀ {l : List Nat}, looksOk ms W r l = true → ∀ t ∈ l, ∀ w, W.get t = some w → w = r ∨ bit (mask ms r) w = true ∨ bit (mask ms w) r = true
  | [], _, t, ht, _, _ => by simp at ht
  | a :: l, h, t, ht, w, hw => by
    have h' : ((onSome (W.get a) true fun w => ife (Nat.beq w r) true (ife (bit ((ms.get r).getD 0) w) true (bit ((ms.get w).getD 0) r))) && looksOk ms W r l) = true := h
    rw [Bool.and_eq_true] at h'
    rw [List.mem_cons] at ht
    rcases ht with rfl | ht
    · have h1 := h'.1
      rw [hw, onSome_some, ife_eq] at h1
      split at h1
      · rename_i h2; exact .inl (Nat.beq_eq ▸ h2)
      · rw [ife_eq] at h1
        split at h1
        · rename_i h2; exact .inr (.inl h2)
        · exact .inr (.inr h1)
    · exact looksOk_ok h'.2 t ht w hw
theorem looksAll_ok {ms W : Tr Nat} {ops : Array Oper} : ∀ (l : List Oper) (j : Nat), (∀ i, ops.toList[j + i]? = l[i]?) → looksAll ms W ops j l = true → ∀ i o, j ≤ i → ops.toList[i]? = some o → looksOk ms W i (o.looksAt ops) = true
  | [], j, hl, _, i, o, hi, ho => by
    have := hl (i - j)
    rw [show j + (i - j) = i by omega, ho] at this
    simp at this
  | p :: l, j, hl, h, i, o, hi, ho => by
    have h' : (looksOk ms W j (p.looksAt ops) && looksAll ms W ops (j + 1) l) = true := h
    rw [Bool.and_eq_true] at h'
    by_cases hij : i = j
    · subst hij
      have := hl 0
      simp at this
      have ho' : ops.toList[i]? = some p := by simpa using this
      rw [ho] at ho'; injection ho' with ho'; subst ho'
      exact h'.1
    · exact looksAll_ok l (j + 1) (fun i => by have := hl (i + 1); rw [show j + 1 + i = j + (i + 1) by omega, this]; simp) h'.2 i o (by omega) ho
/-- What a plan tells. -/
structure Plan (ops : Array Oper) (ms : Tr Nat) : Prop where
  masks : Masks ops.toList ms ops.size
  uniq : ∀ (i i' : Nat) (o o' : Oper) d, ops[i]? = some o → ops[i']? = some o' → o.dst = some d → o'.dst = some d → i = i'
  looks : ∀ (j w : Nat) (o p : Oper) t, ops[j]? = some o → ops[w]? = some p → p.dst = some t → t ∈ o.looksAt ops → w = j ∨ bit (mask ms j) w = true ∨ bit (mask ms w) j = true
theorem planA_ok {ops : Array Oper} {N : Nat} (hN : N < 2 ^ 62) (hs : ops.size < 2 ^ 63) (hd : dstsOk N ops.toList = true) {ms : Tr Nat} (h : planA ops = some ms) : Plan ops ms := by
  unfold planA at h
  simp only [onSome_iff, ife_iff, ne_eq, reduceCtorEq, not_false_eq_true] at h
  obtain ⟨ms', h1, W, h2, hlk, h4⟩ := h
  injection h4 with h4; subst h4
  have hm := masksA_ok ops.toList ops.toList 0 .e ms' (fun i => by simp) (by simpa using hs) ⟨fun i o hi => by omega, fun i o hi => by omega⟩ h1
  have hw := writersA_ok ops.toList hN ops.toList 0 .e W (fun i => by simp) hd (fun i o d hi => by omega) h2
  simp only [Nat.zero_add, Array.length_toList] at hm hw
  have hlt : ∀ (i : Nat) (o : Oper), ops[i]? = some o → i < ops.size := fun i o h => (Array.getElem?_eq_some_iff.1 h).1
  refine ⟨hm, fun i i' o o' d h1 h2 h3 h4 => ?_, fun j w o p t h1 h2 h3 h5 => ?_⟩
  · have e1 := hw i o d (hlt _ _ h1) (by simpa using h1) h3
    have e2 := hw i' o' d (hlt _ _ h2) (by simpa using h2) h4
    rw [e1] at e2; injection e2
  · have e1 := hw w p t (hlt _ _ h2) (by simpa using h2) h3
    have h6 := looksAll_ok ops.toList 0 (fun i => by simp) hlk j o (Nat.zero_le _) (by simpa using h1)
    exact looksOk_ok h6 t h5 w e1
end Go.Proofs.YtjebljnifeoiaaaGreat.Vm
