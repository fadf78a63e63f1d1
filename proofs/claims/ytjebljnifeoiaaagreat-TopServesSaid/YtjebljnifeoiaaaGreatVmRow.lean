/- The machine in use: what a law's arguments hold: numbers, structs of numbers, slices. No condition but those each theorem names. -/
import Derived.Test.YtjebljnifeoiaaaGreatVmTree
import Derived.Deep.Slices
import Derived.WideShapes
import Derived.OpenShut
import Derived.DataReads
namespace Go.Proofs.YtjebljnifeoiaaaGreat.Vm
open Go Go.RowKit Go.WideShapes Go.Deep
set_option linter.unusedVariables false
set_option linter.unusedSimpArgs false
/-- Cells of these kinds (none: a bool). -/
def FitsK : List (Option IntKind) → List Value → Prop
  | [], l => l = []
  | some k :: ks, l => ∃ n l', l = .int k n :: l' ∧ (k.min ≤ n ∧ n ≤ k.max) ∧ FitsK ks l'
  | none :: ks, l => ∃ b l', l = .bool b :: l' ∧ FitsK ks l'
theorem FitsK.app : ∀ {ks ks' : List (Option IntKind)} {l l' : List Value}, FitsK ks l → FitsK ks' l' → FitsK (ks ++ ks') (l ++ l')
  | [], ks', l, l', h, h' => by have : l = [] := h; subst this; exact h'
  | some k :: ks, ks', l, l', h, h' => by obtain ⟨n, m, rfl, h1, h2⟩ := h; exact ⟨n, m ++ l', rfl, h1, FitsK.app h2 h'⟩
  | none :: ks, ks', l, l', h, h' => by obtain ⟨b, m, rfl, h2⟩ := h; exact ⟨b, m ++ l', rfl, FitsK.app h2 h'⟩
/-- The cell's number. -/
def cellN : Value → Int
  | .int _ n => n
  | .bool true => 1
  | _ => 0
theorem FitsK.get : ∀ {ks : List (Option IntKind)} {l : List Value}, FitsK ks l → ∀ (j : Nat) (o : Option IntKind), ks[j]? = some o → ∃ v, l[j]? = some v ∧ v = kindVal o (cellN v)
  | [], l, h, j, o, e => by simp at e
  | some k :: ks, l, h, j, o, e => by
    obtain ⟨n, m, rfl, h1, h2⟩ := h
    cases j with
    | zero => simp at e; subst e; exact ⟨_, rfl, rfl⟩
    | succ j => simpa using FitsK.get h2 j o (by simpa using e)
  | none :: ks, l, h, j, o, e => by
    obtain ⟨b, m, rfl, h2⟩ := h
    cases j with
    | zero => simp at e; subst e; exact ⟨_, rfl, by cases b <;> rfl⟩
    | succ j => simpa using FitsK.get h2 j o (by simpa using e)
/-- The kind of a cell of the type t. -/
noncomputable def kindOf (P : Program) (t : TypeId) : Option (Option IntKind) := match P.underlying t with
  | some (.int k) => some (some k)
  | some .bool => some none
  | _ => none
noncomputable def kindsL (P : Program) : List TypeId → Option (List (Option IntKind))
  | [] => some []
  | t :: ts => match kindOf P t, kindsL P ts with
    | some o, some l => some (o :: l)
    | _, _ => none
section
variable {P : Program} {w : World} {r : Reach} {base : Nat}
theorem okCell {t : TypeId} {v : Value} (h : Cell.okWide P w r base t v) : (∀ k, P.underlying t = some (.int k) → ∃ n, v = .int k n ∧ k.min ≤ n ∧ n ≤ k.max) ∧ (P.underlying t = some .bool → ∃ b, v = .bool b) := by
  refine ⟨fun k hk => ?_, fun hk => ?_⟩
  · unfold Cell.okWide at h
    rw [hk] at h
    simp only at h
    unfold Cell.ok at h
    rw [hk] at h
    cases v <;> simp at h
    obtain ⟨rfl, h1⟩ := h
    exact ⟨_, rfl, h1⟩
  · unfold Cell.okWide at h
    rw [hk] at h
    simp only at h
    unfold Cell.ok at h
    rw [hk] at h
    cases v <;> simp at h
    exact ⟨_, rfl⟩
theorem okRow : ∀ (ts : List TypeId) (ks : List (Option IntKind)) (cs : List Value), kindsL P ts = some ks → cs.length = ts.length → (∀ (i : Nat) v, cs[i]? = some v → ∃ u, ts[i]? = some u ∧ Cell.okWide P w r base u v) → FitsK ks cs
  | [], ks, cs, hk, hl, _ => by
    have e : some [] = some ks := hk
    injection e with e; subst e
    exact List.length_eq_zero_iff.1 hl
  | t :: ts, ks, [], hk, hl, _ => by simp at hl
  | t :: ts, ks, c :: cs, hk, hl, h => by
    unfold kindsL at hk
    split at hk
    · rename_i o l h1 h2
      injection hk with hk; subst hk
      have ih := okRow ts l cs h2 (by simpa using hl) (fun i v e => by have := h (i + 1) v (by simpa using e); simpa using this)
      obtain ⟨u, hu, hc⟩ := h 0 c rfl
      have hu' : t = u := by simpa using hu
      subst hu'
      unfold kindOf at h1
      split at h1
      · rename_i k hk
        injection h1 with h1; subst h1
        obtain ⟨n, rfl, hn⟩ := (okCell hc).1 k hk
        exact ⟨n, cs, rfl, hn, ih⟩
      · rename_i hk
        injection h1 with h1; subst h1
        obtain ⟨b, rfl⟩ := (okCell hc).2 hk
        exact ⟨b, cs, rfl, ih⟩
      · cases h1
    · cases hk
noncomputable def kindsB (P : Program) (t : TypeId) : Option (List (Option IntKind)) := match P.underlying t with
  | some (.struct _) | some (.array _ _) => match P.cellTypes P.depth t with
    | some ts => if P.cellsOf t = ts.length then kindsL P ts else none
    | none => none
  | _ => none
/-- A struct of numbers. -/
theorem ok_agg {t : TypeId} {ks : List (Option IntKind)} (hk : kindsB P t = some ks) {v : Value} (h : Value.okWide P w r base t v) : ∃ cs, v = .agg cs ∧ FitsK ks cs.toList := by
  unfold kindsB at hk
  have key : (match P.cellTypes P.depth t with | some ts => if P.cellsOf t = ts.length then kindsL P ts else none | none => none) = some ks → (∃ cs, v = .agg cs ∧ cs.size = P.cellsOf t ∧ Row.okWide P w r base t cs) → ∃ cs, v = .agg cs ∧ FitsK ks cs.toList := fun hk h => by
    obtain ⟨cs, rfl, h1, ts, h2, _, h3⟩ := h
    rw [h2] at hk
    simp only at hk
    split at hk
    · rename_i hl
      refine ⟨cs, rfl, okRow (w := w) (r := r) (base := base) ts ks cs.toList hk (by simp; omega) (fun i v e => ?_)⟩
      have hi : i < ts.length := by
        have := (List.getElem?_eq_some_iff.1 e).1
        simp at this; omega
      have := h3 i v (by simpa using e)
      rwa [Nat.mod_eq_of_lt hi] at this
    · cases hk
  split at hk
  · rename_i fs hu
    unfold Value.okWide at h
    rw [hu] at h
    exact key hk h
  · rename_i n e hu
    unfold Value.okWide at h
    rw [hu] at h
    exact key hk h
  · cases hk
/-- A slice: nil, or where it lies. -/
theorem ok_slice {t e : TypeId} (ht : P.underlying t = some (.slice e)) {v : Value} (h : Value.okWide P w r base t v) : v = .slice none 0 0 ∨ ∃ b o len cap, v = .slice (some ⟨b, o, none⟩) len cap ∧ b < w.heap.size := by
  unfold Value.okWide at h
  rw [ht] at h
  simp only at h
  unfold Cell.okWide at h
  rw [ht] at h
  cases v <;> simp only [Cell.ok, ht] at h
  case slice a len cap =>
    cases a with
    | none =>
      left
      cases len <;> cases cap <;> simp_all
    | some a =>
      right
      obtain ⟨b, o, s⟩ := a
      obtain ⟨_, _, _, h2, row, cells, h3, _⟩ := h
      simp only at h2; subst h2
      refine ⟨b, o, len, cap, rfl, ?_⟩
      unfold World.shape? at h3
      split at h3
      · rename_i hb; exact (Array.getElem?_eq_some_iff.1 hb).1
      · cases h3
end
/-- A slice that came in. -/
noncomputable def fsOf (w : World) (v : Value) (esz : Nat) : FS := match v with
  | .slice (some a) len _ => ⟨v, a.block, a.off, len, esz, fun i j => match w.cell? ⟨a.block, a.off + i * esz + j, none⟩ with | some c => cellN c | none => 0⟩
  | _ => ⟨v, 0, 0, 0, esz, fun _ _ => 0⟩
/-- What is asked of a slice that came in. -/
structure SlOk (w : World) (v : Value) (ks : List (Option IntKind)) : Prop where
  shape : v = .slice none 0 0 ∨ ∃ b o len cap, v = .slice (some ⟨b, o, none⟩) len cap ∧ b < w.heap.size
  cells : ∀ a len cap, v = .slice (some a) len cap → ∀ i, i < len → ∃ cs, FitsK ks cs ∧ ∀ j, j < ks.length → w.cell? ⟨a.block, a.off + i * ks.length + j, none⟩ = cs[j]?
theorem SlOk.fok {w : World} {v : Value} {ks : List (Option IntKind)} (h : SlOk w v ks) : (fsOf w v ks.length).v.oneCell' = true ∧ (fsOf w v ks.length).esz = ks.length ∧ (fsOf w v ks.length).v = v ∧
    (((fsOf w v ks.length).v = .slice none 0 0 ∧ (fsOf w v ks.length).len = 0) ∨ ((fsOf w v ks.length).blk < w.heap.size ∧ ∃ c, (fsOf w v ks.length).v = .slice (some ⟨(fsOf w v ks.length).blk, (fsOf w v ks.length).off, none⟩) (fsOf w v ks.length).len c)) ∧
    ∀ i j o, i < (fsOf w v ks.length).len → ks[j]? = some o → w.cell? ⟨(fsOf w v ks.length).blk, (fsOf w v ks.length).off + i * (fsOf w v ks.length).esz + j, none⟩ = some (kindVal o ((fsOf w v ks.length).cell i j)) := by
  rcases h.shape with rfl | ⟨b, o, len, cap, rfl, hb⟩
  · exact ⟨rfl, rfl, rfl, .inl ⟨rfl, rfl⟩, fun i j o hi => absurd hi (Nat.not_lt_zero i)⟩
  · refine ⟨rfl, rfl, rfl, .inr ⟨hb, cap, rfl⟩, fun i j q hi hj => ?_⟩
    obtain ⟨cs, h1, h2⟩ := h.cells _ len cap rfl i hi
    have hjl : j < ks.length := (List.getElem?_eq_some_iff.1 hj).1
    obtain ⟨u, h3, h4⟩ := h1.get j q hj
    have h5 := (h2 j hjl).trans h3
    show w.cell? ⟨b, o + i * ks.length + j, none⟩ = some (kindVal q (match w.cell? ⟨b, o + i * ks.length + j, none⟩ with | some c => cellN c | none => 0))
    rw [show w.cell? ⟨b, o + i * ks.length + j, none⟩ = some u from h5]
    exact congrArg some h4
section
variable {H : Type} {enc : TypeId × Value → H} {P : Program} {w : World} {base : Nat} {spare : Nat → Bool} {held : Bool}
/-- A slice of elements whose reading tells their cells. -/
theorem SlOk.of {t e : TypeId} {r : Reach} {b0 : Nat} {v : Value} {d : DataW H} {ps : List MemPlace} {ks : List (Option IntKind)} (ht : P.underlying t = some (.slice e)) (hval : Value.okWide P w r b0 t v) (h : DataW.Trod enc P w base spare held t v d ps)
    (hC : P.cellsOf e = ks.length) (hel : ∀ (n : Nat) (cs : List Value) x, DataW.trod enc P w base spare held n e cs = some x → FitsK ks cs) : SlOk w v ks := by
  refine ⟨ok_slice ht hval, fun a len cap hv i hi => ?_⟩
  subst hv
  obtain ⟨fuel, hf⟩ := h
  have hf' : DataW.trod enc P w base spare held fuel t [.slice (some a) len cap] = some (d, ps) := hf
  rcases open_slice ht hf' with ⟨h0, _⟩ | ⟨a', len', cap', m, n, D, Pl, h0, _, hl, _, hm, _, hall⟩
  · simp at h0
  · simp at h0
    obtain ⟨rfl, rfl, rfl⟩ := h0
    have him : i < m := by rw [hm]; split <;> omega
    obtain ⟨cs, h1, h2⟩ := hall i him
    refine ⟨cs, hel n cs _ h2, fun j hj => ?_⟩
    obtain ⟨_, h3, h4⟩ := World.cells?_some h1
    have := h4 j (by omega)
    rw [hC] at this
    have hspot : a.spot = none := by
      rcases ok_slice ht hval with h5 | ⟨b, o, l, c, h5, _⟩
      · cases h5
      · injection h5 with h5; injection h5 with h5; rw [h5]
    obtain ⟨b, o, s⟩ := a
    simp only at hspot; subst hspot
    rw [show ((⟨b, o, none⟩ : Addr).add (i * ks.length)).add j = ⟨b, o + i * ks.length + j, none⟩ by
      unfold Addr.add
      by_cases h5 : i * ks.length = 0 <;> by_cases h6 : j = 0 <;> simp [h5, h6]] at this
    exact this
theorem fits_int {e : TypeId} {k : IntKind} (he : P.underlying e = some (.int k)) (n : Nat) (cs : List Value) (x : DataW H × List MemPlace) (h : DataW.trod enc P w base spare held n e cs = some x) : FitsK [some k] cs := by
  obtain ⟨m, rfl, _, h3⟩ := DataW.trod_int he h
  refine ⟨m, [], rfl, ?_, rfl⟩
  simpa [Lit.wf, Bool.and_eq_true, decide_eq_true_eq] using h3
/-- Fields of one cell each, one behind another. -/
noncomputable def oneEach (P : Program) : List Field → Nat → List (Option IntKind) → Bool
  | [], _, [] => true
  | f :: fs, i, k :: ks => Nat.beq f.offset i && (Nat.beq (P.cellsOf f.type) 1 && ((match kindOf P f.type, k with
    | some (some a), some b => beqK a b
    | some none, none => true
    | _, _ => false) && oneEach P fs (i + 1) ks))
  | _, _, _ => false
theorem fits_each {n : Nat} {cs : List Value} : ∀ (fs : List Field) (i : Nat) (ks : List (Option IntKind)), oneEach P fs i ks = true → i + fs.length = cs.length → (∀ f, f ∈ fs → ∃ x, DataW.trod enc P w base spare held n f.type ((cs.drop f.offset).take (P.cellsOf f.type)) = some x) → FitsK ks (cs.drop i)
  | [], i, [], _, hl, _ => by
    have : cs.drop i = [] := List.drop_eq_nil_of_le (by simp at hl; omega)
    rw [this]; rfl
  | [], i, _ :: _, h, _, _ => by cases h
  | _ :: _, i, [], h, _, _ => by cases h
  | f :: fs, i, k :: ks, h, hl, hx => by
    unfold oneEach at h
    simp only [Bool.and_eq_true, Nat.beq_eq] at h
    obtain ⟨h1, h2, h3, h4⟩ := h
    have hi : i < cs.length := by simp at hl; omega
    have hd : cs.drop i = cs[i] :: cs.drop (i + 1) := List.drop_eq_getElem_cons hi
    have ih := fits_each fs (i + 1) ks h4 (by simp at hl; omega) (fun g hg => hx g (by simp [hg]))
    obtain ⟨x, hx0⟩ := hx f (by simp)
    rw [h1, h2, hd, List.take_succ_cons, List.take_zero] at hx0
    rw [hd]
    unfold kindOf at h3
    split at h3
    · rename_i a b hk
      split at hk
      · rename_i k' hu
        injection hk with hk; injection hk with hk; subst hk
        have := beqK_eq h3
        subst this
        obtain ⟨m, e, _, hw⟩ := DataW.trod_int hu hx0
        simp only [List.cons.injEq, and_true] at e
        exact ⟨m, _, by rw [e], by simpa [Lit.wf, Bool.and_eq_true, decide_eq_true_eq] using hw, ih⟩
      · cases hk
      · cases hk
    · rename_i hk
      split at hk
      · cases hk
      · rename_i hu
        obtain ⟨m, e, _⟩ := DataW.trod_bool hu hx0
        simp only [List.cons.injEq, and_true] at e
        exact ⟨m, _, by rw [e], ih⟩
      · cases hk
    · cases h3
theorem fits_struct {e : TypeId} {fs : Array Field} {ks : List (Option IntKind)} (he : P.underlying e = some (.struct fs)) (hb : oneEach P fs.toList 0 ks = true) (hC : P.cellsOf e = fs.size) (n : Nat) (cs : List Value) (x : DataW H × List MemPlace) (h : DataW.trod enc P w base spare held n e cs = some x) : FitsK ks cs := by
  obtain ⟨xs, m, _, _, hl, hxl, hall⟩ := DataW.trod_struct he h
  have := fits_each (enc := enc) (w := w) (base := base) (spare := spare) (held := held) (n := m) (cs := cs) fs.toList 0 ks hb (by simp; omega) (fun f hf => by
    obtain ⟨i, hi, he2⟩ := List.mem_iff_getElem.1 hf
    have hi' : i < fs.size := by simpa using hi
    have h1 := hall i f (by rw [← Array.getElem?_toList, List.getElem?_eq_getElem hi, he2])
    rw [List.getElem?_eq_getElem (by omega)] at h1
    exact ⟨_, h1⟩)
  simpa using this
end
end Go.Proofs.YtjebljnifeoiaaaGreat.Vm
