/- The machine's operations are the model's: what is built, fields, places. No condition but those each theorem names. -/
import Derived.Test.YtjebljnifeoiaaaGreatVmOps2
namespace Go.Proofs.YtjebljnifeoiaaaGreat.Vm
open Go
set_option linter.unusedVariables false
set_option linter.unusedSimpArgs false
section
variable {X : Nat → Prop} {W0 : World} {C : Ctx} {E : Env} {H H' : Heap} {w : World} {v : AV}
theorem foldl_setAll : ∀ (l : List Value) (k off : Nat) (cs : Array Value), (l.zipIdx k).foldl (fun cs (p : Value × Nat) => cs.setIfInBounds (off + p.2) p.1) cs = setAll cs (off + k) l
  | [], _, _, _ => rfl
  | v :: l, k, off, cs => by
    rw [List.zipIdx_cons, List.foldl_cons, foldl_setAll l (k + 1) off, setAll]; rfl
theorem zip_setAll (cells : Array Value) (off : Nat) (cs : Array Value) : (cells.zipIdx.foldl (fun cs (p : Value × Nat) => cs.setIfInBounds (off + p.2) p.1) cs) = setAll cs off cells.toList := by
  rw [← Array.foldl_toList, Array.toList_zipIdx, foldl_setAll]; rfl
/-- The cells of a tree lie in an array. -/
def CRel (E : Env) (c : BT) (D : Array Value) : Prop := ∀ i a, c.get i = some a → ∃ u, D[i]? = some u ∧ Rel E a u
theorem fill_ok {place : Nat → Option (Nat × Nat)} {τ : Tm} {no : R} {κ : BT → R} {r : R} (hn : no ≠ r) {g : Operand → Value} (hf : ∀ s, (E.fs s).v.oneCell' = true) :
    ∀ (l : List (Nat × Operand)) (c : BT) (D : Array Value), Opds E τ g (l.map (·.2)) → fillA l place τ no κ c = r → CRel E c D →
      ∃ c' D', κ c' = r ∧ Instr.fill place D (l.map fun p => (p.1, g p.2)) = some D' ∧ CRel E c' D' ∧ D'.size = D.size ∧ c'.len = c.len
  | [], c, D, _, h, hc => ⟨c, D, h, rfl, hc, rfl, rfl⟩
  | (q, x) :: l, c, D, hx, h, hc => by
    have h' : (onSome (place q) no fun q => onSome (ev x τ) no fun v => ife (Nat.beq (lenAs v.cells) q.2) (ife (Nat.blt 0 q.2) (c.puts q.1 v.cells no fun c => fillA l place τ no κ c) no) no) = r := h
    simp only [onSome_iff hn, ife_iff hn, lenAs_eq, Nat.beq_eq, Nat.blt_eq] at h'
    obtain ⟨⟨off, size⟩, h1, a, h2, h3, h4, h5⟩ := h'
    obtain ⟨c1, h6, h7, h8, h9⟩ := c.puts_ok hn h5
    have hcl := (hx x (by simp) a h2).cells hf
    have hlen := hcl.len
    simp only [Array.length_toList] at hlen
    simp only at h3 h4
    have hD : off + (g x).cells.size ≤ D.size := by
      have := h8 (off + size - 1) (by simp only; omega) (by simp only; omega)
      obtain ⟨b, hb⟩ := Option.isSome_iff_exists.1 this
      obtain ⟨u, hu, _⟩ := hc _ b hb
      have := (Array.getElem?_eq_some_iff.1 hu).1
      omega
    have hc1 : CRel E c1 (setAll D off (g x).cells.toList) := fun i b e => by
      rw [setAll_get _ off D i (by simpa using hD)]
      rw [h7] at e
      simp only at e
      split at e
      · rename_i hi
        obtain ⟨u, hu, hr⟩ := hcl.get _ b e
        exact ⟨u, by rw [if_pos (by simp only [Array.length_toList]; omega)]; exact hu, hr⟩
      · rename_i hi
        obtain ⟨u, hu, hr⟩ := hc i b e
        exact ⟨u, by rw [if_neg (by simp only [Array.length_toList]; omega)]; exact hu, hr⟩
    obtain ⟨c', D', h10, h11, h12, h13, h14⟩ := fill_ok hn hf l c1 _ (fun y hy => hx y (by simp at hy ⊢; right; exact hy)) h9 hc1
    refine ⟨c', D', h10, ?_, h12, by rw [h13, setAll_size], h14.trans h6⟩
    rw [List.map_cons]
    unfold Instr.fill
    simp only [h1]
    rw [if_neg (by simp; omega), zip_setAll]
    exact h11
theorem xBuild_ok (hC : CtxOk C) (hs : SRel X W0 C E H w) {t : Nat} {parts : Array (Nat × Operand)} {τ : Tm} {g : Operand → Value} (hx : Opds E τ g (parts.toList.map (·.2))) (h : xBuild t parts C τ H = .val v H') :
    VOk X W0 C E H w (Instr.build t (parts.map fun (i, x) => (i, g x))) v H' := by
  unfold xBuild at h
  simp only [onSome_iff, ne_eq, reduceCtorEq, not_false_eq_true] at h
  obtain ⟨i, h1, z, h2, h3⟩ := h
  obtain ⟨I, hT⟩ := hC.tinf h1
  obtain ⟨u, hz, hcl, _, _⟩ := zero_ok (E := E) hT h2
  have hend : ∀ {n : Nat} {c' : BT} {D' : Array Value}, (c'.ext 0 (lenAs z) (.bad n) fun vs => .val (.agg vs) H) = .val v H' → CRel E c' D' → D'.size = u.cells.size → H' = H ∧ Rel E v (.agg D') := fun h4 h5 h6 => by
    obtain ⟨vs, h7, h8, h9⟩ := BT.ext_ok _ (by simp) h4
    injection h9 with h9 h10; subst h9 h10
    have hlen := hcl.len
    simp only [Array.length_toList] at hlen
    rw [lenAs_eq] at h7 h8
    refine ⟨rfl, ?_⟩
    simp only [Rel]
    refine ⟨_, rfl, RelL.of (by simp; omega) (fun j a b e1 e2 => ?_)⟩
    have hj : j < z.length := by have := (List.getElem?_eq_some_iff.1 e1).1; omega
    have := h8 j hj
    rw [Nat.zero_add, e1] at this
    obtain ⟨b', hb, hr⟩ := h5 j a this
    rw [Array.getElem?_toList, hb] at e2
    injection e2 with e2; subst e2; exact hr
  have hmap : (parts.map fun (i, x) => (i, g x)).toList = parts.toList.map fun p => (p.1, g p.2) := by simp
  rw [TypeDesc.onStruct_eq] at h3
  split at h3
  · rename_i fs hd
    rw [onSome_iff (by simp)] at h3
    obtain ⟨pl, h4, h5⟩ := h3
    obtain ⟨c', D', h6, h7, h8, h9, h10⟩ := fill_ok (by simp) hs.fk.one parts.toList (.leaf z) u.cells hx h5 (leaf_get hcl)
    obtain ⟨rfl, hr⟩ := hend h6 h8 h9
    rw [hT.plc, hd] at h4
    refine VOk.same hs ?_ hr
    have hpl := run_places (P := C.P) w fs.toList pl h4
    have hfill : Instr.fill (fun x => pl[x]?) u.cells (parts.toList.map fun p => (p.1, g p.2)) = some D' := by
      rw [← h7]; congr 1; funext q; rw [nth_eq]
    simp [Instr.build, hz w, hT.run_und w, hd, Array.mapM_eq_mapM_toList, hpl, hfill]
  · rw [TypeDesc.onArray_iff (by simp)] at h3
    obtain ⟨n, e, hd, h3⟩ := h3
    rw [onSome_iff (by simp)] at h3
    obtain ⟨ei, h4, h5⟩ := h3
    obtain ⟨EI, hE⟩ := hC.tinf h4
    obtain ⟨c', D', h6, h7, h8, h9, h10⟩ := fill_ok (by simp) hs.fk.one parts.toList (.leaf z) u.cells hx h5 (leaf_get hcl)
    obtain ⟨rfl, hr⟩ := hend h6 h8 h9
    refine VOk.same hs ?_ hr
    have hfill : Instr.fill (fun i => some (i * ei.size, ei.size)) u.cells (parts.toList.map fun p => (p.1, g p.2)) = some D' := h7
    simp [Instr.build, hz w, hT.run_und w, hd, hE.run_size w, hfill]
theorem rep_rel {z : List AV} {u : Value} (hcl : RelL E z u.cells.toList) {n size : Nat} (hs : z.length = size) (h0 : 0 < size) (f : Nat) {zero : Array Value} (hz : n * size = 0 ∨ zero = u.cells) :
    CRel E (BT.fill f z n) ((Array.range (n * size)).map (fun x => zero[x % zero.size]!)) ∧ (BT.fill f z n).len = ((Array.range (n * size)).map (fun x => zero[x % zero.size]!)).size := by
  obtain ⟨h1, h2⟩ := BT.fill_ok z f n
  have hlen := hcl.len
  simp only [Array.length_toList] at hlen
  refine ⟨fun i a e => ?_, by rw [h1]; simp [hs]⟩
  obtain ⟨h3, h4⟩ := h2 i a e
  rw [hs] at h3 h4
  rcases hz with hz | hz
  · omega
  · subst hz
    obtain ⟨b, hb, hr⟩ := hcl.get _ a h4
    refine ⟨b, ?_, hr⟩
    rw [Array.getElem?_map, Array.getElem?_range]
    simp only [h3, if_true, Option.map_some]
    rw [show u.cells.size = size by omega]
    have : u.cells[i % size]? = some b := by simpa using hb
    rw [getElem!_def, this]
theorem xBuildSlice_ok (hC : CtxOk C) (hs : SRel X W0 C E H w) {t len : Nat} {parts : Array (Nat × Operand)} {τ : Tm} {g : Operand → Value} (hx : Opds E τ g (parts.toList.map (·.2))) (h : xBuildSlice t len parts C τ H = .val v H') :
    VOk X W0 C E H w (Instr.buildSlice t len (parts.map fun (i, x) => (i, g x))) v H' := by
  unfold xBuildSlice at h
  simp only [onSome_iff, TypeDesc.onSlice_iff, ife_iff, ne_eq, reduceCtorEq, not_false_eq_true, lenAs_eq, Nat.beq_eq, Nat.blt_eq, Nat.ble_eq] at h
  obtain ⟨i, h1, e, hd, ei, h2, h3, h4, z, h5, h6, h7⟩ := h
  obtain ⟨I, hT⟩ := hC.tinf h1
  obtain ⟨EI, hE⟩ := hC.tinf h2
  obtain ⟨u, hz, hcl, _, _⟩ := zero_ok (E := E) hE h5
  have hmul : Nat.mul len ei.size = len * ei.size := rfl
  rw [hmul] at h3
  generalize hzr : (if len * ei.size = 0 then (#[] : Array Value) else u.cells) = zero
  have hzz : len * ei.size = 0 ∨ zero = u.cells := by
    by_cases h : len * ei.size = 0
    · exact .inl h
    · rw [if_neg h] at hzr; exact .inr hzr.symm
  obtain ⟨h8, h9⟩ := rep_rel hcl h6 h4 24 hzz
  obtain ⟨c', D', h10, h11, h12, h13, h14⟩ := fill_ok (by simp) hs.fk.one parts.toList _ _ hx h7 h8
  obtain ⟨H1, E1, k1, k2, k3, k4, k5, k6, k7⟩ := new_ok hs (by simp) h10 (us := D') (fun _ => by rw [h14, h9, h13]) h12
  injection k1 with k1 k8; subst k1 k8
  have hfill : Instr.fill (fun i => some (i * ei.size, ei.size)) ((Array.range (len * ei.size)).map (fun x => zero[x % zero.size]!)) (parts.toList.map fun p => (p.1, g p.2)) = some D' := h11
  refine ⟨.slice (some ⟨w.heap.size, 0, none⟩) len len, _, E1, ?_, k3, ?_, k2, k6, k7, by omega⟩
  · unfold Instr.buildSlice
    simp only [Sem.run_bind, hT.run_und w, Result.andThen_ok, hd, hE.run_size w]
    rw [if_neg (by omega)]
    by_cases h0 : len * ei.size = 0
    · rw [if_pos h0] at hzr ⊢
      subst hzr
      simp at hfill
      simp [hfill, newRow, newObj, Sem.run]
    · rw [if_neg h0] at hzr ⊢
      subst hzr
      simp [hz w, hfill, newRow, newObj, Sem.run]
  · simp only [Rel]
    refine ⟨_, _, _, len, k4, rfl, Nat.le_refl _, Nat.le_refl _, fun _ => rfl, ?_⟩
    rw [h13]; simp
end
end Go.Proofs.YtjebljnifeoiaaaGreat.Vm
