/- The machine's operations are the model's: memory. No condition but those each theorem names. -/
import Derived.Test.YtjebljnifeoiaaaGreatVmOps1
namespace Go.Proofs.YtjebljnifeoiaaaGreat.Vm
open Go
set_option linter.unusedVariables false
set_option linter.unusedSimpArgs false
section
variable {X : Nat → Prop} {W0 : World} {C : Ctx} {E : Env} {H H' : Heap} {w : World} {v : AV}
theorem isRow_of {d : TypeDesc} (h : isAggD d = true) : d.isRow = true := by cases d <;> first | rfl | (simp [isAggD] at h)
/-- A stretch of cells that is known lies there. -/
theorem range_of {c : BT} {D : Array Value} {ba : Nat} (hc : ∀ i a, c.get i = some a → ∃ v, D[ba + i]? = some v ∧ Rel E a v) {o n : Nat} {vs : List AV} (hl : vs.length = n) (hg : ∀ j, j < n → c.get (o + j) = vs[j]?) :
    ∃ us : List Value, RelL E vs us ∧ us = (D.extract (ba + o) (ba + o + n)).toList := by
  have hj : ∀ j, j < n → ∃ a u, vs[j]? = some a ∧ D[ba + o + j]? = some u ∧ Rel E a u := fun j hj => by
    have h1 := hg j hj
    have h2 : vs[j]? = some vs[j] := List.getElem?_eq_getElem (by omega)
    rw [h2] at h1
    obtain ⟨u, h3, h4⟩ := hc _ _ h1
    exact ⟨_, u, h2, by rw [show ba + o + j = ba + (o + j) by omega]; exact h3, h4⟩
  have hsz : n = 0 ∨ ba + o + n ≤ D.size := by
    rcases Nat.eq_zero_or_pos n with h | h
    · exact .inl h
    · obtain ⟨a, u, _, h2, _⟩ := hj (n - 1) (by omega)
      have := (Array.getElem?_eq_some_iff.1 h2).1
      exact .inr (by omega)
  refine ⟨_, RelL.of ?_ (fun i a u e1 e2 => ?_), rfl⟩
  · simp only [Array.length_toList, Array.size_extract]; omega
  · have hi : i < n := by have := (List.getElem?_eq_some_iff.1 e1).1; omega
    obtain ⟨a', u', h1, h2, h3⟩ := hj i hi
    rw [e1] at h1; injection h1 with h1; subst h1
    simp only [Array.getElem?_toList, Array.getElem?_extract] at e2
    split at e2
    · rw [e2] at h2; injection h2 with h2; subst h2; exact h3
    · cases e2
theorem loadC_ok (hC : CtxOk C) (hs : SRel X W0 C E H w) {t b o : Nat} {no : R} {κ : AV → R} {r : R} (hn : no ≠ r) (h : loadC C H t b o no κ = r) :
    ∃ a, κ a = r ∧ ∀ rr ba en, E.ρ b = some (rr, ba, en) → ∃ u, (loadVar t ⟨rr, ba + o, none⟩).run C.P w = .ok u w ∧ Rel E a u := by
  unfold loadC at h
  simp only [onSome_iff hn, Blk.onCells_iff hn] at h
  obtain ⟨i, h1, k, h2, t', x, c, rfl, h3⟩ := h
  obtain ⟨I, hT⟩ := hC.tinf h1
  obtain ⟨rr, ba, en, h4, D, h5, h6, h7, h8⟩ := hs.read h2
  rw [ife_eq] at h3
  split at h3
  · rename_i ha
    obtain ⟨vs, h9, h10, h11⟩ := c.ext_ok hn h3
    obtain ⟨us, h12, h13⟩ := range_of h8 h9 h10
    refine ⟨_, h11, fun rr' ba' en' e => ?_⟩
    rw [h4] at e; injection e with e; injection e with e1 e; injection e with e2 e3; subst e1 e2 e3
    refine ⟨.agg us.toArray, run_loadVar_mid w rr (ba + o) t us i.d (h13 ▸ World.rangeAt_of_block h5 (ba + o) i.size) hT.und (isRow_of (hT.agg ▸ ha)) ?_, by simp only [Rel]; exact ⟨_, rfl, by simpa using h12⟩⟩
    rw [hT.info, h12.len, h9]; simp [hT.size]
  · rename_i ha
    rw [onSome_iff hn] at h3
    obtain ⟨a, h9, h10⟩ := h3
    obtain ⟨u, h11, h12⟩ := h8 o a h9
    refine ⟨a, h10, fun rr' ba' en' e => ?_⟩
    rw [h4] at e; injection e with e; injection e with e1 e; injection e with e2 e3; subst e1 e2 e3
    refine ⟨u, ?_, h12⟩
    have hc : w.cell? ⟨rr, ba + o, none⟩ = some u := (cell_of_row w rr (ba + o) D t' (0, 0) h5).trans h11
    have hag := hT.run_agg w
    rw [show i.agg = false by simpa using ha] at hag
    simp [loadVar, hag, load, Sem.run, hc]
theorem xLoad_ok (hC : CtxOk C) (hs : SRel X W0 C E H w) {t : Nat} {x : Operand} {τ : Tm} {g : Operand → Value} (hx : Opds E τ g [x]) (h : xLoad t x C τ H = .val v H') : VOk X W0 C E H w (Instr.loadAt t (g x)) v H' := by
  unfold xLoad at h
  rw [onSome_iff (by simp)] at h
  obtain ⟨p, h1, h2⟩ := h
  have hp := hx x (by simp) p h1
  rw [AV.onPtr_eq] at h2
  split at h2
  · rename_i b o
    simp only [Rel] at hp
    obtain ⟨rr, ba, en, h3, h4⟩ := hp
    obtain ⟨a, h5, h6⟩ := loadC_ok hC hs (by simp) h2
    injection h5 with h5 h7; subst h5 h7
    obtain ⟨u, h8, h9⟩ := h6 rr ba en h3
    exact VOk.same hs (by rw [h4]; simp [Instr.loadAt, Instr.sureAddr, h8]) h9
  · rw [AV.onFpt_iff (by simp)] at h2
    obtain ⟨s, q, j, rfl, h2⟩ := h2
    unfold xLoadF at h2
    simp only [onSome_iff, ne_eq, reduceCtorEq, not_false_eq_true] at h2
    obtain ⟨i, h3, o, h4, h5⟩ := h2
    obtain ⟨I, hT⟩ := hC.tinf h3
    unfold kindAt at h4
    rw [onSome_iff (by simp)] at h4
    obtain ⟨ks, h6, h7⟩ := h4
    rw [nth_eq] at h7
    simp only [Rel] at hp
    obtain ⟨hp1, hp2, hp3⟩ := hp
    have hcell := hs.fk.cell s ks (q.den E).toNat j o h6 (by omega) h7
    have hval := (hs.fk.val s ks h6).2
    have hX : X (E.fs s).blk := by
      rcases hval with ⟨_, h8⟩ | ⟨h8, _⟩
      · omega
      · exact h8
    have hc : w.cell? ⟨(E.fs s).blk, (E.fs s).off + (q.den E).toNat * (E.fs s).esz + j, none⟩ = some (kindVal o ((E.fs s).cell (q.den E).toNat j)) := by
      rw [← hcell]; unfold World.cell?; simp only [(hs.keep _ hX).1]
    have hrun : ∀ (hag : i.agg = false), (Instr.loadAt t (g x)).run C.P w = .ok (kindVal o ((E.fs s).cell (q.den E).toNat j)) w := fun hag => by
      have := hT.run_agg w
      rw [hag] at this
      rw [hp1]; simp [Instr.loadAt, Instr.sureAddr, loadVar, this, load, Sem.run, hc]
    cases o with
    | none =>
      rw [onSome_none, TypeDesc.onBool_iff (by simp)] at h5
      obtain ⟨h8, h9⟩ := h5
      injection h9 with h9 h10; subst h9 h10
      exact VOk.same hs (hrun (by rw [hT.agg, h8]; rfl)) (by simp [Rel, SB.den, kindVal])
    | some k' =>
      simp only [onSome_some, TypeDesc.onInt_iff, ne_eq, reduceCtorEq, not_false_eq_true, ife_iff] at h5
      obtain ⟨k, h8, h9, h10⟩ := h5
      injection h10 with h10 h11; subst h10 h11
      have := beqK_eq h9; subst this
      exact VOk.same hs (hrun (by rw [hT.agg, h8]; rfl)) (by simp [Rel, SI.den, kindVal])

/-! ### Stores -/
noncomputable def setAll : Array Value → Nat → List Value → Array Value
  | cs, _, [] => cs
  | cs, o, v :: r => setAll (cs.setIfInBounds o v) (o + 1) r
theorem setCells_block (t : TypeId) (g : Nat) : ∀ (vs : List Value) (o : Nat) (w : World) (cs : Array Value), w.heap[g]? = some (.cells cs t (0, 0)) → (w.setCells g o vs).heap[g]? = some (.cells (setAll cs o vs) t (0, 0))
  | [], _, _, _, h => h
  | v :: r, o, w, cs, h => setCells_block t g r (o + 1) _ _ (heap_setCell_same w g o cs t v h)
theorem setAll_size : ∀ (vs : List Value) (o : Nat) (cs : Array Value), (setAll cs o vs).size = cs.size
  | [], _, _ => rfl
  | v :: r, o, cs => by rw [setAll, setAll_size r]; simp
theorem setAll_get : ∀ (vs : List Value) (o : Nat) (cs : Array Value) (i : Nat), o + vs.length ≤ cs.size → (setAll cs o vs)[i]? = if o ≤ i ∧ i < o + vs.length then vs[i - o]? else cs[i]?
  | [], o, cs, i, h => by rw [setAll, if_neg (by simp)]
  | v :: r, o, cs, i, h => by
    simp only [List.length_cons] at h ⊢
    rw [setAll, setAll_get r (o + 1) _ i (by simp; omega)]
    by_cases h1 : o + 1 ≤ i ∧ i < o + 1 + r.length
    · rw [if_pos h1, if_pos (by omega), show i - o = (i - (o + 1)) + 1 by omega, List.getElem?_cons_succ]
    · rw [if_neg h1, Array.getElem?_setIfInBounds]
      by_cases h2 : o = i
      · subst h2; rw [if_pos rfl, if_pos (by omega), if_pos (by omega)]; simp
      · rw [if_neg h2, if_neg (by omega)]
theorem allOne_ok : ∀ {l : List AV} {m : List Value}, allOne l = true → RelL E l m → (∀ s, (E.fs s).v.oneCell' = true) → ∀ v ∈ m, v.oneCell' = true
  | [], m, _, h, _ => by rw [RelL.nil_iff] at h; subst h; simp
  | a :: l, m, ho, h, hf => by
    have ho' : ife (oneCell a) (allOne l) false = true := ho
    rw [ife_iff (by simp)] at ho'
    rw [RelL.cons_iff] at h
    obtain ⟨v, m', rfl, h1, h2⟩ := h
    intro u hu
    simp only [List.mem_cons] at hu
    rcases hu with rfl | hu
    · exact h1.one ho'.1 hf
    · exact allOne_ok ho'.2 h2 hf u hu
theorem storeB_ok (hs : SRel X W0 C E H w) {b o : Nat} {vs : List AV} {no : R} {κ : Heap → R} {r : R} (hn : no ≠ r) (h : storeB H b o vs no κ = r) {us : List Value} (hu : RelL E vs us) :
    ∃ H' rr ba en, E.ρ b = some (rr, ba, en) ∧ κ H' = r ∧ SRel X W0 C E H' (w.setCells rr (ba + o) us) ∧ H'.next = H.next ∧ H'.ro = H.ro ∧ H'.lim = H.lim ∧
      (∀ j, j < us.length → (w.cell? ⟨rr, ba + o + j, none⟩).isSome = true) ∧ (∀ j, j < us.length → w.frozen? ⟨rr, ba + o + j, none⟩ = false) := by
  unfold storeB at h
  simp only [onSome_iff hn, Blk.onCells_iff hn, getK_eq] at h
  obtain ⟨k, h1, t, x, c, rfl, h2⟩ := h
  obtain ⟨rr, ba, en, h3, h4, D, h5, h6, h7, h8⟩ := hs.own b _ h1
  obtain ⟨c', h9, h10, h11, h12⟩ := c.puts_ok hn h2
  rw [Heap.setB_eq] at h12
  have hl : us.length = vs.length := hu.len
  have hin : ∀ j, j < us.length → ∃ u, D[ba + o + j]? = some u := fun j hj => by
    have := h11 (o + j) (by omega) (by omega)
    obtain ⟨a, ha⟩ := Option.isSome_iff_exists.1 this
    obtain ⟨u, hu, _⟩ := h8 _ a ha
    exact ⟨u, by rw [show ba + o + j = ba + (o + j) by omega]; exact hu⟩
  have hsz : us.length = 0 ∨ ba + o + us.length ≤ D.size := by
    rcases Nat.eq_zero_or_pos us.length with h | h
    · exact .inl h
    · obtain ⟨u, hu⟩ := hin (us.length - 1) (by omega)
      have := (Array.getElem?_eq_some_iff.1 hu).1
      exact .inr (by omega)
  refine ⟨_, rr, ba, en, h3, h12, ?_, rfl, rfl, rfl, fun j hj => ?_, fun j hj => ?_⟩
  · refine hs.upd h1 h3 (Turned.setCells rr us (ba + o) w) (fun k' e => ?_) (.inr (fun es e => by cases e))
    injection e with e; subst e
    rcases hsz with h0 | hsz
    · have hus : us = [] := List.length_eq_zero_iff.1 h0
      subst hus
      have hvs : vs = [] := List.length_eq_zero_iff.1 hl.symm
      subst hvs
      refine ⟨D, h5, h6, fun hx => ⟨(h7 hx).1, h9.trans (h7 hx).2⟩, fun i a e => h8 i a ?_⟩
      rw [h10, if_neg (by simp)] at e; exact e
    · refine ⟨_, setCells_block t rr us (ba + o) w D h5, by rw [setAll_size]; exact h6, fun hx => ⟨(h7 hx).1, by rw [setAll_size, h9]; exact (h7 hx).2⟩, fun i a e => ?_⟩
      rw [setAll_get us _ D _ hsz]
      rw [h10] at e
      split at e
      · rename_i hi
        obtain ⟨u, h13, h14⟩ := hu.get _ a e
        refine ⟨u, ?_, h14⟩
        rw [if_pos (by omega), ← h13]; congr 1; omega
      · rename_i hi
        obtain ⟨u, h13, h14⟩ := h8 i a e
        exact ⟨u, by rw [if_neg (by omega)]; exact h13, h14⟩
  · obtain ⟨u, hu⟩ := hin j hj
    rw [cell_of_row w rr _ D t (0, 0) h5, hu]; rfl
  · exact frozen_of_row w rr _ D t h5
theorem xStore_ok (hC : CtxOk C) (hs : SRel X W0 C E H w) {t : Nat} {x y : Operand} {τ : Tm} {g : Operand → Value} (hx : Opds E τ g [x, y]) (h : xStore t x y C τ H = .val v H') :
    XOk X W0 C E H w (do Instr.storeAt t (g x) (g y); pure .skip) v H' := by
  unfold xStore at h
  simp only [onSome_iff, AV.onPtr_iff, ne_eq, reduceCtorEq, not_false_eq_true] at h
  obtain ⟨p, h1, a, h2, b, o, rfl, h3⟩ := h
  have hp := hx x (by simp) _ h1
  have ha := hx y (by simp) _ h2
  simp only [Rel] at hp
  obtain ⟨rr, ba, en, h4, h5⟩ := hp
  unfold storeC at h3
  simp only [onSome_iff, ife_iff, ne_eq, reduceCtorEq, not_false_eq_true] at h3
  obtain ⟨i, h6, h7, h8, h9⟩ := h3
  obtain ⟨I, hT⟩ := hC.tinf h6
  have hcl := ha.cells hs.fk.one
  obtain ⟨H1, rr', ba', en', h10, h11, h12, h13, h14, h15, h16, h17⟩ := storeB_ok hs (by simp) h9 hcl
  injection h11 with h11 h18; subst h11 h18
  rw [h4] at h10; injection h10 with h10; injection h10 with e1 e; injection e with e2 e3; subst e1 e2 e3
  have h1' := allOne_ok h8 hcl hs.fk.one
  have hrun := run_storeCells_cells (P := C.P) rr (ba + o) (g y).cells.toList 0 w (by simpa using h16) (by simpa using h17) h1'
  refine ⟨.skip, undef, _, E, ?_, rfl, by rw [h13]; exact Grew.refl _ _ _, undef_rel, h12, h14, h15, by omega⟩
  have hsize : (g y).cells.size = i.size := by
    have := hcl.len
    simp only [Array.length_toList] at this
    rw [this]; simpa [lenAs_eq, Nat.beq_eq] using h7
  rw [h5]
  simp only [Nat.add_zero] at hrun
  simp [Instr.storeAt, Instr.sureAddr, storeVar, hT.run_size w, hsize, hrun]

/-! ### New blocks -/
/-- A block of cells is made. -/
theorem new_ok (hs : SRel X W0 C E H w) {t : Nat} {ex : Bool} {c : BT} {no : R} {κ : Nat → Heap → R} {r : R} (hn : no ≠ r) (h : H.new (.cells t ex c) no κ = r) {us : Array Value} (hlen : ex = true → c.len = us.size)
    (hc : ∀ i a, c.get i = some a → ∃ u, us[i]? = some u ∧ Rel E a u) :
    ∃ H' E', κ H.next H' = r ∧ SRel X W0 C E' H' (w.alloc (.cells us t (0, 0))) ∧ Grew E E' H.next H'.next ∧ E'.ρ H.next = some (w.heap.size, 0, us.size) ∧ H'.next = H.next + 1 ∧ H'.ro = H.ro ∧ H'.lim = H.lim := by
  rw [Heap.new_iff hn] at h
  obtain ⟨h1, h2⟩ := h
  have x : Ext E (E.add H.next (w.heap.size, 0, us.size)) := Env.add_ext _ (hs.fresh _ (Nat.le_refl _) h1)
  obtain ⟨h3, h4⟩ := hs.new h1 (.cells us t (0, 0)) us.size (k := .cells t ex c) ⟨us, alloc_new _ _, rfl, fun hx => ⟨rfl, hlen hx⟩, fun i a e => let ⟨u, h5, h6⟩ := hc i a e; ⟨u, by simpa using h5, h6.ext x⟩⟩
  exact ⟨_, _, h2, h3, h4, by show (if H.next = H.next then _ else _) = _; rw [if_pos rfl], rfl, rfl, rfl⟩
theorem leaf_get {l : List AV} {us : Array Value} (h : RelL E l us.toList) : ∀ i a, (BT.leaf l).get i = some a → ∃ u, us[i]? = some u ∧ Rel E a u := fun i a e => by
  rw [BT.get_leaf] at e
  obtain ⟨u, h1, h2⟩ := h.get i a e
  exact ⟨u, by simpa using h1, h2⟩
theorem leaf_len {l : List AV} {us : Array Value} (h : RelL E l us.toList) : (BT.leaf l).len = us.size := by rw [BT.len_leaf]; have := h.len; simpa using this.symm
theorem xBox_ok (hs : SRel X W0 C E H w) {t : Nat} {x : Operand} {τ : Tm} {g : Operand → Value} (hx : Opds E τ g [x]) (h : xBox t x C τ H = .val v H') : VOk X W0 C E H w (Instr.box t (g x)) v H' := by
  unfold xBox at h
  simp only [onSome_iff, ife_iff, ne_eq, reduceCtorEq, not_false_eq_true] at h
  obtain ⟨a, h1, h2, h3⟩ := h
  have hcl := (hx x (by simp) _ h1).cells hs.fk.one
  obtain ⟨H1, E1, h4, h5, h6, h7, h8, h9, h10⟩ := new_ok hs (by simp) h3 (fun _ => leaf_len hcl) (leaf_get hcl)
  injection h4 with h4 h11; subst h4 h11
  refine ⟨.pointer (some ⟨w.heap.size, 0, none⟩), _, E1, ?_, h6, ?_, h5, h9, h10, by omega⟩
  · simp [Instr.box, newVar, newRow, newObj, Sem.run]
  · simp only [Rel]; exact ⟨_, _, _, h7, rfl⟩
theorem zero_ok {P : Program} {t : Nat} {i : TInf} {I : TypeInfo} (hT : TOk P t i I) {z : List AV} (h : i.zero = some z) : ∃ u, (∀ w, (zeroValue t).run P w = .ok u w) ∧ RelL E z u.cells.toList ∧ allOne z = true ∧ I.zero = some u := by
  rw [hT.zero] at h
  cases hz : I.zero with
  | none => rw [hz] at h; cases h
  | some u =>
    rw [hz] at h
    obtain ⟨h1, h2⟩ := ofCells_rel (E := E) (show ofCells u.cells.toList = some z from h)
    exact ⟨u, fun w => by simp [zeroValue, hT.run_info w, hz], h1, h2, rfl⟩
theorem xAlloc_ok (hC : CtxOk C) (hs : SRel X W0 C E H w) {t : Nat} {τ : Tm} (h : xAlloc t C τ H = .val v H') : VOk X W0 C E H w (Instr.alloc t true (.tuple #[])) v H' := by
  unfold xAlloc at h
  simp only [onSome_iff, ne_eq, reduceCtorEq, not_false_eq_true] at h
  obtain ⟨i, h1, z, h2, h3⟩ := h
  obtain ⟨I, hT⟩ := hC.tinf h1
  obtain ⟨u, hz, hcl, _, _⟩ := zero_ok (E := E) hT h2
  obtain ⟨H1, E1, h4, h5, h6, h7, h8, h9, h10⟩ := new_ok hs (by simp) h3 (fun _ => leaf_len hcl) (leaf_get hcl)
  injection h4 with h4 h11; subst h4 h11
  refine ⟨.pointer (some ⟨w.heap.size, 0, none⟩), _, E1, ?_, h6, ?_, h5, h9, h10, by omega⟩
  · simp [Instr.alloc, hz w, newVar, newRow, newObj, Sem.run]
  · simp only [Rel]; exact ⟨_, _, _, h7, rfl⟩
end
end Go.Proofs.YtjebljnifeoiaaaGreat.Vm
