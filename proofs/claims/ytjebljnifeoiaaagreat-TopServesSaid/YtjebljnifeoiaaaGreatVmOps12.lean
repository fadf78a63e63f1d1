/- The machine's operations are the model's: what is read to be laid elsewhere; copies, lengths. No condition but those each theorem names. -/
import Derived.Test.YtjebljnifeoiaaaGreatVmOps11
import Derived.Laws.AppendOwn
namespace Go.Proofs.YtjebljnifeoiaaaGreat.Vm
open Go
set_option linter.unusedVariables false
set_option linter.unusedSimpArgs false
section
variable {X : Nat → Prop} {W0 : World} {C : Ctx} {E : Env} {H H' : Heap} {w : World} {v : AV}
theorem bytesOf_rel : ∀ (l : List UInt8), RelL E (bytesOf (l.map UInt8.toNat)) (l.map fun b => Value.int .u8 (b.toNat : Int))
  | [] => RelL.nil
  | b :: l => RelL.cons (by simp [Rel, SI.den]) (bytesOf_rel l)
theorem bytesOf_len : ∀ (l : List Nat), (bytesOf l).length = l.length
  | [] => rfl
  | b :: l => by show (bytesOf l).length + 1 = _; rw [bytesOf_len l]; rfl
/-- A stretch of a block of cells, read. -/
theorem readB_ok (hs : SRel X W0 C E H w) {b o n : Nat} {no : R} {κ : List AV → R} {r : R} (hn : no ≠ r) (h : readB H b o n no κ = r) {rr ba en : Nat} (e : E.ρ b = some (rr, ba, en)) :
    ∃ vs us, κ vs = r ∧ vs.length = n ∧ RelL E vs us ∧ (∀ j u, us[j]? = some u → w.cell? ⟨rr, ba + o + j, none⟩ = some u) ∧ ∀ w' : World, w'.heap = w.heap → (loadCells ⟨rr, ba + o, none⟩ n).run C.P w' = .ok us.toArray w' := by
  unfold readB at h
  rw [ife_eq] at h
  split at h
  · rename_i h0
    rw [Nat.beq_eq] at h0
    subst h0
    exact ⟨[], [], h, rfl, RelL.nil, fun j u e => by simp at e, fun w' _ => rfl⟩
  · simp only [onSome_iff hn, Blk.onCells_iff hn] at h
    obtain ⟨k, h1, t, x, c, rfl, h2⟩ := h
    obtain ⟨rr', ba', en', e', D, h3, h4, h5, h6⟩ := hs.read h1
    rw [e] at e'; injection e' with e'; injection e' with e1 e'; injection e' with e2 e3; subst e1 e2 e3
    obtain ⟨vs, h7, h8, h9⟩ := c.ext_ok hn h2
    have hj : ∀ j, j < n → ∃ a u, vs[j]? = some a ∧ D[ba + o + j]? = some u ∧ Rel E a u := fun j hj => by
      have h1 := h8 j hj
      have h2 : vs[j]? = some vs[j] := List.getElem?_eq_getElem (by omega)
      rw [h2] at h1
      obtain ⟨u, h3, h4⟩ := h6 _ _ h1
      exact ⟨_, u, h2, by rw [show ba + o + j = ba + (o + j) by omega]; exact h3, h4⟩
    obtain ⟨us, h10, h11⟩ := range_of h6 h7 h8
    have hul : us.length = n := by rw [h10.len, h7]
    have hcell : ∀ j u, us[j]? = some u → w.cell? ⟨rr, ba + o + j, none⟩ = some u := fun j u hu => by
      have hjl : j < n := by have := (List.getElem?_eq_some_iff.1 hu).1; omega
      rw [h11] at hu
      simp only [Array.getElem?_toList, Array.getElem?_extract] at hu
      split at hu
      · simp only [World.cell?, h3]
        exact hu
      · cases hu
    refine ⟨vs, us, h9, h7, h10, hcell, fun w' hw => ?_⟩
    rw [← hul]
    refine run_loadCells_list w' _ us (fun j u hu => ?_)
    rw [add_none, ← hcell j u hu]
    simp only [World.cell?, hw]
/-- How long a slice or a string is. -/
theorem lenA_ok {v : AV} {n : Nat} {u : Value} (h : lenA v = some n) (r : Rel E v u) (w : World) : (Builtin.lenOf u).run C.P w = .ok n w ∧ ((∃ a c, u = .slice a n c) ∨ ∃ s : ByteArray, u = .string s ∧ s.size = n) := by
  unfold lenA at h
  rw [AV.onSlc_eq] at h
  split at h
  · injection h with h; subst h
    simp only [Rel] at r
    obtain ⟨_, _, _, c, _, rfl, _⟩ := r
    exact ⟨by simp [Builtin.lenOf], .inl ⟨_, _, rfl⟩⟩
  · rw [AV.onStr_eq] at h
    split at h
    · injection h with h; subst h
      simp only [Rel] at r
      obtain ⟨s, rfl, hl⟩ := r
      have : s.size = lenL ‹List Nat› := by rw [lenL_eq, ← hl]; show s.data.size = _; simp
      exact ⟨by simp [Builtin.lenOf, this], .inr ⟨s, rfl, this⟩⟩
    · rw [AV.onNils_eq] at h
      split at h
      · injection h with h; subst h
        simp only [Rel] at r
        subst r
        exact ⟨by simp [Builtin.lenOf], .inl ⟨_, _, rfl⟩⟩
      · rw [AV.onEtl_iff (by simp)] at h
        obtain ⟨_, _, _, _, rfl, h⟩ := h
        injection h with h; subst h
        simp only [Rel] at r
        obtain ⟨_, _, _, _, c, _, rfl, _⟩ := r
        exact ⟨by simp [Builtin.lenOf], .inl ⟨_, _, rfl⟩⟩
theorem readsA_ok (hs : SRel X W0 C E H w) {size n m : Nat} {v : AV} {u : Value} {no : R} {κ : List AV → R} {r : R} (hn : no ≠ r) (h : readsA H size n v no κ = r) (hl : lenA v = some m) (hm : n ≤ m) (hv : Rel E v u) :
    ∃ vs us, κ vs = r ∧ vs.length = n * size ∧ RelL E vs us ∧ ∀ w' : World, w'.heap = w.heap → (Builtin.firstCells size n u).run C.P w' = .ok us.toArray w' := by
  unfold readsA at h
  unfold lenA at hl
  rw [AV.onSlc_eq] at h hl
  split at h
  · rename_i b o len lo ex esz
    rw [ife_iff hn, Nat.beq_eq] at h
    obtain ⟨rfl, h⟩ := h
    simp only [Rel] at hv
    obtain ⟨rr, ba, en, c, e, rfl, _⟩ := hv
    obtain ⟨vs, us, h1, h2, h3, _, h4⟩ := readB_ok hs hn h e
    exact ⟨vs, us, h1, h2, h3, fun w' hw => by simp only [Builtin.firstCells]; exact h4 w' hw⟩
  · rw [AV.onStr_eq] at h hl
    split at h
    · rename_i l _
      simp only [ife_iff hn, Nat.beq_eq, takeN_iff hn] at h
      obtain ⟨rfl, h1, h2⟩ := h
      simp only [Rel] at hv
      obtain ⟨s, rfl, hs'⟩ := hv
      refine ⟨_, (s.data.toList.take n).map (fun b => Value.int .u8 (b.toNat : Int)), h2, by rw [bytesOf_len]; simp; omega, ?_, fun w' _ => ?_⟩
      · rw [← hs', ← List.map_take]; exact bytesOf_rel _
      · simp only [Builtin.firstCells, Sem.run_pure]
        congr 1
        apply Array.toList_inj.1
        simp [ByteArray.data_extract, List.extract_eq_take_drop]
    · rw [AV.onNils_eq] at h hl
      split at h
      · injection hl with hl; subst hl
        obtain rfl : n = 0 := by omega
        simp only [Rel] at hv
        subst hv
        exact ⟨[], [], h, by simp, RelL.nil, fun w' _ => by simp [Builtin.firstCells]⟩
      · rw [AV.onEtl_iff hn] at h
        obtain ⟨b, o1, o2, z, rfl, h⟩ := h
        rw [AV.onEtl_eq] at hl
        injection hl with hl; subst hl
        obtain rfl : n = 0 := by omega
        simp only [Rel] at hv
        obtain ⟨_, _, _, _, c, _, rfl, _⟩ := hv
        exact ⟨[], [], h, by simp, RelL.nil, fun w' _ => by simp only [Builtin.firstCells, Nat.zero_mul]; rfl⟩
theorem retN_ok (hs : SRel X W0 C E H w) {n : Nat} {s : Sem Value} (h : retN H n = .val v H') (hr : s.run C.P w = .ok (goInt n) w) : VOk X W0 C E H w s v H' := by
  unfold retN at h
  injection h with h1 h2; subst h1 h2
  exact VOk.same hs hr (by simp [Rel, SI.den, goInt])
theorem xCopy_ok (hC : CtxOk C) (hs : SRel X W0 C E H w) {t ty : Nat} {ts : Array TypeId} {d s : AV} {u q : Value} (hd : Rel E d u) (hq : Rel E s q) (ht : ts[0]? = some t) (h : xCopy t d s C H = .val v H') :
    VOk X W0 C E H w (Builtin.copy_ ts ty #[u, q]) v H' := by
  unfold xCopy at h
  simp only [onSome_iff, TypeDesc.onSlice_iff, ne_eq, reduceCtorEq, not_false_eq_true, forceN_eq] at h
  obtain ⟨i, h1, el, hdd, ei, h2, sn, h3, dn, h4, h5⟩ := h
  obtain ⟨I, hT⟩ := hC.tinf h1
  obtain ⟨J, hE⟩ := hC.tinf h2
  obtain ⟨hls, hls'⟩ := lenA_ok (C := C) h3 hq w
  obtain ⟨hld, hld'⟩ := lenA_ok (C := C) h4 hd w
  rw [AV.onStr_eq] at h5
  split at h5
  · cases h5
  · rename_i hns
    have hdu : ∃ a c, u = .slice a dn c := by
      rcases hld' with h | ⟨s', rfl, _⟩
      · exact h
      · exfalso
        cases d <;> simp only [Rel] at hd <;> first | (exact hns _ rfl) | (cases hd; done) | skip
        all_goals first | (obtain ⟨_, h, _⟩ := hd; cases h; done) | (obtain ⟨_, _, _, _, h⟩ := hd; cases h; done) | (obtain ⟨_, _, _, _, _, h, _⟩ := hd; cases h; done) | (obtain ⟨_, _, _, _, _, _, h, _⟩ := hd; cases h; done) | (obtain ⟨h, _⟩ := hd; cases h; done) | (cases h4; done)
    obtain ⟨a, c, rfl⟩ := hdu
    have hmin : ife (Nat.ble sn dn) sn dn = Nat.min sn dn := by
      rw [ife_eq]; simp only [Nat.ble_eq]; rfl
    rw [hmin] at h5
    have hstep : ∀ us w', (Builtin.firstCells ei.size (Nat.min sn dn) q).run C.P w = .ok us w → (∀ A, a = some A → (storeCells A us.toList).run C.P w = .ok () w') → (a = none → w' = w) →
        (Builtin.copy_ ts ty #[.slice a dn c, q]).run C.P w = .ok (goInt (Nat.min sn dn : Nat)) w' := fun us w' h1 h2 h3 => by
      unfold Builtin.copy_
      simp only [ht, List.getElem?_toArray, List.getElem?_cons_zero, List.getElem?_cons_succ, Sem.run_bind, hT.run_und w, Result.andThen_ok, hdd, hls, hE.run_size w, h1, Sem.run_pure]
      cases a with
      | none => rw [h3 rfl]; simp
      | some A => simp [h2 A rfl]
    rw [ife_eq] at h5
    split at h5
    · rename_i h0
      rw [Nat.beq_eq] at h0
      injection h5 with h5 h6; subst h5 h6
      rw [h0] at hstep
      refine VOk.same (u := goInt (0 : Nat)) hs (hstep #[] w ?_ (fun A _ => rfl) (fun _ => rfl)) (by simp [Rel, SI.den, goInt])
      rcases hls' with ⟨b, c', rfl⟩ | ⟨s', rfl, _⟩
      · cases b with
        | none => simp [Builtin.firstCells]
        | some b => simp only [Builtin.firstCells, Nat.zero_mul]; rfl
      · simp only [Builtin.firstCells, Sem.run_pure]
        congr 1
        apply Array.toList_inj.1
        simp [ByteArray.data_extract, List.extract_eq_take_drop]
    · obtain ⟨vs, us, h6, h7, h8, h9⟩ := readsA_ok hs (by simp) h5 h3 (Nat.min_le_left _ _) hq
      simp only [AV.onSlc_iff, ife_iff, ne_eq, reduceCtorEq, not_false_eq_true] at h6
      obtain ⟨b, o, len, lo, ex, esz, rfl, _, h10, h11⟩ := h6
      simp only [Rel] at hd
      obtain ⟨rr, ba, en, c', e, hsl, _⟩ := hd
      injection hsl with hsl1 hsl2 hsl3
      obtain ⟨H1, rr', ba', en', k1, k2, k3, k4, k5, k6, k7, k8⟩ := storeB_ok hs (by simp) h11 h8
      injection k2 with k2 k9; subst k2 k9
      rw [e] at k1; injection k1 with k1; injection k1 with e1 k1; injection k1 with e2 e3; subst e1 e2 e3
      have hrun := run_storeCells_cells (P := C.P) rr (ba + o) us 0 w (by simpa using k7) (by simpa using k8) (allOne_ok h10 h8 hs.fk.one)
      refine ⟨goInt (Nat.min sn dn : Nat), _, E, hstep us.toArray _ (h9 w rfl) (fun A hA => ?_) (fun hA => by rw [hsl1] at hA; cases hA), by rw [k4]; exact Grew.refl _ _ _, by simp [Rel, SI.den, goInt], k3, k5, k6, by omega⟩
      rw [hsl1] at hA; injection hA with hA; subst hA
      simpa using hrun
theorem xLen_ok (hC : CtxOk C) (hs : SRel X W0 C E H w) {t ty : Nat} {ts : Array TypeId} {x : AV} {u : Value} (hx : Rel E x u) (ht : ts[0]? = some t) (h : xLen t x C H = .val v H') :
    VOk X W0 C E H w (Builtin.len_ ts ty #[u]) v H' := by
  unfold xLen at h
  rw [onSome_iff (by simp)] at h
  obtain ⟨i, h1, h⟩ := h
  obtain ⟨I, hT⟩ := hC.tinf h1
  have hstep : ∀ {s : Sem Value}, ((Builtin.len_ ts ty #[u]).run C.P w = s.run C.P w) → VOk X W0 C E H w s v H' → VOk X W0 C E H w (Builtin.len_ ts ty #[u]) v H' := fun {s} e k => by
    obtain ⟨a, w', E', k1, k2⟩ := k
    exact ⟨a, w', E', e.trans k1, k2⟩
  have hund := hT.run_und w
  cases hd : i.d with
  | string =>
    rw [hd] at h hund
    have h' : (x.onStr (.bad 161) fun l => forceN (lenL l) (retN H)) = .val v H' := h
    rw [AV.onStr_iff (by simp)] at h'
    obtain ⟨l, rfl, h'⟩ := h'
    rw [forceN_eq] at h'
    simp only [Rel] at hx
    obtain ⟨s, rfl, hl⟩ := hx
    refine retN_ok hs h' ?_
    have : s.size = lenL l := by rw [lenL_eq, ← hl]; show s.data.size = _; simp
    simp [Builtin.len_, ht, hund, this]
  | pointer a =>
    rw [hd] at h hund
    have h' : (onSome (C.tinf a) (.bad 160) fun ai => ai.d.onArray (.bad 159) fun n _ => retN H n) = .val v H' := h
    simp only [onSome_iff, TypeDesc.onArray_iff, ne_eq, reduceCtorEq, not_false_eq_true] at h'
    obtain ⟨ai, h2, n, e, hd2, h3⟩ := h'
    obtain ⟨J, hA⟩ := hC.tinf h2
    have hua := hA.run_und w
    rw [hd2] at hua
    exact retN_ok hs h3 (by simp [Builtin.len_, ht, hund, hua])
  | slice el =>
    rw [hd] at h hund
    have h' : lenSlice x C H = .val v H' := h
    unfold lenSlice at h'
    rw [AV.onSlc_eq] at h'
    split at h'
    · simp only [Rel] at hx
      obtain ⟨_, _, _, c, _, rfl, _⟩ := hx
      exact retN_ok hs h' (by simp [Builtin.len_, ht, hund])
    · rw [AV.onNils_eq] at h'
      split at h'
      · simp only [Rel] at hx
        subst hx
        exact retN_ok hs h' (by simp [Builtin.len_, ht, hund])
      · rw [AV.onEtl_eq] at h'
        split at h'
        · simp only [Rel] at hx
          obtain ⟨_, _, _, _, c, _, rfl, _⟩ := hx
          exact retN_ok hs h' (by simp [Builtin.len_, ht, hund])
        · rw [AV.onFsl_iff (by simp)] at h'
          obtain ⟨s, rfl, h'⟩ := h'
          rw [onSome_iff (by simp)] at h'
          obtain ⟨ks, hks, h'⟩ := h'
          injection h' with h2 h3; subst h2 h3
          simp only [Rel] at hx
          have hv := (hs.fk.val s ks hks).2
          refine VOk.same (u := goInt (E.fs s).len) hs ?_ (by simp [Rel, SI.den, goInt])
          rcases hv with ⟨e1, e2⟩ | ⟨_, c, e1⟩
          · rw [hx, e1, e2]; simp [Builtin.len_, ht, hund]
          · rw [hx, e1]; simp [Builtin.len_, ht, hund]
  | array n e =>
    rw [hd] at h hund
    have h' : retN H n = .val v H' := h
    exact retN_ok hs h' (by simp [Builtin.len_, ht, hund])
  | map k e =>
    rw [hd] at h hund
    have h' : lenMap x H = .val v H' := h
    unfold lenMap at h'
    rw [AV.onMap_eq] at h'
    split at h'
    · simp only [onSome_iff, Blk.onMap_iff, ne_eq, reduceCtorEq, not_false_eq_true, forceN_eq] at h'
      obtain ⟨k, h2, es, rfl, h3⟩ := h'
      obtain ⟨r, ba, en, e1, M, clk, g1, g2, _⟩ := hs.read h2
      simp only [Rel] at hx
      obtain ⟨r', ba', en', e2, rfl⟩ := hx
      rw [e1] at e2; injection e2 with e2; injection e2 with e2 _; subst e2
      refine retN_ok hs h3 ?_
      have hg : (getObj r).run C.P w = .ok (.map M clk) w := by simp [getObj, Sem.run, g1]
      have hl := g2.len
      simp only [Array.length_toList] at hl
      simp [Builtin.len_, ht, hund, hg, hl, lenL_eq]
    · rw [AV.onNilm_iff (by simp)] at h'
      obtain ⟨rfl, h'⟩ := h'
      simp only [Rel] at hx
      subst hx
      exact retN_ok hs h' (by simp [Builtin.len_, ht, hund])
  | chan dir e =>
    rw [hd] at h hund
    have h' : lenChan x H = .val v H' := h
    unfold lenChan at h'
    rw [AV.onChan_eq] at h'
    split at h'
    · simp only [onSome_iff, Blk.onChan_iff, ne_eq, reduceCtorEq, not_false_eq_true, forceN_eq] at h'
      obtain ⟨k, h2, cap, buf, rfl, h3⟩ := h'
      obtain ⟨r, ba, en, e1, B, s, q, g1, g2⟩ := hs.read h2
      simp only [Rel] at hx
      obtain ⟨r', ba', en', e2, rfl⟩ := hx
      rw [e1] at e2; injection e2 with e2; injection e2 with e2 _; subst e2
      refine retN_ok hs h3 ?_
      have hg : (getObj r).run C.P w = .ok (.chan cap B false s q false) w := by simp [getObj, Sem.run, g1]
      have hl := g2.len
      simp only [Array.length_toList] at hl
      simp [Builtin.len_, ht, hund, hg, hl, lenAs_eq]
    · rw [AV.onNilc_iff (by simp)] at h'
      obtain ⟨rfl, h'⟩ := h'
      simp only [Rel] at hx
      subst hx
      exact retN_ok hs h' (by simp [Builtin.len_, ht, hund])
  | _ => rw [hd] at h; cases h
end
end Go.Proofs.YtjebljnifeoiaaaGreat.Vm
