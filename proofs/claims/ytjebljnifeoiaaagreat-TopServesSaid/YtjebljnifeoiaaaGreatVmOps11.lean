/- The machine's operations are the model's: maps are written, gone through. No condition but those each theorem names. -/
import Derived.Test.YtjebljnifeoiaaaGreatVmOps10
namespace Go.Proofs.YtjebljnifeoiaaaGreat.Vm
open Go
set_option linter.unusedVariables false
set_option linter.unusedSimpArgs false
section
variable {X : Nat → Prop} {W0 : World} {C : Ctx} {E : Env} {H H' : Heap} {w : World} {v : AV}
theorem noIt_iff {x r : R} (hr : R.bad 233 ≠ r) : noIt H x = r ↔ H.it = none ∧ x = r := by
  unfold noIt
  cases h : H.it with
  | none => exact ⟨fun e => ⟨rfl, e⟩, fun e => e.2⟩
  | some it => exact ⟨fun e => absurd e hr, fun e => by cases e.1⟩
theorem mapSet_ok (hs : SRel X W0 C E H w) {b : Nat} {es es' : List (AV × AV)} (hb : H.tr.get b = some (.map es)) {r ba en : Nat} (hr : E.ρ b = some (r, ba, en)) (hit : H.it = none) {M' : Array MapEntry} {clk' : Nat}
    (h2 : EntriesOk E es' M'.toList) (h3 : ∀ e ∈ M', e.born < clk') (h4 : (M'.toList.map (·.born)).Nodup) :
    SRel X W0 C E (H.put b (some (.map es'))) { w with heap := w.heap.setIfInBounds r (.map M' clk') } := by
  obtain ⟨r0, ba0, en0, e0, _, hB⟩ := hs.own b _ hb
  rw [hr] at e0; injection e0 with e0; injection e0 with e0 _; subst e0
  refine hs.upd hb hr (Turned.setObj w r _) (fun k' e => ?_) (.inl hit)
  injection e with e; subst e
  exact ⟨M', clk', by simp [hB.lt], h2, h3, h4⟩
theorem EntriesOk.push {es : List (AV × AV)} {M : List MapEntry} (h : EntriesOk E es M) {k v : AV} {e : MapEntry} (hk : Rel E k e.key) (hv : Rel E v e.val) : EntriesOk E (es ++ [(k, v)]) (M ++ [e]) := by
  refine ⟨by simp [h.len], fun i p e' h1 h2 => ?_⟩
  by_cases hi : i < es.length
  · rw [List.getElem?_append_left hi] at h1
    rw [List.getElem?_append_left (by rw [h.len]; exact hi)] at h2
    exact h.each i p e' h1 h2
  · rw [List.getElem?_append_right (by omega)] at h1
    rw [List.getElem?_append_right (by rw [h.len]; omega), h.len] at h2
    cases hj : i - es.length with
    | zero =>
      rw [hj] at h1 h2
      simp at h1 h2
      subst h1 h2
      exact ⟨hk, hv⟩
    | succ j =>
      rw [hj] at h1
      simp at h1
theorem setAtA_ok : ∀ {l : List (AV × AV)} {i : Nat} {v : AV} {no r : R} {κ : List (AV × AV) → R}, no ≠ r → setAtA i v l no κ = r →
    ∃ l' : List (AV × AV), κ l' = r ∧ l'.length = l.length ∧ ∀ j, l'[j]? = if j = i then l[j]?.map (fun p => (p.1, v)) else l[j]?
  | [], i, v, no, r, κ, hn, h => absurd h hn
  | p :: l, 0, v, no, r, κ, hn, h => ⟨(p.1, v) :: l, h, rfl, fun j => by cases j <;> simp⟩
  | p :: l, i + 1, v, no, r, κ, hn, h => by
    obtain ⟨l', h1, h2, h3⟩ := setAtA_ok (l := l) (i := i) (v := v) (κ := fun r => κ (p :: r)) hn h
    refine ⟨p :: l', h1, by simp [h2], fun j => ?_⟩
    cases j with
    | zero => simp
    | succ j => rw [List.getElem?_cons_succ, h3 j]; simp
theorem eraseA_ok : ∀ {l : List (AV × AV)} {i : Nat} {no r : R} {κ : List (AV × AV) → R}, no ≠ r → eraseA i l no κ = r → κ (l.eraseIdx i) = r
  | [], i, no, r, κ, hn, h => absurd h hn
  | p :: l, 0, no, r, κ, hn, h => h
  | p :: l, i + 1, no, r, κ, hn, h => eraseA_ok (l := l) (i := i) (κ := fun r => κ (p :: r)) hn h
theorem sameBits_key (hC : CtxOk C) {kt : Nat} {k : AV} (h : keyOk C kt k = true) {u q : Value} (hu : Rel E k u) (hq : Rel E k q) : u = q ∧ Instr.sameBits 10000 u q = true := by
  have hcells : ∀ (l : List Field) (o : Nat) (cs : List AV), keyFds C (fdsOf C.P l) o cs = true → ∀ us vs, RelL E cs us → RelL E cs vs → us = vs ∧ ((us.zip vs).all fun p => Instr.sameBits 9999 p.1 p.2) = true := by
    intro l
    induction l with
    | nil =>
      intro o cs h us vs h1 h2
      cases cs with
      | cons => cases h
      | nil =>
        rw [RelL.nil_iff] at h1 h2
        subst h1 h2
        exact ⟨rfl, rfl⟩
    | cons f l ih =>
      intro o cs h us vs h1 h2
      cases cs with
      | nil => cases h
      | cons c cs =>
        have h2' : (onSome (C.tinf f.type) false fun i => ife (keyInt i.d c) (ife (f.name == "_") false (ife (Nat.beq f.offset o) (keyFds C (fdsOf C.P l) (o + 1) cs) false)) false) = true := h
        rw [onSome_iff (by simp)] at h2'
        obtain ⟨i, _, h4⟩ := h2'
        rw [ife_iff (by simp)] at h4
        obtain ⟨h5, h6⟩ := h4
        rw [ife_eq] at h6
        split at h6
        · cases h6
        · rw [ife_iff (by simp)] at h6
          obtain ⟨kk, n, _, rfl⟩ := keyInt_ok h5
          rw [RelL.cons_iff] at h1 h2
          obtain ⟨u, us', rfl, r1, t1⟩ := h1
          obtain ⟨v, vs', rfl, r2, t2⟩ := h2
          simp only [Rel, SI.den] at r1 r2
          subst r1 r2
          obtain ⟨g1, g2⟩ := ih _ _ h6.2 us' vs' t1 t2
          subst g1
          refine ⟨rfl, ?_⟩
          rw [List.zip_cons_cons, List.all_cons, g2]
          simp [Instr.sameBits]
  unfold keyOk at h
  rw [onSome_iff (by simp)] at h
  obtain ⟨i, h1, h2⟩ := h
  obtain ⟨I, hT⟩ := hC.tinf h1
  rw [AV.onAgg_eq] at h2
  split at h2
  · rename_i xs
    simp only [TypeDesc.onStruct_iff (show false ≠ true by simp)] at h2
    obtain ⟨fs, hd, h3⟩ := h2
    rw [ife_eq] at h3
    split at h3
    · cases h3
    · have hfl : i.flds = fdsOf C.P fs.toList := by rw [hT.flds, hd]; rfl
      rw [hfl] at h3
      simp only [Rel] at hu hq
      obtain ⟨us, rfl, hu⟩ := hu
      obtain ⟨vs, rfl, hq⟩ := hq
      obtain ⟨g1, g2⟩ := hcells _ _ _ h3 _ _ hu hq
      have : us = vs := Array.toList_inj.1 g1
      subst this
      refine ⟨rfl, ?_⟩
      show Instr.sameBits (9999 + 1) (.agg us) (.agg us) = true
      simp only [Instr.sameBits, beq_self_eq_true, Bool.true_and]
      exact g2
  · obtain ⟨kk, n, hd, rfl⟩ := keyInt_ok h2
    simp only [Rel, SI.den] at hu hq
    subst hu hq
    exact ⟨rfl, by simp [Instr.sameBits]⟩
theorem xMapUpdate_ok (hC : CtxOk C) (hs : SRel X W0 C E H w) {t : Nat} {x k y : Operand} {τ : Tm} {g : Operand → Value} (hx : Opds E τ g [x, k, y]) (h : xMapUpdate t x k y C τ H = .val v H') :
    XOk X W0 C E H w (do Instr.mapUpdate t (g x) (g k) (g y); pure .skip) v H' := by
  unfold xMapUpdate at h
  simp only [onSome_iff, AV.onMap_iff, TypeDesc.onMap_iff, Blk.onMap_iff, ife_iff, noIt_iff, ne_eq, reduceCtorEq, not_false_eq_true, getK_eq] at h
  obtain ⟨m, h1, ka, h2, a, h3, b, rfl, i, h4, kt, et, hd, h5, hit, q, h6, es, rfl, h7⟩ := h
  obtain ⟨I, hT⟩ := hC.tinf h4
  have hm := hx x (by simp) _ h1
  have hk := hx k (by simp) _ h2
  have ha := hx y (by simp) _ h3
  simp only [Rel] at hm
  obtain ⟨r, ba, en, e1, hm⟩ := hm
  obtain ⟨r', ba', en', e2, _, M, clk, g1, g2, g3, g4⟩ := hs.own b _ h6
  rw [e1] at e2; injection e2 with e2; injection e2 with e2 e3; injection e3 with e3 e4; subst e2 e3 e4
  have hck := checkKey_ok hC h5 hk false w
  have hg : (getObj r).run C.P w = .ok (.map M clk) w := by simp [getObj, Sem.run, g1]
  have hset : ∀ o, (setObj r o).run C.P w = .ok () { w with heap := w.heap.setIfInBounds r o } := fun o => by simp [setObj, Sem.run, g1]
  rcases findA_ok hC hs h5 hk (by simp) es M.toList 0 g2 h7 with ⟨j, p, e, k1, k2, k3, k4, k5⟩ | ⟨k4, k5⟩
  · obtain ⟨es', k4, hl', hg'⟩ := setAtA_ok (by simp) k4
    rw [Heap.setB_eq] at k4
    injection k4 with k6 k7; subst k6 k7
    simp only [Nat.zero_add] at k5 hg'
    have hf := findKey_ok hC h5 hk k5
    obtain ⟨hkey, hval⟩ := g2.each j p e k1 k2
    rw [k3] at hkey
    obtain ⟨hkk, hsb⟩ := sameBits_key hC h5 hkey hk
    have k2' : M[j]? = some e := by simpa using k2
    have hjl : j < M.size := (Array.getElem?_eq_some_iff.1 k2').1
    have hME : ∀ i e', (M.modify j fun e => { e with key := g k, val := g y }).toList[i]? = some e' → if i = j then e' = { e with key := g k, val := g y } else M.toList[i]? = some e' := fun i e' h => by
      simp only [Array.getElem?_toList, Array.getElem?_modify] at h
      by_cases hij : i = j
      · subst hij
        rw [if_pos rfl] at h ⊢
        rw [k2'] at h
        simp at h
        exact h.symm
      · rw [if_neg (Ne.symm hij)] at h
        rw [if_neg hij]
        simpa using h
    have hborn : (M.modify j fun e => { e with key := g k, val := g y }).toList.map (·.born) = M.toList.map (·.born) := by
      apply List.ext_getElem?
      intro i
      simp only [List.getElem?_map, Array.getElem?_toList, Array.getElem?_modify]
      split
      · rename_i hij; subst hij; cases M[j]? <;> rfl
      · rfl
    refine ⟨.skip, undef, _, E, ?_, rfl, Grew.refl _ _ _, undef_rel, mapSet_ok hs h6 e1 hit (M' := M.modify j fun e => { e with key := g k, val := g y }) (clk' := clk) ?_ ?_ ?_, rfl, rfl, Nat.le_refl _⟩
    · rw [hm]
      unfold Instr.mapUpdate
      simp only [Sem.run_bind, hT.run_und w, Result.andThen_ok, hd, hg, hck, hf, Instr.keyThatStays]
      rw [show ((M[j]?).map (·.key)).getD (g k) = e.key by rw [k2']; rfl, if_pos hsb]
      simp only [Sem.run_pure, Result.andThen_ok, hset]
    · refine ⟨by rw [hl', ← g2.len]; simp, fun i p' e' h1 h2 => ?_⟩
      have h3 := hME i e' h2
      rw [hg'] at h1
      by_cases hij : i = j
      · subst hij
        rw [if_pos rfl, k1] at h1
        rw [if_pos rfl] at h3
        simp at h1
        subst h1 h3
        exact ⟨by rw [k3]; exact hk, ha⟩
      · rw [if_neg hij] at h1 h3
        exact g2.each i p' e' h1 h3
    · intro e' he'
      obtain ⟨i, hi, hie⟩ := List.mem_iff_getElem.1 (Array.mem_toList_iff.2 he')
      have h2 : ((M.modify j fun e => { e with key := g k, val := g y }).toList.map (·.born))[i]? = some e'.born := by
        rw [List.getElem?_map, List.getElem?_eq_getElem hi, hie]; rfl
      rw [hborn, List.getElem?_map] at h2
      cases hq : M.toList[i]? with
      | none => rw [hq] at h2; cases h2
      | some e0 =>
        rw [hq] at h2
        injection h2 with h2
        have := g3 e0 (Array.mem_toList_iff.1 (List.mem_of_getElem? hq))
        have h2' : e0.born = e'.born := h2
        omega
    · rw [hborn]; exact g4
  · rw [Heap.setB_eq] at k4
    injection k4 with k6 k7; subst k6 k7
    have hf := findKey_ok hC h5 hk k5
    refine ⟨.skip, undef, _, E, ?_, rfl, Grew.refl _ _ _, undef_rel, mapSet_ok hs h6 e1 hit (M' := M.push { key := g k, val := g y, born := clk }) (clk' := clk + 1) ?_ ?_ ?_, rfl, rfl, Nat.le_refl _⟩
    · rw [hm]
      unfold Instr.mapUpdate
      simp only [Sem.run_bind, hT.run_und w, Result.andThen_ok, hd, hg, hck, hf, hset, Sem.run_pure]
    · rw [Array.toList_push]; exact g2.push hk ha
    · intro e' he'
      rcases Array.mem_push.1 he' with h | h
      · have := g3 e' h; omega
      · subst h; show clk < clk + 1; omega
    · rw [Array.toList_push, List.map_append, List.nodup_append]
      refine ⟨g4, by simp, fun a ha b hb => ?_⟩
      obtain ⟨e', he', rfl⟩ := List.mem_map.1 ha
      simp at hb
      subst hb
      have := g3 e' (Array.mem_toList_iff.1 he')
      omega
theorem xDelete_ok (hC : CtxOk C) (hs : SRel X W0 C E H w) {t ty : Nat} {ts : Array TypeId} {m k : AV} {u q : Value} (hm : Rel E m u) (hk : Rel E k q) (ht : ts[0]? = some t) (h : xDelete t m k C H = .val v H') :
    VOk X W0 C E H w (Builtin.delete_ ts ty #[u, q]) v H' := by
  unfold xDelete at h
  simp only [onSome_iff, AV.onMap_iff, TypeDesc.onMap_iff, Blk.onMap_iff, ife_iff, noIt_iff, ne_eq, reduceCtorEq, not_false_eq_true, getK_eq] at h
  obtain ⟨i, h4, kt, et, hd, b, rfl, h5, hit, blk, h6, es, rfl, h7⟩ := h
  obtain ⟨I, hT⟩ := hC.tinf h4
  simp only [Rel] at hm
  obtain ⟨r, ba, en, e1, rfl⟩ := hm
  obtain ⟨r', ba', en', e2, _, M, clk, g1, g2, g3, g4⟩ := hs.own b _ h6
  rw [e1] at e2; injection e2 with e2; injection e2 with e2 e3; injection e3 with e3 e4; subst e2 e3 e4
  have hck := fun em => checkKey_ok hC h5 hk em w
  have hg : (getObj r).run C.P w = .ok (.map M clk) w := by simp [getObj, Sem.run, g1]
  have hset : ∀ o, (setObj r o).run C.P w = .ok () { w with heap := w.heap.setIfInBounds r o } := fun o => by simp [setObj, Sem.run, g1]
  rcases findA_ok hC hs h5 hk (by simp) es M.toList 0 g2 h7 with ⟨j, p, e, k1, k2, k3, k4, k5⟩ | ⟨k4, k5⟩
  · have k4 := eraseA_ok (by simp) k4
    rw [Heap.setB_eq] at k4
    injection k4 with k6 k7; subst k6 k7
    simp only [Nat.zero_add] at k5 ⊢
    have hf := findKey_ok hC h5 hk k5
    have hel : (M.eraseIdxIfInBounds j).toList = M.toList.eraseIdx j := by
      unfold Array.eraseIdxIfInBounds
      split
      · rw [Array.toList_eraseIdx]
      · rename_i hj
        rw [List.eraseIdx_of_length_le (by simpa using hj)]
    refine ⟨.tuple #[], _, E, ?_, Grew.refl _ _ _, undef_rel, mapSet_ok hs h6 e1 hit (M' := M.eraseIdxIfInBounds j) (clk' := clk) ?_ ?_ ?_, rfl, rfl, Nat.le_refl _⟩
    · unfold Builtin.delete_
      simp only [ht, List.getElem?_toArray, List.getElem?_cons_zero, List.getElem?_cons_succ, Sem.run_bind, hT.run_und w, Result.andThen_ok, hd, hg, hck, hf, hset, Sem.run_pure]
    · rw [hel]
      refine ⟨by rw [List.length_eraseIdx, List.length_eraseIdx, g2.len], fun i p' e' h1 h2 => ?_⟩
      rw [List.getElem?_eraseIdx] at h1 h2
      split at h1
      · rename_i hij; rw [if_pos hij] at h2; exact g2.each i p' e' h1 h2
      · rename_i hij; rw [if_neg hij] at h2; exact g2.each (i + 1) p' e' h1 h2
    · intro e' he'
      rw [← Array.mem_toList_iff, hel] at he'
      exact g3 e' (Array.mem_toList_iff.1 (List.mem_of_mem_eraseIdx he'))
    · rw [hel]
      exact g4.sublist ((List.eraseIdx_sublist _ _).map _)
  · injection k4 with k6 k7; subst k6 k7
    have hf := findKey_ok hC h5 hk k5
    refine ⟨.tuple #[], _, E, ?_, Grew.refl _ _ _, undef_rel, (?_ : SRel X W0 C E H { w with heap := w.heap.setIfInBounds r (.map M clk) }), rfl, rfl, Nat.le_refl _⟩
    · unfold Builtin.delete_
      simp only [ht, List.getElem?_toArray, List.getElem?_cons_zero, List.getElem?_cons_succ, Sem.run_bind, hT.run_und w, Result.andThen_ok, hd, hg, hck, hf, hset, Sem.run_pure]
    · refine hs.world ?_ rfl rfl rfl
      show w.heap.setIfInBounds r (.map M clk) = w.heap
      apply Array.ext_getElem?
      intro i
      rw [Array.getElem?_setIfInBounds]
      split
      · rename_i hi; subst hi
        split
        · exact g1.symm
        · rename_i hlt
          rw [Array.getElem?_eq_none (by omega)]
      · rfl
theorem xEntry_ok (hs : SRel X W0 C E H w) {x : Operand} {τ : Tm} {g : Operand → Value} (hx : Opds E τ g [x]) (h : xEntry x C τ H = .val v H') : VOk X W0 C E H w (Instr.entry (g x)) v H' := by
  unfold xEntry at h
  simp only [onSome_iff, AV.onPtr_iff, ife_iff, ne_eq, reduceCtorEq, not_false_eq_true, Nat.beq_eq] at h
  obtain ⟨a, h1, b, o, rfl, rfl, it, h2, rfl, p, h3, h4⟩ := h
  injection h4 with h5 h6; subst h5 h6
  have hp := hx x (by simp) _ h1
  simp only [Rel] at hp
  obtain ⟨r, ba, en, e1, hp⟩ := hp
  have hi := hs.it it h2
  rw [h3] at hi
  obtain ⟨r1, rm, since, seen, s, M, clk, e, e2, g1, g2, g3, g4, g5, g6, g7, g8⟩ := hi
  rw [e1] at e2; injection e2 with e2; injection e2 with e2 e3; injection e3 with e3 e4; subst e2 e3 e4
  have hr : w.heap[r]? = some (.mapIter (some rm) since seen clk) := (hs.keep r g1).1.trans g3
  have hm : w.heap[rm]? = some (.map M clk) := (hs.keep rm g2).1.trans g4
  have hg : (getObj r).run C.P w = .ok (.mapIter (some rm) since seen clk) w := by simp [getObj, Sem.run, hr]
  have hg' : (getObj rm).run C.P w = .ok (.map M clk) w := by simp [getObj, Sem.run, hm]
  refine VOk.same (u := .tuple #[e.key, e.val]) hs ?_ ?_
  · rw [hp]
    unfold Instr.entry
    simp [hg, hg', g5, g6]
  · simp only [Rel]
    exact ⟨_, rfl, RelL.cons g7 (RelL.cons g8 RelL.nil)⟩
theorem xRange_ok (hC : CtxOk C) (hs : SRel X W0 C E H w) {t : Nat} {x : Operand} {τ : Tm} {g : Operand → Value} (hx : Opds E τ g [x]) (h : xRange t x C τ H = .val v H') : VOk X W0 C E H w (Instr.range t (g x)) v H' := by
  unfold xRange at h
  simp only [onSome_iff, AV.onMap_iff, TypeDesc.onMap_iff, Blk.onMap_iff, ne_eq, reduceCtorEq, not_false_eq_true, getK_eq, forceN_eq] at h
  obtain ⟨a, h1, m, rfl, i, h2, kt, et, hd, k, h3, es, rfl, h4⟩ := h
  cases hit : H.it with
  | some it => rw [hit] at h4; cases h4
  | none =>
    rw [hit, onSome_none, ife_iff (by simp), Nat.blt_eq] at h4
    obtain ⟨hl, h5⟩ := h4
    injection h5 with h5 h6; subst h5 h6
    obtain ⟨I, hT⟩ := hC.tinf h2
    have hm := hx x (by simp) _ h1
    simp only [Rel] at hm
    obtain ⟨r, ba, en, e1, hm⟩ := hm
    obtain ⟨r', ba', en', e2, _, M, clk, g1, g2, g3, g4⟩ := hs.own m _ h3
    rw [e1] at e2; injection e2 with e2; injection e2 with e2 e3; injection e3 with e3 e4; subst e2 e3 e4
    have hg : (getObj r).run C.P w = .ok (.map M clk) w := by simp [getObj, Sem.run, g1]
    have hfr : E.ρ H.next = none := hs.fresh _ (Nat.le_refl _) hl
    have x' : Ext E (E.add H.next (w.heap.size, 0, 0)) := Env.add_ext _ hfr
    have hs' := hs.alloc (.mapIter (some r) clk #[] clk)
    have hρ : ∀ j, (E.add H.next (w.heap.size, 0, 0)).ρ j = if j = H.next then some (w.heap.size, 0, 0) else E.ρ j := fun _ => rfl
    have hs2 := hs'.ext x' (H' := ⟨H.tr, H.ro, H.next + 1, H.lim, H.it⟩) rfl rfl rfl rfl (fun b h1 h2 => by
      have h1' : H.next + 1 ≤ b := h1
      rw [hρ, if_neg (by omega)]
      exact hs.fresh b (by omega) h2) (fun b y e => by
      rw [hρ] at e
      by_cases hb : b = H.next
      · subst hb; have := hs.lim; omega
      · rw [if_neg hb] at e; exact hs.ids b y e)
    refine ⟨.pointer (some ⟨w.heap.size, 0, none⟩), w.alloc (.mapIter (some r) clk #[] clk), E.add H.next (w.heap.size, 0, 0), ?_, ⟨x', fun j hj => ?_⟩, ?_, ⟨hs2.own, hs2.ro, hs2.inj, hs2.keep, hs2.fresh, hs2.lim, hs2.ids, ?_, hs2.fk, hs2.know, hs2.os, hs2.tape, hs2.output⟩, rfl, rfl, by show _ ≤ H.next + 1; omega⟩
    · rw [hm]
      unfold Instr.range
      simp [hT.run_und w, hd, hg, newObj, Sem.run]
    · have hj' : j < H.next ∨ H.next + 1 ≤ j := hj
      rw [hρ, if_neg (by omega)]
    · simp only [Rel]
      exact ⟨w.heap.size, 0, 0, by rw [hρ, if_pos rfl], rfl⟩
    · intro it hq
      injection hq with hq; subst hq
      have hlt := (Array.getElem?_eq_some_iff.1 g1).1
      refine ⟨w.heap.size, r, ba, en, es, M, clk, by rw [hρ, if_pos rfl], fun hX => by have := (hs.keep _ hX).2; omega, fun b' k' r' ba' en' h1 h2 => ?_, alloc_new _ _, h3, x'.ρ _ _ e1, (alloc_prev w _ r hlt).trans g1⟩
      obtain ⟨r2, ba2, en2, e5, _, hB⟩ := hs.own b' k' h1
      have := x'.ρ _ _ e5
      rw [h2] at this; injection this with this; injection this with this _; subst this
      have := hB.lt
      omega
end
end Go.Proofs.YtjebljnifeoiaaaGreat.Vm
