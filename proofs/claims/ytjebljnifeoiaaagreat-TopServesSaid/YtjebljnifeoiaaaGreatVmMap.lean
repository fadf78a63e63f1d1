/- The machine's walk is the model's: a range over a map. No condition but those each theorem names. -/
import Derived.Test.YtjebljnifeoiaaaGreatVmCode
import Derived.Maps.RangeRun
namespace Go.Proofs.YtjebljnifeoiaaaGreat.Vm
open Go
set_option linter.unusedVariables false
set_option linter.unusedSimpArgs false
theorem mapLoop_iff {c : Code} {L : ML} (h : mapLoop c = some L) : ∃ id ops o1 o2, c = .seq (.region id ops false) (.seq (.cond (.tmp L.d2) .skip (.exit L.x)) L.rest) ∧ ops.toList = [o1, o2] ∧
    o1.op = .next (.tmp L.it) false ∧ o1.dst = some L.d1 ∧ o1.guard = none ∧ o2.op = .extract (.tmp L.d1) 0 ∧ o2.dst = some L.d2 ∧ o2.guard = none ∧ L.d1 ≠ L.it ∧ L.d2 ≠ L.it ∧ L.d1 ≠ L.d2 := by
  unfold mapLoop at h
  split at h
  · rename_i id ops c x rest
    split at h
    · rename_i o1 o2 hops
      split at h
      · rename_i it d1 d1' d2 h1 h2 h3 h4 h5 h6
        cases hc : (Nat.beq d1 d1' && (Nat.beq d2 c && (!(Nat.beq d1 it) && (!(Nat.beq d2 it) && !(Nat.beq d1 d2))))) with
        | false => rw [hc] at h; cases h
        | true =>
          rw [hc] at h
          injection h with h; subst h
          simp only [Bool.and_eq_true, Nat.beq_eq, Bool.not_eq_true', beq_false_iff] at hc
          obtain ⟨rfl, rfl, k1, k2, k3⟩ := hc
          exact ⟨id, ops, o1, o2, rfl, hops, h1, h2, h3, h4, h5, h6, k1, k2, k3⟩
      · cases h
    · cases h
  · cases h
theorem Trget_n {α : Type} (v : Option α) (l r : Tr α) (k : Nat) : (Tr.n v l r).get k = if k = 0 then v else if k % 2 = 1 then l.get (k / 2) else r.get (k / 2 - 1) := by
  have h : (Tr.n v l r).get k = ife (Nat.beq k 0) v (ife (Nat.beq (Nat.mod k 2) 1) (l.get (Nat.div k 2)) (r.get (Nat.sub (Nat.div k 2) 1))) := rfl
  rw [h, ife_eq, ife_eq]
  simp only [Nat.beq_eq]
  rfl
theorem subT_ok : ∀ {t t' : Tr AV}, subT t t' = true → ∀ k a, t.get k = some a → t'.get k = some a
  | .e, t', h, k, a, e => by cases e
  | .n v l r, t', h, k, a, e0 => by
    rw [Trget_n] at e0
    cases t' with
    | e =>
      have h' := h
      unfold subT at h'
      simp only [Bool.and_eq_true] at h'
      obtain ⟨h1, h2, h3⟩ := h'
      split at e0
      · subst e0; cases h1
      · split at e0
        · have := subT_ok h2 _ _ e0; cases this
        · have := subT_ok h3 _ _ e0; cases this
    | n v' l' r' =>
      have h' := h
      unfold subT at h'
      simp only [Bool.and_eq_true] at h'
      obtain ⟨h1, h2, h3⟩ := h'
      rw [Trget_n]
      split at e0
      · rename_i hk
        subst e0
        rw [if_pos hk]
        cases v' with
        | none => cases h1
        | some b => rw [beqAV_eq h1]
      · rename_i hk
        rw [if_neg hk]
        split at e0
        · rename_i hk2
          rw [if_pos hk2]; exact subT_ok h2 _ _ e0
        · rename_i hk2
          rw [if_neg hk2]; exact subT_ok h3 _ _ e0
mutual
/-- What was told by few numbers is told by them still. -/
theorem Rel.back {E E' : Env} (h : Ext E E') : ∀ (a : AV) (u v : Value), Rel E a u → Rel E' a v → Rel E a v
  | .int k e, u, v, r, r' => by simp only [Rel] at r' ⊢; rw [SI.den_ext h] at r'; exact r'
  | .bool b, u, v, r, r' => by simp only [Rel] at r' ⊢; rw [SB.den_ext h] at r'; exact r'
  | .str l, u, v, r, r' => by simpa only [Rel] using r'
  | .ptr b o, u, v, r, r' => by
    simp only [Rel] at r r' ⊢
    obtain ⟨x, y, z, e, _⟩ := r
    obtain ⟨x', y', z', e', r'⟩ := r'
    rw [h.ρ _ _ e] at e'; injection e' with e'; injection e' with e1 e'; injection e' with e2 e3; subst e1 e2 e3
    exact ⟨x, y, z, e, r'⟩
  | .nil, u, v, r, r' => by simpa only [Rel] using r'
  | .slc b o n lo ex z, u, v, r, r' => by
    simp only [Rel] at r r' ⊢
    obtain ⟨x, y, q, c, e, _⟩ := r
    obtain ⟨x', y', q', c', e', r'⟩ := r'
    rw [h.ρ _ _ e] at e'; injection e' with e'; injection e' with e1 e'; injection e' with e2 e3; subst e1 e2 e3
    exact ⟨x, y, q, c', e, r'⟩
  | .etl b o1 o2 z, u, v, r, r' => by
    simp only [Rel] at r r' ⊢
    obtain ⟨x, y, q, o, c, e, _⟩ := r
    obtain ⟨x', y', q', o', c', e', r'⟩ := r'
    rw [h.ρ _ _ e] at e'; injection e' with e'; injection e' with e1 e'; injection e' with e2 e3; subst e1 e2 e3
    exact ⟨x, y, q, o', c', e, r'⟩
  | .nils, u, v, r, r' => by simpa only [Rel] using r'
  | .map b, u, v, r, r' => by
    simp only [Rel] at r r' ⊢
    obtain ⟨x, y, z, e, _⟩ := r
    obtain ⟨x', y', z', e', r'⟩ := r'
    rw [h.ρ _ _ e] at e'; injection e' with e'; injection e' with e1 e'; injection e' with e2 e3; subst e1 e2 e3
    exact ⟨x, y, z, e, r'⟩
  | .nilm, u, v, r, r' => by simpa only [Rel] using r'
  | .chan b, u, v, r, r' => by
    simp only [Rel] at r r' ⊢
    obtain ⟨x, y, z, e, _⟩ := r
    obtain ⟨x', y', z', e', r'⟩ := r'
    rw [h.ρ _ _ e] at e'; injection e' with e'; injection e' with e1 e'; injection e' with e2 e3; subst e1 e2 e3
    exact ⟨x, y, z, e, r'⟩
  | .nilc, u, v, r, r' => by simpa only [Rel] using r'
  | .fn f cs, u, v, r, r' => by simp only [Rel] at r r' ⊢; obtain ⟨vs, _, r⟩ := r; obtain ⟨vs', e, r'⟩ := r'; exact ⟨vs', e, RelL.back h cs _ _ r r'⟩
  | .nilf, u, v, r, r' => by simpa only [Rel] using r'
  | .iface t a, u, v, r, r' => by simp only [Rel] at r r' ⊢; obtain ⟨x, _, r⟩ := r; obtain ⟨x', e, r'⟩ := r'; exact ⟨x', e, Rel.back h a _ _ r r'⟩
  | .nili, u, v, r, r' => by simpa only [Rel] using r'
  | .agg cs, u, v, r, r' => by simp only [Rel] at r r' ⊢; obtain ⟨vs, _, r⟩ := r; obtain ⟨vs', e, r'⟩ := r'; exact ⟨vs', e, RelL.back h cs _ _ r r'⟩
  | .tup cs, u, v, r, r' => by simp only [Rel] at r r' ⊢; obtain ⟨vs, _, r⟩ := r; obtain ⟨vs', e, r'⟩ := r'; exact ⟨vs', e, RelL.back h cs _ _ r r'⟩
  | .fsl s, u, v, r, r' => by simp only [Rel] at r' ⊢; rw [h.fs] at r'; exact r'
  | .fpt s i j, u, v, r, r' => by simp only [Rel] at r' ⊢; rw [h.fs, SI.den_ext h] at r'; exact r'
theorem RelL.back {E E' : Env} (h : Ext E E') : ∀ (l : List AV) (m n : List Value), RelL E l m → RelL E' l n → RelL E l n
  | [], m, n, r, r' => by simpa only [RelL] using r'
  | a :: l, m, n, r, r' => by
    simp only [RelL] at r r' ⊢
    obtain ⟨v, m', _, r1, r2⟩ := r
    obtain ⟨v', n', e, r1', r2'⟩ := r'
    exact ⟨v', n', e, Rel.back h a _ _ r1 r1', RelL.back h l _ _ r2 r2'⟩
end
section
variable {X : Nat → Prop} {W0 : World} {C : Ctx} {E Ec : Env} {N : Nat} {r : Run} {a : Act} {w w' : World} {s : St} {out : R} {G : Nat → Blk → Prop} {Ro : Tr Blk}
theorem FRel.other (h : FRel X W0 C E G Ro none w) (hb : ∀ b k r ba en, G b k → E.ρ b = some (r, ba, en) → w'.heap[r]? = w.heap[r]?) (hx : ∀ r, X r → w'.heap[r]? = w.heap[r]?) (ho : w'.os = w.os) (ht : w'.tape = w.tape) (hu : w'.output = w.output) : FRel X W0 C E G Ro none w' :=
  ⟨fun b k g => let ⟨r, ba, en, h1, h2, h3⟩ := h.own b k g; ⟨r, ba, en, h1, h2, h3.world (hb b k r ba en g h1)⟩, h.ro, h.inj, h.injr, fun r hr => ⟨(hx r hr).trans (h.keep r hr).1, (by have h1 := (h.keep r hr).2; have h2 := hx r hr; rw [Array.getElem?_eq_getElem h1] at h2; exact (Array.getElem?_eq_some_iff.1 h2).1)⟩, h.ids, fun i e => (by cases e), h.fk, h.know, ho.trans h.os, ht.trans h.tape, hu.trans h.output⟩
theorem mapRounds_all {L : ML} {b m : Nat} {κ : R} (hg : Good out) : ∀ {es : List (AV × AV)}, mapRounds r L s b m κ es = out →
    κ = out ∧ ∀ p, p ∈ es → ∃ s', r L.rest ⟨(s.τ.set L.d1 (some (.tup [.bool (.lit true), p.1, p.2]))).set L.d2 (some (.bool (.lit true))), ⟨.e, s.H.tr, s.H.next, s.H.lim, some ⟨b, m, some p⟩⟩, []⟩ = .norm s' ∧ subT s.τ s'.τ = true ∧ s'.ds = []
  | [], h => ⟨h, fun p hp => by simp at hp⟩
  | q :: es, h => by
    have h' : (putA s.τ (some (.tup [.bool (.lit true), q.1, q.2])) L.d1 fun τ => putA τ (some (.bool (.lit true))) L.d2 fun τ =>
      (r L.rest ⟨τ, ⟨.e, s.H.tr, s.H.next, s.H.lim, some ⟨b, m, some q⟩⟩, []⟩).onNorm (.bad 219) fun s' =>
        ife (subT s.τ s'.τ) (onList s'.ds (mapRounds r L s b m κ es) fun _ _ => .bad 218) (.bad 218)) = out := h
    rw [putA_eq, putA_eq, R.onNorm_iff (hg.bad _)] at h'
    obtain ⟨s', h1, h2⟩ := h'
    rw [ife_iff (hg.bad _), onList_no (fun _ _ => hg.bad _)] at h2
    obtain ⟨h3, h4, h5⟩ := h2
    obtain ⟨h6, h7⟩ := mapRounds_all hg h5
    refine ⟨h6, fun p hp => ?_⟩
    rw [List.mem_cons] at hp
    rcases hp with rfl | hp
    · exact ⟨s', h1, h3, h4⟩
    · exact h7 p hp
/-- The head of a round. -/
theorem head_ok {L : ML} {id : Nat} {ops : Array Oper} {o1 o2 : Oper} (hops : ops.toList = [o1, o2]) (h1 : o1.op = .next (.tmp L.it) false) (h2 : o1.dst = some L.d1) (h3 : o1.guard = none) (h4 : o2.op = .extract (.tmp L.d1) 0) (h5 : o2.dst = some L.d2) (h6 : o2.guard = none)
    (hsz : a.tmps.size = N) (hd1 : L.d1 < N) (hd2 : L.d2 < N) {vs : Array Value} {t : Bool} (hv : vs[0]? = some (.bool t)) (hn : (Instr.next (a.eval (.tmp L.it)) false o1.type).run C.P w = .ok (.tuple vs) w') (b : Frame) (K : List Item) (cs : List Frame) :
    Steps C.P (lone (b.at a (.code (.seq (.region id ops false) (.seq (.cond (.tmp L.d2) .skip (.exit L.x)) L.rest)) :: K)) cs w) (lone (b.at ((a.put (some L.d1) (.tuple vs)).put (some L.d2) (.bool t)) (.code (if t = true then .skip else .exit L.x) :: .code L.rest :: K)) cs w') := by
  have hs2 : ops.size = 2 := by rw [← Array.length_toList, hops]; rfl
  have g0 : ops[0]? = some o1 := by rw [← Array.getElem?_toList, hops]; rfl
  have g1 : ops[1]? = some o2 := by rw [← Array.getElem?_toList, hops]; rfl
  have hr1 : (execOp a.eval o1).run C.P w = .ok (.value (.tuple vs)) w' := by
    unfold execOp
    rw [h1]
    simp only [Sem.run_bind, hn, Result.andThen_ok]
    rfl
  have he : (a.put o1.dst (.tuple vs)).eval (.tmp L.d1) = .tuple vs := by
    rw [h2]
    show (a.tmps.setIfInBounds L.d1 (.tuple vs)).getD L.d1 undef = _
    rw [Array.getD_eq_getD_getElem?, Array.getElem?_setIfInBounds, if_pos rfl, if_pos (by omega)]; rfl
  have hr2 : (execOp (a.put o1.dst (.tuple vs)).eval o2).run C.P w' = .ok (.value (.bool t)) w' := by
    unfold execOp
    rw [h4]
    simp only [he, Instr.extract, hv]
    rfl
  have hsz2 : (a.put o1.dst (.tuple vs)).tmps.size = N := by rw [h2]; simp [Act.put, hsz]
  have he2 : ((a.put o1.dst (.tuple vs)).put o2.dst (.bool t)).eval (.tmp L.d2) = .bool t := by
    rw [h5]
    show ((a.put o1.dst (.tuple vs)).tmps.setIfInBounds L.d2 (.bool t)).getD L.d2 undef = _
    rw [Array.getD_eq_getD_getElem?, Array.getElem?_setIfInBounds, if_pos rfl, if_pos (by omega)]; rfl
  refine .head step_seq (.head step_region ?_)
  rw [hs2, show List.range 2 = [0, 1] from rfl]
  refine .head (step_out g0 (by simp [Region.wanted, h3]) hr1 rfl) (.head (step_out g1 (by simp [Region.wanted, h6]) hr2 rfl) (.head step_region_end (.head step_seq (.one ?_))))
  have hst := step_cond (P := C.P) (b := b) (k := .code L.rest :: K) (cs := cs) (w := w') (x := .skip) (y := .exit L.x) he2
  rw [h2, h5] at hst ⊢
  exact hst
theorem mapLoopA_ok (hC : CtxOk C) (hr : RunOk C Ec N r) (hN : N < 2 ^ 62) {c : Code} {L : ML} (hL : mapLoop c = some L) (hc : codeOk N c = true) (h : mapLoopA r L s = out) (hg : Good out) (hE : Ext Ec E) (hA : ARel X W0 C E N s a w) : (Code.loop c).wp C.P (Walks X W0 C E N s out) a w := by
  obtain ⟨id, ops, o1, o2, hcode, hops, g1, g2, g3, g4, g5, g6, hne1, hne2, hne3⟩ := mapLoop_iff hL
  unfold mapLoopA at h
  simp only [onSome_iff (hg.bad _), AV.onPtr_iff (hg.bad _), ife_iff (hg.bad _), Nat.beq_eq, Blk.onMap_iff (hg.bad _)] at h
  obtain ⟨v, hv, b, o, rfl, rfl, it, hit, hb, h⟩ := h
  cases hie : it.e with
  | some p => rw [hie] at h; exact absurd h (hg.bad _)
  | none =>
  rw [hie, onSome_none] at h
  simp only [onSome_iff (hg.bad _), Blk.onMap_iff (hg.bad _), ife_iff (hg.bad _)] at h
  obtain ⟨k, hk, es, rfl, hro, h⟩ := h
  rw [onList_no (fun _ _ => hg.bad _)] at h
  obtain ⟨hds, h⟩ := h
  obtain ⟨hend, hrounds⟩ := mapRounds_all hg h
  have hro' : s.H.ro = .e := by
    cases hq : s.H.ro with
    | e => rfl
    | n v l r => rw [hq] at hro; cases hro
  have hcd : codeOk N (.seq (.region id ops false) (.seq (.cond (.tmp L.d2) .skip (.exit L.x)) L.rest)) = true := by rw [← hcode]; exact hc
  have hcd' : (dstsOk N ops.toList && ((true && true) && codeOk N L.rest)) = true := hcd
  simp only [Bool.and_eq_true] at hcd'
  obtain ⟨hdst, _, hrest⟩ := hcd'
  rw [hops] at hdst
  obtain ⟨hd1, hdst⟩ := dstsOk_cons hdst
  obtain ⟨hd2, _⟩ := dstsOk_cons hdst
  have hd1 := hd1 _ g2
  have hd2 := hd2 _ g5
  -- the iterator
  have hito := hA.heap.it it hit
  rw [hie] at hito
  obtain ⟨rr, rm, ba, en, es', M, clk, q1, q2, q3, q4, q5, q6, q7⟩ := hito
  rw [hb] at q1
  have hk' : s.H.tr.get it.m = some (.map es) := hk
  rw [hk'] at q5; injection q5 with q5; injection q5 with q5; subst q5
  obtain ⟨rm', ba', en', q8, q9, hmap⟩ := hA.heap.own it.m _ hk'
  rw [q6] at q8; injection q8 with q8; injection q8 with q8 _; subst q8
  obtain ⟨M', clk', m1, m2, m3, m4⟩ := hmap
  rw [q7] at m1; injection m1 with m1; injection m1 with m1 m1'; subst m1 m1'
  have hnrm : rr ≠ rm := fun e => q3 it.m _ rm _ _ hk' q6 e.symm
  have hbase0 : FRel X W0 C E (fun b k => s.H.tr.get b = some k) .e none w := by
    have hp : SRel X W0 C E ⟨s.H.tr, .e, s.H.next, s.H.lim, none⟩ w := by
      have h0 := hA.heap
      refine ⟨h0.own, fun b k e => (by cases e), fun b b' k k' r ba en r' ba' en' e1 e2 => ?_, h0.keep, h0.fresh, h0.lim, h0.ids, fun i e => (by cases e), h0.fk, h0.know, h0.os, h0.tape, h0.output⟩
      refine h0.inj b b' k k' r ba en r' ba' en' ?_ ?_
      · rw [Heap.get_eq] at e1 ⊢
        rw [hro']; exact e1
      · rw [Heap.get_eq] at e2 ⊢
        rw [hro']; exact e2
    exact hp.parts (fun i e => by cases e)
  intro bf kk cs
  rw [hcode]
  generalize hcc : Code.seq (.region id ops false) (.seq (.cond (.tmp L.d2) .skip (.exit L.x)) L.rest) = cc
  have main : ∀ (n : Nat) (a : Act) (w : World) (seen : Array Nat) (c0 : Nat), (leftOf M seen).size = n → FRel X W0 C E (fun b k => s.H.tr.get b = some k) .e none w → TRel E N s.τ a.tmps → a.defers = [] →
      w.heap[rr]? = some (.mapIter (some rm) clk seen c0) → clk ≤ c0 → w.heap[rm]? = some (.map M clk) →
      ∃ e a' w', Walks X W0 C E N s out e a' w' ∧ Arrives C.P (lone (bf.at a (.code cc :: .inLoop cc :: kk)) cs w) bf kk cs e a' w' := by
    intro n
    induction n using Nat.strongRecOn with
    | _ n ih =>
      intro a w seen c0 hn hbase htm hdf hw1 hc0 hw2
      have hev : a.eval (.tmp L.it) = .pointer (some ⟨rr, 0, none⟩) := by
        have := htm.opds [.tmp L.it] (.tmp L.it) (by simp) _ hv
        simp only [Rel] at this
        obtain ⟨r', ba', en', e1, e2⟩ := this
        rw [q1] at e1; injection e1 with e1; injection e1 with e1 e3; injection e3 with e3 _; subst e1 e3
        rw [e2]
      rcases run_next_at (P := C.P) w o1.type rr rm clk c0 seen M clk hw1 hw2 (fun x hx => m3 x (by simpa using hx)) hc0 with ⟨hz, hrun⟩ | ⟨e, he, w1, hw1', hrun⟩
      · -- nothing is left
        rw [← hev] at hrun
        have hst := head_ok (C := C) (id := id) hops g1 g2 g3 g4 g5 g6 htm.size hd1 hd2 (t := false) rfl hrun bf (.inLoop cc :: kk) cs
        rw [hcc] at hst
        refine ⟨.exit L.x, _, w, ⟨⟨(s.τ.set L.d1 (some (.tup [.bool (.lit false)]))).set L.d2 (some (.bool (.lit false))), ⟨s.H.tr, s.H.ro, s.H.next, s.H.lim, none⟩, s.ds⟩, .inr (.inl ⟨L.x, ?_, rfl⟩), E, Grew.refl _ _ _, ⟨?_, ?_, ?_⟩, rfl, rfl, Nat.le_refl _⟩, fun k' hk' => hst.trans (.one (step_exit ?_))⟩
        · rw [← hend]; unfold mapEnd; rw [putA_eq, putA_eq]
        · exact hbase.whole (fun _ _ e => e) (.inl hro') (.inl rfl) hA.heap.fresh hA.heap.lim
        · exact (htm.set hd1 hN (by simp only [Rel]; exact ⟨_, rfl, RelL.cons (by simp [Rel, SB.den]) RelL.nil⟩)).set hd2 hN (by simp [Rel, SB.den])
        · show DRel E s.ds a.defers
          rw [hds, hdf]; rfl
        · simpa [exitTo] using hk'
      · -- one more
        rw [← hev] at hrun
        have hst := head_ok (C := C) (id := id) hops g1 g2 g3 g4 g5 g6 htm.size hd1 hd2 (t := true) rfl hrun bf (.inLoop cc :: kk) cs
        rw [hcc] at hst
        have hemem := (mem_left he).1
        obtain ⟨i, hi, hie2⟩ := List.mem_iff_getElem.1 hemem
        have hil : i < es.length := by rw [← m2.len]; exact hi
        have hMi : M.toList[i]? = some e := by rw [List.getElem?_eq_getElem hi, hie2]
        have hrel := m2.each i es[i] e (List.getElem?_eq_getElem hil) hMi
        obtain ⟨s', k1, k2, k3⟩ := hrounds es[i] (List.getElem_mem hil)
        generalize hww : ChangeMaps.setBlock w1 rr (.mapIter (some rm) clk (seen.push e.born) clk) = w2 at hrun hst
        have hw2heap : ∀ q, q ≠ rr → w2.heap[q]? = w.heap[q]? := fun q hq => by
          rw [← hww]
          show (w1.heap.setIfInBounds rr _)[q]? = _
          rw [Array.getElem?_setIfInBounds, if_neg (Ne.symm hq)]
          rcases hw1' with rfl | rfl <;> rfl
        have hrrlt : rr < w.heap.size := (Array.getElem?_eq_some_iff.1 hw1).1
        have hw1s : w1.heap = w.heap := by rcases hw1' with rfl | rfl <;> rfl
        have hw2r : w2.heap[rr]? = some (.mapIter (some rm) clk (seen.push e.born) clk) := by
          rw [← hww]
          show (w1.heap.setIfInBounds rr _)[rr]? = _
          rw [Array.getElem?_setIfInBounds, if_pos rfl, hw1s, if_pos hrrlt]
        have hw2s : w2.heap.size = w.heap.size := by
          rw [← hww]
          show (w1.heap.setIfInBounds rr _).size = _
          rw [Array.size_setIfInBounds, hw1s]
        have hbase2 : FRel X W0 C E (fun b k => s.H.tr.get b = some k) .e none w2 := by
          refine hbase.other (fun b k r ba en g e => hw2heap r (q3 b k r ba en g e)) (fun r hr => hw2heap r (fun e => q2 (e ▸ hr))) ?_ ?_ ?_ <;> (rw [← hww]; rcases hw1' with rfl | rfl <;> rfl)
        have hw2m : w2.heap[rm]? = some (.map M clk) := (hw2heap rm (Ne.symm hnrm)).trans hw2
        let X' : Nat → Prop := fun q => X q ∨ q = rr ∨ ∃ b k ba en, s.H.tr.get b = some k ∧ E.ρ b = some (q, ba, en)
        have hSR : SRel X' w2 C E ⟨.e, s.H.tr, s.H.next, s.H.lim, some ⟨b, it.m, some es[i]⟩⟩ w2 := by
          have hfr := hbase2.frame (H := ⟨.e, .e, 0, 0, none⟩) (fun b k e => by cases e) (.inr rfl) (.inr rfl) (fun b _ h2 => absurd h2 (Nat.not_lt_zero b)) (Nat.zero_le _)
          refine ⟨fun b k e => (by cases e), fun b k e => ?_, fun b b' k k' r ba en r' ba' en' e1 e2 => ?_, fun q hq => ⟨rfl, ?_⟩, hA.heap.fresh, hA.heap.lim, hbase2.ids, fun i' e => ?_, ?_, hbase2.know, rfl, rfl, rfl⟩
          · obtain ⟨r, ba, en, h1, h2, h3⟩ := hbase2.own b k e
            exact ⟨r, ba, en, h1, .inr (.inr ⟨b, k, ba, en, e, h1⟩), h3⟩
          · rw [Heap.get_eq] at e1 e2
            exact hbase2.inj b b' k k' r ba en r' ba' en' e1 e2
          · rcases hq with hq | rfl | ⟨b, k, ba, en, g, e⟩
            · exact (hbase2.keep q hq).2
            · omega
            · obtain ⟨r', ba', en', h1, _, h2⟩ := hbase2.own b k g
              rw [e] at h1; injection h1 with h1; injection h1 with h1 _; subst h1; exact h2.lt
          · injection e with e; subst e
            refine ⟨rr, rm, clk, seen.push e.born, e.born, M, clk, e, q1, .inr (.inl rfl), .inr (.inr ⟨it.m, _, _, _, hk', q6⟩), hw2r, hw2m, Array.back?_push, ?_, hrel.1, hrel.2⟩
            rw [← Array.find?_toList]; exact find_born e M.toList m4 hemem
          · refine ⟨hfr.fk.one, fun s ks hk => ?_, hfr.fk.cell⟩
            obtain ⟨h1, h2⟩ := hbase2.fk.val s ks hk
            exact ⟨h1, h2.imp (fun x => x) (fun ⟨h3, h4⟩ => ⟨.inl h3, h4⟩)⟩
        have hAR : ARel X' w2 C E N ⟨(s.τ.set L.d1 (some (.tup [.bool (.lit true), es[i].1, es[i].2]))).set L.d2 (some (.bool (.lit true))), ⟨.e, s.H.tr, s.H.next, s.H.lim, some ⟨b, it.m, some es[i]⟩⟩, []⟩ ((a.put (some L.d1) (.tuple #[.bool true, e.key, e.val])).put (some L.d2) (.bool true)) w2 := by
          refine ⟨hSR, ?_, hdf⟩
          exact (htm.set hd1 hN (by simp only [Rel]; exact ⟨_, rfl, RelL.cons (by simp [Rel, SB.den]) (RelL.cons hrel.1 (RelL.cons hrel.2 RelL.nil))⟩)).set hd2 hN (by simp [Rel, SB.den])
        obtain ⟨e3, a3, w3, ⟨s3, hends, E3, f1, f2, f3, f4, f5⟩, harr⟩ := hr L.rest hrest _ _ k1 (.inl ⟨_, rfl⟩) X' w2 E _ w2 hE hAR bf (.inLoop cc :: kk) cs
        rcases hends with ⟨j1, rfl⟩ | ⟨i', j1, rfl⟩ | ⟨l, j1, rfl⟩ | ⟨j1, rfl⟩
        · injection j1 with j1; subst j1
          have hkeep := f2.heap.keep
          have hbase3 : FRel X W0 C E (fun b k => s.H.tr.get b = some k) .e none w3 := by
            refine hbase2.other (fun b k r ba en g e => (hkeep r (.inr (.inr ⟨b, k, ba, en, g, e⟩))).1) (fun r hr => (hkeep r (.inl hr)).1) f2.heap.os f2.heap.tape f2.heap.output
          have htm3 : TRel E N s.τ a3.tmps := ⟨f2.tmps.size, fun t v ev => by
            obtain ⟨u, j1, j2⟩ := f2.tmps.get t v (subT_ok k2 t v ev)
            obtain ⟨u0, _, j3⟩ := htm.get t v ev
            exact ⟨u, j1, Rel.back f1.ext v u0 u j3 j2⟩⟩
          have hdf3 : a3.defers = [] := by have := f2.dfr; rw [k3] at this; exact this
          obtain ⟨e4, a4, w4, hw4, harr4⟩ := ih _ (by rw [← hn]; exact left_shrinks M seen e he) a3 w3 (seen.push e.born) clk rfl hbase3 htm3 hdf3 ((hkeep rr (.inr (.inl rfl))).1.trans hw2r) (Nat.le_refl _) ((hkeep rm (.inr (.inr ⟨it.m, _, _, _, hk', q6⟩))).1.trans hw2m)
          refine ⟨e4, a4, w4, hw4, .of_steps (hst.trans (.head step_skip (Steps.trans harr (.one step_inLoop)))) harr4⟩
        · cases j1
        · cases j1
        · cases j1
  obtain ⟨e, a', w', hw, harr⟩ := main _ a w #[] clk rfl hbase0 hA.tmps (by have := hA.dfr; rw [hds] at this; exact this) q4 (Nat.le_refl _) q7
  exact ⟨e, a', w', hw, .of_steps (.one step_loop) harr⟩
end
end Go.Proofs.YtjebljnifeoiaaaGreat.Vm
