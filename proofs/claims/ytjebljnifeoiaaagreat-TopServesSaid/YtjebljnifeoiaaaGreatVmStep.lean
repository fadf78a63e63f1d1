/- The machine's walk is the model's: one operation of a region. No condition but those each theorem names. -/
import Derived.Test.YtjebljnifeoiaaaGreatVmWalk
namespace Go.Proofs.YtjebljnifeoiaaaGreat.Vm
open Go
set_option linter.unusedVariables false
set_option linter.unusedSimpArgs false
section
variable {P : Program} {b : Frame} {a : Act} {k : List Item} {cs : List Frame} {w w' : World} {ops : Array Oper} {i : Nat} {rest : List Nat} {o : Oper}
theorem fin_at (ho : ops[i]? = some o) (v : Value) : (b.at a (.inRegion ops (i :: rest) :: k)).finish v = b.at (a.put o.dst v) (.inRegion ops rest :: k) := by
  rw [Frame.finish_at, ho]; rfl
theorem step_out (ho : ops[i]? = some o) (hw : Region.wanted o (yielded ops a.tmps) = true) {nx : Next} {u : Value} (hr : (execOp a.eval o).run P w = .ok nx w') (hn : Next.out nx = some u) :
    step P (lone (b.at a (.inRegion ops (i :: rest) :: k)) cs w) = .next (lone (b.at (a.put o.dst u) (.inRegion ops rest :: k)) cs w') := by
  have hg := stepG_op (P := P) (b := b) (k := k) (cs := cs) (w := w) (rest := rest) ho hw
  refine step_lone_go ?_
  rw [hg, ← fin_at ho]
  cases nx with
  | value v => injection hn with hn; subst hn; simp [stepG.apply, hr]
  | skip => injection hn with hn; subst hn; simp [stepG.apply, hr]
  | _ => cases hn
theorem step_dfr (ho : ops[i]? = some o) (hw : Region.wanted o (yielded ops a.tmps) = true) {d : Deferred} (hr : (execOp a.eval o).run P w = .ok (.defer d) w') :
    step P (lone (b.at a (.inRegion ops (i :: rest) :: k)) cs w) = .next (lone (b.at ({ a with defers := d :: a.defers }.put o.dst undef) (.inRegion ops rest :: k)) cs w') := by
  have hg := stepG_op (P := P) (b := b) (k := k) (cs := cs) (w := w) (rest := rest) ho hw
  refine step_lone_go ?_
  have : ({ b.at a (.inRegion ops (i :: rest) :: k) with defers := d :: a.defers } : Frame).finish undef =
      b.at ({ a with defers := d :: a.defers }.put o.dst undef) (.inRegion ops rest :: k) := by
    have := Frame.finish_at b { a with defers := d :: a.defers } ops i rest k undef
    rw [ho] at this; exact this
  rw [hg]; simp only [stepG.apply, Sem.runT_eq, hr, GStep.bare_after]
  exact congrArg (fun fr => GStep.go { frame := fr, callers := cs, status := .running, dying := none } w') this
theorem steps_enter (ho : ops[i]? = some o) (hw : Region.wanted o (yielded ops a.tmps) = true) {f : FuncId} {args : Array Value} (hr : (execOp a.eval o).run P w = .ok (.enter f args) w') {R : Value → World → Prop}
    (hc : Calls P f args w' fun
      | .returned u, w'' => R u w''
      | _, _ => False) :
    ∃ u w'', R u w'' ∧ Steps P (lone (b.at a (.inRegion ops (i :: rest) :: k)) cs w) (lone (b.at (a.put o.dst u) (.inRegion ops rest :: k)) cs w'') := by
  have hg := stepG_op (P := P) (b := b) (k := k) (cs := cs) (w := w) (rest := rest) ho hw
  obtain ⟨e, w'', fr, hR, hsteps, _, hleave⟩ := hc (b.at a (.inRegion ops (i :: rest) :: k) :: cs)
  have henter : step P (lone (b.at a (.inRegion ops (i :: rest) :: k)) cs w) =
      .next (lone (Frame.enter P f args .normal) (b.at a (.inRegion ops (i :: rest) :: k) :: cs) w') :=
    step_lone_go (by rw [hg]; simp [stepG.apply, hr, Frame.at])
  cases e with
  | returned v =>
    refine ⟨v, w'', hR, .head henter (hsteps.trans (.one ?_))⟩
    rw [← fin_at ho]; exact step_leave_returned hleave
  | panicked chain => exact hR.elim
  | outgrown => exact hR.elim
theorem step_comm (ho : ops[i]? = some o) (hw : Region.wanted o (yielded ops a.tmps) = true) {cases : Array CommCase} {bl : Bool} {sh : CommShape} (hr : (execOp a.eval o).run P w = .ok (.comm cases bl sh) w') :
    ∃ es, stepG P true (Conc.G (b.at a (.inRegion ops (i :: rest) :: k)) cs) w = .comm (Conc.G (b.at a (.inRegion ops (i :: rest) :: k)) cs) cases bl sh w' es := by
  have hg := stepG_op (P := P) (b := b) (k := k) (cs := cs) (w := w) (rest := rest) ho hw
  unfold Conc.G
  rw [hg]
  simp only [stepG.apply, Sem.runT_eq, hr, if_true]
  exact ⟨_, rfl⟩
end
section
variable {X : Nat → Prop} {W0 : World} {C : Ctx} {E : Env} {H H' : Heap} {w : World} {v : AV} {ops : Array Oper} {o : Oper} {i : Nat} {a : Act} {τ : Tm}
/-- A channel turns. -/
theorem chanSet_ok (hs : SRel X W0 C E H w) {n cap : Nat} {buf buf' : List AV} (hb : H.tr.get n = some (.chan cap buf)) {r ba en : Nat} (hr : E.ρ n = some (r, ba, en)) {B : Array Value} (s q : Nat) (h2 : RelL E buf' B.toList) :
    SRel X W0 C E (H.put n (some (.chan cap buf'))) (w.setChan r cap B false s q false) := by
  obtain ⟨r0, ba0, en0, e0, _, hB⟩ := hs.own n _ hb
  rw [hr] at e0; injection e0 with e0; injection e0 with e0 _; subst e0
  refine hs.upd hb hr (Turned.setObj w r _) (fun k' e => ?_) (.inr (fun es e => by cases e))
  injection e with e; subst e
  exact ⟨B, s, q, by simp [hB.lt], h2⟩
theorem goInt_rel (n : Int) : Rel E (.int .i64 (.lit n)) (goInt n) := by simp [Rel, SI.den, goInt]
theorem false_rel : Rel E (.bool (.lit false)) (.bool false) := by simp [Rel, SB.den]
theorem true_rel : Rel E (.bool (.lit true)) (.bool true) := by simp [Rel, SB.den]
/-- A choice of one case that does not wait. -/
theorem sel_steps (hC : CtxOk C) (hs : SRel X W0 C E H w) (ho : ops[i]? = some o) (hw : Region.wanted o (yielded ops a.tmps) = true) (hx : ∀ l, Opds E τ a.eval l) (h : exec o.op C τ H = .sel v H') (b : Frame) (k : List Item) (cs : List Frame) (rest : List Nat) :
    ∃ u w', Steps C.P (lone (b.at a (.inRegion ops (i :: rest) :: k)) cs w) (lone (b.at (a.put o.dst u) (.inRegion ops rest :: k)) cs w') ∧ Rel E v u ∧ SRel X W0 C E H' w' ∧ H'.ro = H.ro ∧ H'.lim = H.lim ∧ H'.next = H.next := by
  obtain ⟨scs, bl, hop, h1⟩ := exec_sel h
  obtain ⟨rfl, c, hc, n, cap, buf, h2, h3, h4⟩ := sel_inv (by simp) h1
  have hca := hx [c.chan] c.chan (by simp) _ h2
  simp only [Rel] at hca
  obtain ⟨r, ba, en, e, hca⟩ := hca
  obtain ⟨r', ba', en', e', hX, B, s, q, g1, g2⟩ := hs.own n _ h3
  rw [e] at e'; injection e' with e'; injection e' with e1 e'; injection e' with e2 e3; subst e1 e2 e3
  have hsc : scs = #[c] := by apply Array.toList_inj.1; simpa using hc
  have hrun : ∀ z, (∀ w, (zeroValue c.elem).run C.P w = .ok z w) → (execOp a.eval o).run C.P w = .ok (.comm #[{ chan := .chan (some r), send := c.send.map a.eval, zero := z }] false .select) w := fun z hz => by
    unfold execOp
    rw [hop, hsc]
    simp [hz, hca]
  have hlen := g2.len
  simp only [Array.length_toList] at hlen
  rcases h4 with ⟨hsn, h4⟩ | ⟨x, qv, hsn, h5, h4⟩
  · unfold selRecv at h4
    simp only [onSome_iff, ne_eq, reduceCtorEq, not_false_eq_true] at h4
    obtain ⟨ti, h6, z, h7, h8⟩ := h4
    obtain ⟨I, hT⟩ := hC.tinf h6
    obtain ⟨u, hz, hzr⟩ := zv_ok (E := E) hT h7
    obtain ⟨es, hst⟩ := step_comm (b := b) (k := k) (cs := cs) (rest := rest) ho hw (hrun u hz)
    rw [hsn] at hst
    cases buf with
    | nil =>
      have h8 : R.sel (.tup [.int .i64 (.lit (-1)), .bool (.lit false), z]) H = .sel v H' := h8
      injection h8 with h8 h9; subst h8 h9
      have hB : B = #[] := Array.size_eq_zero_iff.1 hlen
      have hstep := Conc.step_lone_select_default (c := r) (z := u) hst (by rw [g1, hB])
      rw [← Conc.lone_eq_solo, ← Conc.lone_eq_solo, fin_at ho] at hstep
      exact ⟨_, w, .one hstep, by simp only [Rel]; exact ⟨_, rfl, RelL.cons (goInt_rel _) (RelL.cons false_rel (RelL.cons hzr RelL.nil))⟩, hs, rfl, rfl, rfl⟩
    | cons v0 buf =>
      have h8 : (H.setB n (some (.chan cap buf)) fun H => R.sel (.tup [.int .i64 (.lit 0), .bool (.lit true), v0]) H) = R.sel v H' := h8
      rw [Heap.setB_eq] at h8
      injection h8 with h8 h9; subst h8 h9
      rw [RelL.cons_iff] at g2
      obtain ⟨x0, m, hB, hx0, hm⟩ := g2
      have hB0 : B.getD 0 undef = x0 := by rw [Array.getD_eq_getD_getElem?, ← Array.getElem?_toList, hB]; rfl
      have hstep := Conc.step_lone_select_recv_buf (c := r) (z := u) hst g1 (by rw [hlen]; simp)
      rw [← Conc.lone_eq_solo, ← Conc.lone_eq_solo, fin_at ho, hB0] at hstep
      refine ⟨_, _, .one hstep, by simp only [Rel]; exact ⟨_, rfl, RelL.cons (goInt_rel _) (RelL.cons true_rel (RelL.cons hx0 RelL.nil))⟩, chanSet_ok hs h3 e _ _ ?_, rfl, rfl, rfl⟩
      have : (B.extract 1 B.size).toList = m := by
        rw [Array.toList_extract, hB, List.extract_eq_take_drop]
        simp only [List.drop_succ_cons, List.drop_zero]
        rw [List.take_of_length_le]
        rw [← Array.length_toList, hB]; simp
      rw [this]; exact hm
  · unfold selSend at h4
    simp only [onSome_iff, ne_eq, reduceCtorEq, not_false_eq_true] at h4
    obtain ⟨ti, h6, z, h7, h8⟩ := h4
    obtain ⟨I, hT⟩ := hC.tinf h6
    obtain ⟨u, hz, hzr⟩ := zv_ok (E := E) hT h7
    obtain ⟨es, hst⟩ := step_comm (b := b) (k := k) (cs := cs) (rest := rest) ho hw (hrun u hz)
    rw [hsn] at hst
    have hxv := hx [x] x (by simp) _ h5
    rw [ife_eq] at h8
    simp only [Nat.blt_eq] at h8
    split at h8
    · rename_i hroom
      rw [lenAs_eq] at hroom
      rw [appK_eq, Heap.setB_eq] at h8
      injection h8 with h8 h9; subst h8 h9
      have hstep := Conc.step_lone_select_send_room (c := r) (v := a.eval x) (z' := u) hst g1 (by omega)
      rw [← Conc.lone_eq_solo, ← Conc.lone_eq_solo, fin_at ho] at hstep
      refine ⟨_, _, .one hstep, by simp only [Rel]; exact ⟨_, rfl, RelL.cons (goInt_rel _) (RelL.cons false_rel RelL.nil)⟩, chanSet_ok hs h3 e _ _ ?_, rfl, rfl, rfl⟩
      rw [Array.toList_push]
      exact g2.app (RelL.cons hxv RelL.nil)
    · rename_i hroom
      rw [lenAs_eq] at hroom
      injection h8 with h8 h9; subst h8 h9
      have hstep := Conc.step_lone_select_send_full (c := r) (v := a.eval x) (z' := u) hst g1 (by omega)
      rw [← Conc.lone_eq_solo, ← Conc.lone_eq_solo, fin_at ho] at hstep
      exact ⟨_, w, .one hstep, by simp only [Rel]; exact ⟨_, rfl, RelL.cons (goInt_rel _) (RelL.cons false_rel RelL.nil)⟩, hs, rfl, rfl, rfl⟩
end
end Go.Proofs.YtjebljnifeoiaaaGreat.Vm
