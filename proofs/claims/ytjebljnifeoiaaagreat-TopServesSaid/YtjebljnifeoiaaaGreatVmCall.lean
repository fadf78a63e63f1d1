/- The machine's walk is the model's: code, calls. No condition but those each theorem names. -/
import Derived.Test.YtjebljnifeoiaaaGreatVmMap
namespace Go.Proofs.YtjebljnifeoiaaaGreat.Vm
open Go
set_option linter.unusedVariables false
set_option linter.unusedSimpArgs false
section
variable {X : Nat → Prop} {W0 : World} {C : Ctx} {E Ec : Env} {N : Nat} {r : Run} {a : Act} {w : World} {s : St} {out : R}
theorem stepA_ok (hC : CtxOk C) (hmix : C.P.follows .mixedOrders = true) (hN : N < 2 ^ 62) (hr : RunOk C Ec N r) (hcall : ∀ f args H v H', callF C r f args H = .val v H' → CallOk C (Ext Ec) f args H v H') : RunOk C Ec N (fun c s => stepA c C r s) := by
  intro c hc s out h hg X W0 E a w hE hA
  cases c with
  | skip => exact wp_skip ⟨s, .inl ⟨h.symm, rfl⟩, Fin.refl hA⟩
  | region id ops draw => exact region_ok hC hmix hN hcall (show dstsOk N ops.toList = true from hc) h hg hE hA
  | seq x y =>
    have hc' : (codeOk N x && codeOk N y) = true := hc
    rw [Bool.and_eq_true] at hc'
    exact seq_ok hr hc'.1 hc'.2 h hg hE hA
  | cond c x y =>
    have hc' : (codeOk N x && codeOk N y) = true := hc
    rw [Bool.and_eq_true] at hc'
    exact cond_ok hr hc'.1 hc'.2 h hg hE hA
  | block i b => exact block_ok hr (show codeOk N b = true from hc) h hg hE hA
  | loop b =>
    have hb : codeOk N b = true := hc
    have h' : sLoop b r s = out := h
    unfold sLoop at h'
    cases hL : mapLoop b with
    | none =>
      rw [hL, onSome_none] at h'
      intro bf k cs
      obtain ⟨e, a', w', hw, harr⟩ := loopN_ok hr hb 100000 s out h' hg E a w hE hA bf k cs
      exact ⟨e, a', w', hw, .of_steps (.one step_loop) harr⟩
    | some L =>
      rw [hL, onSome_some] at h'
      exact mapLoopA_ok hC hr hN hL hb h' hg hE hA
  | rangeFunc => exact absurd h (hg.bad 227)
  | exit i => exact wp_exit ⟨s, .inr (.inl ⟨i, h.symm, rfl⟩), Fin.refl hA⟩
  | scope b =>
    have hb : codeOk N b = true := hc
    have h' : scopeN r b 100000 b s = out := h
    intro bf k cs
    obtain ⟨e, a', w', hw, harr⟩ := scopeN_ok hr hb 100000 b hb s out h' hg E a w hE hA bf k cs
    exact ⟨e, a', w', hw, .of_steps (.one step_scope) harr⟩
  | label l => exact wp_label ⟨s, .inl ⟨h.symm, rfl⟩, Fin.refl hA⟩
  | goto l => exact wp_goto ⟨s, .inr (.inr (.inl ⟨l, h.symm, rfl⟩)), Fin.refl hA⟩
  | ret => exact wp_ret ⟨s, .inr (.inr (.inr ⟨h.symm, rfl⟩)), Fin.refl hA⟩
  | refuse => exact absurd h (hg.bad 227)
/-- The first slots. -/
noncomputable def initTm : List AV → Tm → Nat → Tm
  | [], τ, _ => τ
  | v :: l, τ, i => initTm l (τ.set i (some v)) (i + 1)
theorem initT_eq (κ : Tm → R) : ∀ (l : List AV) (τ : Tm) (i : Nat), initT l κ τ i = κ (initTm l τ i)
  | [], τ, i => rfl
  | v :: l, τ, i => by
    have h : initT (v :: l) κ τ i = putA τ (some v) i fun τ => initT l κ τ (Nat.succ i) := rfl
    rw [h, putA_eq, initT_eq κ l]; rfl
theorem initTm_get : ∀ (l : List AV) (τ : Tm) (i t : Nat) (v : AV), i + l.length < 2 ^ 62 → (initTm l τ i).get t = some v → (∃ j, t = i + j ∧ l[j]? = some v) ∨ τ.get t = some v
  | [], τ, i, t, v, _, h => .inr h
  | x :: l, τ, i, t, v, hb, h => by
    rw [List.length_cons] at hb
    rcases initTm_get l (τ.set i (some x)) (i + 1) t v (by omega) h with ⟨j, h1, h2⟩ | h1
    · exact .inl ⟨j + 1, by omega, by simpa using h2⟩
    · rw [Tr.get_set _ _ _ _ (by omega)] at h1
      by_cases ht : t = i
      · rw [if_pos ht] at h1
        exact .inl ⟨0, by omega, by simpa using h1⟩
      · rw [if_neg ht] at h1; exact .inr h1
/-- What a function hands back. -/
theorem resultsK_ok (hC : CtxOk C) (hs : SRel X W0 C E s.H w) (ht : TRel E N s.τ a.tmps) {κ : List AV → R} {out : R} (hb : ∀ n, R.bad n ≠ out) (g : ResultVar → Sem Value) (g1 : ∀ t, g (.tmp t) = pure (a.tmps.getD t undef)) (g2 : ∀ q t, g (.cell q t) = do loadVar t (← asAddr (a.tmps.getD q undef))) : ∀ (l : List ResultVar) (acc : List AV), resultsK C s κ l acc = out →
    ∃ vs us, κ (acc ++ vs) = out ∧ RelL E vs us ∧ (l.mapM g).run C.P w = .ok us w
  | [], acc, h => ⟨[], [], by simpa using (show κ acc = out from h), RelL.nil, rfl⟩
  | x :: l, acc, h => by
    have h' : (resultK C s x fun v => resultsK C s κ l (acc ++ [v])) = out := h
    have hget : ∀ t v, s.τ.get t = some v → Rel E v (a.tmps.getD t undef) := fun t v e => by
      obtain ⟨u, h1, h2⟩ := ht.get t v e
      rw [Array.getD_eq_getD_getElem?, h1]; exact h2
    cases x with
    | tmp t =>
      have h2 : (onSome (getA s.τ t) (.bad 196) fun v => resultsK C s κ l (acc ++ [v])) = out := h'
      rw [onSome_iff (hb _)] at h2
      obtain ⟨v, h3, h4⟩ := h2
      obtain ⟨vs, us, k1, k2, k3⟩ := resultsK_ok hC hs ht hb g g1 g2 l _ h4
      refine ⟨v :: vs, _ :: us, by simpa using k1, RelL.cons (hget t v h3) k2, ?_⟩
      simp only [List.mapM_cons, Sem.run_bind, g1, Sem.run_pure, Result.andThen_ok, k3]
    | cell q t =>
      have h2 : (onSome (getA s.τ q) (.bad 196) fun v => v.onPtr (.bad 196) fun b o => loadC C s.H t b o (.bad 196) fun v => resultsK C s κ l (acc ++ [v])) = out := h'
      simp only [onSome_iff (hb _), AV.onPtr_iff (hb _)] at h2
      obtain ⟨v, h3, b, o, rfl, h4⟩ := h2
      obtain ⟨v, h5, h6⟩ := loadC_ok hC hs (hb _) h4
      have hp := hget q _ h3
      simp only [Rel] at hp
      obtain ⟨rr, ba, en, h7, h8⟩ := hp
      obtain ⟨u, h9, h10⟩ := h6 rr ba en h7
      obtain ⟨vs, us, k1, k2, k3⟩ := resultsK_ok hC hs ht hb g g1 g2 l _ h5
      refine ⟨v :: vs, u :: us, by simpa using k1, RelL.cons h10 k2, ?_⟩
      have ha : (asAddr (a.tmps.getD q undef)).run C.P w = .ok ⟨rr, ba + o, none⟩ w := by rw [h8]; rfl
      simp only [List.mapM_cons, Sem.run_bind, g2, ha, Sem.run_pure, Result.andThen_ok, h9, k3]
theorem finish_ok (hC : CtxOk C) (hs : SRel X W0 C E s.H w) (ht : TRel E N s.τ a.tmps) {fn : Func} {v : AV} {H' : Heap} (h : ife true (resultsK C s (retVal s.H) fn.results.toList []) (.bad 197) = .val v H') : H' = s.H ∧ ∃ u, (results fn a.tmps).run C.P w = .ok u w ∧ Rel E v u := by
  rw [ife_true] at h
  obtain ⟨vs, us, h1, h2, h3⟩ := resultsK_ok hC hs ht (by simp) (fun
    | .tmp t => pure (a.tmps.getD t undef)
    | .cell q t => do loadVar t (← asAddr (a.tmps.getD q undef))) (fun _ => rfl) (fun _ _ => rfl) _ _ h
  have hrun : (results fn a.tmps).run C.P w = .ok (if h : us.toArray.size = 1 then us.toArray[0] else .tuple us.toArray) w := by
    unfold results
    rw [Array.mapM_eq_mapM_toList]
    rw [Sem.run_bind, Sem.run_map]
    refine (congrArg (fun q => Result.andThen (Result.andThen q _) _) h3).trans ?_
    simp only [Result.andThen_ok, Sem.run_pure]
  rw [List.nil_append] at h1
  have hlen := h2.len
  cases vs with
  | nil =>
    have h4 : R.val (.tup []) s.H = .val v H' := h1
    injection h4 with h4 h5; subst h4 h5
    refine ⟨rfl, _, hrun, ?_⟩
    have : us = [] := List.length_eq_zero_iff.1 hlen
    subst this
    simp only [Rel]
    exact ⟨#[], rfl, RelL.nil⟩
  | cons x l =>
    cases l with
    | nil =>
      have h4 : R.val x s.H = .val v H' := h1
      injection h4 with h4 h5; subst h4 h5
      rw [RelL.cons_iff] at h2
      obtain ⟨u, m, rfl, h6, h7⟩ := h2
      rw [RelL.nil_iff] at h7; subst h7
      exact ⟨rfl, _, hrun, h6⟩
    | cons y l =>
      have h4 : R.val (.tup (x :: y :: l)) s.H = .val v H' := h1
      injection h4 with h4 h5; subst h4 h5
      refine ⟨rfl, _, hrun, ?_⟩
      rw [dif_neg (by simp only [List.length_cons] at hlen; simp; omega)]
      simp only [Rel]
      exact ⟨us.toArray, rfl, h2⟩
/-- Calls that were put off and do nothing. -/
theorem silent_ok (hsil : ∀ f, C.silent.contains f = true → SilentOk C.P f) (hprog : ProgOk C.P) {fn : Func} {tmps : Array Value} {RR : Ending → World → Prop} : ∀ (ds : List (AV × List AV)) (l : List Deferred), DRel E ds l → silentAll C ds = true → ∀ (w : World) (v : Value), (results fn tmps).run C.P w = .ok v w → RR (.returned v) w → Leaves C.P fn tmps RR l .returning w
  | [], l, h, _, w, v, hv, hR => by
    have h' : l = [] := h
    subst h'
    exact ⟨v, hv, hR⟩
  | p :: ds, l, h, hq, w, v, hv, hR => by
    obtain ⟨d, l', rfl, ⟨f, cs, vs, us, h2, h3, h4, rfl⟩, h6⟩ := h
    have hq' : (p.1.onFn false fun f _ => onList p.2 (ife (C.silent.contains f) (silentAll C ds) false) fun _ _ => false) = true := hq
    rw [h2] at hq'
    have hq2 : (onList p.2 (ife (C.silent.contains f) (silentAll C ds) false) fun _ _ => false) = true := hq'
    rw [onList_no (fun _ _ => by simp)] at hq2
    obtain ⟨hp, hq3⟩ := hq2
    rw [ife_iff (by simp)] at hq3
    obtain ⟨⟨fs, hf, hbody⟩, hcall⟩ := hsil f hq3.1
    rw [hp, RelL.nil_iff] at h4
    subst h4
    have hinv : (invoke (.fn (.func f) vs.toArray) (#[] : Array Value)).run C.P w = .ok (.enter f vs.toArray) w := by
      obtain ⟨c, hc⟩ := Option.isSome_iff_exists.1 hbody
      have hname := (hprog.code f fs c hf hc).2.2
      simp [invoke, callFunc, program, Sem.run, hf, hname, hc]
    refine leaves_cons (by simp) hinv ?_
    refine (hcall vs.toArray w).mono fun e u' w' he => ?_
    cases e with
    | returned v' =>
      obtain ⟨rfl, rfl⟩ := he
      exact silent_ok hsil hprog ds l' h6 hq3.2 _ v hv hR
    | panicked => exact he.elim
    | outgrown => exact he.elim
theorem findFact_ok : ∀ {l : List Fact} {f : Nat} {args : List AV} {v : AV}, findFact f args l = some v → ∃ x, x ∈ l ∧ x.f = f ∧ x.args = args ∧ x.res = v
  | x :: l, f, args, v, h => by
    have h' : ife (Nat.beq x.f f) (ife (beqAVs x.args args) (some x.res) (findFact f args l)) (findFact f args l) = some v := h
    rw [ife_eq, ife_eq] at h'
    split at h'
    · rename_i hf
      split at h'
      · rename_i ha
        injection h' with h'
        exact ⟨x, by simp, by rwa [Nat.beq_eq] at hf, beqAVs_eq ha, h'⟩
      · obtain ⟨y, h1, h2⟩ := findFact_ok h'; exact ⟨y, by simp [h1], h2⟩
    · obtain ⟨y, h1, h2⟩ := findFact_ok h'; exact ⟨y, by simp [h1], h2⟩
theorem callF_ok (hC : CtxOk C) (hprog : ProgOk C.P) (hsil : ∀ f, C.silent.contains f = true → SilentOk C.P f) (hfacts : FactsOk C Ec) (hr : ∀ N, N < 2 ^ 62 → RunOk C Ec N r) {f : Nat} {args : List AV} {H : Heap} {v : AV} {H' : Heap} (h : callF C r f args H = .val v H') : CallOk C (Ext Ec) f args H v H' := by
  unfold callF at h
  cases hfact : findFact f args C.facts with
  | some v' =>
    rw [hfact, onSome_some] at h
    injection h with h1 h2; subst h1 h2
    obtain ⟨x, hx, rfl, rfl, rfl⟩ := findFact_ok hfact
    exact hfacts x hx H
  | none =>
  rw [hfact, onSome_none] at h
  simp only [onSome_iff (show R.bad _ ≠ R.val v H' by simp)] at h
  obtain ⟨o, h1, fn, h2, h3⟩ := h
  have hfn := hC.fn f o h1
  rw [h2] at hfn
  have hfn := hfn.symm
  unfold callBody at h3
  cases hb : fn.body with
  | none =>
    rw [hb, onSome_none, ife_iff (by simp)] at h3
    obtain ⟨h4, h5⟩ := h3
    rw [onList_iff (by simp)] at h5
    obtain ⟨v1, l, rfl, h6⟩ := h5
    rw [onList_no (by simp)] at h6
    obtain ⟨rfl, h7⟩ := h6
    injection h7 with h7 h8; subst h7 h8
    intro X W0 E w us hE hs hus
    left
    rw [RelL.cons_iff] at hus
    obtain ⟨u, m, rfl, k1, k2⟩ := hus
    rw [RelL.nil_iff] at k2; subst k2
    exact ⟨u, w, E, hprog.esc f fn hfn hb h4 u w, Grew.refl _ _ _, k1, hs, rfl, rfl, Nat.le_refl _⟩
  | some c =>
    rw [hb, onSome_some, ife_iff (by simp), initT_eq] at h3
    obtain ⟨hlen, h4⟩ := h3
    rw [lenAs_eq, Nat.ble_eq] at hlen
    obtain ⟨hcode, hN, hname⟩ := hprog.code f fn c hfn hb
    intro X W0 E w us hE hs hus
    right
    refine ⟨by simp [callFunc, program, Sem.run, hfn, hname, hb], ?_⟩
    have hul := hus.len
    have hA : ARel X W0 C E fn.ntmps ⟨initTm args .e 0, H, []⟩ { tmps := us.toArray ++ Array.replicate (fn.ntmps - us.toArray.size) undef, defers := [] } w := by
      refine ⟨hs, ⟨by simp; omega, fun t v e => ?_⟩, rfl⟩
      rcases initTm_get args .e 0 t v (by omega) e with ⟨j, h5, h6⟩ | h5
      · obtain ⟨u, h7, h8⟩ := hus.get j v h6
        refine ⟨u, ?_, h8⟩
        have hj : j < us.length := (List.getElem?_eq_some_iff.1 h7).1
        show (us.toArray ++ Array.replicate (fn.ntmps - us.toArray.size) undef)[t]? = _
        rw [h5, Nat.zero_add, Array.getElem?_append_left (by simpa using hj)]
        simpa using h7
      · cases h5
    have good : ∀ s', (r c ⟨initTm args .e 0, H, []⟩ = .norm s' ∨ r c ⟨initTm args .e 0, H, []⟩ = .ret s') → finish C fn s' = .val v H' → Calls C.P f us.toArray w fun
      | .returned u, w' => ∃ E', Grew E E' H.next H'.next ∧ Rel E' v u ∧ SRel X W0 C E' H' w' ∧ H'.ro = H.ro ∧ H'.lim = H.lim ∧ H.next ≤ H'.next
      | _, _ => False := fun s' hs' hfin => by
      have hg : Good (r c ⟨initTm args .e 0, H, []⟩) := by
        rcases hs' with e | e
        · exact .inl ⟨_, e⟩
        · exact .inr (.inr (.inr ⟨_, e⟩))
      refine calls_of_wp_defers hfn hb (wp_mono (hr _ hN c hcode _ _ rfl hg X W0 E _ w hE hA) fun e a' w' hw => ?_)
      obtain ⟨s2, hends, E', k1, k2, k3, k4, k5⟩ := hw
      have key : s2 = s' → Leaves C.P fn a'.tmps (fun
        | .returned u, w' => ∃ E', Grew E E' H.next H'.next ∧ Rel E' v u ∧ SRel X W0 C E' H' w' ∧ H'.ro = H.ro ∧ H'.lim = H.lim ∧ H.next ≤ H'.next
        | _, _ => False) a'.defers .returning w' := fun es => by
        subst es
        unfold finish at hfin
        rw [ife_iff (by simp)] at hfin
        obtain ⟨q1, q2⟩ := hfin
        obtain ⟨rfl, u, q3, q4⟩ := finish_ok (fn := fn) hC k2.heap k2.tmps (v := v) (H' := H') (by rw [ife_true]; exact q2)
        exact silent_ok hsil hprog s2.ds a'.defers k2.dfr q1 w' u q3 ⟨E', k1, q4, k2.heap, k3, k4, k5⟩
      rcases hends with ⟨j1, rfl⟩ | ⟨i', j1, rfl⟩ | ⟨l, j1, rfl⟩ | ⟨j1, rfl⟩
      · refine key ?_
        rcases hs' with e | e
        · rw [j1] at e; injection e
        · rw [j1] at e; cases e
      · rcases hs' with e | e <;> (rw [j1] at e; cases e)
      · rcases hs' with e | e <;> (rw [j1] at e; cases e)
      · refine key ?_
        rcases hs' with e | e
        · rw [j1] at e; cases e
        · rw [j1] at e; injection e
    cases hrun : r c ⟨initTm args .e 0, H, []⟩ with
    | norm s' => rw [hrun] at h4; exact good s' (.inl hrun) h4
    | ret s' => rw [hrun] at h4; exact good s' (.inr hrun) h4
    | _ => rw [hrun] at h4; cases h4
/-- THE MACHINE IS SOUND: what it reckons of a call is what the model does. -/
theorem runA_ok (hC : CtxOk C) (hprog : ProgOk C.P) (hsil : ∀ f, C.silent.contains f = true → SilentOk C.P f) (hfacts : FactsOk C Ec) : ∀ n, ∀ N, N < 2 ^ 62 → RunOk C Ec N (runA C n)
  | 0, N, hN => fun c hc s out h hg => absurd h (hg.bad 229)
  | n + 1, N, hN => by
    have ih := runA_ok hC hprog hsil hfacts n
    exact stepA_ok hC hprog.orders hN (ih N hN) (fun f args H v H' h => callF_ok hC hprog hsil hfacts ih h)
theorem callA_ok (hC : CtxOk C) (hprog : ProgOk C.P) (hsil : ∀ f, C.silent.contains f = true → SilentOk C.P f) (hfacts : FactsOk C Ec) {n f : Nat} {args : List AV} {H : Heap} {v : AV} {H' : Heap} (h : callA C n f args H = .val v H') : CallOk C (Ext Ec) f args H v H' :=
  callF_ok hC hprog hsil hfacts (runA_ok hC hprog hsil hfacts n) h
end
end Go.Proofs.YtjebljnifeoiaaaGreat.Vm
