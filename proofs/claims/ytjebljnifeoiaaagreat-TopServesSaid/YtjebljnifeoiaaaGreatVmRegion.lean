/- The machine's walk is the model's: a region in the text's order. No condition but those each theorem names. -/
import Derived.Test.YtjebljnifeoiaaaGreatVmStep
namespace Go.Proofs.YtjebljnifeoiaaaGreat.Vm
open Go
set_option linter.unusedVariables false
set_option linter.unusedSimpArgs false
section
variable {X : Nat → Prop} {W0 : World} {C : Ctx} {E : Env} {H H' : Heap} {w : World} {v : AV}
theorem dstsOk_cons {N : Nat} {o : Oper} {l : List Oper} (h : dstsOk N (o :: l) = true) : (∀ d, o.dst = some d → d < N) ∧ dstsOk N l = true := by
  have h' : ((match o.dst with | some d => decide (d < N) | none => true) && dstsOk N l) = true := h
  rw [Bool.and_eq_true] at h'
  refine ⟨fun d e => ?_, h'.2⟩
  have := h'.1
  rw [e] at this
  exact of_decide_eq_true this
theorem ARel.ext {E' : Env} {N : Nat} {s : St} {a : Act} (h : ARel X W0 C E N s a w) {H' : Heap} {w' : World} (x : Ext E E') (hs : SRel X W0 C E' H' w') : ARel X W0 C E' N ⟨s.τ, H', s.ds⟩ a w' := ⟨hs, h.tmps.ext x, h.dfr.ext x⟩
theorem ARel.put {N : Nat} {s : St} {a : Act} (h : ARel X W0 C E N s a w) (hN : N < 2 ^ 62) {dst : Option Nat} (hd : ∀ d, dst = some d → d < N) {v : AV} {u : Value} (r : Rel E v u) : ARel X W0 C E N ⟨putTm dst v s.τ, s.H, s.ds⟩ (a.put dst u) w :=
  ⟨h.heap, h.tmps.put hN hd r, by rw [put_defers]; exact h.dfr⟩
theorem ops_ok (hC : CtxOk C) {N : Nat} (hN : N < 2 ^ 62) {ops : Array Oper} {r : Run} {E0 : Env} (hcall : ∀ f args H v H', callF C r f args H = .val v H' → CallOk C (Ext E0) f args H v H') :
    ∀ (l : List Oper) (k : Nat), (∀ j, ops.toList[k + j]? = l[j]?) → dstsOk N l = true → ∀ (s : St) (out : R), opsA l C r ops.toList s = out → Good out → ∀ (E : Env) (a : Act) (w : World), Ext E0 E → ARel X W0 C E N s a w → ∀ (b : Frame) (kk : List Item) (cs : List Frame),
      ∃ s' E' a' w', out = .norm s' ∧ Steps C.P (lone (b.at a (.inRegion ops (List.range' k l.length) :: kk)) cs w) (lone (b.at a' (.inRegion ops [] :: kk)) cs w') ∧ Grew E E' s.H.next s'.H.next ∧ ARel X W0 C E' N s' a' w' ∧ s'.H.ro = s.H.ro ∧ s'.H.lim = s.H.lim ∧ s.H.next ≤ s'.H.next
  | [], k, _, _, s, out, h, hg, E, a, w, hE, hA, b, kk, cs => ⟨s, E, a, w, h.symm, Steps.refl _ _, Grew.refl _ _ _, hA, rfl, rfl, Nat.le_refl _⟩
  | o :: l, k, hl, hd, s, out, h, hg, E, a, w, hE, hA, b, kk, cs => by
    obtain ⟨hd1, hd2⟩ := dstsOk_cons hd
    have ho : ops[k]? = some o := by have := hl 0; simpa using this
    have hl' : ∀ j, ops.toList[k + 1 + j]? = l[j]? := fun j => by have := hl (j + 1); rw [show k + 1 + j = k + (j + 1) by omega, this]; simp
    have h' : (onSome (wantedA ops.toList o C s.τ) (.bad 208) fun w => ife w
      (xrOut (exec o.op C s.τ s.H) (fun v H => putT o.dst v s.τ fun τ => opsA l C r ops.toList ⟨τ, H, s.ds⟩)
        (fun f args => crOut (callF C r f args s.H) fun v H => putT o.dst v s.τ fun τ => opsA l C r ops.toList ⟨τ, H, s.ds⟩)
        (fun v args => putT o.dst .undef s.τ fun τ => opsA l C r ops.toList ⟨τ, s.H, (v, args) :: s.ds⟩))
      (putT o.dst .undef s.τ fun τ => opsA l C r ops.toList ⟨τ, s.H, s.ds⟩)) = out := h
    rw [onSome_iff (hg.bad _)] at h'
    obtain ⟨q, h1, h2⟩ := h'
    have hwant := wanted_ok hA.heap hA.tmps h1
    -- how it goes on from there
    have go : ∀ {v u E1 w1 H1 ds1} {a1 : Act}, opsA l C r ops.toList ⟨putTm o.dst v s.τ, H1, ds1⟩ = out → Grew E E1 s.H.next H1.next → Rel E1 v u → ARel X W0 C E1 N ⟨s.τ, H1, ds1⟩ a1 w1 → H1.ro = s.H.ro → H1.lim = s.H.lim → s.H.next ≤ H1.next →
        Steps C.P (lone (b.at a (.inRegion ops (List.range' k (l.length + 1)) :: kk)) cs w) (lone (b.at (a1.put o.dst u) (.inRegion ops (List.range' (k + 1) l.length) :: kk)) cs w1) →
        ∃ s' E' a' w', out = .norm s' ∧ Steps C.P (lone (b.at a (.inRegion ops (List.range' k (l.length + 1)) :: kk)) cs w) (lone (b.at a' (.inRegion ops [] :: kk)) cs w') ∧ Grew E E' s.H.next s'.H.next ∧ ARel X W0 C E' N s' a' w' ∧ s'.H.ro = s.H.ro ∧ s'.H.lim = s.H.lim ∧ s.H.next ≤ s'.H.next :=
      fun {v u E1 w1 H1 ds1 a1} k1 k2 k3 k4 k5 k6 k7 k8 => by
        have hA1 := k4.put hN hd1 k3
        obtain ⟨s', E', a', w', g1, g2, g3, g4, g5, g6, g7⟩ := ops_ok hC hN hcall l (k + 1) hl' hd2 _ out k1 hg E1 (a1.put o.dst u) w1 (hE.trans k2.ext) hA1 b kk cs
        exact ⟨s', E', a', w', g1, k8.trans g2, k2.trans g3 k7 g7, g4, g5.trans k5, g6.trans k6, Nat.le_trans k7 g7⟩
    have hrange : List.range' k (l.length + 1) = k :: List.range' (k + 1) l.length := List.range'_succ
    show ∃ s' E' a' w', out = .norm s' ∧ Steps C.P (lone (b.at a (.inRegion ops (List.range' k (l.length + 1)) :: kk)) cs w) _ ∧ _
    rw [ife_eq] at h2
    split at h2
    · rename_i hq
      subst hq
      rcases xrOut_cases hg h2 with ⟨v, H1, h3, h4⟩ | ⟨v, H1, h3, h4⟩ | ⟨f, as, h3, h4⟩ | ⟨v, as, h3, h4⟩
      · rw [putT_eq] at h4
        obtain ⟨nx, u, w1, E1, k1, k2, k3, k4, k5, k6, k7, k8⟩ := exec_val hC hA.heap (hA.tmps.opds _) h3
        refine go h4 k3 k4 (hA.ext k3.ext k5) k6 k7 k8 (.one ?_)
        rw [hrange]
        exact step_out ho hwant k1 k2
      · rw [putT_eq] at h4
        obtain ⟨u, w1, k1, k2, k3, k4, k5, k6⟩ := sel_steps hC hA.heap ho hwant (fun l => hA.tmps.opds l) h3 b kk cs (List.range' (k + 1) l.length)
        refine go h4 (E1 := E) (by rw [k6]; exact Grew.refl _ _ _) k2 (hA.ext (Ext.refl E) k3) k4 k5 (by omega) ?_
        rw [hrange]
        exact k1
      · obtain ⟨v, H1, h5, h6⟩ := crOut_cases hg h4
        rw [putT_eq] at h6
        obtain ⟨us, k1, k2⟩ := exec_call hC (hA.tmps.opds _) h3
        rcases hcall _ _ _ _ _ h5 X W0 E w us hE hA.heap k1 with ⟨u, w1, E1, k3, k4, k5, k6, k7, k8, k9⟩ | ⟨k3, k4⟩
        · refine go h6 k4 k5 (hA.ext k4.ext k6) k7 k8 k9 (.one ?_)
          rw [hrange]
          exact step_out ho hwant (by rw [k2, k3]) rfl
        · obtain ⟨u, w1, ⟨E1, k5, k6, k7, k8, k9, k10⟩, k11⟩ := steps_enter (b := b) (k := kk) (cs := cs) (rest := List.range' (k + 1) l.length) ho hwant (by rw [k2, k3]) k4
          refine go h6 k5 k6 (hA.ext k5.ext k7) k8 k9 k10 ?_
          rw [hrange]
          exact k11
      · rw [putT_eq] at h4
        obtain ⟨f, fcs, vs, us, rfl, k1, k2, k3⟩ := exec_dfr (hA.tmps.opds _) h3
        refine go h4 (E1 := E) (a1 := { a with defers := { target := .fn (.func f) vs.toArray, args := us.toArray } :: a.defers }) (Grew.refl _ _ _) undef_rel ⟨hA.heap, hA.tmps, _, _, rfl, ⟨f, fcs, vs, us, rfl, k1, k2, rfl⟩, hA.dfr⟩ rfl rfl (Nat.le_refl _) (.one ?_)
        rw [hrange]
        exact step_dfr ho hwant (k3 w)
    · rename_i hq
      rw [putT_eq] at h2
      refine go h2 (E1 := E) (Grew.refl _ _ _) undef_rel hA rfl rfl (Nat.le_refl _) (.one ?_)
      rw [hrange]
      have := step_op_skip (P := C.P) (b := b) (a := a) (k := kk) (cs := cs) (w := w) (ops := ops) (i := k) (rest := List.range' (k + 1) l.length) (by rw [ho]; simp [hwant, hq])
      simpa [ho] using this
end
end Go.Proofs.YtjebljnifeoiaaaGreat.Vm
