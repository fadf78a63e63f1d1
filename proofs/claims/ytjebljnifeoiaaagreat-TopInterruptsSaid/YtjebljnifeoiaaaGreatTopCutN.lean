/- Calls gone through part by part: what a call returns, told as a state. No condition. -/
import Derived.Test.YtjebljnifeoiaaaGreatVmGo
namespace Go.Proofs.YtjebljnifeoiaaaGreat.Vm.Cut
open Go Go.Proofs.YtjebljnifeoiaaaGreat.Vm Go.RowKit
set_option linter.unusedVariables false
set_option linter.unusedSimpArgs false
noncomputable def onV (x : R) : (AV → Heap → Bool) → Bool := R.rec (motive := fun _ => (AV → Heap → Bool) → Bool)
  (fun v H g => g v H) (fun _ _ _ => false) (fun _ _ _ => false) (fun _ _ _ => false) (fun _ _ => false) (fun _ _ => false) (fun _ _ => false) (fun _ _ => false) (fun _ _ _ => false) (fun _ _ _ => false) (fun _ _ => false) x
noncomputable def okEndV (L : List Nat) (θ : List SI) (C : Ctx) (fn : Func) (S : Sp) (r : R) : Bool := onV (outCR r C fn) fun v H => matchSp L θ [] 1 S ⟨tauOf [(0, v)], H, []⟩
section
variable {C C0 : Ctx} {N : Nat} {a : Act} {w W : World} {S : Sp} {σ : Nat → Int} {β : Nat → Bool} {fs : Nat → FS} {σl : List Int}
/-- The same blocks, other slots. -/
theorem swap {N' : Nat} {a' : Act} {sl : List (Nat × AV)} (hA : At W C N S σl [] fs a w) (hd : a'.defers = []) (hsz : a'.tmps.size = N') (hN : N' < 2 ^ 62)
    (h : ∀ t v, (t, v) ∈ sl → t < N' ∧ ∃ u, a'.tmps[t]? = some u ∧ ((∃ t0, S.st.τ.get t0 = some v ∧ a.tmps[t0]? = some u) ∨ ∀ E : Env, E.fs = fs → (∀ (i : Nat) x, σl[i]? = some x → E.σ i = x) → Rel E v u)) : At W C N' ⟨sl, S.blks⟩ σl [] fs a' w := by
  obtain ⟨ρ, hA⟩ := hA
  refine ⟨ρ, fun σ β hn => ?_⟩
  have hR := hA σ β hn
  refine ⟨hR.heap, ⟨hsz, fun t v e => ?_⟩, hd⟩
  have hm := tauOf_get sl t v (fun p hp => by obtain ⟨t', v'⟩ := p; have := (h t' v' hp).1; show t' < 2 ^ 62; omega) e
  obtain ⟨_, u, h1, h2⟩ := h t v hm
  refine ⟨u, h1, ?_⟩
  rcases h2 with ⟨t0, h3, h4⟩ | h2
  · obtain ⟨u', h5, h6⟩ := hR.tmps.get t0 v h3
    rw [h4] at h5
    injection h5 with h5; subst h5; exact h6
  · exact h2 _ rfl hn.σ
theorem tup {t0 : Nat} {v1 v2 : AV} (hA : At W C N S σl [] fs a w) (ht : S.st.τ.get t0 = some (.tup [v1, v2])) : ∃ u1 u2, a.tmps[t0]? = some (.tuple #[u1, u2]) ∧ At W C 2 ⟨[(0, v1), (1, v2)], S.blks⟩ σl [] fs ⟨#[u1, u2], []⟩ w := by
  obtain ⟨ρ, hA⟩ := hA
  have parts : ∀ (E : Env) u, Rel E (.tup [v1, v2]) u → ∃ u1 u2, u = .tuple #[u1, u2] ∧ Rel E v1 u1 ∧ Rel E v2 u2 := fun E u r => by
    simp only [Rel, RelL] at r
    obtain ⟨vs, rfl, x1, m1, e1, r1, x2, m2, e2, r2, e3⟩ := r
    subst e3 e2
    exact ⟨x1, x2, by congr 1; exact Array.toList_inj.1 e1, r1, r2⟩
  have h0 := hA (fun j => (σl[j]?).getD 0) (fun _ => false) ⟨fun j v h => by show (σl[j]?).getD 0 = v; rw [h]; rfl, fun j v h => by simp at h⟩
  obtain ⟨u, k1, k2⟩ := h0.tmps.get t0 _ ht
  obtain ⟨u1, u2, rfl, _, _⟩ := parts _ u k2
  refine ⟨u1, u2, k1, ρ, fun σ β hn => ?_⟩
  have hR := hA σ β hn
  obtain ⟨u', k3, k4⟩ := hR.tmps.get t0 _ ht
  rw [k1] at k3
  injection k3 with k3; subst k3
  obtain ⟨x1, x2, e, r1, r2⟩ := parts _ _ k4
  injection e with e
  have e1 : u1 = x1 := by have := congrArg (fun a : Array Value => a[0]?) e; simpa using this
  have e2 : u2 = x2 := by have := congrArg (fun a : Array Value => a[1]?) e; simpa using this
  subst e1 e2
  refine ⟨hR.heap, ⟨rfl, fun t v e => ?_⟩, rfl⟩
  have hm := tauOf_get [(0, v1), (1, v2)] t v (fun p hp => by
    simp only [List.mem_cons, List.not_mem_nil, or_false] at hp
    rcases hp with rfl | rfl
    · show 0 < 2 ^ 62; decide
    · show 1 < 2 ^ 62; decide) e
  simp only [List.mem_cons, Prod.mk.injEq, List.not_mem_nil, or_false] at hm
  rcases hm with ⟨rfl, rfl⟩ | ⟨rfl, rfl⟩
  · exact ⟨u1, rfl, r1⟩
  · exact ⟨u2, rfl, r2⟩
/-- A call of what lies in the slots. -/
theorem callAt {f : Nat} {fn : Func} {c : Code} {avs : List AV} {us : List Value} {R : Ending → World → Prop} (hf : C.P.funcs[f]? = some fn) (hb : fn.body = some c) (hA : At W C0 N S σl [] fs a w)
    (hargs : ∀ (j : Nat) v, avs[j]? = some v → ∃ t u, S.st.τ.get t = some v ∧ a.tmps[t]? = some u ∧ us[j]? = some u) (hl : us.length = avs.length) (hlen : avs.length ≤ fn.ntmps) (hN : fn.ntmps < 2 ^ 62)
    (h : ∀ a, At W C0 fn.ntmps ⟨slotsOf 0 avs, S.blks⟩ σl [] fs a w → c.wp C.P (bodyPostD C.P fn R) a w) : Calls C.P f us.toArray w R := by
  refine calls_of_wp_defers hf hb (h _ (swap hA rfl ?_ hN fun t v hm => ?_))
  · simp; omega
  · obtain ⟨j, h1, h2⟩ := slotsOf_mem hm
    obtain ⟨t0, u, h3, h4, h5⟩ := hargs j v h2
    have hj := (List.getElem?_eq_some_iff.1 h5).1
    rw [Nat.zero_add] at h1
    subst h1
    refine ⟨by omega, u, ?_, .inl ⟨t0, h3, h4⟩⟩
    rw [Array.getElem?_append_left (by simpa using hj)]
    simpa using h5
/-- Code that ends the function: what it returns, as a state. -/
theorem run_endV {n : Nat} {c : Code} {fn : Func} {L : List Nat} {θ : List SI} {Sr : Sp} (hA : At W C0 N S σl [] fs a w) (hn : Names σl [] σ β) (H : Env0 C C0 σ β fs) (hN : N < 2 ^ 62) (hcode : codeOk N c = true) (h : okEndV L θ C fn Sr (runA C n c S.st) = true) :
    c.wp C.P (bodyPostD C.P fn fun e w' => ∃ u, e = .returned u ∧ At W C0 1 Sr (θ.map (·.den (Env.of σ β fs))) [] fs ⟨#[u], []⟩ w') a w := by
  obtain ⟨E, hE, hR⟩ := hA.into hn H
  unfold okEndV at h
  cases hout : outCR (runA C n c S.st) C fn with
  | val v H' =>
    rw [hout] at h
    have hm : matchSp L θ [] 1 Sr ⟨tauOf [(0, v)], H', []⟩ = true := h
    have good : ∀ s', (runA C n c S.st = .norm s' ∨ runA C n c S.st = .ret s') → finish C fn s' = .val v H' → c.wp C.P (bodyPostD C.P fn fun e w' => ∃ u, e = .returned u ∧ At W C0 1 Sr (θ.map (·.den (Env.of σ β fs))) [] fs ⟨#[u], []⟩ w') a w := fun s' hs' hfin => by
      have hg : Good (runA C n c S.st) := by
        rcases hs' with e | e
        · exact .inl ⟨_, e⟩
        · exact .inr (.inr (.inr ⟨_, e⟩))
      refine wp_mono (runA_ok H.ctx H.prog H.sil H.facts n N hN c hcode _ _ rfl hg _ W E a w hE hR) fun e a' w' hw => ?_
      obtain ⟨s2, hends, E', k1, k2, k3, k4, k5⟩ := hw
      have key : s2 = s' → Leaves C.P fn a'.tmps (fun e w' => ∃ u, e = .returned u ∧ At W C0 1 Sr (θ.map (·.den (Env.of σ β fs))) [] fs ⟨#[u], []⟩ w') a'.defers .returning w' := fun es => by
        subst es
        unfold finish at hfin
        rw [ife_iff (by simp)] at hfin
        obtain ⟨q1, q2⟩ := hfin
        obtain ⟨rfl, u', q3, q4⟩ := finish_ok (fn := fn) H.ctx k2.heap k2.tmps (v := v) (H' := H') (by rw [ife_true]; exact q2)
        refine silent_ok H.sil H.prog s2.ds a'.defers k2.dfr q1 w' u' q3 ⟨u', rfl, ?_⟩
        refine At.out (a := ⟨#[u'], []⟩) (s := ⟨tauOf [(0, v)], s2.H, []⟩) (N := 1) (L := L) (θ := θ) (φ := []) (hE.trans k1.ext) ⟨k2.heap, ⟨rfl, fun t x e => ?_⟩, rfl⟩ H.fk (by decide) hm
        have hm := tauOf_get [(0, v)] t x (fun p hp => by
          simp only [List.mem_cons, List.not_mem_nil, or_false] at hp
          subst hp; show 0 < 2 ^ 62; decide) e
        simp only [List.mem_cons, Prod.mk.injEq, List.not_mem_nil, or_false] at hm
        obtain ⟨rfl, rfl⟩ := hm
        exact ⟨u', rfl, q4⟩
      rcases hends with ⟨j1, rfl⟩ | ⟨i', j1, rfl⟩ | ⟨l, j1, rfl⟩ | ⟨j1, rfl⟩
      · refine key ?_
        rcases hs' with e | e
        · rw [j1] at e; injection e
        · rw [j1] at e; cases e
      · rcases hs' with e | e <;> (rw [j1] at e; cases e)
      · rcases hs' with e | e <;> (rw [j1] at e; cases e)
      · refine key ?_
        rcases hs' with e | e
        · rw [j1] at e; cases e
        · rw [j1] at e; injection e
    cases hrun : runA C n c S.st with
    | norm s' => rw [hrun] at hout; exact good s' (.inl hrun) hout
    | ret s' => rw [hrun] at hout; exact good s' (.inr hrun) hout
    | _ => rw [hrun] at hout; cases hout
  | _ => rw [hout] at h; cases h
end
end Go.Proofs.YtjebljnifeoiaaaGreat.Vm.Cut
