/- The machine's walk is the model's: a region that draws its order: what holds at each operation in the text's order. No condition but those each theorem names. -/
import Derived.Test.YtjebljnifeoiaaaGreatVmTrace
namespace Go.Proofs.YtjebljnifeoiaaaGreat.Vm
open Go
set_option linter.unusedVariables false
set_option linter.unusedSimpArgs false
/-- A region as the machine goes through it. -/
structure Txt (C : Ctx) (r : Run) (ops : Array Oper) (ms : Tr Nat) (n0 N : Nat) (Ds : Nat → DS) (ev : Nat → Ev) : Prop where
  step : ∀ (i : Nat) (o : Oper), ops[i]? = some o → DStep C r ops.toList ms n0 o i (Ds i) (ev i) (Ds (i + 1))
  plan : Plan ops ms
  bound : N < 2 ^ 62
  dsts : ∀ (i : Nat) (o : Oper) (d : Nat), ops[i]? = some o → o.dst = some d → d < N
  hist : (Ds 0).hist = []
  rd : (Ds 0).rd = []
  pend : (Ds 0).pend = []
section
variable {C : Ctx} {r : Run} {ops : Array Oper} {ms : Tr Nat} {n0 N : Nat} {Ds : Nat → DS} {ev : Nat → Ev}
theorem Txt.at (T : Txt C r ops ms n0 N Ds ev) {i : Nat} (h : i < ops.size) : ∃ o, ops[i]? = some o ∧ DStep C r ops.toList ms n0 o i (Ds i) (ev i) (Ds (i + 1)) := ⟨ops[i], by simp [h], T.step i _ (by simp [h])⟩
theorem Txt.tau_succ (T : Txt C r ops ms n0 N Ds ev) {i : Nat} {o : Oper} (h : ops[i]? = some o) : (Ds (i + 1)).τ = putTm o.dst (ev i).val (Ds i).τ := by
  have h1 := T.step i o h
  generalize ev i = e at h1
  generalize Ds (i + 1) = D' at h1
  cases h1 <;> rfl
theorem Txt.tau_get (T : Txt C r ops ms n0 N Ds ev) {i : Nat} {o : Oper} (h : ops[i]? = some o) (t : Nat) : (Ds (i + 1)).τ.get t = if o.dst = some t then some (ev i).val else (Ds i).τ.get t := by
  rw [T.tau_succ h]
  cases hd : o.dst with
  | none => simp [putTm]
  | some d =>
    have := T.dsts i o d h hd
    have hb := T.bound
    show ((Ds i).τ.set d (some (ev i).val)).get t = _
    rw [Tr.get_set _ _ _ _ (by omega)]
    by_cases ht : t = d
    · subst ht; simp
    · rw [if_neg ht, if_neg (fun e => ht (Option.some.inj e).symm)]
/-- Where a slot's value comes from. -/
theorem Txt.tau (T : Txt C r ops ms n0 N Ds ev) (t : Nat) (v : AV) : ∀ m, m ≤ ops.size → (Ds m).τ.get t = some v →
    (∃ (j : Nat) (o : Oper), j < m ∧ ops[j]? = some o ∧ o.dst = some t ∧ v = (ev j).val) ∨ ((∀ (j : Nat) (o : Oper), j < m → ops[j]? = some o → o.dst ≠ some t) ∧ (Ds 0).τ.get t = some v)
  | 0, _, h => .inr ⟨fun j o hj => by omega, h⟩
  | m + 1, hm, h => by
    obtain ⟨o, ho, _⟩ := T.at (show m < ops.size by omega)
    rw [T.tau_get ho] at h
    split at h
    · rename_i hd
      injection h with h
      exact .inl ⟨m, o, by omega, ho, hd, h.symm⟩
    · rename_i hd
      rcases Txt.tau T t v m (by omega) h with ⟨j, o', h1, h2⟩ | ⟨h1, h2⟩
      · exact .inl ⟨j, o', by omega, h2⟩
      · refine .inr ⟨fun j o' hj ho' => ?_, h2⟩
        by_cases hjm : j = m
        · subst hjm; rw [ho] at ho'; injection ho' with ho'; subst ho'; exact hd
        · exact h1 j o' (by omega) ho'
theorem Txt.heap_succ (T : Txt C r ops ms n0 N Ds ev) {i : Nat} (h : i < ops.size) (he : ¬ (ev i).isEff) : (Ds (i + 1)).H = (Ds i).H := by
  obtain ⟨o, _, h1⟩ := T.at h
  generalize ev i = e at h1 he
  generalize Ds (i + 1) = D' at h1
  cases h1 <;> first | rfl | exact absurd trivial he
theorem Txt.heap (T : Txt C r ops ms n0 N Ds ev) (m : Nat) : ∀ d, m + d ≤ ops.size → (∀ e, m ≤ e → e < m + d → ¬ (ev e).isEff) → (Ds (m + d)).H = (Ds m).H
  | 0, _, _ => rfl
  | d + 1, h, he => (T.heap_succ (show m + d < ops.size by omega) (he (m + d) (by omega) (by omega))).trans (Txt.heap T m d (by omega) fun e h1 h2 => he e h1 (by omega))
theorem Txt.heap_eq (T : Txt C r ops ms n0 N Ds ev) {m m' : Nat} (h : m ≤ m') (hm : m' ≤ ops.size) (he : ∀ e, m ≤ e → e < m' → ¬ (ev e).isEff) : (Ds m').H = (Ds m).H := by
  have := T.heap m (m' - m) (by omega) (fun e h1 h2 => he e h1 (by omega))
  rwa [show m + (m' - m) = m' by omega] at this
/-- What bears on its masks. -/
theorem Txt.low (T : Txt C r ops ms n0 N Ds ev) {e q : Nat} (h : e < ops.size) (hb : bit (mask ms e) q = true) : q < e := T.plan.masks.low (by simp) e h q hb
/-- What waits to be laid in. -/
theorem Txt.pends (T : Txt C r ops ms n0 N Ds ev) : ∀ m, m ≤ ops.size → ∀ p, p ∈ (Ds m).pend → p.j < m ∧ p.id = n0 + p.j ∧ (ev p.j).blk = some p.k ∧ ∀ e, e < m → (ev e).isEff → bit (mask ms e) p.j = false
  | 0, _, p, hp => by rw [T.pend] at hp; simp at hp
  | m + 1, hm, p, hp => by
    have ih := Txt.pends T m (by omega)
    obtain ⟨o, ho, h1⟩ := T.at (show m < ops.size by omega)
    have old : ¬ (ev m).isEff → p ∈ (Ds m).pend → p.j < m + 1 ∧ p.id = n0 + p.j ∧ (ev p.j).blk = some p.k ∧ ∀ e, e < m + 1 → (ev e).isEff → bit (mask ms e) p.j = false := fun hne hp => by
      obtain ⟨k1, k2, k3, k4⟩ := ih p hp
      refine ⟨by omega, k2, k3, fun e he hee => ?_⟩
      by_cases hem : e = m
      · subst hem; exact absurd hee hne
      · exact k4 e (by omega) hee
    generalize hev : ev m = e0 at h1
    generalize hD : Ds (m + 1) = D' at h1 hp
    cases h1 with
    | skip h => exact old (by rw [hev]; exact id) hp
    | pure0 v H1 h hx hn => exact old (by rw [hev]; exact id) hp
    | pure1 v H1 k h hx hn hk =>
      have hp' : p ∈ (⟨m, n0 + m, k⟩ : PendE) :: (Ds m).pend := hp
      rw [List.mem_cons] at hp'
      rcases hp' with rfl | hp'
      · refine ⟨by show m < m + 1; omega, rfl, by show (ev m).blk = _; rw [hev]; rfl, fun e he hee => ?_⟩
        cases hb : bit (mask ms e) m with
        | false => rfl
        | true =>
          have := T.low (by omega) hb
          omega
      · exact old (by rw [hev]; exact id) hp'
    | read v K h hr hx hh => exact old (by rw [hev]; exact id) hp
    | eff v H' h hl hx hr =>
      have hp' : p ∈ keepL (mask ms m) [] (Ds m).pend := hp
      rcases keepL_mem hp' with hp' | ⟨hp', hb⟩
      · simp at hp'
      · obtain ⟨k1, k2, k3, k4⟩ := ih p hp'
        refine ⟨by omega, k2, k3, fun e he hee => ?_⟩
        by_cases hem : e = m
        · subst hem; exact hb
        · exact k4 e (by omega) hee
/-- What was read. -/
theorem Txt.rds (T : Txt C r ops ms n0 N Ds ev) {j : Nat} {o : Oper} {v : AV} (ho : ops[j]? = some o) (hj : ev j = .read v) : ∀ m, m ≤ ops.size → j < m → (⟨j, o.op, (Ds j).τ, v⟩ : RdE) ∈ (Ds m).rd
  | 0, _, h => by omega
  | m + 1, hm, h => by
    obtain ⟨o', ho', h1⟩ := T.at (show m < ops.size by omega)
    by_cases hjm : j = m
    · subst hjm
      rw [ho] at ho'; injection ho' with ho'; subst ho'
      rw [hj] at h1
      generalize Ds (j + 1) = D' at h1
      cases h1 with
      | read v K h hr hx hh => exact List.mem_cons_self
    · have ih := Txt.rds T ho hj m (by omega) (by omega)
      generalize ev m = e0 at h1
      generalize Ds (m + 1) = D' at h1
      cases h1 <;> first | exact ih | exact List.mem_cons_of_mem _ ih
/-- The heaps ahead of what turned something. -/
theorem Txt.hists (T : Txt C r ops ms n0 N Ds ev) {e : Nat} (he : (ev e).isEff) : ∀ m, m ≤ ops.size → e < m → (e, (Ds e).H) ∈ (Ds m).hist
  | 0, _, h => by omega
  | m + 1, hm, h => by
    obtain ⟨o', ho', h1⟩ := T.at (show m < ops.size by omega)
    by_cases hem : e = m
    · subst hem
      generalize hev : ev e = e0 at h1 he
      generalize Ds (e + 1) = D' at h1
      cases h1 <;> first | exact he.elim | exact List.mem_cons_self
    · have ih := Txt.hists T he m (by omega) (by omega)
      generalize ev m = e0 at h1
      generalize Ds (m + 1) = D' at h1
      cases h1 <;> first | exact ih | exact List.mem_cons_of_mem _ ih
/-- The last that turned something. -/
theorem Txt.last (T : Txt C r ops ms n0 N Ds ev) : ∀ m, m ≤ ops.size → (∀ e, e < m → ¬ (ev e).isEff) ∨ ∃ e H l, (Ds m).hist = (e, H) :: l ∧ e < m ∧ (ev e).isEff ∧ ∀ e', e < e' → e' < m → ¬ (ev e').isEff
  | 0, _ => .inl fun e h => by omega
  | m + 1, hm => by
    obtain ⟨o', ho', h1⟩ := T.at (show m < ops.size by omega)
    have ih := Txt.last T m (by omega)
    have old : ¬ (ev m).isEff → (Ds (m + 1)).hist = (Ds m).hist → (∀ e, e < m + 1 → ¬ (ev e).isEff) ∨ ∃ e H l, (Ds (m + 1)).hist = (e, H) :: l ∧ e < m + 1 ∧ (ev e).isEff ∧ ∀ e', e < e' → e' < m + 1 → ¬ (ev e').isEff := fun hne heq => by
      rcases ih with ih | ⟨e, H, l, h2, h3, h4, h5⟩
      · refine .inl fun e he => ?_
        by_cases hem : e = m
        · subst hem; exact hne
        · exact ih e (by omega)
      · refine .inr ⟨e, H, l, heq.trans h2, by omega, h4, fun e' he1 he2 => ?_⟩
        by_cases hem : e' = m
        · subst hem; exact hne
        · exact h5 e' he1 (by omega)
    generalize hev : ev m = e0 at h1
    generalize hD : Ds (m + 1) = D' at h1 old
    cases h1 with
    | eff v H' h hl hx hr => exact .inr ⟨m, _, _, rfl, by omega, by rw [hev]; trivial, fun e' h1 h2 => by omega⟩
    | _ => exact old (by rw [hev]; exact id) rfl
/-- What turns something waits for the last that did. -/
theorem Txt.chain (T : Txt C r ops ms n0 N Ds ev) {e : Nat} (h : e < ops.size) (he : (ev e).isEff) : (∀ e', e' < e → ¬ (ev e').isEff) ∨ ∃ e', e' < e ∧ (ev e').isEff ∧ bit (mask ms e) e' = true ∧ ∀ e'', e' < e'' → e'' < e → ¬ (ev e'').isEff := by
  obtain ⟨o, ho, h1⟩ := T.at h
  rcases T.last e (by omega) with h2 | ⟨e', H, l, h2, h3, h4, h5⟩
  · exact .inl h2
  · refine .inr ⟨e', h3, h4, ?_, h5⟩
    generalize ev e = e0 at h1 he
    generalize Ds (e + 1) = D' at h1
    cases h1 with
    | eff v H' h hl hx hr => rw [h2] at hl; exact hl
    | _ => exact he.elim
end
end Go.Proofs.YtjebljnifeoiaaaGreat.Vm
