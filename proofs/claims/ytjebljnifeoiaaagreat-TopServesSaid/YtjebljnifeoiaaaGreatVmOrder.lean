/- The machine's walk is the model's: a region that draws its order: what holds however far it is. No condition but those each theorem names. -/
import Derived.Test.YtjebljnifeoiaaaGreatVmRead
namespace Go.Proofs.YtjebljnifeoiaaaGreat.Vm
open Go
set_option linter.unusedVariables false
set_option linter.unusedSimpArgs false
theorem absH_get (b : Nat) : ∀ (l : List PendE) (H : Heap) (x : Nat) (k : Blk), (∀ p, p ∈ l → p.id < 2 ^ 62) → (absH b H l).tr.get x = some k → H.tr.get x = some k ∨ ∃ p, p ∈ l ∧ bit b p.j = true ∧ p.id = x ∧ p.k = k
  | [], H, x, k, _, h => .inl h
  | p :: l, H, x, k, hi, h => by
    rw [absH] at h
    split at h
    · rename_i hb
      rcases absH_get b l _ x k (fun q hq => hi q (by simp [hq])) h with h1 | ⟨q, h1, h2⟩
      · rw [Heap.put_get (hi p (by simp))] at h1
        by_cases hx : x = p.id
        · rw [if_pos hx] at h1
          injection h1 with h1
          exact .inr ⟨p, by simp, hb, hx.symm, h1⟩
        · rw [if_neg hx] at h1; exact .inl h1
      · exact .inr ⟨q, by simp [h1], h2⟩
    · rcases absH_get b l _ x k (fun q hq => hi q (by simp [hq])) h with h1 | ⟨q, h1, h2⟩
      · exact .inl h1
      · exact .inr ⟨q, by simp [h1], h2⟩
theorem absH_rest (b : Nat) : ∀ (l : List PendE) (H : Heap), (absH b H l).ro = H.ro ∧ (absH b H l).next = H.next ∧ (absH b H l).lim = H.lim ∧ (absH b H l).it = H.it
  | [], H => ⟨rfl, rfl, rfl, rfl⟩
  | p :: l, H => by
    rw [absH]
    split
    · exact absH_rest b l _
    · exact absH_rest b l _
theorem allH_get : ∀ (l : List PendE) (H : Heap) (x : Nat) (k : Blk), (∀ p, p ∈ l → p.id < 2 ^ 62) → (allH H l).tr.get x = some k → H.tr.get x = some k ∨ ∃ p, p ∈ l ∧ p.id = x ∧ p.k = k
  | [], H, x, k, _, h => .inl h
  | p :: l, H, x, k, hi, h => by
    rw [allH] at h
    rcases allH_get l _ x k (fun q hq => hi q (by simp [hq])) h with h1 | ⟨q, h1, h2⟩
    · rw [Heap.put_get (hi p (by simp))] at h1
      by_cases hx : x = p.id
      · rw [if_pos hx] at h1
        injection h1 with h1
        exact .inr ⟨p, by simp, hx.symm, h1⟩
      · rw [if_neg hx] at h1; exact .inl h1
    · exact .inr ⟨q, by simp [h1], h2⟩
theorem allH_rest : ∀ (l : List PendE) (H : Heap), (allH H l).ro = H.ro ∧ (allH H l).next = H.next ∧ (allH H l).lim = H.lim ∧ (allH H l).it = H.it
  | [], H => ⟨rfl, rfl, rfl, rfl⟩
  | p :: l, H => by rw [allH]; exact allH_rest l _
/-- What is laid into the heap up to m. -/
def Absd (ms : Tr Nat) (ev : Nat → Ev) (m j : Nat) : Prop := ∃ e, e < m ∧ (ev e).isEff ∧ bit (mask ms e) j = true
/-- The blocks that are known when those of S are done. -/
def Gs (ms : Tr Nat) (ev : Nat → Ev) (Ds : Nat → DS) (n0 : Nat) (S : Nat → Prop) (m : Nat) (b : Nat) (k : Blk) : Prop :=
  (Ds m).H.tr.get b = some k ∨ ∃ j, b = n0 + j ∧ S j ∧ (ev j).blk = some k ∧ ¬ Absd ms ev m j
/-- Those of S are done, and those ahead of each. -/
structure Down (ops : Array Oper) (S : Nat → Prop) : Prop where
  lt : ∀ i, S i → i < ops.size
  pre : ∀ (i : Nat) (o : Oper), S i → ops[i]? = some o → ∀ p, p ∈ predsOf o.after.toList → S p
structure Inv (X : Nat → Prop) (W0 : World) (C : Ctx) (ops : Array Oper) (ms : Tr Nat) (n0 N lim : Nat) (Ro : Tr Blk) (it : Option It) (Ds : Nat → DS) (ev : Nat → Ev) (E0 : Env) (ds : List Deferred)
    (S : Nat → Prop) (E : Env) (m : Nat) (a : Act) (w : World) : Prop where
  le : m ≤ ops.size
  eff : ∀ e, e < ops.size → (ev e).isEff → (S e ↔ e < m)
  rel : FRel X W0 C E (Gs ms ev Ds n0 S m) Ro it w
  disj : ∀ j k, S j → (ev j).blk = some k → ¬ Absd ms ev m j → (Ds m).H.tr.get (n0 + j) = none
  ext : Ext E0 E
  out : ∀ b, b < n0 ∨ (Ds m).H.next ≤ b → E.ρ b = E0.ρ b
  free : ∀ j, j < ops.size → ¬ S j → E.ρ (n0 + j) = none
  hro : (Ds m).H.ro = Ro
  hlim : (Ds m).H.lim = lim
  hnext : n0 + ops.size ≤ (Ds m).H.next
  hit : (Ds m).H.it = it
  size : a.tmps.size = N
  put : ∀ (j : Nat) (o : Oper) (t : Nat), S j → ops[j]? = some o → o.dst = some t → ∃ u, a.tmps[t]? = some u ∧ Rel E (ev j).val u
  old : ∀ (t : Nat) (v : AV), (∀ (j : Nat) (o : Oper), S j → ops[j]? = some o → o.dst ≠ some t) → (Ds 0).τ.get t = some v → ∃ u, a.tmps[t]? = some u ∧ Rel E v u
  dfr : a.defers = ds
section
variable {X : Nat → Prop} {W0 : World} {C : Ctx} {r : Run} {ops : Array Oper} {ms : Tr Nat} {n0 N lim : Nat} {Ro : Tr Blk} {it : Option It} {Ds : Nat → DS} {ev : Nat → Ev} {E0 : Env} {ds : List Deferred} {S : Nat → Prop} {E : Env} {m : Nat} {a : Act} {w : World}
/-- Is it wanted? As the model says, if what it looks at is as the machine says. -/
theorem wanted_at {X : Nat → Prop} {W0 : World} {H : Heap} (hs : SRel X W0 C E H w) {τ : Tm} {o : Oper} (hl : ∀ t v, t ∈ o.looksAt ops → τ.get t = some v → ∃ u, a.tmps[t]? = some u ∧ Rel E v u) {q : Bool} (h : wantedA ops.toList o C τ = some q) : Region.wanted o (yielded ops a.tmps) = q := by
  unfold wantedA at h
  unfold Region.wanted
  cases hg : o.guard with
  | none =>
    rw [hg] at h
    injection h
  | some g =>
    rw [hg, onSome_some] at h
    simp only [onSome_iff, ne_eq, reduceCtorEq, not_false_eq_true, nth_eq, getA_eq] at h
    obtain ⟨p, h1, d, h2, x, h3, h4⟩ := h
    have hmem : d ∈ o.looksAt ops := by
      unfold Oper.looksAt
      have : ops[g.1]? = some p := by simpa using h1
      rw [List.mem_append]; right
      rw [hg]
      obtain ⟨j, want⟩ := g
      simp only at this ⊢
      rw [this]; simp [h2]
    obtain ⟨u, h5, h6⟩ := hl d x hmem h3
    have hy : ∀ q, (∀ b, u = .bool b → q = some b) → ((∀ b, u ≠ .bool b) → q = none) → yielded ops a.tmps g.1 = q := fun q k1 k2 => by
      unfold yielded
      have : ops[g.1]? = some p := by simpa using h1
      rw [this]
      simp only [Option.bind_some, h2, h5]
      split
      · rename_i b e; injection e with e; exact (k1 b e).symm
      · rename_i e; exact (k2 (fun b e' => e b (by rw [e']))).symm
    rw [AV.onBool_eq] at h4
    split at h4
    · rename_i s
      rw [onSome_iff (by simp)] at h4
      obtain ⟨b, h7, h8⟩ := h4
      injection h8 with h8
      have hb := decB_ok hs h7
      simp only [Rel] at h6
      obtain ⟨j, want⟩ := g
      simp only at hy h8 ⊢
      rw [hy (some b) (fun b' e => by rw [h6, hb] at e; injection e with e; rw [e]) (fun k => absurd (by rw [h6, hb]) (k b)), ← h8, beqB_dec]
      cases b <;> cases want <;> rfl
    · rw [AV.onTup_iff (by simp)] at h4
      obtain ⟨l, rfl, h7⟩ := h4
      cases l with
      | cons => cases h7
      | nil =>
        have h8 : some false = some q := h7
        injection h8 with h8
        simp only [Rel] at h6
        obtain ⟨vs, rfl, _⟩ := h6
        obtain ⟨j, want⟩ := g
        simp only at hy ⊢
        rw [hy none (fun b e => by cases e) (fun _ => rfl), ← h8]; rfl
theorem opds_at {τ : Tm} {o : Oper} (hl : ∀ t v, t ∈ o.looksAt ops → τ.get t = some v → ∃ u, a.tmps[t]? = some u ∧ Rel E v u) : Opds E τ a.eval o.op.operands.toList := fun x hx v e => by
  cases x with
  | tmp t =>
    have e' : τ.get t = some v := e
    obtain ⟨u, h1, h2⟩ := hl t v (by
      unfold Oper.looksAt
      rw [List.mem_append]; left
      exact List.mem_filterMap.2 ⟨.tmp t, hx, rfl⟩) e'
    have : a.eval (.tmp t) = u := by
      show a.tmps.getD t undef = u
      rw [Array.getD_eq_getD_getElem?, h1]; rfl
    rw [this]; exact h2
  | const c => exact ofValue_rel (show ofValue c = some v from e)
  | func f =>
    have e' : some (AV.fn f []) = some v := e
    injection e' with e'; subst e'
    simp only [Rel]
    exact ⟨#[], rfl, RelL.nil⟩
  | _ => cases e
theorem Down.bits (hd : Down ops S) (T : Txt C r ops ms n0 N Ds ev) : ∀ i, S i → ∀ q, bit (mask ms i) q = true → S q := by
  intro i
  induction i using Nat.strongRecOn with
  | _ i ih =>
    intro hi q hq
    have hlt := hd.lt i hi
    have ho : ops[i]? = some ops[i] := by simp [hlt]
    obtain ⟨p, hp, h1⟩ := T.plan.masks.bit i _ hlt (by rw [Array.getElem?_toList]; exact ho) q hq
    have hS := hd.pre i _ hi ho p hp
    rcases h1 with rfl | h1
    · exact hS
    · exact ih p (T.plan.masks.lt i _ hlt (by rw [Array.getElem?_toList]; exact ho) p hp) hS q h1
theorem Down.ready (hd : Down ops S) (T : Txt C r ops ms n0 N Ds ev) {j : Nat} {o : Oper} (ho : ops[j]? = some o) (hp : ∀ p, p ∈ predsOf o.after.toList → S p) : ∀ q, bit (mask ms j) q = true → S q := fun q hq => by
  have hlt : j < ops.size := (Array.getElem?_eq_some_iff.1 ho).1
  obtain ⟨p, h1, h2⟩ := T.plan.masks.bit j o hlt (by simpa using ho) q hq
  rcases h2 with rfl | h2
  · exact hp _ h1
  · exact hd.bits T p (hp p h1) q h2
/-- What it looks at is as the machine says. -/
theorem Inv.looks (I : Inv X W0 C ops ms n0 N lim Ro it Ds ev E0 ds S E m a w) (T : Txt C r ops ms n0 N Ds ev) (hd : Down ops S) {j : Nat} {o : Oper} (ho : ops[j]? = some o) (hj : ¬ S j) (hp : ∀ q, bit (mask ms j) q = true → S q) :
    ∀ t v, t ∈ o.looksAt ops → (Ds j).τ.get t = some v → ∃ u, a.tmps[t]? = some u ∧ Rel E v u := fun t v ht e => by
  have hlt : j < ops.size := (Array.getElem?_eq_some_iff.1 ho).1
  rcases T.tau t v j (by omega) e with ⟨i, o', h1, h2, h3, rfl⟩ | ⟨h1, h2⟩
  · rcases T.plan.looks j i o o' t ho h2 h3 ht with h4 | h4 | h4
    · omega
    · exact I.put i o' t (hp i h4) h2 h3
    · have := T.low (by omega) h4; omega
  · refine I.old t v (fun i o' hi ho' hdst => ?_) h2
    have hil := hd.lt i hi
    rcases T.plan.looks j i o o' t ho ho' hdst ht with h4 | h4 | h4
    · subst h4; exact hj hi
    · exact h1 i o' (T.low hlt h4) ho' hdst
    · exact hj (hd.bits T i hi j h4)
/-- So it goes on: the slots. -/
theorem Inv.next (I : Inv X W0 C ops ms n0 N lim Ro it Ds ev E0 ds S E m a w) (T : Txt C r ops ms n0 N Ds ev) (hd : Down ops S) {j : Nat} {o : Oper} (ho : ops[j]? = some o) (hj : ¬ S j) {E' : Env} {m' : Nat} {w' : World} {u : Value} (x : Ext E E')
    (hle : m' ≤ ops.size) (heff : ∀ e, e < ops.size → (ev e).isEff → ((S e ∨ e = j) ↔ e < m')) (hrel : FRel X W0 C E' (Gs ms ev Ds n0 (fun i => S i ∨ i = j) m') Ro it w')
    (hdisj : ∀ i k, (S i ∨ i = j) → (ev i).blk = some k → ¬ Absd ms ev m' i → (Ds m').H.tr.get (n0 + i) = none) (hout : ∀ b, b < n0 ∨ (Ds m').H.next ≤ b → E'.ρ b = E0.ρ b) (hfree : ∀ i, i < ops.size → ¬ (S i ∨ i = j) → E'.ρ (n0 + i) = none)
    (hro : (Ds m').H.ro = Ro) (hlim : (Ds m').H.lim = lim) (hnext : n0 + ops.size ≤ (Ds m').H.next) (hit : (Ds m').H.it = it) (hv : Rel E' (ev j).val u) : Inv X W0 C ops ms n0 N lim Ro it Ds ev E0 ds (fun i => S i ∨ i = j) E' m' (a.put o.dst u) w' := by
  have hsz : (a.put o.dst u).tmps.size = N := by rw [← I.size]; cases o.dst <;> simp [Act.put]
  have hget : ∀ t, o.dst ≠ some t → (a.put o.dst u).tmps[t]? = a.tmps[t]? := fun t ht => by
    cases hdst : o.dst with
    | none => rfl
    | some d =>
      show (a.tmps.setIfInBounds d u)[t]? = _
      rw [Array.getElem?_setIfInBounds, if_neg]
      intro e; rw [hdst, e] at ht; exact ht rfl
  refine ⟨hle, heff, hrel, hdisj, I.ext.trans x, hout, hfree, hro, hlim, hnext, hit, hsz, fun i o' t hi ho' ht => ?_, fun t v hn e => ?_, by rw [put_defers]; exact I.dfr⟩
  · rcases hi with hi | rfl
    · obtain ⟨u', h1, h2⟩ := I.put i o' t hi ho' ht
      refine ⟨u', ?_, h2.ext x⟩
      rw [hget t (fun e => ?_)]; exact h1
      have := T.plan.uniq i j o' o t ho' ho ht e
      subst this; exact hj hi
    · rw [ho] at ho'; injection ho' with ho'; subst ho'
      refine ⟨u, ?_, hv⟩
      rw [ht]
      show (a.tmps.setIfInBounds t u)[t]? = _
      rw [Array.getElem?_setIfInBounds, if_pos rfl, if_pos (by rw [I.size]; exact T.dsts i o t ho ht)]
  · obtain ⟨u', h1, h2⟩ := I.old t v (fun i o' hi ho' => hn i o' (.inl hi) ho') e
    refine ⟨u', ?_, h2.ext x⟩
    rw [hget t (hn j o (.inr rfl) ho)]; exact h1
theorem Gs.fun (I : Inv X W0 C ops ms n0 N lim Ro it Ds ev E0 ds S E m a w) {b : Nat} {k k' : Blk} (h : Gs ms ev Ds n0 S m b k) (h' : Gs ms ev Ds n0 S m b k') : k = k' := by
  rcases h with h | ⟨j, hb, h1, h2, h3⟩ <;> rcases h' with h' | ⟨j', hb', h1', h2', h3'⟩
  · rw [h] at h'; injection h'
  · rw [hb', I.disj j' k' h1' h2' h3'] at h; cases h
  · rw [hb, I.disj j k h1 h2 h3] at h'; cases h'
  · have : j = j' := by omega
    subst this
    rw [h2] at h2'; injection h2'
theorem Inv.fresh (I : Inv X W0 C ops ms n0 N lim Ro it Ds ev E0 ds S E m a w) (hf : ∀ b, n0 ≤ b → b < lim → E0.ρ b = none) : ∀ b, (Ds m).H.next ≤ b → b < lim → E.ρ b = none := fun b h1 h2 => by
  rw [I.out b (.inr h1)]
  exact hf b (by have := I.hnext; omega) h2
end
end Go.Proofs.YtjebljnifeoiaaaGreat.Vm
