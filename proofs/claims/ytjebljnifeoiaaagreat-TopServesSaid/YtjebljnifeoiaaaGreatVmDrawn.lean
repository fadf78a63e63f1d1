/- The machine's walk is the model's: a region that draws its order. No condition but those each theorem names. -/
import Derived.Test.YtjebljnifeoiaaaGreatVmOrder2
namespace Go.Proofs.YtjebljnifeoiaaaGreat.Vm
open Go
set_option linter.unusedVariables false
set_option linter.unusedSimpArgs false
def cnt (f : Nat → Bool) : Nat → Nat
  | 0 => 0
  | k + 1 => cnt f k + (if f k = true then 1 else 0)
theorem cnt_le (f : Nat → Bool) : ∀ k, cnt f k ≤ k
  | 0 => Nat.le_refl _
  | k + 1 => by have := cnt_le f k; unfold cnt; split <;> omega
theorem cnt_zero {f : Nat → Bool} : ∀ {k}, cnt f k = 0 → ∀ i, i < k → f i = false
  | k + 1, h, i, hi => by
    unfold cnt at h
    by_cases hik : i = k
    · subst hik
      cases hf : f i with
      | false => rfl
      | true => rw [hf] at h; simp at h
    · exact cnt_zero (show cnt f k = 0 by omega) i (by omega)
theorem cnt_same {f g : Nat → Bool} : ∀ {k}, (∀ i, i < k → f i = g i) → cnt f k = cnt g k
  | 0, _ => rfl
  | k + 1, h => by unfold cnt; rw [cnt_same (fun i hi => h i (by omega)), h k (by omega)]
theorem cnt_drop {f g : Nat → Bool} {i : Nat} (hf : f i = true) (hg : g i = false) (h : ∀ j, j ≠ i → g j = f j) : ∀ {k}, i < k → cnt f k = cnt g k + 1
  | k + 1, hi => by
    unfold cnt
    by_cases hik : i = k
    · subst hik
      rw [hf, hg, cnt_same (f := f) (g := g) (fun j hj => (h j (by omega)).symm)]; simp
    · have := cnt_drop hf hg h (k := k) (by omega)
      rw [this, h k (fun e => hik e.symm)]; omega
theorem ready_mem {ops : Array Oper} {listed : Array Bool} {i : Nat} (h : i ∈ Region.ready .any ops listed) : i < ops.size ∧ listed.getD i true = false ∧ ∀ (o : Oper), ops[i]? = some o → ∀ p, p ∈ predsOf o.after.toList → listed.getD p false = true := by
  unfold Region.ready at h
  rw [List.mem_filter, List.mem_range] at h
  obtain ⟨h1, h2⟩ := h
  simp only [Bool.and_eq_true, Bool.not_eq_true'] at h2
  refine ⟨h1, h2.1, fun o ho p hp => ?_⟩
  have h3 := h2.2
  rw [ho] at h3
  simp only [Option.map_some, Option.getD_some] at h3
  obtain ⟨e, he, hb, rfl⟩ := predsOf_mem.1 hp
  rw [Array.all_eq_true'] at h3
  have := h3 e (by simpa using he)
  simpa [hb] using this
theorem ready_least {ops : Array Oper} {listed : Array Bool} {ms : Tr Nat} (hm : Masks ops.toList ms ops.size) {i : Nat} (h1 : i < ops.size) (h2 : listed.getD i true = false) (hs : listed.size = ops.size) (h3 : ∀ j, j < i → listed.getD j true = true) : i ∈ Region.ready .any ops listed := by
  unfold Region.ready
  rw [List.mem_filter, List.mem_range]
  refine ⟨h1, ?_⟩
  have ho : ops[i]? = some ops[i] := by simp [h1]
  rw [ho, h2]
  simp only [Bool.not_false, Option.map_some, Option.getD_some, Bool.true_and]
  rw [Array.all_eq_true']
  intro e he
  cases hb : Region.binds .any e with
  | false => rfl
  | true =>
    have hp := hm.lt i ops[i] h1 (by rw [Array.getElem?_toList]; exact ho) e.on (predsOf_mem.2 ⟨e, by simpa using he, hb, rfl⟩)
    have := h3 e.on hp
    have hlt : e.on < listed.size := by omega
    simp only [Array.getD_eq_getD_getElem?, hlt, getElem?_pos, Option.getD_some] at this ⊢
    simpa using this
theorem linearise_step (ops : Array Oper) (fuel t : Nat) (listed : Array Bool) : (Region.ready .any ops listed = [] ∧ Region.linearise.go .any ops (fuel + 1) t listed [] = []) ∨
    ∃ i t', i ∈ Region.ready .any ops listed ∧ Region.linearise.go .any ops (fuel + 1) t listed [] = i :: Region.linearise.go .any ops fuel t' (listed.setIfInBounds i true) [] := by
  simp only [Region.linearise.go]
  change (Region.ready .any ops listed = [] ∧ (match (Region.ready .any ops listed)[t % (Region.ready .any ops listed).length]? with
      | some i => Region.linearise.go .any ops fuel (t / (Region.ready .any ops listed).length) (listed.setIfInBounds i true) [i]
      | none => [].reverse) = []) ∨ ∃ i t', i ∈ Region.ready .any ops listed ∧ (match (Region.ready .any ops listed)[t % (Region.ready .any ops listed).length]? with
      | some i => Region.linearise.go .any ops fuel (t / (Region.ready .any ops listed).length) (listed.setIfInBounds i true) [i]
      | none => [].reverse) = i :: Region.linearise.go .any ops fuel t' (listed.setIfInBounds i true) []
  cases hi : (Region.ready .any ops listed)[t % (Region.ready .any ops listed).length]? with
  | none =>
    left
    refine ⟨?_, rfl⟩
    cases hr : Region.ready .any ops listed with
    | nil => rfl
    | cons x xs =>
      rw [hr] at hi
      have hlt : t % (x :: xs).length < (x :: xs).length := Nat.mod_lt _ (by simp)
      simp at hi
      simp at hlt
      omega
  | some i =>
    right
    refine ⟨i, t / (Region.ready .any ops listed).length, List.mem_of_getElem? hi, ?_⟩
    simp only []
    rw [linearise_go_acc, List.reverse_singleton, List.singleton_append]
section
variable {X : Nat → Prop} {W0 : World} {C : Ctx} {r : Run} {ops : Array Oper} {ms : Tr Nat} {n0 N lim : Nat} {Ro : Tr Blk} {it : Option It} {Ds : Nat → DS} {ev : Nat → Ev} {E0 : Env} {ds : List Deferred}
theorem Inv.congr {S S' : Nat → Prop} {E : Env} {m : Nat} {a : Act} {w : World} (I : Inv X W0 C ops ms n0 N lim Ro it Ds ev E0 ds S E m a w) (h : ∀ i, S i ↔ S' i) : Inv X W0 C ops ms n0 N lim Ro it Ds ev E0 ds S' E m a w := by
  have : S = S' := funext fun i => propext (h i)
  subst this; exact I
theorem Inv.all (hC : CtxOk C) (T : Txt C r ops ms n0 N Ds ev) (hf : ∀ b, n0 ≤ b → b < lim → E0.ρ b = none) (hl : lim ≤ 2 ^ 62) (hnl : n0 + ops.size < lim)
    {Ec : Env} (hEc : Ext Ec E0) (hcall : ∀ f args H v H', callF C r f args H = .val v H' → CallOk C (Ext Ec) f args H v H') (b : Frame) (kk : List Item) (cs : List Frame) :
    ∀ (fuel t : Nat) (listed : Array Bool) (E : Env) (m : Nat) (a : Act) (w : World), listed.size = ops.size → cnt (fun i => !listed.getD i true) ops.size ≤ fuel → Down ops (fun i => listed.getD i false = true) →
      Inv X W0 C ops ms n0 N lim Ro it Ds ev E0 ds (fun i => listed.getD i false = true) E m a w →
      ∃ E' m' a' w', Steps C.P (lone (b.at a (.inRegion ops (Region.linearise.go .any ops fuel t listed []) :: kk)) cs w) (lone (b.at a' (.inRegion ops [] :: kk)) cs w') ∧ Inv X W0 C ops ms n0 N lim Ro it Ds ev E0 ds (fun i => i < ops.size) E' m' a' w' := by
  have hgd : ∀ (listed : Array Bool) i, listed.size = ops.size → i < ops.size → listed.getD i true = listed.getD i false := fun listed i hs hi => by
    simp [Array.getD_eq_getD_getElem?, show i < listed.size by omega]
  have hdone : ∀ (listed : Array Bool), listed.size = ops.size → (∀ i, i < ops.size → listed.getD i true = true) → ∀ i, (listed.getD i false = true ↔ i < ops.size) := fun listed hs h i => by
    constructor
    · intro h1
      rcases Nat.lt_or_ge i ops.size with h2 | h2
      · exact h2
      · rw [Array.getD_eq_getD_getElem?, Array.getElem?_eq_none (by omega)] at h1; cases h1
    · intro h1
      rw [← hgd listed i hs h1]; exact h i h1
  intro fuel
  induction fuel with
  | zero =>
    intro t listed E m a w hs hc hd I
    refine ⟨E, m, a, w, Steps.refl _ _, I.congr (hdone listed hs fun i hi => ?_)⟩
    have := cnt_zero (show cnt (fun i => !listed.getD i true) ops.size = 0 by omega) i hi
    simpa using this
  | succ fuel ih =>
    intro t listed E m a w hs hc hd I
    rcases linearise_step ops fuel t listed with ⟨h1, h2⟩ | ⟨i, t', h1, h2⟩
    · rw [h2]
      refine ⟨E, m, a, w, Steps.refl _ _, I.congr (hdone listed hs fun i hi => ?_)⟩
      induction i using Nat.strongRecOn with
      | _ i ih2 =>
        cases hli : listed.getD i true with
        | true => rfl
        | false =>
          have := ready_least T.plan.masks hi hli hs (fun j hj => ih2 j hj (by omega))
          rw [h1] at this; simp at this
    · rw [h2]
      obtain ⟨g1, g2, g3⟩ := ready_mem h1
      have g2' : ¬ listed.getD i false = true := by rw [← hgd listed i hs g1, g2]; simp
      obtain ⟨E1, m1, a1, w1, k1, k2⟩ := I.step hC T hd hf hl hnl hEc hcall g1 g2' (fun o ho p hp => g3 o ho p hp) b kk cs (Region.linearise.go .any ops fuel t' (listed.setIfInBounds i true) [])
      have hS : ∀ x, (listed.getD x false = true ∨ x = i) ↔ (listed.setIfInBounds i true).getD x false = true := fun x => by
        rw [Array.getD_eq_getD_getElem? (xs := listed.setIfInBounds i true), Array.getElem?_setIfInBounds, Array.getD_eq_getD_getElem?]
        by_cases hx : i = x
        · subst hx; simp [show i < listed.size by omega]
        · simp [hx, Ne.symm hx]
      have hd' : Down ops (fun x => (listed.setIfInBounds i true).getD x false = true) := by
        refine ⟨fun x hx => ?_, fun x o hx ho p hp => ?_⟩
        · rcases (hS x).2 hx with h | rfl
          · exact hd.lt x h
          · exact g1
        · rcases (hS x).2 hx with h | rfl
          · exact (hS p).1 (.inl (hd.pre x o h ho p hp))
          · exact (hS p).1 (.inl (g3 o ho p hp))
      have hcnt : cnt (fun x => !(listed.setIfInBounds i true).getD x true) ops.size ≤ fuel := by
        have := cnt_drop (f := fun x => !listed.getD x true) (g := fun x => !(listed.setIfInBounds i true).getD x true) (i := i) (by simp [g2]) (by
          simp [Array.getD_eq_getD_getElem?, Array.getElem?_setIfInBounds, show i < listed.size by omega]) (fun j hj => by
          simp [Array.getD_eq_getD_getElem?, Array.getElem?_setIfInBounds, Ne.symm hj]) (k := ops.size) g1
        omega
      obtain ⟨E', m', a', w', k3, k4⟩ := ih t' (listed.setIfInBounds i true) E1 m1 a1 w1 (by simpa using hs) hcnt hd' (k2.congr hS)
      exact ⟨E', m', a', w', k1.trans k3, k4⟩
end
theorem drawn_ok {X : Nat → Prop} {W0 : World} {C : Ctx} {r : Run} (hC : CtxOk C) (hmix : C.P.follows .mixedOrders = true) {N : Nat} (hN : N < 2 ^ 62) {ops : Array Oper} (hdst : dstsOk N ops.toList = true) {Ec : Env}
    (hcall : ∀ f args H v H', callF C r f args H = .val v H' → CallOk C (Ext Ec) f args H v H') {s : St} {out : R} (h : drawnA C r ops s = out) (hg : Good out) {E : Env} {a : Act} {w : World} (hE : Ext Ec E) (hA : ARel X W0 C E N s a w) (id : Nat) (b : Frame) (kk : List Item) (cs : List Frame) :
    ∃ s' E' a' w', out = .norm s' ∧ Steps C.P (lone (b.at a (.code (.region id ops true) :: kk)) cs w) (lone (b.at a' kk) cs w') ∧ Grew E E' s.H.next s'.H.next ∧ ARel X W0 C E' N s' a' w' ∧ s'.H.ro = s.H.ro ∧ s'.H.lim = s.H.lim ∧ s.H.next ≤ s'.H.next := by
  unfold drawnA at h
  rw [onSome_iff (hg.bad _)] at h
  obtain ⟨ms, hplan, h⟩ := h
  rw [forceN_eq, ife_iff (hg.bad _), ife_iff (hg.bad _), Nat.blt_eq] at h
  obtain ⟨hnl, hito, h⟩ := h
  have hlen : Nat.add s.H.next (lenL ops.toList) = s.H.next + ops.size := by
    have : lenL ops.toList = ops.size := by rw [lenL_eq]; simp
    rw [this]; rfl
  rw [hlen] at hnl h
  obtain ⟨Ds, ev, hD0, hstep, hout⟩ := drawnGo_trace C r ops.toList ms s.H.next s.ds hg ops.toList 0 _ h
  have hl := hA.heap.lim
  have hT : Txt C r ops ms s.H.next N Ds ev := by
    refine ⟨fun i o ho => ?_, planA_ok hN (by omega) hdst hplan, hN, ?_, by rw [hD0], by rw [hD0], by rw [hD0]⟩
    · have := hstep i o (by rw [Array.getElem?_toList]; exact ho)
      simpa using this
    · intro i o d ho hd
      have key : ∀ (l : List Oper), dstsOk N l = true → ∀ (i : Nat) (o : Oper) (d : Nat), l[i]? = some o → o.dst = some d → d < N := by
        intro l
        induction l with
        | nil => intro _ i o d e; simp at e
        | cons p l ih =>
          intro hl i o d e hd
          obtain ⟨h1, h2⟩ := dstsOk_cons hl
          cases i with
          | zero =>
            have e' : p = o := by simpa using e
            subst e'
            exact h1 d hd
          | succ i => exact ih h2 i o d (by simpa using e) hd
      exact key ops.toList hdst i o d (by rw [Array.getElem?_toList]; exact ho) hd
  have hH0 : (Ds 0).H = ⟨s.H.tr, s.H.ro, s.H.next + ops.size, s.H.lim, s.H.it⟩ := by rw [hD0]
  have hit : ∀ i, s.H.it = some i → ∃ p, i.e = some p := fun i e => by
    unfold itOk at hito
    rw [e, onSome_some] at hito
    cases hi : i.e with
    | none => rw [hi] at hito; cases hito
    | some p => exact ⟨p, rfl⟩
  have hrel := hA.heap.parts hit
  have hgetF : ∀ i, (Array.replicate ops.size false).getD i false = false := fun i => by
    rw [Array.getD_eq_getD_getElem?, Array.getElem?_replicate]; split <;> rfl
  have I0 : Inv X W0 C ops ms s.H.next N s.H.lim s.H.ro s.H.it Ds ev E a.defers (fun i => (Array.replicate ops.size false).getD i false = true) E 0 a w.drew := by
    refine ⟨Nat.zero_le _, fun e _ _ => ?_, (hrel.drew).mono fun b k g => ?_, fun j k hj => ?_, Ext.refl E, fun _ _ => rfl, fun j hj _ => hA.heap.fresh _ (by omega) (by omega), by rw [hH0], by rw [hH0], by rw [hH0]; exact Nat.le_refl _, by rw [hH0], hA.tmps.size, fun j o t hj => ?_, fun t v _ e => ?_, rfl⟩
    · rw [hgetF]; simp
    · rcases g with g | ⟨j, _, g, _⟩
      · rw [hH0] at g; exact g
      · rw [hgetF] at g; cases g
    · rw [hgetF] at hj; cases hj
    · rw [hgetF] at hj; cases hj
    · rw [hD0] at e
      exact hA.tmps.get t v e
  have hd0 : Down ops (fun i => (Array.replicate ops.size false).getD i false = true) := ⟨fun i hi => (by rw [hgetF] at hi; cases hi), fun i o hi => (by rw [hgetF] at hi; cases hi)⟩
  have hsched : Region.schedule (C.P.follows .mixedOrders) ops (w.tape w.drawn (.order b.fn id)) = Region.linearise.go .any ops ops.size (w.tape w.drawn (.order b.fn id)) (Array.replicate ops.size false) [] := by
    simp only [Region.schedule, hmix, Bool.true_or, if_true]
    rfl
  obtain ⟨E', m, a', w', k1, I⟩ := Inv.all (ds := a.defers) hC hT (fun b h1 h2 => hA.heap.fresh b h1 h2) hl hnl hE hcall b kk cs ops.size (w.tape w.drawn (.order b.fn id)) (Array.replicate ops.size false) E 0 a w.drew (by simp) (cnt_le _ _) hd0 I0
  have hgap : ∀ e, m ≤ e → e < ops.size → ¬ (ev e).isEff := fun e h1 h2 h3 => by
    have := (I.eff e h2 h3).1 h2; omega
  have hHn : (Ds ops.size).H = (Ds m).H := hT.heap_eq I.le (Nat.le_refl _) hgap
  have hpend := hT.pends ops.size (Nat.le_refl _)
  have hid : ∀ p, p ∈ (Ds ops.size).pend → p.id < 2 ^ 62 := fun p hp => by have := hpend p hp; omega
  have hrest := allH_rest (Ds ops.size).pend (Ds m).H
  have hn := I.hnext
  simp only [Nat.zero_add, Array.length_toList, hHn] at hout
  refine ⟨_, E', a', w', hout, .head (step_region_draw (P := C.P) (id := id)) (by rw [hsched]; exact k1.trans (.one step_region_end)), ⟨I.ext, fun j hj => I.out j ?_⟩, ⟨?_, ⟨I.size, fun t v e => ?_⟩, ?_⟩, hrest.1.trans I.hro, hrest.2.2.1.trans I.hlim, ?_⟩
  · rcases hj with h1 | h1
    · exact .inl h1
    · right; rw [← hrest.2.1]; exact h1
  · refine I.rel.whole (fun b k h => ?_) (.inl (hrest.1.trans I.hro)) (.inl (hrest.2.2.2.trans I.hit)) (fun b h1 h2 => I.fresh (fun b h1 h2 => hA.heap.fresh b h1 h2) b (by rw [← hrest.2.1]; exact h1) (by rw [← I.hlim, ← hrest.2.2.1]; exact h2)) (by show (allH (Ds m).H (Ds ops.size).pend).lim ≤ _; rw [hrest.2.2.1, I.hlim]; exact hl)
    rcases allH_get _ _ _ _ hid h with h1 | ⟨p, h1, h2, h3⟩
    · exact .inl h1
    · obtain ⟨g1, g2, g3, g4⟩ := hpend p h1
      refine .inr ⟨p.j, by rw [← h2, g2], g1, by rw [g3, h3], ?_⟩
      rintro ⟨e, q1, q2, q3⟩
      rw [g4 e (by have := I.le; omega) q2] at q3; cases q3
  · rcases hT.tau t v ops.size (Nat.le_refl _) e with ⟨j, o, h1, h2, h3, rfl⟩ | ⟨h1, h2⟩
    · exact I.put j o t h1 h2 h3
    · exact I.old t v (fun j o hj ho => h1 j o hj ho) h2
  · show DRel E' s.ds a'.defers
    rw [I.dfr]; exact hA.dfr.ext I.ext
  · show s.H.next ≤ (allH (Ds m).H (Ds ops.size).pend).next
    rw [hrest.2.1]; omega
end Go.Proofs.YtjebljnifeoiaaaGreat.Vm
