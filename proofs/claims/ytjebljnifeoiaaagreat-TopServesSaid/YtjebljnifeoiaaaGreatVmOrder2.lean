/- The machine's walk is the model's: a region that draws its order: one operation more. No condition but those each theorem names. -/
import Derived.Test.YtjebljnifeoiaaaGreatVmOrder
namespace Go.Proofs.YtjebljnifeoiaaaGreat.Vm
open Go
set_option linter.unusedVariables false
set_option linter.unusedSimpArgs false
section
variable {X : Nat → Prop} {W0 : World} {C : Ctx} {r : Run} {ops : Array Oper} {ms : Tr Nat} {n0 N lim : Nat} {Ro : Tr Blk} {it : Option It} {Ds : Nat → DS} {ev : Nat → Ev} {E0 : Env} {ds : List Deferred} {S : Nat → Prop} {E : Env} {m : Nat} {a : Act} {w : World}
/-- A step that turns nothing that is known. -/
theorem Inv.quiet (I : Inv X W0 C ops ms n0 N lim Ro it Ds ev E0 ds S E m a w) (T : Txt C r ops ms n0 N Ds ev) (hd : Down ops S) {j : Nat} {o : Oper} (ho : ops[j]? = some o) (hj : ¬ S j) (hne : ¬ (ev j).isEff) {E' : Env} {w' : World} {u : Value} (x : Ext E E')
    (hrel : FRel X W0 C E' (Gs ms ev Ds n0 (fun i => S i ∨ i = j) m) Ro it w') (hnone : ∀ k, (ev j).blk = some k → (Ds m).H.tr.get (n0 + j) = none)
    (hout : ∀ b, b ≠ n0 + j → E'.ρ b = E.ρ b) (hv : Rel E' (ev j).val u) : Inv X W0 C ops ms n0 N lim Ro it Ds ev E0 ds (fun i => S i ∨ i = j) E' m (a.put o.dst u) w' := by
  have hlt : j < ops.size := (Array.getElem?_eq_some_iff.1 ho).1
  refine I.next T hd ho hj x I.le (fun e he1 he2 => ?_) hrel (fun i k hi hk hn => ?_) (fun b hb => ?_) (fun i hi hn => ?_) I.hro I.hlim I.hnext I.hit hv
  · rw [← I.eff e he1 he2]
    constructor
    · rintro (h | rfl)
      · exact h
      · exact absurd he2 hne
    · exact .inl
  · rcases hi with hi | rfl
    · exact I.disj i k hi hk hn
    · exact hnone k hk
  · have := I.hnext
    rw [hout b (by rcases hb with h | h <;> omega)]
    exact I.out b hb
  · rw [hout _ (by intro e; exact hn (.inr (by omega)))]
    exact I.free i hi (fun h => hn (.inl h))
theorem Gs.more {j : Nat} (hk : (ev j).blk = none) {b : Nat} {k : Blk} (h : Gs ms ev Ds n0 (fun i => S i ∨ i = j) m b k) : Gs ms ev Ds n0 S m b k := by
  rcases h with h | ⟨i, h1, h2, h3, h4⟩
  · exact .inl h
  · rcases h2 with h2 | rfl
    · exact .inr ⟨i, h1, h2, h3, h4⟩
    · rw [hk] at h3; cases h3
/-- A read over a part of what is known. -/
theorem Inv.read (I : Inv X W0 C ops ms n0 N lim Ro it Ds ev E0 ds S E m a w) (hC : CtxOk C) (T : Txt C r ops ms n0 N Ds ev) (hd : Down ops S) (hf : ∀ b, n0 ≤ b → b < lim → E0.ρ b = none) (hl : lim ≤ 2 ^ 62) {j : Nat} {o : Oper} (ho : ops[j]? = some o) (hj : ¬ S j) {v : AV} (hev : ev j = .read v)
    (hx : Opds E (Ds j).τ a.eval o.op.operands.toList) (hr : isReader o.op = true) {Hr K : Heap} (hsub : ∀ b k, Hr.tr.get b = some k → Gs ms ev Ds n0 S m b k) (hrest : Hr.ro = (Ds m).H.ro ∧ Hr.next = (Ds m).H.next ∧ Hr.lim = (Ds m).H.lim ∧ Hr.it = (Ds m).H.it) (he : exec o.op C (Ds j).τ Hr = .val v K) :
    ∃ nx u E' w', (execOp a.eval o).run C.P w = .ok nx w' ∧ Next.out nx = some u ∧ Inv X W0 C ops ms n0 N lim Ro it Ds ev E0 ds (fun i => S i ∨ i = j) E' m (a.put o.dst u) w' := by
  have hK : K = Hr := reader_keeps hr v K he
  subst hK
  have hs := I.rel.frame (H := K) hsub (.inl (hrest.1.trans I.hro)) (.inl (hrest.2.2.2.trans I.hit)) (fun b h1 h2 => I.fresh hf b (by rw [← hrest.2.1]; exact h1) (by rw [← I.hlim, ← hrest.2.2.1]; exact h2)) (by rw [hrest.2.2.1, I.hlim]; exact hl)
  obtain ⟨nx, u, w', E', k1, k2, k3, k4, k5, k6, k7, k8⟩ := exec_val hC hs hx he
  have hun := I.rel.unframe k5 k3.ext
  refine ⟨nx, u, E', w', k1, k2, I.quiet T hd ho hj (by rw [hev]; exact id) k3.ext (hun.mono fun b k g => ?_) (fun k hk => by rw [hev] at hk; cases hk) (fun b _ => k3.out b (by omega)) (by rw [hev]; exact k4)⟩
  have g' := Gs.more (by rw [hev]; rfl) g
  cases ht : K.tr.get b with
  | none => exact .inr ⟨g', rfl⟩
  | some k' => rw [Gs.fun I g' (hsub b k' ht)]; exact .inl rfl
/-- One operation more. -/
theorem Inv.step (I : Inv X W0 C ops ms n0 N lim Ro it Ds ev E0 ds S E m a w) (hC : CtxOk C) (T : Txt C r ops ms n0 N Ds ev) (hd : Down ops S) (hf : ∀ b, n0 ≤ b → b < lim → E0.ρ b = none) (hl : lim ≤ 2 ^ 62) (hnl : n0 + ops.size < lim)
    {Ec : Env} (hEc : Ext Ec E0) (hcall : ∀ f args H v H', callF C r f args H = .val v H' → CallOk C (Ext Ec) f args H v H')
    {j : Nat} (hjl : j < ops.size) (hj : ¬ S j) (hp : ∀ (o : Oper), ops[j]? = some o → ∀ p, p ∈ predsOf o.after.toList → S p) (b : Frame) (kk : List Item) (cs : List Frame) (rest : List Nat) :
    ∃ E' m' a' w', Steps C.P (lone (b.at a (.inRegion ops (j :: rest) :: kk)) cs w) (lone (b.at a' (.inRegion ops rest :: kk)) cs w') ∧ Inv X W0 C ops ms n0 N lim Ro it Ds ev E0 ds (fun i => S i ∨ i = j) E' m' a' w' := by
  obtain ⟨o, ho, hst⟩ := T.at hjl
  have hbits := hd.ready T ho (hp o ho)
  have hlook := I.looks T hd ho hj hbits
  have hopds := opds_at (o := o) hlook
  -- nothing of the heap
  have hs0 : SRel X W0 C E ⟨.e, .e, 0, 0, none⟩ w := I.rel.whole (fun b k h => by cases h) (.inr rfl) (.inr rfl) (fun b h1 h2 => absurd h2 (Nat.not_lt_zero b)) (Nat.zero_le _)
  have hwant : ∀ q, wantedA ops.toList o C (Ds j).τ = some q → Region.wanted o (yielded ops a.tmps) = q := fun q h => wanted_at hs0 hlook h
  generalize hev : ev j = e0 at hst
  generalize hD : Ds (j + 1) = D' at hst
  cases hst with
  | skip h =>
    have hq := hwant _ h
    have hst := step_op_skip (P := C.P) (b := b) (a := a) (k := kk) (cs := cs) (w := w) (ops := ops) (i := j) (rest := rest) (by rw [ho]; simp [hq])
    refine ⟨E, m, a.put o.dst undef, w, .one (by simpa [ho] using hst), I.quiet T hd ho hj (by rw [hev]; exact id) (Ext.refl E) (I.rel.mono fun b k g => Gs.more (by rw [hev]; rfl) g) (fun k hk => by rw [hev] at hk; cases hk) (fun _ _ => rfl) (by rw [hev]; exact undef_rel)⟩
  | pure0 v H1 h hx hn =>
    have hq := hwant _ h
    have hs := I.rel.frame (H := ⟨.e, .e, n0 + j, n0 + j + 1, none⟩) (fun b k h => by cases h) (.inr rfl) (.inr rfl) (fun b h1 h2 => by
      have h1 : n0 + j ≤ b := h1
      have h2 : b < n0 + j + 1 := h2
      rw [show b = n0 + j by omega]; exact I.free j hjl hj) (by show n0 + j + 1 ≤ _; omega)
    obtain ⟨nx, u, w', E', k1, k2, k3, k4, k5, k6, k7, k8⟩ := exec_val hC hs hopds hx
    have hun := I.rel.unframe k5 k3.ext
    refine ⟨E', m, a.put o.dst u, w', .one (step_out ho hq k1 k2), I.quiet T hd ho hj (by rw [hev]; exact id) k3.ext (hun.mono fun b k g => .inr ⟨Gs.more (by rw [hev]; rfl) g, rfl⟩) (fun k hk => by rw [hev] at hk; cases hk) (fun b hb => k3.out b (by show b < n0 + j ∨ _; omega)) (by rw [hev]; exact k4)⟩
  | pure1 v H1 k h hx hn hk =>
    have hq := hwant _ h
    have hs := I.rel.frame (H := ⟨.e, .e, n0 + j, n0 + j + 1, none⟩) (fun b k h => by cases h) (.inr rfl) (.inr rfl) (fun b h1 h2 => by
      have h1 : n0 + j ≤ b := h1
      have h2 : b < n0 + j + 1 := h2
      rw [show b = n0 + j by omega]; exact I.free j hjl hj) (by show n0 + j + 1 ≤ _; omega)
    obtain ⟨nx, u, w', E', k1, k2, k3, k4, k5, k6, k7, k8⟩ := exec_val hC hs hopds hx
    have hun := I.rel.unframe k5 k3.ext
    refine ⟨E', m, a.put o.dst u, w', .one (step_out ho hq k1 k2), I.quiet T hd ho hj (by rw [hev]; exact id) k3.ext (hun.mono fun b k' g => ?_) (fun k' hk' => ?_) (fun b hb => k3.out b (by show b < n0 + j ∨ _; omega)) (by rw [hev]; exact k4)⟩
    · rcases g with g | ⟨i, h1, h2, h3, h4⟩
      · exact .inr ⟨.inl g, rfl⟩
      · rcases h2 with h2 | rfl
        · exact .inr ⟨.inr ⟨i, h1, h2, h3, h4⟩, rfl⟩
        · rw [hev] at h3
          have h3 : some k = some k' := h3
          injection h3 with h3; subst h3
          left; rw [h1]; exact hk
    · cases ht : (Ds m).H.tr.get (n0 + j) with
      | none => rfl
      | some k2 =>
        obtain ⟨_, _, _, h1, _⟩ := I.rel.own (n0 + j) k2 (.inl ht)
        rw [I.free j hjl hj] at h1; cases h1
  | read v K h hr hx hh =>
    have hq := hwant _ h
    have fin : ∀ {Hr K : Heap}, (∀ b k, Hr.tr.get b = some k → Gs ms ev Ds n0 S m b k) → (Hr.ro = (Ds m).H.ro ∧ Hr.next = (Ds m).H.next ∧ Hr.lim = (Ds m).H.lim ∧ Hr.it = (Ds m).H.it) → exec o.op C (Ds j).τ Hr = .val v K →
        ∃ E' m' a' w', Steps C.P (lone (b.at a (.inRegion ops (j :: rest) :: kk)) cs w) (lone (b.at a' (.inRegion ops rest :: kk)) cs w') ∧ Inv X W0 C ops ms n0 N lim Ro it Ds ev E0 ds (fun i => S i ∨ i = j) E' m' a' w' := fun hsub hrest he => by
      obtain ⟨nx, u, E', w', k1, k2, k3⟩ := I.read hC T hd hf hl ho hj hev hopds hr hsub hrest he
      exact ⟨E', m, _, w', .one (step_out ho hq k1 k2), k3⟩
    by_cases c1 : ∃ e, e < m ∧ j < e ∧ (ev e).isEff
    · -- the last that turned something came behind it in the text
      obtain ⟨e, he1, he2, he3, he4⟩ : ∃ e, e < m ∧ j < e ∧ (ev e).isEff ∧ ∀ e', e < e' → e' < m → ¬ (ev e').isEff := by
        rcases T.last m I.le with h1 | ⟨e, _, _, _, h2, h3, h4⟩
        · obtain ⟨e, h2, _, h3⟩ := c1; exact absurd h3 (h1 e h2)
        · obtain ⟨e', k1, k2, k3⟩ := c1
          refine ⟨e, h2, ?_, h3, h4⟩
          rcases Nat.lt_or_ge e e' with h5 | h5
          · exact absurd k3 (h4 e' h5 k1)
          · omega
      have hlt : e < ops.size := by have := I.le; omega
      obtain ⟨oe, hoe, hste⟩ := T.at hlt
      have hbit : bit (mask ms e) j = false := by
        cases hb : bit (mask ms e) j with
        | false => rfl
        | true => exact absurd (hd.bits T e ((I.eff e hlt he3).2 he1) j hb) hj
      have hrd := T.rds ho hev e (by omega) he2
      have hH := T.heap_eq (show e + 1 ≤ m by omega) I.le (fun e' h1 h2 => he4 e' (by omega) h2)
      generalize hev2 : ev e = e2 at hste he3
      generalize hDe : Ds (e + 1) = De at hste
      cases hste with
      | eff v2 H2 g1 g2 g3 g4 =>
        obtain ⟨K2, hK2⟩ := rdOk_mem g4 _ hrd hbit
        have hH' : (Ds m).H = ⟨H2.tr, H2.ro, H2.next, H2.lim, (Ds e).H.it⟩ := by rw [hH, hDe]; rfl
        rw [← hH'] at hK2
        exact fin (fun b k h => .inl h) ⟨rfl, rfl, rfl, rfl⟩ hK2
      | _ => exact he3.elim
    · by_cases c2 : ∃ e, m ≤ e ∧ e < j ∧ (ev e).isEff
      · -- the next that is to turn something came ahead of it in the text
        obtain ⟨e, he1, he2, he3, he4⟩ : ∃ e, m ≤ e ∧ e < j ∧ (ev e).isEff ∧ ∀ e', m ≤ e' → e' < e → ¬ (ev e').isEff := by
          obtain ⟨e, h1, h2, h3⟩ := c2
          induction e using Nat.strongRecOn with
          | _ e ih =>
            by_cases hc : ∃ e', m ≤ e' ∧ e' < e ∧ (ev e').isEff
            · obtain ⟨e', k1, k2, k3⟩ := hc
              exact ih e' k2 k1 (by omega) k3
            · exact ⟨e, h1, h2, h3, fun e' k1 k2 k3 => hc ⟨e', k1, k2, k3⟩⟩
        have hlt : e < ops.size := by omega
        have hbit : bit (mask ms j) e = false := by
          cases hb : bit (mask ms j) e with
          | false => rfl
          | true => have := (I.eff e hlt he3).1 (hbits e hb); omega
        have hhist := T.hists he3 j (by omega) he2
        obtain ⟨K2, hK2⟩ := histOk_mem hh e _ hhist hbit
        rw [T.heap_eq he1 (by omega) he4] at hK2
        exact fin (fun b k h => .inl h) ⟨rfl, rfl, rfl, rfl⟩ hK2
      · -- nothing between
        have hH : (Ds j).H = (Ds m).H := by
          rcases Nat.lt_or_ge j m with h1 | h1
          · exact (T.heap_eq (show j ≤ m by omega) I.le (fun e h2 h3 h4 => by
              by_cases hej : e = j
              · subst hej; rw [hev] at h4; exact h4
              · exact c1 ⟨e, h3, by omega, h4⟩)).symm
          · exact T.heap_eq h1 (by omega) (fun e h2 h3 h4 => c2 ⟨e, h2, h3, h4⟩)
        have hab : ∀ i, ¬ Absd ms ev j i → ¬ Absd ms ev m i := fun i hn => by
          rintro ⟨e, h2, h3, h4⟩
          rcases Nat.lt_or_ge e j with h5 | h5
          · exact hn ⟨e, h5, h3, h4⟩
          · by_cases hej : e = j
            · subst hej; rw [hev] at h3; exact h3
            · exact c1 ⟨e, h2, by omega, h3⟩
        rw [hH] at hx
        have hpend := T.pends j (by omega)
        have hid : ∀ p, p ∈ (Ds j).pend → p.id < 2 ^ 62 := fun p hp => by have := hpend p hp; omega
        refine fin (fun b k h => ?_) ?_ hx
        · rcases absH_get _ _ _ _ _ hid h with h1 | ⟨p, h1, h2, h3, h4⟩
          · exact .inl h1
          · obtain ⟨g1, g2, g3, g4⟩ := hpend p h1
            refine .inr ⟨p.j, by rw [← h3, g2], hbits _ h2, by rw [g3, h4], hab _ ?_⟩
            rintro ⟨e, k1, k2, k3⟩
            rw [g4 e k1 k2] at k3; cases k3
        · have := absH_rest (mask ms j) (Ds j).pend (Ds m).H
          exact this
  | eff v H' h hlast hx hr =>
    have hq := hwant _ h
    have heff : (ev j).isEff := by rw [hev]; trivial
    have hmj : m ≤ j := by
      rcases Nat.lt_or_ge j m with h1 | h1
      · exact absurd ((I.eff j hjl heff).2 h1) hj
      · exact h1
    have hgap : ∀ e, m ≤ e → e < j → ¬ (ev e).isEff := fun e h1 h2 h3 => by
      rcases T.chain hjl heff with h4 | ⟨e', h4, h5, h6, h7⟩
      · exact h4 e h2 h3
      · have h8 := (I.eff e' (by omega) h5).1 (hbits e' h6)
        exact h7 e (by omega) h2 h3
    have hH : (Ds j).H = (Ds m).H := T.heap_eq hmj (by omega) hgap
    have hpend := T.pends j (by omega)
    have hid : ∀ p, p ∈ (Ds j).pend → p.id < 2 ^ 62 := fun p hp => by have := hpend p hp; omega
    have hrest := absH_rest (mask ms j) (Ds j).pend (Ds m).H
    rw [hH] at hx hD
    generalize hHc : absH (mask ms j) (Ds m).H (Ds j).pend = Hc at hx hrest
    have hsub : ∀ b k, Hc.tr.get b = some k → Gs ms ev Ds n0 S m b k := fun b k h => by
      rw [← hHc] at h
      rcases absH_get _ _ _ _ _ hid h with h1 | ⟨p, h1, h2, h3, h4⟩
      · exact .inl h1
      · obtain ⟨g1, g2, g3, g4⟩ := hpend p h1
        refine .inr ⟨p.j, by rw [← h3, g2], hbits _ h2, by rw [g3, h4], ?_⟩
        rintro ⟨e, k1, k2, k3⟩
        rw [g4 e (by omega) k2] at k3; cases k3
    have hs := I.rel.frame (H := Hc) hsub (.inl (hrest.1.trans I.hro)) (.inl (hrest.2.2.2.trans I.hit)) (fun b h1 h2 => I.fresh hf b (by rw [← hrest.2.1]; exact h1) (by rw [← I.hlim, ← hrest.2.2.1]; exact h2)) (by rw [hrest.2.2.1, I.hlim]; exact hl)
    have fin : ∀ {u : Value} {w' : World} {E' : Env}, Steps C.P (lone (b.at a (.inRegion ops (j :: rest) :: kk)) cs w) (lone (b.at (a.put o.dst u) (.inRegion ops rest :: kk)) cs w') → Grew E E' Hc.next H'.next → Rel E' v u → SRel (Also X E (Gs ms ev Ds n0 S m) Hc) w C E' H' w' → H'.ro = Hc.ro → H'.lim = Hc.lim → Hc.next ≤ H'.next →
        ∃ E' m' a' w', Steps C.P (lone (b.at a (.inRegion ops (j :: rest) :: kk)) cs w) (lone (b.at a' (.inRegion ops rest :: kk)) cs w') ∧ Inv X W0 C ops ms n0 N lim Ro it Ds ev E0 ds (fun i => S i ∨ i = j) E' m' a' w' := fun {u w' E'} k1 k3 k4 k5 k6 k7 k8 => by
      have hun := I.rel.unframe k5 k3.ext
      have hDH : (Ds (j + 1)).H = ⟨H'.tr, H'.ro, H'.next, H'.lim, (Ds m).H.it⟩ := by rw [hD]; rfl
      have hnx := I.hnext
      have hexn : ∀ i k, S i → (ev i).blk = some k → ¬ Absd ms ev (j + 1) i → Gs ms ev Ds n0 S m (n0 + i) k ∧ Hc.tr.get (n0 + i) = none := fun i k hi hk hn => by
        have hnm : ¬ Absd ms ev m i := fun ⟨e, h1, h2⟩ => hn ⟨e, by omega, h2⟩
        refine ⟨.inr ⟨i, rfl, hi, hk, hnm⟩, ?_⟩
        cases ht : Hc.tr.get (n0 + i) with
        | none => rfl
        | some k2 =>
          rw [← hHc] at ht
          rcases absH_get _ _ _ _ _ hid ht with h1 | ⟨p, h1, h2, h3, h4⟩
          · rw [I.disj i k hi hk hnm] at h1; cases h1
          · obtain ⟨g1, g2, g3, g4⟩ := hpend p h1
            have : p.j = i := by omega
            subst this
            exact absurd ⟨j, by omega, heff, h2⟩ hn
      have hnotj : ∀ i k, (S i ∨ i = j) → (ev i).blk = some k → S i := fun i k hi hk => by
        rcases hi with hi | rfl
        · exact hi
        · rw [hev] at hk; cases hk
      refine ⟨E', j + 1, _, w', k1, I.next T hd ho hj k3.ext (by omega) (fun e he1 he2 => ?_) (hun.mono fun b k g => ?_) (fun i k hi hk hn => ?_) (fun b hb => ?_) (fun i hi hn => ?_) ?_ ?_ ?_ ?_ (by rw [hev]; exact k4)⟩
      · rw [I.eff e he1 he2]
        constructor
        · rintro (h1 | rfl) <;> omega
        · intro h1
          by_cases hej : e = j
          · exact .inr hej
          · rcases Nat.lt_or_ge e m with h2 | h2
            · exact .inl h2
            · exact absurd he2 (hgap e h2 (by omega))
      · rcases g with g | ⟨i, h1, h2, h3, h4⟩
        · rw [hDH] at g; exact .inl g
        · subst h1
          obtain ⟨g1, g2⟩ := hexn i k (hnotj i k h2 h3) h3 h4
          exact .inr ⟨g1, g2⟩
      · obtain ⟨g1, g2⟩ := hexn i k (hnotj i k hi hk) hk hn
        rw [hDH]
        exact I.rel.apart k5 k3.ext g1 g2
      · rw [hDH] at hb
        have hb' : b < n0 ∨ H'.next ≤ b := hb
        rw [k3.out b (by rcases hb' with h1 | h1 <;> omega)]
        exact I.out b (by rcases hb' with h1 | h1 <;> omega)
      · rw [k3.out _ (by left; omega)]
        exact I.free i hi (fun h => hn (.inl h))
      · rw [hDH]; exact k6.trans (hrest.1.trans I.hro)
      · rw [hDH]; exact k7.trans (hrest.2.2.1.trans I.hlim)
      · rw [hDH]; show n0 + ops.size ≤ H'.next; omega
      · rw [hDH]; exact I.hit
    unfold effA at hx
    split at hx
    · rename_i v1 H1 hx1
      injection hx with e1 e2; subst e1 e2
      obtain ⟨nx, u, w', E', k1, k2, k3, k4, k5, k6, k7, k8⟩ := exec_val hC hs hopds hx1
      exact fin (.one (step_out ho hq k1 k2)) k3 k4 k5 k6 k7 k8
    · rename_i f args hx1
      obtain ⟨us, g1, g2⟩ := exec_call hC hopds hx1
      rcases hcall _ _ _ _ _ hx _ _ E w us (hEc.trans I.ext) hs g1 with ⟨u, w', E', k2, k3, k4, k5, k6, k7, k8⟩ | ⟨k2, k3⟩
      · exact fin (.one (step_out ho hq (by rw [g2, k2]) rfl)) k3 k4 k5 k6 k7 k8
      · obtain ⟨u, w', ⟨E', k5, k6, k7, k8, k9, k10⟩, k11⟩ := steps_enter (b := b) (k := kk) (cs := cs) (rest := rest) ho hq (by rw [g2, k2]) k3
        exact fin k11 k5 k6 k7 k8 k9 k10
    · cases hx
    · cases hx
    · cases hx
end
end Go.Proofs.YtjebljnifeoiaaaGreat.Vm
