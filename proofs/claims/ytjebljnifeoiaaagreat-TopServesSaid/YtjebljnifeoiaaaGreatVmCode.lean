/- The machine's walk is the model's: code, but for a range over a map. No condition but those each theorem names. -/
import Derived.Test.YtjebljnifeoiaaaGreatVmDrawn
namespace Go.Proofs.YtjebljnifeoiaaaGreat.Vm
open Go
set_option linter.unusedVariables false
set_option linter.unusedSimpArgs false
/-- How it ended. -/
def EndsAs (out : R) (e : Exit) (s : St) : Prop := (out = .norm s ∧ e = .normal) ∨ (∃ i, out = .exit i s ∧ e = .exit i) ∨ (∃ l, out = .goto l s ∧ e = .goto l) ∨ (out = .ret s ∧ e = .ret)
/-- From s0 to s1. -/
def Fin (X : Nat → Prop) (W0 : World) (C : Ctx) (E : Env) (N : Nat) (s0 s1 : St) (a : Act) (w : World) : Prop :=
  ∃ E', Grew E E' s0.H.next s1.H.next ∧ ARel X W0 C E' N s1 a w ∧ s1.H.ro = s0.H.ro ∧ s1.H.lim = s0.H.lim ∧ s0.H.next ≤ s1.H.next
def Walks (X : Nat → Prop) (W0 : World) (C : Ctx) (E : Env) (N : Nat) (s : St) (out : R) (e : Exit) (a : Act) (w : World) : Prop := ∃ s', EndsAs out e s' ∧ Fin X W0 C E N s s' a w
/-- What runs code walks as the model does. -/
def RunOk (C : Ctx) (Ec : Env) (N : Nat) (r : Run) : Prop := ∀ c, codeOk N c = true → ∀ s out, r c s = out → Good out → ∀ (X : Nat → Prop) (W0 : World) (E : Env) (a : Act) (w : World), Ext Ec E → ARel X W0 C E N s a w → c.wp C.P (Walks X W0 C E N s out) a w
section
variable {X : Nat → Prop} {W0 : World} {C : Ctx} {E Ec : Env} {N : Nat} {r : Run} {a : Act} {w : World} {s : St} {out : R}
theorem Fin.refl (h : ARel X W0 C E N s a w) : Fin X W0 C E N s s a w := ⟨E, Grew.refl _ _ _, h, rfl, rfl, Nat.le_refl _⟩
theorem Walks.trans {E1 : Env} {s1 : St} {a2 : Act} {w2 : World} {e : Exit} (g : Grew E E1 s.H.next s1.H.next) (h1 : s1.H.ro = s.H.ro) (h2 : s1.H.lim = s.H.lim) (h3 : s.H.next ≤ s1.H.next) (k : Walks X W0 C E1 N s1 out e a2 w2) : Walks X W0 C E N s out e a2 w2 := by
  obtain ⟨s', he, E', k1, k2, k3, k4, k5⟩ := k
  exact ⟨s', he, E', g.trans k1 h3 k5, k2, k3.trans h1, k4.trans h2, Nat.le_trans h3 k5⟩
theorem EndsAs.good {e : Exit} (h : EndsAs out e s) : Good out := by
  rcases h with ⟨rfl, _⟩ | ⟨i, rfl, _⟩ | ⟨l, rfl, _⟩ | ⟨rfl, _⟩
  · exact .inl ⟨_, rfl⟩
  · exact .inr (.inl ⟨_, _, rfl⟩)
  · exact .inr (.inr (.inl ⟨_, _, rfl⟩))
  · exact .inr (.inr (.inr ⟨_, rfl⟩))
theorem seq_ok (hr : RunOk C Ec N r) {x y : Code} (hx : codeOk N x = true) (hy : codeOk N y = true) (h : sSeq x y r s = out) (hg : Good out) (hE : Ext Ec E) (hA : ARel X W0 C E N s a w) : (Code.seq x y).wp C.P (Walks X W0 C E N s out) a w := by
  refine wp_seq ?_
  unfold sSeq at h
  have key : Good (r x s) → (Code.wp C.P x (Walks X W0 C E N s (r x s)) a w) := fun g => hr x hx s _ rfl g X W0 E a w hE hA
  have other : r x s = out → (∀ s', r x s ≠ .norm s') → x.wp C.P (Exit.then (y.wp C.P (Walks X W0 C E N s out)) (Walks X W0 C E N s out)) a w := fun ho hn => by
    refine wp_mono (key (by rw [ho]; exact hg)) fun e a' w' hw => ?_
    obtain ⟨s', he, hf⟩ := hw
    rcases he with ⟨h1, _⟩ | ⟨i, h1, rfl⟩ | ⟨l, h1, rfl⟩ | ⟨h1, rfl⟩
    · exact absurd h1 (hn _)
    · exact ⟨s', .inr (.inl ⟨i, ho.symm.trans h1, rfl⟩), hf⟩
    · exact ⟨s', .inr (.inr (.inl ⟨l, ho.symm.trans h1, rfl⟩)), hf⟩
    · exact ⟨s', .inr (.inr (.inr ⟨ho.symm.trans h1, rfl⟩)), hf⟩
  cases hx1 : r x s with
  | norm s1 =>
    rw [hx1] at h
    have h : r y s1 = out := h
    refine wp_mono (key (by rw [hx1]; exact .inl ⟨_, rfl⟩)) fun e a' w' hw => ?_
    obtain ⟨s', he, E1, k1, k2, k3, k4, k5⟩ := hw
    rw [hx1] at he
    rcases he with ⟨h1, rfl⟩ | ⟨i, h1, rfl⟩ | ⟨l, h1, rfl⟩ | ⟨h1, rfl⟩
    · injection h1 with h1; subst h1
      exact wp_mono (hr y hy s1 out h hg X W0 E1 a' w' (hE.trans k1.ext) k2) fun e a2 w2 hw => hw.trans k1 k3 k4 k5
    · cases h1
    · cases h1
    · cases h1
  | _ => rw [hx1] at h; exact other (hx1.trans h) (by intro s' e; rw [hx1] at e; cases e)
theorem cond_ok (hr : RunOk C Ec N r) {c : Operand} {x y : Code} (hx : codeOk N x = true) (hy : codeOk N y = true) (h : sCond c x y C r s = out) (hg : Good out) (hE : Ext Ec E) (hA : ARel X W0 C E N s a w) : (Code.cond c x y).wp C.P (Walks X W0 C E N s out) a w := by
  unfold sCond at h
  simp only [onSome_iff (hg.bad _), AV.onBool_iff (hg.bad _), onSome_iff (hg.ask _)] at h
  obtain ⟨v, h1, q, rfl, t, h2, h3⟩ := h
  have hb := hA.tmps.opds [c] c (by simp) _ h1
  simp only [Rel] at hb
  rw [decB_ok hA.heap h2] at hb
  cases t with
  | true => exact wp_cond_true hb (hr x hx s out h3 hg X W0 E a w hE hA)
  | false => exact wp_cond_false hb (hr y hy s out h3 hg X W0 E a w hE hA)
theorem block_ok (hr : RunOk C Ec N r) {i : Nat} {c : Code} (hc : codeOk N c = true) (h : sBlock i c r s = out) (hg : Good out) (hE : Ext Ec E) (hA : ARel X W0 C E N s a w) : (Code.block i c).wp C.P (Walks X W0 C E N s out) a w := by
  refine wp_block ?_
  unfold sBlock at h
  have key : Good (r c s) → (c.wp C.P (Walks X W0 C E N s (r c s)) a w) := fun g => hr c hc s _ rfl g X W0 E a w hE hA
  have other : r c s = out → (∀ j s', r c s ≠ .exit j s') → c.wp C.P (Exit.inBlock i (Walks X W0 C E N s out)) a w := fun ho hn => by
    refine wp_mono (key (by rw [ho]; exact hg)) fun e a' w' hw => ?_
    obtain ⟨s', he, hf⟩ := hw
    rcases he with ⟨h1, rfl⟩ | ⟨i, h1, rfl⟩ | ⟨l, h1, rfl⟩ | ⟨h1, rfl⟩
    · exact ⟨s', .inl ⟨ho.symm.trans h1, rfl⟩, hf⟩
    · exact absurd h1 (hn _ _)
    · exact ⟨s', .inr (.inr (.inl ⟨l, ho.symm.trans h1, rfl⟩)), hf⟩
    · exact ⟨s', .inr (.inr (.inr ⟨ho.symm.trans h1, rfl⟩)), hf⟩
  cases hx1 : r c s with
  | exit j s1 =>
    rw [hx1] at h
    have h : ife (Nat.beq j i) (.norm s1) (.exit j s1) = out := h
    refine wp_mono (key (by rw [hx1]; exact .inr (.inl ⟨_, _, rfl⟩))) fun e a' w' hw => ?_
    obtain ⟨s', he, hf⟩ := hw
    rw [hx1] at he
    rcases he with ⟨h1, rfl⟩ | ⟨j', h1, rfl⟩ | ⟨l, h1, rfl⟩ | ⟨h1, rfl⟩
    · cases h1
    · injection h1 with h1 h2; subst h1 h2
      show if j = i then _ else _
      rw [ife_eq] at h
      by_cases hj : j = i
      · rw [if_pos hj]
        rw [if_pos (by rw [Nat.beq_eq]; exact hj)] at h
        exact ⟨s1, .inl ⟨h.symm, rfl⟩, hf⟩
      · rw [if_neg hj]
        rw [if_neg (by rw [Nat.beq_eq]; exact hj)] at h
        exact ⟨s1, .inr (.inl ⟨j, h.symm, rfl⟩), hf⟩
    · cases h1
    · cases h1
  | _ => rw [hx1] at h; exact other (hx1.trans h) (by intro j s' e; rw [hx1] at e; cases e)
theorem loopN_ok (hr : RunOk C Ec N r) {c : Code} (hc : codeOk N c = true) : ∀ (n : Nat) (s : St) (out : R), loopN r c n s = out → Good out → ∀ (E : Env) (a : Act) (w : World), Ext Ec E → ARel X W0 C E N s a w → ∀ (b : Frame) (k : List Item) (cs : List Frame),
    ∃ e a' w', Walks X W0 C E N s out e a' w' ∧ Arrives C.P (lone (b.at a (.code c :: .inLoop c :: k)) cs w) b k cs e a' w'
  | 0, s, out, h, hg, E, a, w, hE, hA, b, k, cs => absurd h (hg.bad 224)
  | n + 1, s, out, h, hg, E, a, w, hE, hA, b, k, cs => by
    have h : (r c s).onNorm (r c s) (loopN r c n) = out := h
    have key : Good (r c s) → (c.wp C.P (Walks X W0 C E N s (r c s)) a w) := fun g => hr c hc s _ rfl g X W0 E a w hE hA
    have other : r c s = out → (∀ s', r c s ≠ .norm s') → ∃ e a' w', Walks X W0 C E N s out e a' w' ∧ Arrives C.P (lone (b.at a (.code c :: .inLoop c :: k)) cs w) b k cs e a' w' := fun ho hn => by
      obtain ⟨e, a', w', ⟨s', he, hf⟩, harr⟩ := key (by rw [ho]; exact hg) b (.inLoop c :: k) cs
      rcases he with ⟨h1, _⟩ | ⟨i, h1, rfl⟩ | ⟨l, h1, rfl⟩ | ⟨h1, rfl⟩
      · exact absurd h1 (hn _)
      · exact ⟨_, a', w', ⟨s', .inr (.inl ⟨i, ho.symm.trans h1, rfl⟩), hf⟩, .pass (x := .inLoop c) rfl (fun _ _ => .inl (by simp)) harr⟩
      · exact ⟨_, a', w', ⟨s', .inr (.inr (.inl ⟨l, ho.symm.trans h1, rfl⟩)), hf⟩, .pass (x := .inLoop c) rfl (fun _ _ => .inl (by simp)) harr⟩
      · exact ⟨_, a', w', ⟨s', .inr (.inr (.inr ⟨ho.symm.trans h1, rfl⟩)), hf⟩, .pass (x := .inLoop c) rfl (fun _ _ => .inl (by simp)) harr⟩
    cases hx1 : r c s with
    | norm s1 =>
      rw [hx1] at h
      have h : loopN r c n s1 = out := h
      obtain ⟨e, a', w', ⟨s', he, E1, k1, k2, k3, k4, k5⟩, harr⟩ := key (by rw [hx1]; exact .inl ⟨_, rfl⟩) b (.inLoop c :: k) cs
      rw [hx1] at he
      rcases he with ⟨h1, rfl⟩ | ⟨i, h1, rfl⟩ | ⟨l, h1, rfl⟩ | ⟨h1, rfl⟩
      · injection h1 with h1; subst h1
        obtain ⟨e2, a2, w2, hw, harr2⟩ := loopN_ok hr hc n s1 out h hg E1 a' w' (hE.trans k1.ext) k2 b k cs
        exact ⟨e2, a2, w2, hw.trans k1 k3 k4 k5, .of_steps (Steps.trans harr (.one step_inLoop)) harr2⟩
      · cases h1
      · cases h1
      · cases h1
    | _ => rw [hx1] at h; exact other (hx1.trans h) (by intro s' e; rw [hx1] at e; cases e)
theorem findLabel_ok : ∀ {c : Code} {l : Nat} {rest : Code}, codeOk N c = true → findLabel c l = some rest → codeOk N rest = true
  | .seq x y, l, rest, h, e => by
    have h' : (codeOk N x && codeOk N y) = true := h
    rw [Bool.and_eq_true] at h'
    unfold findLabel at e
    split at e
    · rename_i r hr
      injection e with e; subst e
      show (codeOk N r && codeOk N y) = true
      rw [findLabel_ok h'.1 hr, h'.2]; rfl
    · exact findLabel_ok h'.2 e
  | .label l', l, rest, h, e => by
    unfold findLabel at e
    split at e
    · injection e with e; subst e; rfl
    · cases e
  | .skip, _, _, _, e => by simp [findLabel] at e
  | .region .., _, _, _, e => by simp [findLabel] at e
  | .cond .., _, _, _, e => by simp [findLabel] at e
  | .block .., _, _, _, e => by simp [findLabel] at e
  | .loop _, _, _, _, e => by simp [findLabel] at e
  | .rangeFunc .., _, _, _, e => by simp [findLabel] at e
  | .refuse _, _, _, _, e => by simp [findLabel] at e
  | .exit _, _, _, _, e => by simp [findLabel] at e
  | .scope _, _, _, _, e => by simp [findLabel] at e
  | .goto _, _, _, _, e => by simp [findLabel] at e
  | .ret, _, _, _, e => by simp [findLabel] at e
theorem scopeN_ok (hr : RunOk C Ec N r) {body : Code} (hb : codeOk N body = true) : ∀ (n : Nat) (c : Code), codeOk N c = true → ∀ (s : St) (out : R), scopeN r body n c s = out → Good out → ∀ (E : Env) (a : Act) (w : World), Ext Ec E → ARel X W0 C E N s a w → ∀ (b : Frame) (k : List Item) (cs : List Frame),
    ∃ e a' w', Walks X W0 C E N s out e a' w' ∧ Arrives C.P (lone (b.at a (.code c :: .inScope body :: k)) cs w) b k cs e a' w'
  | 0, c, hc, s, out, h, hg, E, a, w, hE, hA, b, k, cs => absurd h (hg.bad 225)
  | n + 1, c, hc, s, out, h, hg, E, a, w, hE, hA, b, k, cs => by
    have h : (r c s).onGoto (r c s) (fun l s' => onSome (findLabel body l) (.goto l s') fun rest => scopeN r body n rest s') = out := h
    have key : Good (r c s) → (c.wp C.P (Walks X W0 C E N s (r c s)) a w) := fun g => hr c hc s _ rfl g X W0 E a w hE hA
    have other : r c s = out → (∀ l s', r c s ≠ .goto l s') → ∃ e a' w', Walks X W0 C E N s out e a' w' ∧ Arrives C.P (lone (b.at a (.code c :: .inScope body :: k)) cs w) b k cs e a' w' := fun ho hn => by
      obtain ⟨e, a', w', ⟨s', he, hf⟩, harr⟩ := key (by rw [ho]; exact hg) b (.inScope body :: k) cs
      rcases he with ⟨h1, rfl⟩ | ⟨i, h1, rfl⟩ | ⟨l, h1, rfl⟩ | ⟨h1, rfl⟩
      · exact ⟨_, a', w', ⟨s', .inl ⟨ho.symm.trans h1, rfl⟩, hf⟩, Steps.trans harr (.one step_inScope)⟩
      · exact ⟨_, a', w', ⟨s', .inr (.inl ⟨i, ho.symm.trans h1, rfl⟩), hf⟩, fun k' hk => harr k' (by simp [exitTo, hk])⟩
      · exact absurd h1 (hn _ _)
      · exact ⟨_, a', w', ⟨s', .inr (.inr (.inr ⟨ho.symm.trans h1, rfl⟩)), hf⟩, harr⟩
    cases hx1 : r c s with
    | goto l s1 =>
      rw [hx1] at h
      have h : (onSome (findLabel body l) (.goto l s1) fun rest => scopeN r body n rest s1) = out := h
      obtain ⟨e, a', w', ⟨s', he, hf⟩, harr⟩ := key (by rw [hx1]; exact .inr (.inr (.inl ⟨_, _, rfl⟩))) b (.inScope body :: k) cs
      rw [hx1] at he
      rcases he with ⟨h1, rfl⟩ | ⟨i, h1, rfl⟩ | ⟨l', h1, rfl⟩ | ⟨h1, rfl⟩
      · cases h1
      · cases h1
      · injection h1 with h1 h2; subst h1 h2
        cases hl : findLabel body l with
        | none =>
          rw [hl] at h
          exact ⟨_, a', w', ⟨s1, .inr (.inr (.inl ⟨l, h.symm, rfl⟩)), hf⟩, fun k' hk => harr k' (by simp [gotoIn, hl, hk])⟩
        | some rest =>
          rw [hl] at h
          obtain ⟨E1, k1, k2, k3, k4, k5⟩ := hf
          obtain ⟨e2, a2, w2, hw, harr2⟩ := scopeN_ok hr hb n rest (findLabel_ok hb hl) s1 out h hg E1 a' w' (hE.trans k1.ext) k2 b k cs
          exact ⟨e2, a2, w2, hw.trans k1 k3 k4 k5, .of_steps (harr _ (by simp [gotoIn, hl])) harr2⟩
      · cases h1
    | _ => rw [hx1] at h; exact other (hx1.trans h) (by intro l s' e; rw [hx1] at e; cases e)
theorem region_ok (hC : CtxOk C) (hmix : C.P.follows .mixedOrders = true) (hN : N < 2 ^ 62) (hcall : ∀ f args H v H', callF C r f args H = .val v H' → CallOk C (Ext Ec) f args H v H') {id : Nat} {ops : Array Oper} {draw : Bool} (hd : dstsOk N ops.toList = true)
    (h : sRegion ops draw C r s = out) (hg : Good out) (hE : Ext Ec E) (hA : ARel X W0 C E N s a w) : (Code.region id ops draw).wp C.P (Walks X W0 C E N s out) a w := by
  intro b k cs
  unfold sRegion at h
  cases draw with
  | true =>
    obtain ⟨s', E', a', w', h1, h2, h3, h4, h5, h6, h7⟩ := drawn_ok hC hmix hN hd hcall h hg hE hA id b k cs
    exact ⟨.normal, a', w', ⟨s', .inl ⟨h1, rfl⟩, E', h3, h4, h5, h6, h7⟩, h2⟩
  | false =>
    obtain ⟨s', E', a', w', h1, h2, h3, h4, h5, h6, h7⟩ := ops_ok hC hN hcall ops.toList 0 (fun j => by simp) hd s out h hg E a w hE hA b k cs
    rw [Array.length_toList, ← List.range_eq_range'] at h2
    exact ⟨.normal, a', w', ⟨s', .inl ⟨h1, rfl⟩, E', h3, h4, h5, h6, h7⟩, .head step_region (Steps.trans h2 (.one step_region_end))⟩
end
end Go.Proofs.YtjebljnifeoiaaaGreat.Vm
