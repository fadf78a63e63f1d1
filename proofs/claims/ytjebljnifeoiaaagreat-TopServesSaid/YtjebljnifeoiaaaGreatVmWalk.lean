/- The machine's walk is the model's: a region in the text's order. No condition but those each theorem names. -/
import Derived.Test.YtjebljnifeoiaaaGreatVmExec
import Derived.Conc.LoneSelect
import Derived.Recover
import Derived.Scope
namespace Go.Proofs.YtjebljnifeoiaaaGreat.Vm
open Go
set_option linter.unusedVariables false
set_option linter.unusedSimpArgs false
/-- All the slots that a region, code writes lie among the first N. -/
def dstsOk (N : Nat) : List Oper → Bool
  | [] => true
  | o :: l => (match o.dst with
    | some d => decide (d < N)
    | none => true) && dstsOk N l
def codeOk (N : Nat) : Code → Bool
  | .region _ ops _ => dstsOk N ops.toList
  | .seq a b => codeOk N a && codeOk N b
  | .cond _ a b => codeOk N a && codeOk N b
  | .block _ b => codeOk N b
  | .loop b => codeOk N b
  | .scope b => codeOk N b
  | _ => true
/-- What is asked of a program, once. -/
structure ProgOk (P : Program) : Prop where
  code : ∀ (f : Nat) (fn : Func) c, P.funcs[f]? = some fn → fn.body = some c → codeOk fn.ntmps c = true ∧ fn.ntmps < 2 ^ 62 ∧ fn.name ≠ "runtime.NumGoroutine"
  esc : ∀ (f : Nat) (fn : Func), P.funcs[f]? = some fn → fn.body = none → (fn.name == "internal/abi.NoEscape") = true → ∀ u w, (callFunc f #[u]).run P w = .ok (.value u) w
  orders : P.follows .mixedOrders = true
/-- A deferred call that does nothing. -/
def SilentOk (P : Program) (f : Nat) : Prop := (∃ fn : Func, P.funcs[f]? = some fn ∧ fn.body.isSome = true) ∧
  ∀ (us : Array Value) (w : World), CallsD P f us .returning w fun
    | .returned _, u', w' => u' = .returning ∧ w' = w
    | _, _, _ => False
section
variable {X : Nat → Prop} {W0 : World} {C : Ctx} {E E' : Env} {H H' : Heap} {w : World} {v : AV}
/-- The slots. -/
structure TRel (E : Env) (N : Nat) (τ : Tm) (tmps : Array Value) : Prop where
  size : tmps.size = N
  get : ∀ t v, τ.get t = some v → ∃ u, tmps[t]? = some u ∧ Rel E v u
theorem TRel.ext {N : Nat} {τ : Tm} {tmps : Array Value} (h : TRel E N τ tmps) (x : Ext E E') : TRel E' N τ tmps :=
  ⟨h.size, fun t v e => let ⟨u, h1, h2⟩ := h.get t v e; ⟨u, h1, h2.ext x⟩⟩
theorem TRel.opds {N : Nat} {τ : Tm} {a : Act} (h : TRel E N τ a.tmps) (l : List Operand) : Opds E τ a.eval l := fun x _ v e => by
  cases x with
  | tmp t =>
    have e' : τ.get t = some v := e
    obtain ⟨u, h1, h2⟩ := h.get t v e'
    have : a.eval (.tmp t) = u := by
      show a.tmps.getD t undef = u
      rw [Array.getD_eq_getD_getElem?, h1]; rfl
    rw [this]; exact h2
  | const c => exact ofValue_rel (show ofValue c = some v from e)
  | func f =>
    have e' : some (AV.fn f []) = some v := e
    injection e' with e'; subst e'
    simp only [Rel]
    exact ⟨#[], rfl, RelL.nil⟩
  | _ => cases e
theorem TRel.set {N : Nat} {τ : Tm} {tmps : Array Value} (h : TRel E N τ tmps) {d : Nat} (hd : d < N) (hN : N < 2 ^ 62) {v : AV} {u : Value} (r : Rel E v u) : TRel E N (τ.set d (some v)) (tmps.setIfInBounds d u) := by
  refine ⟨by simp [h.size], fun t v' e => ?_⟩
  rw [Tr.get_set τ d _ t (by omega)] at e
  rw [Array.getElem?_setIfInBounds]
  by_cases ht : t = d
  · subst ht
    rw [if_pos rfl] at e ⊢
    injection e with e; subst e
    exact ⟨u, by rw [if_pos (by rw [h.size]; exact hd)], r⟩
  · rw [if_neg ht] at e
    rw [if_neg (Ne.symm ht)]
    exact h.get t v' e
/-- What is put off. -/
def DRel (E : Env) : List (AV × List AV) → List Deferred → Prop
  | [], l => l = []
  | p :: ds, l => ∃ d l', l = d :: l' ∧ (∃ f cs vs us, p.1 = .fn f cs ∧ RelL E cs vs ∧ RelL E p.2 us ∧ d = { target := .fn (.func f) vs.toArray, args := us.toArray }) ∧ DRel E ds l'
theorem DRel.ext (x : Ext E E') : ∀ {ds : List (AV × List AV)} {l : List Deferred}, DRel E ds l → DRel E' ds l
  | [], l, h => h
  | p :: ds, l, h => by
    obtain ⟨d, l', h1, ⟨f, cs, vs, us, h2, h3, h4, h5⟩, h6⟩ := h
    exact ⟨d, l', h1, ⟨f, cs, vs, us, h2, h3.ext x, h4.ext x, h5⟩, DRel.ext x h6⟩
structure ARel (X : Nat → Prop) (W0 : World) (C : Ctx) (E : Env) (N : Nat) (s : St) (a : Act) (w : World) : Prop where
  heap : SRel X W0 C E s.H w
  tmps : TRel E N s.τ a.tmps
  dfr : DRel E s.ds a.defers
/-- A known call. -/
def CallOk (C : Ctx) (Fs : Env → Prop) (f : Nat) (args : List AV) (H : Heap) (v : AV) (H' : Heap) : Prop :=
  ∀ (X : Nat → Prop) (W0 : World) (E : Env) (w : World) (us : List Value), Fs E → SRel X W0 C E H w → RelL E args us →
    (∃ u w' E', (callFunc f us.toArray).run C.P w = .ok (.value u) w' ∧ Grew E E' H.next H'.next ∧ Rel E' v u ∧ SRel X W0 C E' H' w' ∧ H'.ro = H.ro ∧ H'.lim = H.lim ∧ H.next ≤ H'.next) ∨
    ((callFunc f us.toArray).run C.P w = .ok (.enter f us.toArray) w ∧ Calls C.P f us.toArray w fun
      | .returned u, w' => ∃ E', Grew E E' H.next H'.next ∧ Rel E' v u ∧ SRel X W0 C E' H' w' ∧ H'.ro = H.ro ∧ H'.lim = H.lim ∧ H.next ≤ H'.next
      | _, _ => False)
/-- What is known of calls, as far as these named numbers go. -/
def FactsOk (C : Ctx) (E0 : Env) : Prop := ∀ x ∈ C.facts, ∀ H, CallOk C (Ext E0) x.f x.args H x.res H
/-- How the machine goes on. -/
def Good (o : R) : Prop := (∃ s, o = .norm s) ∨ (∃ i s, o = .exit i s) ∨ (∃ l s, o = .goto l s) ∨ ∃ s, o = .ret s
theorem Good.bad {o : R} (h : Good o) (n : Nat) : R.bad n ≠ o := by rcases h with ⟨_, rfl⟩ | ⟨_, _, rfl⟩ | ⟨_, _, rfl⟩ | ⟨_, rfl⟩ <;> simp
theorem Good.ask {o : R} (h : Good o) (n : Atom) : R.ask n ≠ o := by rcases h with ⟨_, rfl⟩ | ⟨_, _, rfl⟩ | ⟨_, _, rfl⟩ | ⟨_, rfl⟩ <;> simp
theorem xrOut_cases {x o : R} {kv : AV → Heap → R} {kc : Nat → List AV → R} {kd : AV → List AV → R} (ho : Good o) (h : xrOut x kv kc kd = o) :
    (∃ v H, x = .val v H ∧ kv v H = o) ∨ (∃ v H, x = .sel v H ∧ kv v H = o) ∨ (∃ f as, x = .call f as ∧ kc f as = o) ∨ ∃ v as, x = .dfr v as ∧ kd v as = o := by
  cases x with
  | val v H => exact .inl ⟨v, H, rfl, h⟩
  | sel v H => exact .inr (.inl ⟨v, H, rfl, h⟩)
  | call f as => exact .inr (.inr (.inl ⟨f, as, rfl, h⟩))
  | dfr v as => exact .inr (.inr (.inr ⟨v, as, rfl, h⟩))
  | bad n => exact absurd h (ho.bad n)
  | ask a => exact absurd h (ho.ask a)
  | _ => exact absurd h (ho.bad 231)
theorem crOut_cases {x o : R} {κ : AV → Heap → R} (ho : Good o) (h : crOut x κ = o) : ∃ v H, x = .val v H ∧ κ v H = o := by
  cases x with
  | val v H => exact ⟨v, H, rfl, h⟩
  | bad n => exact absurd h (ho.bad n)
  | ask a => exact absurd h (ho.ask a)
  | _ => exact absurd h (ho.bad 230)
theorem putT_eq (dst : Option Nat) (v : AV) (τ : Tm) (κ : Tm → R) : putT dst v τ κ = κ (match dst with | some d => τ.set d (some v) | none => τ) := by
  cases dst with
  | none => rfl
  | some d => exact putA_eq τ (some v) d κ
noncomputable def putTm (dst : Option Nat) (v : AV) (τ : Tm) : Tm := match dst with | some d => τ.set d (some v) | none => τ
theorem TRel.put {N : Nat} {τ : Tm} {a : Act} (h : TRel E N τ a.tmps) (hN : N < 2 ^ 62) {dst : Option Nat} (hd : ∀ d, dst = some d → d < N) {v : AV} {u : Value} (r : Rel E v u) : TRel E N (putTm dst v τ) (a.put dst u).tmps := by
  cases dst with
  | none => exact h
  | some d => exact h.set (hd d rfl) hN r
theorem put_defers (a : Act) (dst : Option Nat) (u : Value) : (a.put dst u).defers = a.defers := by cases dst <;> rfl
/-- Is it wanted? As the model says. -/
theorem wanted_ok (hs : SRel X W0 C E H w) {N : Nat} {ops : Array Oper} {τ : Tm} {a : Act} (ht : TRel E N τ a.tmps) {o : Oper} {q : Bool} (h : wantedA ops.toList o C τ = some q) : Region.wanted o (yielded ops a.tmps) = q := by
  unfold wantedA at h
  unfold Region.wanted
  cases hg : o.guard with
  | none =>
    rw [hg] at h
    injection h
  | some g =>
    rw [hg, onSome_some] at h
    simp only [onSome_iff, ne_eq, reduceCtorEq, not_false_eq_true, nth_eq, getA_eq] at h
    obtain ⟨p, h1, d, h2, x, h3, h4⟩ := h
    obtain ⟨u, h5, h6⟩ := ht.get d x h3
    have hy : ∀ q, (∀ b, u = .bool b → q = some b) → ((∀ b, u ≠ .bool b) → q = none) → yielded ops a.tmps g.1 = q := fun q k1 k2 => by
      unfold yielded
      have : ops[g.1]? = some p := by simpa using h1
      rw [this]
      simp only [Option.bind_some, h2, h5]
      split
      · rename_i b e; injection e with e; exact (k1 b e).symm
      · rename_i e; exact (k2 (fun b e' => e b (by rw [e']))).symm
    rw [AV.onBool_eq] at h4
    split at h4
    · rename_i s
      rw [onSome_iff (by simp)] at h4
      obtain ⟨b, h7, h8⟩ := h4
      injection h8 with h8
      have hb := decB_ok hs h7
      simp only [Rel] at h6
      obtain ⟨j, want⟩ := g
      simp only at hy h8 ⊢
      rw [hy (some b) (fun b' e => by rw [h6, hb] at e; injection e with e; rw [e]) (fun k => absurd (by rw [h6, hb]) (k b)), ← h8, beqB_dec]
      cases b <;> cases want <;> rfl
    · rw [AV.onTup_iff (by simp)] at h4
      obtain ⟨l, rfl, h7⟩ := h4
      cases l with
      | cons => cases h7
      | nil =>
        have h8 : some false = some q := h7
        injection h8 with h8
        simp only [Rel] at h6
        obtain ⟨vs, rfl, _⟩ := h6
        obtain ⟨j, want⟩ := g
        simp only at hy ⊢
        rw [hy none (fun b e => by cases e) (fun _ => rfl), ← h8]; rfl
end
end Go.Proofs.YtjebljnifeoiaaaGreat.Vm
