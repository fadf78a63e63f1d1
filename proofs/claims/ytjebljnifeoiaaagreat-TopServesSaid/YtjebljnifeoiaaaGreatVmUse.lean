/- The machine in use: calls by themselves, over named numbers; what is known of calls. No condition but those each theorem names. -/
import Derived.Test.YtjebljnifeoiaaaGreatVmCall
namespace Go.Proofs.YtjebljnifeoiaaaGreat.Vm
open Go Go.RowKit
set_option linter.unusedVariables false
set_option linter.unusedSimpArgs false
/-- Named numbers, bools and slices, and no block. -/
noncomputable def Env.of (σ : Nat → Int) (β : Nat → Bool) (fs : Nat → FS) : Env := ⟨fun _ => none, σ, β, fs⟩
def FS.no : FS := ⟨.slice none 0 0, 0, 0, 0, 0, fun _ _ => 0⟩
mutual
/-- A value that bears no block. -/
def flat : AV → Bool
  | .ptr .. | .slc .. | .etl .. | .map _ | .chan _ => false
  | .fn _ cs => flats cs
  | .iface _ v => flat v
  | .agg cs => flats cs
  | .tup cs => flats cs
  | _ => true
def flats : List AV → Bool
  | [] => true
  | a :: l => flat a && flats l
end
theorem SI.den_same {E E' : Env} (h1 : E'.σ = E.σ) (h3 : E'.fs = E.fs) (e : SI) : e.den E' = e.den E := by
  induction e with
  | lit n => rfl
  | var i => show E'.σ i = E.σ i; rw [h1]
  | app f k a b ia ib => show f.den k (a.den E') (b.den E') = _; rw [ia, ib]; rfl
  | elem s i j ih => show (E'.fs s).cell (i.den E').toNat j = _; rw [ih, h3]; rfl
  | len s => show ((E'.fs s).len : Int) = _; rw [h3]; rfl
theorem SB.den_same {E E' : Env} (h1 : E'.σ = E.σ) (h2 : E'.β = E.β) (h3 : E'.fs = E.fs) (b : SB) : b.den E' = b.den E := by
  cases b with
  | lit b => rfl
  | var i => show E'.β i = E.β i; rw [h2]
  | elem s i j => show ((E'.fs s).cell (i.den E').toNat j != 0) = ((E.fs s).cell (i.den E).toNat j != 0); rw [SI.den_same h1 h3, h3]
theorem Atom.den_same {E E' : Env} (h1 : E'.σ = E.σ) (h2 : E'.β = E.β) (h3 : E'.fs = E.fs) (a : Atom) : a.den E' = a.den E := by
  cases a <;> simp only [Atom.den, SI.den_same h1 h3, SB.den_same h1 h2 h3]
mutual
theorem Rel.flat {E E' : Env} (h1 : E'.σ = E.σ) (h2 : E'.β = E.β) (h3 : E'.fs = E.fs) : ∀ (a : AV) (v : Value), flat a = true → Rel E a v → Rel E' a v
  | .int k e, v, _, r => by simp only [Rel] at r ⊢; rw [SI.den_same h1 h3]; exact r
  | .bool b, v, _, r => by simp only [Rel] at r ⊢; rw [SB.den_same h1 h2 h3]; exact r
  | .str l, v, _, r => by simpa only [Rel] using r
  | .ptr b o, v, f, r => by cases f
  | .nil, v, _, r => by simpa only [Rel] using r
  | .slc b o n lo ex z, v, f, r => by cases f
  | .etl b o1 o2 z, v, f, r => by cases f
  | .nils, v, _, r => by simpa only [Rel] using r
  | .map b, v, f, r => by cases f
  | .nilm, v, _, r => by simpa only [Rel] using r
  | .chan b, v, f, r => by cases f
  | .nilc, v, _, r => by simpa only [Rel] using r
  | .fn f cs, v, q, r => by simp only [Rel] at r ⊢; obtain ⟨vs, e, r⟩ := r; exact ⟨vs, e, RelL.flat h1 h2 h3 cs _ q r⟩
  | .nilf, v, _, r => by simpa only [Rel] using r
  | .iface t a, v, q, r => by simp only [Rel] at r ⊢; obtain ⟨x, e, r⟩ := r; exact ⟨x, e, Rel.flat h1 h2 h3 a _ q r⟩
  | .nili, v, _, r => by simpa only [Rel] using r
  | .agg cs, v, q, r => by simp only [Rel] at r ⊢; obtain ⟨vs, e, r⟩ := r; exact ⟨vs, e, RelL.flat h1 h2 h3 cs _ q r⟩
  | .tup cs, v, q, r => by simp only [Rel] at r ⊢; obtain ⟨vs, e, r⟩ := r; exact ⟨vs, e, RelL.flat h1 h2 h3 cs _ q r⟩
  | .fsl s, v, _, r => by simp only [Rel] at r ⊢; rw [h3]; exact r
  | .fpt s i j, v, _, r => by simp only [Rel] at r ⊢; rw [h3, SI.den_same h1 h3]; exact r
theorem RelL.flat {E E' : Env} (h1 : E'.σ = E.σ) (h2 : E'.β = E.β) (h3 : E'.fs = E.fs) : ∀ (l : List AV) (m : List Value), flats l = true → RelL E l m → RelL E' l m
  | [], m, _, r => by simpa only [RelL] using r
  | a :: l, m, f, r => by
    have f' : (Vm.flat a && flats l) = true := f
    rw [Bool.and_eq_true] at f'
    simp only [RelL] at r ⊢
    obtain ⟨v, m', e, r1, r2⟩ := r
    exact ⟨v, m', e, Rel.flat h1 h2 h3 a v f'.1 r1, RelL.flat h1 h2 h3 l m' f'.2 r2⟩
end
/-- What a call hands back, whatever the world; it turns nothing that was there. -/
def Ans (P : Program) (f : Nat) (us : List Value) (v : Value) : Prop := ∀ w : World, Calls P f us.toArray w fun e w' => e = .returned v ∧ Below w.heap.size w w'
section
variable {X : Nat → Prop} {W0 : World} {C : Ctx} {E : Env} {H : Heap} {w w' : World}
theorem SRel.below (h : SRel X W0 C E H w) (b : Below w.heap.size w w') : SRel X W0 C E H w' := by
  refine ⟨fun n k e => ?_, h.ro, h.inj, fun r hr => ⟨(b.block r (h.keep r hr).2).trans (h.keep r hr).1, Nat.lt_of_lt_of_le (h.keep r hr).2 b.size⟩, h.fresh, h.lim, h.ids, fun it e => ?_, h.fk, h.know, b.os.trans h.os, b.tape.trans h.tape, b.output.trans h.output⟩
  · obtain ⟨r, ba, en, h1, h2, h3⟩ := h.own n k e
    exact ⟨r, ba, en, h1, h2, h3.world (b.block r h3.lt)⟩
  · have i := h.it it e
    obtain ⟨b', m, p⟩ := it
    cases p with
    | some p => exact i
    | none =>
      obtain ⟨r1, rm, ba1, en1, es, M, since, h1, h2, h3, h4, h5, h6, h7⟩ := i
      exact ⟨r1, rm, ba1, en1, es, M, since, h1, h2, h3, (b.block r1 (Array.getElem?_eq_some_iff.1 h4).1).trans h4, h5, h6, (b.block rm (Array.getElem?_eq_some_iff.1 h7).1).trans h7⟩
/-- Nothing of one's own as yet; what is there stays. -/
theorem SRel.start (w : World) (hE : ∀ b, E.ρ b = none) (hfk : FOk (fun r => r < w.heap.size) w C E) (hk : ∀ p ∈ C.know, p.1.den E = p.2) : SRel (fun r => r < w.heap.size) w C E Heap.void w :=
  ⟨fun b k e => (by cases e), fun b k e => (by cases e), fun b b' k k' r ba en r' ba' en' g1 _ e1 => (by rw [hE] at e1; cases e1), fun r hr => ⟨rfl, hr⟩, fun b _ _ => hE b, (by show 1152921504606846976 ≤ 2 ^ 62; decide), fun b x e => (by rw [hE] at e; cases e), fun it e => (by cases e), hfk, hk, rfl, rfl, rfl⟩
theorem below_of (h : SRel (fun r => r < w.heap.size) w C E H w') : Below w.heap.size w w' := by
  refine ⟨h.os, h.tape, h.output, ?_, fun k hk => (h.keep k hk).1⟩
  rcases Nat.eq_zero_or_pos w.heap.size with h0 | h0
  · omega
  · have := (h.keep (w.heap.size - 1) (by omega)).2
    omega
/-- The function has code: a call of it enters. -/
theorem enters {P : Program} (hprog : ProgOk P) {f : Nat} {fn : Func} {c : Code} (hf : P.funcs[f]? = some fn) (hb : fn.body = some c) (us : Array Value) (w : World) : (callFunc f us).run P w = .ok (.enter f us) w := by
  have hname := (hprog.code f fn c hf hb).2.2
  simp [callFunc, program, Sem.run, hf, hname, hb]
/-- A call by itself. -/
theorem ans_of (hC : CtxOk C) (hprog : ProgOk C.P) (hsil : ∀ f, C.silent.contains f = true → SilentOk C.P f) {σ : Nat → Int} {β : Nat → Bool} {fs : Nat → FS} (hfacts : FactsOk C (Env.of σ β fs))
    {n f : Nat} {fn : Func} {c : Code} (hf : C.P.funcs[f]? = some fn) (hb : fn.body = some c) {args : List AV} {v : AV} {H' : Heap} (h : callA C n f args Heap.void = .val v H') (hv : flat v = true)
    (hk : ∀ p ∈ C.know, p.1.den (Env.of σ β fs) = p.2) {us : List Value} (hus : RelL (Env.of σ β fs) args us) {w : World} (hfk : FOk (fun r => r < w.heap.size) w C (Env.of σ β fs)) :
    Calls C.P f us.toArray w fun e w' => ∃ u, e = .returned u ∧ Rel (Env.of σ β fs) v u ∧ Below w.heap.size w w' := by
  have hs := SRel.start (C := C) (E := Env.of σ β fs) w (fun _ => rfl) hfk hk
  rcases callA_ok hC hprog hsil hfacts h _ _ _ _ us (Ext.refl _) hs hus with ⟨u, w', E', h1, _⟩ | ⟨h1, h2⟩
  · rw [enters hprog hf hb] at h1; cases h1
  · refine h2.mono fun e w' he => ?_
    cases e with
    | returned u =>
      obtain ⟨E', k1, k2, k3, _⟩ := he
      exact ⟨u, rfl, Rel.flat k1.ext.σ.symm k1.ext.β.symm k1.ext.fs.symm v u hv k2, below_of k3⟩
    | panicked => exact he.elim
    | outgrown => exact he.elim
/-- No slice came in. -/
theorem FOk.none (hfk : C.fk = []) (w : World) (σ : Nat → Int) (β : Nat → Bool) : FOk (fun r => r < w.heap.size) w C (Env.of σ β fun _ => FS.no) :=
  ⟨fun _ => rfl, fun s ks e => (by rw [hfk] at e; cases e), fun s ks i j o e => (by rw [hfk] at e; cases e)⟩
/-- What is known of a call. -/
theorem fact_of (hprog : ProgOk C.P) {σ : Nat → Int} {β : Nat → Bool} {fs : Nat → FS} {f : Nat} {fn : Func} {c : Code} (hf : C.P.funcs[f]? = some fn) (hb : fn.body = some c) {args : List AV} {v : AV} (hfa : flats args = true) {us : List Value} {u : Value}
    (hus : ∀ us', RelL (Env.of σ β fs) args us' → us' = us) (hu : Rel (Env.of σ β fs) v u) (hfv : flat v = true) (ha : Ans C.P f us u) (H : Heap) : CallOk C (Ext (Env.of σ β fs)) f args H v H := by
  intro X W0 E w us' hE hs hus'
  right
  have e : us' = us := hus us' (RelL.flat hE.σ.symm hE.β.symm hE.fs.symm args us' hfa hus')
  subst e
  refine ⟨enters hprog hf hb _ _, (ha w).mono fun e w' he => ?_⟩
  obtain ⟨rfl, hbel⟩ := he
  exact ⟨E, Grew.refl _ _ _, Rel.flat hE.σ hE.β hE.fs v u hfv hu, hs.below hbel, rfl, rfl, Nat.le_refl _⟩
theorem facts_nil {E : Env} (h : C.facts = []) : FactsOk C E := fun x hx => by rw [h] at hx; simp at hx
end
end Go.Proofs.YtjebljnifeoiaaaGreat.Vm
