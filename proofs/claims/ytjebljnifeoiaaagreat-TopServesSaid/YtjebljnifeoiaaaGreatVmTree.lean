/- The machine in use: a call whose tests of named numbers are gone through both ways. No condition but those each theorem names. -/
import Derived.Test.YtjebljnifeoiaaaGreatVmUse
namespace Go.Proofs.YtjebljnifeoiaaaGreat.Vm
open Go Go.RowKit
set_option linter.unusedVariables false
set_option linter.unusedSimpArgs false
/-- What is tested, and what comes of it. -/
inductive DT where
  | leaf (v : AV)
  | node (a : Atom) (t f : DT)
noncomputable def DT.at (E : Env) : DT → AV
  | .leaf v => v
  | .node a t f => if a.den E = true then t.at E else f.at E
noncomputable def isV (x : R) (v : AV) : Bool := R.rec (motive := fun _ => Bool)
  (fun v' _ => beqAV v' v) (fun _ _ => false) (fun _ _ => false) (fun _ _ => false) (fun _ => false) (fun _ => false) (fun _ => false) (fun _ => false) (fun _ _ => false) (fun _ _ => false) (fun _ => false) x
theorem isV_ok {x : R} {v : AV} (h : isV x v = true) : ∃ H, x = .val v H := by
  cases x with
  | val v' H => exact ⟨H, by rw [beqAV_eq (show beqAV v' v = true from h)]⟩
  | _ => cases h
/-- C with more that is known. -/
noncomputable def Ctx.more (C : Ctx) (K : List (Atom × Bool)) : Ctx := ⟨C.P, C.ty, C.fn, K, C.fk, C.facts, C.silent⟩
noncomputable def treeOk (C : Ctx) (n f : Nat) (args : List AV) : DT → List (Atom × Bool) → Bool
  | .leaf v, K => ife (flat v) (isV (callA (C.more K) n f args Heap.void) v) false
  | .node a t g, K => ife (treeOk C n f args t ((a, true) :: K)) (treeOk C n f args g ((a, false) :: K)) false
mutual
/-- The value of one that bears no block. -/
noncomputable def AV.valE (E : Env) : AV → Option Value
  | .int k e => some (.int k (e.den E))
  | .bool b => some (.bool (b.den E))
  | .agg cs => (AV.valEs E cs).map fun l => .agg l.toArray
  | .tup cs => (AV.valEs E cs).map fun l => .tuple l.toArray
  | .fsl s => some (E.fs s).v
  | .nils => some (.slice none 0 0)
  | .nil => some (.pointer none)
  | _ => none
noncomputable def AV.valEs (E : Env) : List AV → Option (List Value)
  | [] => some []
  | a :: l => match AV.valE E a, AV.valEs E l with
    | some v, some m => some (v :: m)
    | _, _ => none
end
mutual
theorem AV.valE_iff {E : Env} : ∀ {a : AV} {u : Value}, AV.valE E a = some u → ∀ v, Rel E a v ↔ v = u
  | .int k e, u, h, v => by injection h with h; subst h; simp only [Rel]
  | .bool b, u, h, v => by injection h with h; subst h; simp only [Rel]
  | .agg cs, u, h, v => by
    unfold AV.valE at h
    rw [Option.map_eq_some_iff] at h
    obtain ⟨l, h1, rfl⟩ := h
    have := AV.valEs_iff h1
    simp only [Rel]
    constructor
    · rintro ⟨vs, rfl, hv⟩
      rw [(this _).1 hv |> Eq.symm]
    · rintro rfl
      exact ⟨_, rfl, (this _).2 rfl⟩
  | .tup cs, u, h, v => by
    unfold AV.valE at h
    rw [Option.map_eq_some_iff] at h
    obtain ⟨l, h1, rfl⟩ := h
    have := AV.valEs_iff h1
    simp only [Rel]
    constructor
    · rintro ⟨vs, rfl, hv⟩
      rw [(this _).1 hv |> Eq.symm]
    · rintro rfl
      exact ⟨_, rfl, (this _).2 rfl⟩
  | .fsl s, u, h, v => by injection h with h; subst h; simp only [Rel]
  | .nils, u, h, v => by injection h with h; subst h; simp only [Rel]
  | .nil, u, h, v => by injection h with h; subst h; simp only [Rel]
  | .str _, _, h, _ => by cases h
  | .ptr .., _, h, _ => by cases h
  | .slc .., _, h, _ => by cases h
  | .etl .., _, h, _ => by cases h
  | .map _, _, h, _ => by cases h
  | .nilm, _, h, _ => by cases h
  | .chan _, _, h, _ => by cases h
  | .nilc, _, h, _ => by cases h
  | .fn .., _, h, _ => by cases h
  | .nilf, _, h, _ => by cases h
  | .iface .., _, h, _ => by cases h
  | .nili, _, h, _ => by cases h
  | .fpt .., _, h, _ => by cases h
theorem AV.valEs_iff {E : Env} : ∀ {l : List AV} {m : List Value}, AV.valEs E l = some m → ∀ n, RelL E l n ↔ n = m
  | [], m, h, n => by injection h with h; subst h; simp only [RelL]
  | a :: l, m, h, n => by
    unfold AV.valEs at h
    split at h
    · rename_i v m' h1 h2
      injection h with h; subst h
      have k1 := AV.valE_iff h1
      have k2 := AV.valEs_iff h2
      rw [RelL.cons_iff]
      constructor
      · rintro ⟨v', m'', rfl, r1, r2⟩
        rw [(k1 _).1 r1, (k2 _).1 r2]
      · rintro rfl
        exact ⟨_, _, rfl, (k1 _).2 rfl, (k2 _).2 rfl⟩
    · cases h
end
/-- A call, its tests gone through both ways: what it hands back is what the tree says. -/
theorem tree_at {C : Ctx} (hC : CtxOk C) (hprog : ProgOk C.P) (hsil : ∀ f, C.silent.contains f = true → SilentOk C.P f) {σ : Nat → Int} {β : Nat → Bool} {fs : Nat → FS} (hfacts : ∀ K, FactsOk (C.more K) (Env.of σ β fs))
    {n f : Nat} {fn : Func} {c : Code} (hf : C.P.funcs[f]? = some fn) (hb : fn.body = some c) {args : List AV} {us : List Value} (hus : AV.valEs (Env.of σ β fs) args = some us) {w : World} (hfk : FOk (fun r => r < w.heap.size) w C (Env.of σ β fs)) :
    ∀ (dt : DT) (K : List (Atom × Bool)), treeOk C n f args dt K = true → (∀ p ∈ K, p.1.den (Env.of σ β fs) = p.2) → ∀ v, AV.valE (Env.of σ β fs) (dt.at (Env.of σ β fs)) = some v → Calls C.P f us.toArray w fun e w' => e = .returned v ∧ Below w.heap.size w w'
  | .leaf v0, K, h, hk, v, hv => by
    have h' : ife (flat v0) (isV (callA (C.more K) n f args Heap.void) v0) false = true := h
    rw [ife_iff (by simp)] at h'
    obtain ⟨H', h2⟩ := isV_ok h'.2
    refine (ans_of (C := C.more K) ⟨hC.ty, hC.fn⟩ hprog hsil (hfacts K) hf hb h2 h'.1 hk ((AV.valEs_iff hus us).2 rfl) ⟨hfk.one, hfk.val, hfk.cell⟩).mono fun e w' he => ?_
    obtain ⟨u, rfl, h3, h4⟩ := he
    rw [(AV.valE_iff (show AV.valE _ v0 = some v from hv) u).1 h3]
    exact ⟨rfl, h4⟩
  | .node a t g, K, h, hk, v, hv => by
    have h' : ife (treeOk C n f args t ((a, true) :: K)) (treeOk C n f args g ((a, false) :: K)) false = true := h
    rw [ife_iff (by simp)] at h'
    unfold DT.at at hv
    by_cases ha : a.den (Env.of σ β fs) = true
    · rw [if_pos ha] at hv
      exact tree_at hC hprog hsil hfacts hf hb hus hfk t _ h'.1 (fun p hp => by
        rw [List.mem_cons] at hp
        rcases hp with rfl | hp
        · exact ha
        · exact hk p hp) v hv
    · rw [if_neg ha] at hv
      exact tree_at hC hprog hsil hfacts hf hb hus hfk g _ h'.2 (fun p hp => by
        rw [List.mem_cons] at hp
        rcases hp with rfl | hp
        · simpa using ha
        · exact hk p hp) v hv
theorem tree_ok {C : Ctx} (hC : CtxOk C) (hprog : ProgOk C.P) (hsil : ∀ f, C.silent.contains f = true → SilentOk C.P f) {σ : Nat → Int} {β : Nat → Bool} {fs : Nat → FS} (hfacts : ∀ K, FactsOk (C.more K) (Env.of σ β fs))
    {n f : Nat} {fn : Func} {c : Code} (hf : C.P.funcs[f]? = some fn) (hb : fn.body = some c) {args : List AV} {us : List Value} (hus : AV.valEs (Env.of σ β fs) args = some us) (hfk : ∀ (w : World) K, FOk (fun r => r < w.heap.size) w (C.more K) (Env.of σ β fs))
    (dt : DT) (K : List (Atom × Bool)) (h : treeOk C n f args dt K = true) (hk : ∀ p ∈ K, p.1.den (Env.of σ β fs) = p.2) (v : Value) (hv : AV.valE (Env.of σ β fs) (dt.at (Env.of σ β fs)) = some v) : Ans C.P f us v :=
  fun w => tree_at hC hprog hsil hfacts hf hb hus (w := w) (let k := hfk w []; ⟨k.one, k.val, k.cell⟩) dt K h hk v hv
/-- A fact, by the values that it speaks of. -/
theorem fact_val {C : Ctx} (hprog : ProgOk C.P) {σ : Nat → Int} {β : Nat → Bool} {fs : Nat → FS} {f : Nat} {fn : Func} {c : Code} (hf : C.P.funcs[f]? = some fn) (hb : fn.body = some c) {args : List AV} {v : AV} (hfa : flats args = true) (hfv : flat v = true) {us : List Value} {u : Value}
    (hus : AV.valEs (Env.of σ β fs) args = some us) (hu : AV.valE (Env.of σ β fs) v = some u) (ha : Ans C.P f us u) (H : Heap) : CallOk C (Ext (Env.of σ β fs)) f args H v H :=
  fact_of hprog hf hb hfa (fun us' h => (AV.valEs_iff hus us').1 h) ((AV.valE_iff hu u).2 rfl) hfv ha H
/-- A program that the machine takes. -/
noncomputable def progB (P : Program) : Bool := P.funcs.toList.all fun fn => match fn.body with
  | some c => codeOk fn.ntmps c && (Nat.ble fn.ntmps 1000000 && !(fn.name == "runtime.NumGoroutine"))
  | none => !(fn.name == "internal/abi.NoEscape")
theorem progOk_of {P : Program} (h : progB P = true) (hm : P.follows .mixedOrders = true) : ProgOk P := by
  unfold progB at h
  rw [List.all_eq_true] at h
  refine ⟨fun f fn c hf hb => ?_, fun f fn hf hb hn => ?_, hm⟩
  · have := h fn (by rw [← Array.getElem?_toList] at hf; exact List.mem_of_getElem? hf)
    rw [hb] at this
    simp only [Bool.and_eq_true, Nat.ble_eq, Bool.not_eq_true', beq_eq_false_iff_ne, ne_eq] at this
    exact ⟨this.1, by omega, this.2.2⟩
  · have := h fn (by rw [← Array.getElem?_toList] at hf; exact List.mem_of_getElem? hf)
    rw [hb] at this
    simp only at this
    rw [hn] at this; cases this
end Go.Proofs.YtjebljnifeoiaaaGreat.Vm
