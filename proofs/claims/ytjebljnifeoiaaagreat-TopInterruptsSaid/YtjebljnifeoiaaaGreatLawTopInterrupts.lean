/- 'Rows.TopInterruptsSaid': for every input the law TopInterrupts returns true, and each argument reads behind the call as it read before. Conditions: none. -/
import Derived.Test.YtjebljnifeoiaaaGreatRows
import Derived.Test.YtjebljnifeoiaaaGreatTopJ2
import Derived.WalkKit
import Derived.ProofKit
import Derived.OpenShut
import Derived.ShutString
import Derived.ChangeOld
import Derived.Below
import Derived.Lib.SmallJoins
import Derived.Carry
import Derived.Deep.Slices
import Derived.Deep.Fields
import Derived.ChangeSame
import Derived.SizedLaws
namespace Go.Proofs.YtjebljnifeoiaaaGreat.topInterrupts
open Go.ChangeShapes Go.WideShapes Go.ChangeAt Go.RowKit Go.Joins Go.Deep
set_option linter.unusedVariables false
theorem own : ownKnob Tryz.prog.godebug = none := by kernel_rfl
theorem laidOut : laidOutB Tryz.prog = true := by kernel_rfl
set_option maxRecDepth 100000 in
set_option maxHeartbeats 4000000 in
theorem lifted (os : Os) (started : os.Started) (H : Type) (enc : TypeId × Value → H) :
    ReturnsInHanded {} Tryz.checked os 6 .any (Rows.topInterruptsSpec.pre6 enc Tryz.prog Tryz.f6 Rows.topInterruptsRow.domain false) (Rows.topInterruptsSpec.post enc Tryz.prog Tryz.f6 false true false false) := by
  refine returnsInHanded_of_change_sized (C := Tryz.checked) own started (by kernel_rfl) Tryz.func6
    (ChangeSpec.witness6 (enc := enc) (C := Tryz.checked) false ⟨#[], #[.int .i64 0, .int .i64 0], []⟩ 8 (by kernel_rfl) (by kernel_rfl) (by kernel_rfl) (by kernel_rfl)) ?_
  intro W base args ds gs before hval0 hW hcnd hsz0 _
  have hval : ∀ (j : Nat) t v, Tryz.f6.params[j]? = some t → args[j]? = some v → Value.okWide Tryz.prog W .any base t v := hval0
  have hW' := hW
  obtain ⟨p, q, hA0, hV, rfl, hfz, hnd⟩ := hW
  have hA : DataW.TrodAll enc Tryz.prog W 0 (fun _ => true) true Tryz.f6.params.toList args.toList ds p := hA0
  rw [Tryz.params6] at hA hval
  obtain ⟨v0, vs0, d0, ds0, p0, q0, hargs, rfl, rfl, h0, r0⟩ := trodAll_cons hA
  obtain ⟨v1, vs1, d1, ds1, p1, q1, rfl, rfl, rfl, h1, r1⟩ := trodAll_cons r0
  obtain ⟨rfl, rfl, rfl⟩ := trodAll_nil r1
  obtain rfl : args = #[v0, v1] := by cases args; simp_all
  obtain ⟨rfl, rfl⟩ := trodVars_none hV
  have k0 := h0
  have lt0 : ∀ x ∈ p0, x.block < W.heap.size := by obtain ⟨m, hm⟩ := k0; exact DataW.trod_lt m _ _ _ hm
  have k1 := h1
  have lt1 : ∀ x ∈ p1, x.block < W.heap.size := by obtain ⟨m, hm⟩ := k1; exact DataW.trod_lt m _ _ _ hm
  obtain ⟨a0, e0⟩ := okWide_int Tryz.underlying3 (hval 0 3 v0 rfl rfl)
  subst e0
  obtain ⟨a1, e1⟩ := okWide_int Tryz.underlying3 (hval 1 3 v1 rfl rfl)
  subst e1
  clear hA0 hval0 hsz0
  refine Calls.mono (Vm.Top.Irq.holds a0 a1 W) fun e W' ⟨he, bel⟩ => ?_
  subst he
  exact ⟨_, rfl, _, _, _, [], _, [], hW', trodAll_mk1 (shut_bool Tryz.underlying4 _), (trodAll_cons_mk (Below.trod laidOut (by kernel_rfl) (of_decide_eq_true (by kernel_rfl)) k0 bel lt0) (trodAll_cons_mk (Below.trod laidOut (by kernel_rfl) (of_decide_eq_true (by kernel_rfl)) k1 bel lt1) trodAll_mk0)), rfl, bel.frame _, fun h => by cases h⟩
theorem k_rowed : mapsRowed Tryz.prog = true := by kernel_rfl
theorem k_inPlace : (Rows.topInterruptsRow.inPlace == Tryz.prog.inPlace 6) = true := by kernel_rfl
theorem k_unfollowed : (Rows.topInterruptsRow.unfollowed == Tryz.prog.unfollowed 6) = true := by kernel_rfl
theorem k_recurses : (Rows.topInterruptsRow.recurses == Tryz.prog.recurses 6) = true := by kernel_rfl
theorem k_named : (Rows.topInterruptsRow.named == Tryz.prog.varsNamed 6) = true := by kernel_rfl
theorem k_plainKeys : (Rows.topInterruptsRow.plainKeys == Tryz.prog.plainKeys) = true := by kernel_rfl
theorem k_may : Tryz.prog.mayEnter = true := by kernel_rfl
theorem closed : joinedFacts Tryz.prog 6 Tryz.f6 Rows.topInterruptsSpec Rows.topInterruptsRow = true := by
  unfold joinedFacts
  rw [laidOut, k_rowed, k_inPlace, k_unfollowed, k_recurses, k_named, k_plainKeys, k_may]
  kernel_rfl
theorem over : Rows.topInterruptsRow.holds Tryz.pinned (OpenSpec.ofChange Rows.topInterruptsSpec) :=
  OpenClaim.holds_of_wide 6 Tryz.f6 rfl rfl rfl rfl rfl rfl rfl ⟨rfl, rfl, rfl, rfl, rfl⟩ rfl rfl rfl rfl rfl (by kernel_rfl) Tryz.func6 closed
    (of_decide_eq_true (by kernel_rfl)) (by unfold Func.isWrapper; first | (rw [if_pos (by decide +kernel)]; kernel_rfl) | (rw [if_neg (by decide +kernel)]; exact ⟨rfl, rfl⟩))
    (fun os started H enc _ => lifted os started H enc)
theorem proved : Rows.TopInterruptsSaid := over
#print axioms proved
end Go.Proofs.YtjebljnifeoiaaaGreat.topInterrupts
namespace Go.Proofs.YtjebljnifeoiaaaGreat
/-- The row, under a short name, for the claim. -/
theorem topInterrupts_holds : Rows.TopInterruptsSaid := topInterrupts.proved
end Go.Proofs.YtjebljnifeoiaaaGreat
