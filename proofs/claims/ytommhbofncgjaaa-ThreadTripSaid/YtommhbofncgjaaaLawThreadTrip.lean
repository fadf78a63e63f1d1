/- 'Rows.ThreadTripSaid': for every input the law ThreadTrip returns true, and each argument reads behind the call as it read before. Conditions: none. -/
import Derived.Test.YtommhbofncgjaaaRows
import Derived.Test.YtommhbofncgjaaaR20Trip
import Derived.WalkKit
import Derived.ProofKit
import Derived.OpenShut
import Derived.ShutString
import Derived.ChangeOld
import Derived.Below
import Derived.Lib.SmallJoins
import Derived.Carry
import Derived.Deep.Slices
import Derived.Deep.Fields
import Derived.ChangeSame
import Derived.SizedLaws
namespace Go.Proofs.Ytommhbofncgjaaa.threadTrip
open Go.ChangeShapes Go.WideShapes Go.ChangeAt Go.RowKit Go.Joins Go.Deep
set_option linter.unusedVariables false
theorem own : ownKnob Try.prog.godebug = none := by kernel_rfl
theorem laidOut : laidOutB Try.prog = true := by kernel_rfl
set_option maxRecDepth 100000 in
set_option maxHeartbeats 4000000 in
theorem lifted (os : Os) (started : os.Started) (H : Type) (enc : TypeId × Value → H) :
    ReturnsInHanded {} Try.checked os 7 .any (Rows.threadTripSpec.pre6 enc Try.prog Try.f7 Rows.threadTripRow.domain false) (Rows.threadTripSpec.post enc Try.prog Try.f7 false true false false) := by
  refine returnsInHanded_of_change_sized (C := Try.checked) own started (by kernel_rfl) Try.func7
    (ChangeSpec.witness6 (enc := enc) (C := Try.checked) false ⟨#[], #[.int .i64 0, .int .i64 0, .agg #[.int .i64 0, .int .i64 0, .int .u64 0, .bool false, .int .i64 0, .int .i64 0, .int .i64 0], .slice none 0 0], []⟩ 8 (by kernel_rfl) (by kernel_rfl) (by kernel_rfl) (by kernel_rfl)) ?_
  intro W base args ds gs before hval0 hW hcnd hsz0 _
  have hval : ∀ (j : Nat) t v, Try.f7.params[j]? = some t → args[j]? = some v → Value.okWide Try.prog W .any base t v := hval0
  have hW' := hW
  obtain ⟨p, q, hA0, hV, rfl, hfz, hnd⟩ := hW
  have hA : DataW.TrodAll enc Try.prog W 0 (fun _ => true) true Try.f7.params.toList args.toList ds p := hA0
  rw [Try.params7] at hA hval
  obtain ⟨v0, vs0, d0, ds0, p0, q0, hargs, rfl, rfl, h0, r0⟩ := trodAll_cons hA
  obtain ⟨v1, vs1, d1, ds1, p1, q1, rfl, rfl, rfl, h1, r1⟩ := trodAll_cons r0
  obtain ⟨v2, vs2, d2, ds2, p2, q2, rfl, rfl, rfl, h2, r2⟩ := trodAll_cons r1
  obtain ⟨v3, vs3, d3, ds3, p3, q3, rfl, rfl, rfl, h3, r3⟩ := trodAll_cons r2
  obtain ⟨rfl, rfl, rfl⟩ := trodAll_nil r3
  obtain rfl : args = #[v0, v1, v2, v3] := by cases args; simp_all
  obtain ⟨rfl, rfl⟩ := trodVars_none hV
  have k0 := h0
  have lt0 : ∀ x ∈ p0, x.block < W.heap.size := by obtain ⟨m, hm⟩ := k0; exact DataW.trod_lt m _ _ _ hm
  have k1 := h1
  have lt1 : ∀ x ∈ p1, x.block < W.heap.size := by obtain ⟨m, hm⟩ := k1; exact DataW.trod_lt m _ _ _ hm
  have k2 := h2
  have lt2 : ∀ x ∈ p2, x.block < W.heap.size := by obtain ⟨m, hm⟩ := k2; exact DataW.trod_lt m _ _ _ hm
  have k3 := h3
  have lt3 : ∀ x ∈ p3, x.block < W.heap.size := by obtain ⟨m, hm⟩ := k3; exact DataW.trod_lt m _ _ _ hm
  obtain ⟨a0, e0⟩ := okWide_int Try.underlying3 (hval 0 3 v0 rfl rfl)
  subst e0
  obtain ⟨a1, e1⟩ := okWide_int Try.underlying3 (hval 1 3 v1 rfl rfl)
  subst e1
  obtain ⟨cs2, ea2, hf2⟩ := Vm.ok_agg (P := Try.prog) (t := 36) (ks := [some .i64, some .i64, some .u64, none, some .i64, some .i64, some .i64]) (by kernel_rfl) (hval 2 36 v2 rfl rfl)
  subst ea2
  obtain ⟨n2_0, l2_0, e2_0, w2_0, n2_1, l2_1, rfl, w2_1, n2_2, l2_2, rfl, w2_2, n2_3, l2_3, rfl, n2_4, l2_4, rfl, w2_4, n2_5, l2_5, rfl, w2_5, n2_6, l2_6, rfl, w2_6, (rfl : l2_6 = [])⟩ := hf2
  obtain rfl : cs2 = #[.int .i64 n2_0, .int .i64 n2_1, .int .u64 n2_2, .bool n2_3, .int .i64 n2_4, .int .i64 n2_5, .int .i64 n2_6] := Array.toList_inj.1 e2_0
  have s3 : Vm.SlOk W v3 [some .u64] := Vm.SlOk.of Try.underlying37 (hval 3 37 v3 rfl rfl) h3 (by kernel_rfl) (fun n cs x h => Vm.fits_int Try.underlying23 n cs x h)
  clear hA0 hval0 hsz0
  refine Calls.mono (Vm.R20.Trip.call a0 a1 n2_0 n2_1 n2_2 n2_4 n2_5 n2_6 n2_3 v3 W w2_2.1 s3) fun e W' ⟨he, bel⟩ => ?_
  subst he
  exact ⟨_, rfl, _, _, _, [], _, [], hW', trodAll_mk1 (shut_bool Try.underlying4 _), (trodAll_cons_mk (Below.trod laidOut (by kernel_rfl) (of_decide_eq_true (by kernel_rfl)) k0 bel lt0) (trodAll_cons_mk (Below.trod laidOut (by kernel_rfl) (of_decide_eq_true (by kernel_rfl)) k1 bel lt1) (trodAll_cons_mk (Below.trod laidOut (by kernel_rfl) (of_decide_eq_true (by kernel_rfl)) k2 bel lt2) (trodAll_cons_mk (Below.trod laidOut (by kernel_rfl) (of_decide_eq_true (by kernel_rfl)) k3 bel lt3) trodAll_mk0)))), rfl, bel.frame _, fun h => by cases h⟩
theorem over : Rows.threadTripRow.holds Try.pinned (OpenSpec.ofChange Rows.threadTripSpec) :=
  OpenClaim.holds_of_wide 7 Try.f7 rfl rfl rfl rfl rfl rfl rfl ⟨rfl, rfl, rfl, rfl, rfl⟩ rfl rfl rfl rfl rfl (by kernel_rfl) Try.func7 (by kernel_rfl)
    (of_decide_eq_true (by kernel_rfl)) (by unfold Func.isWrapper; first | (rw [if_pos (by decide +kernel)]; kernel_rfl) | (rw [if_neg (by decide +kernel)]; exact ⟨rfl, rfl⟩))
    (fun os started H enc _ => lifted os started H enc)
theorem proved : Rows.ThreadTripSaid := over
#print axioms proved
end Go.Proofs.Ytommhbofncgjaaa.threadTrip
namespace Go.Proofs.Ytommhbofncgjaaa
/-- The row, under a short name, for the claim. -/
theorem threadTrip_holds : Rows.ThreadTripSaid := threadTrip.proved
end Go.Proofs.Ytommhbofncgjaaa
