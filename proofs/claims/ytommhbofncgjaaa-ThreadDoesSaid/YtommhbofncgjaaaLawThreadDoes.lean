/- 'Rows.ThreadDoesSaid': for every input the law ThreadDoes returns true, and each argument reads behind the call as it read before. Conditions: none. -/
import Derived.Test.YtommhbofncgjaaaRows
import Derived.Test.YtommhbofncgjaaaR20Does
import Derived.WalkKit
import Derived.ProofKit
import Derived.OpenShut
import Derived.ShutString
import Derived.ChangeOld
import Derived.Below
import Derived.Lib.SmallJoins
import Derived.Carry
import Derived.Deep.Slices
import Derived.Deep.Fields
import Derived.ChangeSame
import Derived.SizedLaws
namespace Go.Proofs.Ytommhbofncgjaaa.threadDoes
open Go.ChangeShapes Go.WideShapes Go.ChangeAt Go.RowKit Go.Joins Go.Deep
set_option linter.unusedVariables false
theorem own : ownKnob Try.prog.godebug = none := by kernel_rfl
theorem laidOut : laidOutB Try.prog = true := by kernel_rfl
set_option maxRecDepth 100000 in
set_option maxHeartbeats 4000000 in
theorem lifted (os : Os) (started : os.Started) (H : Type) (enc : TypeId × Value → H) :
    ReturnsInHanded {} Try.checked os 4 .any (Rows.threadDoesSpec.pre6 enc Try.prog Try.f4 Rows.threadDoesRow.domain false) (Rows.threadDoesSpec.post enc Try.prog Try.f4 false true false false) := by
  refine returnsInHanded_of_change_sized (C := Try.checked) own started (by kernel_rfl) Try.func4
    (ChangeSpec.witness6 (enc := enc) (C := Try.checked) false ⟨#[], #[.agg #[.int .i64 0, .int .i64 0, .int .u64 0, .bool false, .int .i64 0, .int .i64 0, .int .i64 0, .int .i64 0, .int .u64 0, .int .u64 0, .int .u64 0, .int .u64 0, .int .u64 0, .int .u64 0, .int .u64 0, .int .u64 0], .agg #[.int .i64 0, .int .i64 0, .int .u64 0, .bool false, .int .i64 0, .int .i64 0, .int .i64 0], .slice none 0 0], []⟩ 8 (by kernel_rfl) (by kernel_rfl) (by kernel_rfl) (by kernel_rfl)) ?_
  intro W base args ds gs before hval0 hW hcnd hsz0 _
  have hval : ∀ (j : Nat) t v, Try.f4.params[j]? = some t → args[j]? = some v → Value.okWide Try.prog W .any base t v := hval0
  have hW' := hW
  obtain ⟨p, q, hA0, hV, rfl, hfz, hnd⟩ := hW
  have hA : DataW.TrodAll enc Try.prog W 0 (fun _ => true) true Try.f4.params.toList args.toList ds p := hA0
  rw [Try.params4] at hA hval
  obtain ⟨v0, vs0, d0, ds0, p0, q0, hargs, rfl, rfl, h0, r0⟩ := trodAll_cons hA
  obtain ⟨v1, vs1, d1, ds1, p1, q1, rfl, rfl, rfl, h1, r1⟩ := trodAll_cons r0
  obtain ⟨v2, vs2, d2, ds2, p2, q2, rfl, rfl, rfl, h2, r2⟩ := trodAll_cons r1
  obtain ⟨rfl, rfl, rfl⟩ := trodAll_nil r2
  obtain rfl : args = #[v0, v1, v2] := by cases args; simp_all
  obtain ⟨rfl, rfl⟩ := trodVars_none hV
  have k0 := h0
  have lt0 : ∀ x ∈ p0, x.block < W.heap.size := by obtain ⟨m, hm⟩ := k0; exact DataW.trod_lt m _ _ _ hm
  have k1 := h1
  have lt1 : ∀ x ∈ p1, x.block < W.heap.size := by obtain ⟨m, hm⟩ := k1; exact DataW.trod_lt m _ _ _ hm
  have k2 := h2
  have lt2 : ∀ x ∈ p2, x.block < W.heap.size := by obtain ⟨m, hm⟩ := k2; exact DataW.trod_lt m _ _ _ hm
  obtain ⟨cs0, ea0, hf0⟩ := Vm.ok_agg (P := Try.prog) (t := 34) (ks := [some .i64, some .i64, some .u64, none, some .i64, some .i64, some .i64, some .i64, some .u64, some .u64, some .u64, some .u64, some .u64, some .u64, some .u64, some .u64]) (by kernel_rfl) (hval 0 34 v0 rfl rfl)
  subst ea0
  obtain ⟨n0_0, l0_0, e0_0, w0_0, n0_1, l0_1, rfl, w0_1, n0_2, l0_2, rfl, w0_2, n0_3, l0_3, rfl, n0_4, l0_4, rfl, w0_4, n0_5, l0_5, rfl, w0_5, n0_6, l0_6, rfl, w0_6, n0_7, l0_7, rfl, w0_7, n0_8, l0_8, rfl, w0_8, n0_9, l0_9, rfl, w0_9, n0_10, l0_10, rfl, w0_10, n0_11, l0_11, rfl, w0_11, n0_12, l0_12, rfl, w0_12, n0_13, l0_13, rfl, w0_13, n0_14, l0_14, rfl, w0_14, n0_15, l0_15, rfl, w0_15, (rfl : l0_15 = [])⟩ := hf0
  obtain rfl : cs0 = #[.int .i64 n0_0, .int .i64 n0_1, .int .u64 n0_2, .bool n0_3, .int .i64 n0_4, .int .i64 n0_5, .int .i64 n0_6, .int .i64 n0_7, .int .u64 n0_8, .int .u64 n0_9, .int .u64 n0_10, .int .u64 n0_11, .int .u64 n0_12, .int .u64 n0_13, .int .u64 n0_14, .int .u64 n0_15] := Array.toList_inj.1 e0_0
  obtain ⟨cs1, ea1, hf1⟩ := Vm.ok_agg (P := Try.prog) (t := 36) (ks := [some .i64, some .i64, some .u64, none, some .i64, some .i64, some .i64]) (by kernel_rfl) (hval 1 36 v1 rfl rfl)
  subst ea1
  obtain ⟨n1_0, l1_0, e1_0, w1_0, n1_1, l1_1, rfl, w1_1, n1_2, l1_2, rfl, w1_2, n1_3, l1_3, rfl, n1_4, l1_4, rfl, w1_4, n1_5, l1_5, rfl, w1_5, n1_6, l1_6, rfl, w1_6, (rfl : l1_6 = [])⟩ := hf1
  obtain rfl : cs1 = #[.int .i64 n1_0, .int .i64 n1_1, .int .u64 n1_2, .bool n1_3, .int .i64 n1_4, .int .i64 n1_5, .int .i64 n1_6] := Array.toList_inj.1 e1_0
  have s2 : Vm.SlOk W v2 [some .u64] := Vm.SlOk.of Try.underlying37 (hval 2 37 v2 rfl rfl) h2 (by kernel_rfl) (fun n cs x h => Vm.fits_int Try.underlying23 n cs x h)
  clear hA0 hval0 hsz0
  refine Calls.mono (Vm.R20.Does.call ⟨n0_0, n0_1, n0_2, n0_3, n0_4, n0_5, n0_6, n0_7, n0_8, n0_9, n0_10, n0_11, n0_12, n0_13, n0_14, n0_15⟩ n1_0 n1_1 n1_2 n1_4 n1_5 n1_6 n1_3 v2 W w0_2.1 w1_2.1 s2) fun e W' ⟨he, bel⟩ => ?_
  subst he
  exact ⟨_, rfl, _, _, _, [], _, [], hW', trodAll_mk1 (shut_bool Try.underlying4 _), (trodAll_cons_mk (Below.trod laidOut (by kernel_rfl) (of_decide_eq_true (by kernel_rfl)) k0 bel lt0) (trodAll_cons_mk (Below.trod laidOut (by kernel_rfl) (of_decide_eq_true (by kernel_rfl)) k1 bel lt1) (trodAll_cons_mk (Below.trod laidOut (by kernel_rfl) (of_decide_eq_true (by kernel_rfl)) k2 bel lt2) trodAll_mk0))), rfl, bel.frame _, fun h => by cases h⟩
theorem over : Rows.threadDoesRow.holds Try.pinned (OpenSpec.ofChange Rows.threadDoesSpec) :=
  OpenClaim.holds_of_wide 4 Try.f4 rfl rfl rfl rfl rfl rfl rfl ⟨rfl, rfl, rfl, rfl, rfl⟩ rfl rfl rfl rfl rfl (by kernel_rfl) Try.func4 (by kernel_rfl)
    (of_decide_eq_true (by kernel_rfl)) (by unfold Func.isWrapper; first | (rw [if_pos (by decide +kernel)]; kernel_rfl) | (rw [if_neg (by decide +kernel)]; exact ⟨rfl, rfl⟩))
    (fun os started H enc _ => lifted os started H enc)
theorem proved : Rows.ThreadDoesSaid := over
#print axioms proved
end Go.Proofs.Ytommhbofncgjaaa.threadDoes
namespace Go.Proofs.Ytommhbofncgjaaa
/-- The row, under a short name, for the claim. -/
theorem threadDoes_holds : Rows.ThreadDoesSaid := threadDoes.proved
end Go.Proofs.Ytommhbofncgjaaa
