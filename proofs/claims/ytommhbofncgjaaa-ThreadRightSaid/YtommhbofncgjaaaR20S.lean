/- Layer 20 over the machine: the functions' answers, in plain Lean. No condition but those each theorem names. -/
import Derived.Test.YtommhbofncgjaaaR20T
namespace Go.Proofs.Ytommhbofncgjaaa.Vm.R20
open Go Go.Proofs.Ytommhbofncgjaaa.Vm Go.Proofs Go.RowKit
set_option maxRecDepth 1000000
set_option linter.unusedVariables false
set_option linter.unusedSimpArgs false
/-- A thread. -/
structure Th where
  state : Int
  on : Int
  badge : Int
  calls : Bool
  caller : Int
  level : Int
  domain : Int
  pc : Int
  r0 : Int
  r1 : Int
  r2 : Int
  r3 : Int
  r4 : Int
  r5 : Int
  r6 : Int
  r7 : Int
def Th.cells (t : Th) : Array Value := #[.int .i64 t.state, .int .i64 t.on, .int .u64 t.badge, .bool t.calls, .int .i64 t.caller, .int .i64 t.level, .int .i64 t.domain, .int .i64 t.pc, .int .u64 t.r0, .int .u64 t.r1, .int .u64 t.r2, .int .u64 t.r3, .int .u64 t.r4, .int .u64 t.r5, .int .u64 t.r6, .int .u64 t.r7]
def Th.zero : Th := ⟨0, 0, 0, false, 0, 0, 0, 0, 0, 0, 0, 0, 0, 0, 0, 0⟩
/-- The named numbers: the thread's, then others. -/
def sg (t : Th) (x : Nat → Int) (i : Nat) : Int := match i with
  | 0 => t.state | 1 => t.on | 2 => t.badge | 4 => t.caller | 5 => t.level | 6 => t.domain | 7 => t.pc | 8 => t.r0 | 9 => t.r1 | 10 => t.r2 | 11 => t.r3 | 12 => t.r4 | 13 => t.r5 | 14 => t.r6 | 15 => t.r7
  | i => x i
def bg (t : Th) (c : Bool) (i : Nat) : Bool := match i with
  | 3 => t.calls
  | _ => c
noncomputable def En (t : Th) (x : Nat → Int) (c : Bool) : Env := Env.of (sg t x) (bg t c) fun _ => FS.no
def refT (t : Th) : Int := if t.state < 0 ∨ 5 < t.state then 8 else if 0 ≤ t.on ∧ t.on ≤ 63 ∧ t.badge < 268435456 ∧ -1 ≤ t.caller ∧ t.caller ≤ 63 ∧ 0 ≤ t.level ∧ t.level ≤ 7 ∧ 0 ≤ t.domain ∧ t.domain ≤ 3 ∧ 0 ≤ t.pc ∧ t.pc ≤ 4095 ∧ ((t.state = 0 ∨ t.state = 1 ∨ t.state = 4) → t.on = 0) ∧ (t.state ≠ 2 → t.badge = 0 ∧ t.calls = false) then 0 else 10
theorem hC : CtxOk C0 := CtxOk.mk' _ _ _ _ _
theorem hprog : ProgOk Try.prog := progOk_of progB_ok (by kernel_rfl)
theorem hsil (f : Nat) (h : ([] : List Nat).contains f = true) : SilentOk Try.prog f := by simp at h
theorem shr28 {b : Int} (h : 0 ≤ b) : b.fdiv (2 ^ (min (28 : Int).toNat IntKind.u64.bits)) = 0 ↔ b < 268435456 := by
  have e : ((2 : Int) ^ (min (28 : Int).toNat IntKind.u64.bits)) = 268435456 := by decide
  rw [e, Int.fdiv_eq_ediv_of_nonneg _ (by decide)]
  omega
theorem val_T (t : Th) (x : Nat → Int) (c : Bool) (s : SI) (h : s.den (En t x c) = t.state) : AV.valE (En t x c) (T s) = some (.agg t.cells) := by
  show AV.valE _ (AV.agg _) = _
  simp only [AV.valE, AV.valEs, h, SI.den, SB.den]
  rfl
theorem ite_out {α : Type} {p : Prop} [Decidable p] {x y z : α} : (if p then x else y) = z ↔ (p → x = z) ∧ (¬ p → y = z) := by
  by_cases h : p <;> simp [h]
section
variable (t : Th) (x : Nat → Int) (c : Bool)
theorem check0 (hb : 0 ≤ t.badge) (h : t.state = 0) : dCheck0.at (En t x c) = .int .i64 (.lit (refT t)) := by
  simp only [dCheck0, DT.at, Atom.den, SI.den, SB.den, En, Env.of, sg, bg, decide_eq_true_eq, IOp.den, shr28 hb]
  by_cases hr : 0 ≤ t.on ∧ t.on ≤ 63 ∧ t.badge < 268435456 ∧ -1 ≤ t.caller ∧ t.caller ≤ 63 ∧ 0 ≤ t.level ∧ t.level ≤ 7 ∧ 0 ≤ t.domain ∧ t.domain ≤ 3 ∧ 0 ≤ t.pc ∧ t.pc ≤ 4095 ∧ ((t.state = 0 ∨ t.state = 1 ∨ t.state = 4) → t.on = 0) ∧ (t.state ≠ 2 → t.badge = 0 ∧ t.calls = false)
  · have e : refT t = 0 := by unfold refT; rw [if_neg (by omega), if_pos hr]
    rw [e]
    simp only [ite_out, AV.int.injEq, SI.lit.injEq, true_and]
    rw [h] at hr
    simp at hr
    cases hq : t.calls <;> simp [hq] at hr ⊢ <;> omega
  · have e : refT t = 10 := by unfold refT; rw [if_neg (by omega), if_neg hr]
    rw [e]
    simp only [ite_out, AV.int.injEq, SI.lit.injEq, true_and]
    rw [h] at hr
    simp at hr
    cases hq : t.calls <;> simp [hq] at hr ⊢ <;> omega
theorem check1 (hb : 0 ≤ t.badge) (h : t.state = 1) : dCheck1.at (En t x c) = .int .i64 (.lit (refT t)) := by
  simp only [dCheck1, DT.at, Atom.den, SI.den, SB.den, En, Env.of, sg, bg, decide_eq_true_eq, IOp.den, shr28 hb]
  by_cases hr : 0 ≤ t.on ∧ t.on ≤ 63 ∧ t.badge < 268435456 ∧ -1 ≤ t.caller ∧ t.caller ≤ 63 ∧ 0 ≤ t.level ∧ t.level ≤ 7 ∧ 0 ≤ t.domain ∧ t.domain ≤ 3 ∧ 0 ≤ t.pc ∧ t.pc ≤ 4095 ∧ ((t.state = 0 ∨ t.state = 1 ∨ t.state = 4) → t.on = 0) ∧ (t.state ≠ 2 → t.badge = 0 ∧ t.calls = false)
  · have e : refT t = 0 := by unfold refT; rw [if_neg (by omega), if_pos hr]
    rw [e]
    simp only [ite_out, AV.int.injEq, SI.lit.injEq, true_and]
    rw [h] at hr
    simp at hr
    cases hq : t.calls <;> simp [hq] at hr ⊢ <;> omega
  · have e : refT t = 10 := by unfold refT; rw [if_neg (by omega), if_neg hr]
    rw [e]
    simp only [ite_out, AV.int.injEq, SI.lit.injEq, true_and]
    rw [h] at hr
    simp at hr
    cases hq : t.calls <;> simp [hq] at hr ⊢ <;> omega
theorem check2 (hb : 0 ≤ t.badge) (h : t.state = 2) : dCheck2.at (En t x c) = .int .i64 (.lit (refT t)) := by
  simp only [dCheck2, DT.at, Atom.den, SI.den, SB.den, En, Env.of, sg, bg, decide_eq_true_eq, IOp.den, shr28 hb]
  by_cases hr : 0 ≤ t.on ∧ t.on ≤ 63 ∧ t.badge < 268435456 ∧ -1 ≤ t.caller ∧ t.caller ≤ 63 ∧ 0 ≤ t.level ∧ t.level ≤ 7 ∧ 0 ≤ t.domain ∧ t.domain ≤ 3 ∧ 0 ≤ t.pc ∧ t.pc ≤ 4095 ∧ ((t.state = 0 ∨ t.state = 1 ∨ t.state = 4) → t.on = 0) ∧ (t.state ≠ 2 → t.badge = 0 ∧ t.calls = false)
  · have e : refT t = 0 := by unfold refT; rw [if_neg (by omega), if_pos hr]
    rw [e]
    simp only [ite_out, AV.int.injEq, SI.lit.injEq, true_and]
    rw [h] at hr
    simp at hr
    cases hq : t.calls <;> simp [hq] at hr ⊢ <;> omega
  · have e : refT t = 10 := by unfold refT; rw [if_neg (by omega), if_neg hr]
    rw [e]
    simp only [ite_out, AV.int.injEq, SI.lit.injEq, true_and]
    rw [h] at hr
    simp at hr
    cases hq : t.calls <;> simp [hq] at hr ⊢ <;> omega
theorem check3 (hb : 0 ≤ t.badge) (h : t.state = 3) : dCheck3.at (En t x c) = .int .i64 (.lit (refT t)) := by
  simp only [dCheck3, DT.at, Atom.den, SI.den, SB.den, En, Env.of, sg, bg, decide_eq_true_eq, IOp.den, shr28 hb]
  by_cases hr : 0 ≤ t.on ∧ t.on ≤ 63 ∧ t.badge < 268435456 ∧ -1 ≤ t.caller ∧ t.caller ≤ 63 ∧ 0 ≤ t.level ∧ t.level ≤ 7 ∧ 0 ≤ t.domain ∧ t.domain ≤ 3 ∧ 0 ≤ t.pc ∧ t.pc ≤ 4095 ∧ ((t.state = 0 ∨ t.state = 1 ∨ t.state = 4) → t.on = 0) ∧ (t.state ≠ 2 → t.badge = 0 ∧ t.calls = false)
  · have e : refT t = 0 := by unfold refT; rw [if_neg (by omega), if_pos hr]
    rw [e]
    simp only [ite_out, AV.int.injEq, SI.lit.injEq, true_and]
    rw [h] at hr
    simp at hr
    cases hq : t.calls <;> simp [hq] at hr ⊢ <;> omega
  · have e : refT t = 10 := by unfold refT; rw [if_neg (by omega), if_neg hr]
    rw [e]
    simp only [ite_out, AV.int.injEq, SI.lit.injEq, true_and]
    rw [h] at hr
    simp at hr
    cases hq : t.calls <;> simp [hq] at hr ⊢ <;> omega
theorem check4 (hb : 0 ≤ t.badge) (h : t.state = 4) : dCheck4.at (En t x c) = .int .i64 (.lit (refT t)) := by
  simp only [dCheck4, DT.at, Atom.den, SI.den, SB.den, En, Env.of, sg, bg, decide_eq_true_eq, IOp.den, shr28 hb]
  by_cases hr : 0 ≤ t.on ∧ t.on ≤ 63 ∧ t.badge < 268435456 ∧ -1 ≤ t.caller ∧ t.caller ≤ 63 ∧ 0 ≤ t.level ∧ t.level ≤ 7 ∧ 0 ≤ t.domain ∧ t.domain ≤ 3 ∧ 0 ≤ t.pc ∧ t.pc ≤ 4095 ∧ ((t.state = 0 ∨ t.state = 1 ∨ t.state = 4) → t.on = 0) ∧ (t.state ≠ 2 → t.badge = 0 ∧ t.calls = false)
  · have e : refT t = 0 := by unfold refT; rw [if_neg (by omega), if_pos hr]
    rw [e]
    simp only [ite_out, AV.int.injEq, SI.lit.injEq, true_and]
    rw [h] at hr
    simp at hr
    cases hq : t.calls <;> simp [hq] at hr ⊢ <;> omega
  · have e : refT t = 10 := by unfold refT; rw [if_neg (by omega), if_neg hr]
    rw [e]
    simp only [ite_out, AV.int.injEq, SI.lit.injEq, true_and]
    rw [h] at hr
    simp at hr
    cases hq : t.calls <;> simp [hq] at hr ⊢ <;> omega
theorem check5 (hb : 0 ≤ t.badge) (h : t.state = 5) : dCheck5.at (En t x c) = .int .i64 (.lit (refT t)) := by
  simp only [dCheck5, DT.at, Atom.den, SI.den, SB.den, En, Env.of, sg, bg, decide_eq_true_eq, IOp.den, shr28 hb]
  by_cases hr : 0 ≤ t.on ∧ t.on ≤ 63 ∧ t.badge < 268435456 ∧ -1 ≤ t.caller ∧ t.caller ≤ 63 ∧ 0 ≤ t.level ∧ t.level ≤ 7 ∧ 0 ≤ t.domain ∧ t.domain ≤ 3 ∧ 0 ≤ t.pc ∧ t.pc ≤ 4095 ∧ ((t.state = 0 ∨ t.state = 1 ∨ t.state = 4) → t.on = 0) ∧ (t.state ≠ 2 → t.badge = 0 ∧ t.calls = false)
  · have e : refT t = 0 := by unfold refT; rw [if_neg (by omega), if_pos hr]
    rw [e]
    simp only [ite_out, AV.int.injEq, SI.lit.injEq, true_and]
    rw [h] at hr
    simp at hr
    cases hq : t.calls <;> simp [hq] at hr ⊢ <;> omega
  · have e : refT t = 10 := by unfold refT; rw [if_neg (by omega), if_neg hr]
    rw [e]
    simp only [ite_out, AV.int.injEq, SI.lit.injEq, true_and]
    rw [h] at hr
    simp at hr
    cases hq : t.calls <;> simp [hq] at hr ⊢ <;> omega
theorem ref0 (hb : 0 ≤ t.badge) (h : t.state = 0) : dRef0.at (En t x c) = .int .i64 (.lit (refT t)) := by
  simp only [dRef0, DT.at, Atom.den, SI.den, SB.den, En, Env.of, sg, bg, decide_eq_true_eq, IOp.den, shr28 hb]
  by_cases hr : 0 ≤ t.on ∧ t.on ≤ 63 ∧ t.badge < 268435456 ∧ -1 ≤ t.caller ∧ t.caller ≤ 63 ∧ 0 ≤ t.level ∧ t.level ≤ 7 ∧ 0 ≤ t.domain ∧ t.domain ≤ 3 ∧ 0 ≤ t.pc ∧ t.pc ≤ 4095 ∧ ((t.state = 0 ∨ t.state = 1 ∨ t.state = 4) → t.on = 0) ∧ (t.state ≠ 2 → t.badge = 0 ∧ t.calls = false)
  · have e : refT t = 0 := by unfold refT; rw [if_neg (by omega), if_pos hr]
    rw [e]
    simp only [ite_out, AV.int.injEq, SI.lit.injEq, true_and]
    rw [h] at hr
    simp at hr
    cases hq : t.calls <;> simp [hq] at hr ⊢ <;> omega
  · have e : refT t = 10 := by unfold refT; rw [if_neg (by omega), if_neg hr]
    rw [e]
    simp only [ite_out, AV.int.injEq, SI.lit.injEq, true_and]
    rw [h] at hr
    simp at hr
    cases hq : t.calls <;> simp [hq] at hr ⊢ <;> omega
theorem ref1 (hb : 0 ≤ t.badge) (h : t.state = 1) : dRef1.at (En t x c) = .int .i64 (.lit (refT t)) := by
  simp only [dRef1, DT.at, Atom.den, SI.den, SB.den, En, Env.of, sg, bg, decide_eq_true_eq, IOp.den, shr28 hb]
  by_cases hr : 0 ≤ t.on ∧ t.on ≤ 63 ∧ t.badge < 268435456 ∧ -1 ≤ t.caller ∧ t.caller ≤ 63 ∧ 0 ≤ t.level ∧ t.level ≤ 7 ∧ 0 ≤ t.domain ∧ t.domain ≤ 3 ∧ 0 ≤ t.pc ∧ t.pc ≤ 4095 ∧ ((t.state = 0 ∨ t.state = 1 ∨ t.state = 4) → t.on = 0) ∧ (t.state ≠ 2 → t.badge = 0 ∧ t.calls = false)
  · have e : refT t = 0 := by unfold refT; rw [if_neg (by omega), if_pos hr]
    rw [e]
    simp only [ite_out, AV.int.injEq, SI.lit.injEq, true_and]
    rw [h] at hr
    simp at hr
    cases hq : t.calls <;> simp [hq] at hr ⊢ <;> omega
  · have e : refT t = 10 := by unfold refT; rw [if_neg (by omega), if_neg hr]
    rw [e]
    simp only [ite_out, AV.int.injEq, SI.lit.injEq, true_and]
    rw [h] at hr
    simp at hr
    cases hq : t.calls <;> simp [hq] at hr ⊢ <;> omega
theorem ref2 (hb : 0 ≤ t.badge) (h : t.state = 2) : dRef2.at (En t x c) = .int .i64 (.lit (refT t)) := by
  simp only [dRef2, DT.at, Atom.den, SI.den, SB.den, En, Env.of, sg, bg, decide_eq_true_eq, IOp.den, shr28 hb]
  by_cases hr : 0 ≤ t.on ∧ t.on ≤ 63 ∧ t.badge < 268435456 ∧ -1 ≤ t.caller ∧ t.caller ≤ 63 ∧ 0 ≤ t.level ∧ t.level ≤ 7 ∧ 0 ≤ t.domain ∧ t.domain ≤ 3 ∧ 0 ≤ t.pc ∧ t.pc ≤ 4095 ∧ ((t.state = 0 ∨ t.state = 1 ∨ t.state = 4) → t.on = 0) ∧ (t.state ≠ 2 → t.badge = 0 ∧ t.calls = false)
  · have e : refT t = 0 := by unfold refT; rw [if_neg (by omega), if_pos hr]
    rw [e]
    simp only [ite_out, AV.int.injEq, SI.lit.injEq, true_and]
    rw [h] at hr
    simp at hr
    cases hq : t.calls <;> simp [hq] at hr ⊢ <;> omega
  · have e : refT t = 10 := by unfold refT; rw [if_neg (by omega), if_neg hr]
    rw [e]
    simp only [ite_out, AV.int.injEq, SI.lit.injEq, true_and]
    rw [h] at hr
    simp at hr
    cases hq : t.calls <;> simp [hq] at hr ⊢ <;> omega
theorem ref3 (hb : 0 ≤ t.badge) (h : t.state = 3) : dRef3.at (En t x c) = .int .i64 (.lit (refT t)) := by
  simp only [dRef3, DT.at, Atom.den, SI.den, SB.den, En, Env.of, sg, bg, decide_eq_true_eq, IOp.den, shr28 hb]
  by_cases hr : 0 ≤ t.on ∧ t.on ≤ 63 ∧ t.badge < 268435456 ∧ -1 ≤ t.caller ∧ t.caller ≤ 63 ∧ 0 ≤ t.level ∧ t.level ≤ 7 ∧ 0 ≤ t.domain ∧ t.domain ≤ 3 ∧ 0 ≤ t.pc ∧ t.pc ≤ 4095 ∧ ((t.state = 0 ∨ t.state = 1 ∨ t.state = 4) → t.on = 0) ∧ (t.state ≠ 2 → t.badge = 0 ∧ t.calls = false)
  · have e : refT t = 0 := by unfold refT; rw [if_neg (by omega), if_pos hr]
    rw [e]
    simp only [ite_out, AV.int.injEq, SI.lit.injEq, true_and]
    rw [h] at hr
    simp at hr
    cases hq : t.calls <;> simp [hq] at hr ⊢ <;> omega
  · have e : refT t = 10 := by unfold refT; rw [if_neg (by omega), if_neg hr]
    rw [e]
    simp only [ite_out, AV.int.injEq, SI.lit.injEq, true_and]
    rw [h] at hr
    simp at hr
    cases hq : t.calls <;> simp [hq] at hr ⊢ <;> omega
theorem ref4 (hb : 0 ≤ t.badge) (h : t.state = 4) : dRef4.at (En t x c) = .int .i64 (.lit (refT t)) := by
  simp only [dRef4, DT.at, Atom.den, SI.den, SB.den, En, Env.of, sg, bg, decide_eq_true_eq, IOp.den, shr28 hb]
  by_cases hr : 0 ≤ t.on ∧ t.on ≤ 63 ∧ t.badge < 268435456 ∧ -1 ≤ t.caller ∧ t.caller ≤ 63 ∧ 0 ≤ t.level ∧ t.level ≤ 7 ∧ 0 ≤ t.domain ∧ t.domain ≤ 3 ∧ 0 ≤ t.pc ∧ t.pc ≤ 4095 ∧ ((t.state = 0 ∨ t.state = 1 ∨ t.state = 4) → t.on = 0) ∧ (t.state ≠ 2 → t.badge = 0 ∧ t.calls = false)
  · have e : refT t = 0 := by unfold refT; rw [if_neg (by omega), if_pos hr]
    rw [e]
    simp only [ite_out, AV.int.injEq, SI.lit.injEq, true_and]
    rw [h] at hr
    simp at hr
    cases hq : t.calls <;> simp [hq] at hr ⊢ <;> omega
  · have e : refT t = 10 := by unfold refT; rw [if_neg (by omega), if_neg hr]
    rw [e]
    simp only [ite_out, AV.int.injEq, SI.lit.injEq, true_and]
    rw [h] at hr
    simp at hr
    cases hq : t.calls <;> simp [hq] at hr ⊢ <;> omega
theorem ref5 (hb : 0 ≤ t.badge) (h : t.state = 5) : dRef5.at (En t x c) = .int .i64 (.lit (refT t)) := by
  simp only [dRef5, DT.at, Atom.den, SI.den, SB.den, En, Env.of, sg, bg, decide_eq_true_eq, IOp.den, shr28 hb]
  by_cases hr : 0 ≤ t.on ∧ t.on ≤ 63 ∧ t.badge < 268435456 ∧ -1 ≤ t.caller ∧ t.caller ≤ 63 ∧ 0 ≤ t.level ∧ t.level ≤ 7 ∧ 0 ≤ t.domain ∧ t.domain ≤ 3 ∧ 0 ≤ t.pc ∧ t.pc ≤ 4095 ∧ ((t.state = 0 ∨ t.state = 1 ∨ t.state = 4) → t.on = 0) ∧ (t.state ≠ 2 → t.badge = 0 ∧ t.calls = false)
  · have e : refT t = 0 := by unfold refT; rw [if_neg (by omega), if_pos hr]
    rw [e]
    simp only [ite_out, AV.int.injEq, SI.lit.injEq, true_and]
    rw [h] at hr
    simp at hr
    cases hq : t.calls <;> simp [hq] at hr ⊢ <;> omega
  · have e : refT t = 10 := by unfold refT; rw [if_neg (by omega), if_neg hr]
    rw [e]
    simp only [ite_out, AV.int.injEq, SI.lit.injEq, true_and]
    rw [h] at hr
    simp at hr
    cases hq : t.calls <;> simp [hq] at hr ⊢ <;> omega
end
end Go.Proofs.Ytommhbofncgjaaa.Vm.R20
