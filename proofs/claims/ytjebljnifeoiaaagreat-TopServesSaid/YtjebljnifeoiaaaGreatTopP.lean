/- The kernel's program over the machine: what is asked of it once. No condition. -/
import Derived.Test.YtjebljnifeoiaaaGreatVmGo
import Derived.Test.YtjebljnifeoiaaaGreatProg
import Derived.KernelRfl
namespace Go.Proofs.YtjebljnifeoiaaaGreat.Vm.Top
open Go Go.Proofs.YtjebljnifeoiaaaGreat.Vm Go.Proofs Go.RowKit
set_option maxRecDepth 1000000
set_option linter.unusedVariables false
set_option linter.unusedSimpArgs false
noncomputable def progE (P : Program) (e : Nat) : Nat → List Func → Bool
  | _, [] => true
  | i, fn :: l => (match fn.body with
    | some c => codeOk fn.ntmps c && (Nat.ble fn.ntmps 1000000 && !(fn.name == "runtime.NumGoroutine"))
    | none => ife (Nat.beq i e) true (!(fn.name == "internal/abi.NoEscape"))) && progE P e (i + 1) l
theorem progE_get {P : Program} {e : Nat} : ∀ (l : List Func) (i : Nat), progE P e i l = true → ∀ (j : Nat) fn, l[j]? = some fn → (match fn.body with
    | some c => codeOk fn.ntmps c && (Nat.ble fn.ntmps 1000000 && !(fn.name == "runtime.NumGoroutine"))
    | none => ife (Nat.beq (i + j) e) true (!(fn.name == "internal/abi.NoEscape"))) = true
  | [], i, _, j, fn, h => by simp at h
  | a :: l, i, h, j, fn, hj => by
    unfold progE at h
    rw [Bool.and_eq_true] at h
    cases j with
    | zero => simp at hj; subst hj; exact h.1
    | succ j =>
      have := progE_get l (i + 1) h.2 j fn (by simpa using hj)
      rwa [show i + 1 + j = i + (j + 1) by omega] at this
theorem progE_ok : progE Tryz.prog 144 0 Tryz.prog.funcs.toList = true := by kernel_rfl
theorem esc144 (u : Value) (w : World) : (callFunc 144 #[u]).run Tryz.prog w = .ok (.value u) w := by kernel_rfl
theorem hprog : ProgOk Tryz.prog := by
  refine ⟨fun f fn c hf hb => ?_, fun f fn hf hb hn u w => ?_, by kernel_rfl⟩
  · have := progE_get _ 0 progE_ok f fn (by rw [Array.getElem?_toList]; exact hf)
    rw [hb] at this
    simp only [Bool.and_eq_true, Nat.ble_eq, Bool.not_eq_true', beq_eq_false_iff_ne, ne_eq] at this
    exact ⟨this.1, by omega, this.2.2⟩
  · have := progE_get _ 0 progE_ok f fn (by rw [Array.getElem?_toList]; exact hf)
    rw [hb] at this
    simp only [Nat.zero_add, hn, Bool.not_true] at this
    rw [ife_iff (by simp), Nat.beq_eq] at this
    rw [this.1]; exact esc144 u w
end Go.Proofs.YtjebljnifeoiaaaGreat.Vm.Top
