/- works() of the kernel's program over the machine. No condition. -/
import Derived.Test.YtjebljnifeoiaaaGreatTopC
import Derived.KernelRfl
namespace Go.Proofs.YtjebljnifeoiaaaGreat.Vm.Top
open Go Go.Proofs.YtjebljnifeoiaaaGreat.Vm Go.Proofs
set_option maxRecDepth 1000000
theorem run_works : treeOk C0 300 7 [] (.leaf (.bool (.lit true))) [] = true := by kernel_rfl
theorem ans_works : Ans Tryz.prog 7 [] (.bool true) :=
  tree_ok (σ := fun _ => 0) (β := fun _ => false) (fs := fun _ => FS.no) (fn := Tryz.f7) (c := _) hC hprog hsil facts0 Tryz.func7 rfl rfl (fun w K => FOk.none rfl w _ _) (.leaf (.bool (.lit true))) [] run_works (by simp) _ rfl
end Go.Proofs.YtjebljnifeoiaaaGreat.Vm.Top
