/- TopInterrupts over the machine: the runs before the raises. No condition. -/
import Derived.Test.YtjebljnifeoiaaaGreatTopI
namespace Go.Proofs.YtjebljnifeoiaaaGreat.Vm.Top
open Go Go.Proofs.YtjebljnifeoiaaaGreat.Vm Go.Proofs
set_option maxRecDepth 1000000
namespace Irq
theorem run_b0 : okNorm LR1 θ0 [] 103 S1 (runS (runA (Ci (kB 0) []) 300) 1 (dropS 10 body) S1.st) = true := by kernel_rfl
theorem run_b1 : okNorm LS2 θ0 [] 103 S2 (runS (runA (Ci (kB 1) []) 300) 1 (dropS 10 body) S1.st) = true := by kernel_rfl
theorem run_b2 : okNorm LS2 θ0 [] 103 S2 (runS (runA (Ci (kB 2) []) 300) 1 (dropS 10 body) S1.st) = true := by kernel_rfl
theorem run_b3 : okNorm LS2 θ0 [] 103 S2 (runS (runA (Ci (kB 3) []) 300) 1 (dropS 10 body) S1.st) = true := by kernel_rfl
theorem run_b4 : okNorm LS2 θ0 [] 103 S2 (runS (runA (Ci (kB 4) []) 300) 1 (dropS 10 body) S1.st) = true := by kernel_rfl
end Irq
end Go.Proofs.YtjebljnifeoiaaaGreat.Vm.Top
