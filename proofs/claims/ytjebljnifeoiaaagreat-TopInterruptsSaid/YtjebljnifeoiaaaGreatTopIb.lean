/- TopInterrupts over the machine: the system is made. No condition. -/
import Derived.Test.YtjebljnifeoiaaaGreatTopI
namespace Go.Proofs.YtjebljnifeoiaaaGreat.Vm.Top
open Go Go.Proofs.YtjebljnifeoiaaaGreat.Vm Go.Proofs
set_option maxRecDepth 1000000
namespace Irq
theorem run_b : okNorm Lb θ0 [] 103 Sb (runS (runA (Ci [] []) 300) 1 (dropS 4 body) Sa.st) = true := by kernel_rfl
end Irq
end Go.Proofs.YtjebljnifeoiaaaGreat.Vm.Top
