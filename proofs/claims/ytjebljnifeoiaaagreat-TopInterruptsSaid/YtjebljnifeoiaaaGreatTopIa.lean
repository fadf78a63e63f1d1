/- TopInterrupts over the machine: the runs before and behind the making of the system. No condition. -/
import Derived.Test.YtjebljnifeoiaaaGreatTopI
namespace Go.Proofs.YtjebljnifeoiaaaGreat.Vm.Top
open Go Go.Proofs.YtjebljnifeoiaaaGreat.Vm Go.Proofs
set_option maxRecDepth 1000000
namespace Irq
theorem run_a : okNorm La θ0 [] 103 Sa (runS (runA (Ci [] facts) 300) 4 body (Sp.mk (slotsOf 0 [.int .i64 (.var 0), .int .i64 (.var 1)]) []).st) = true := by kernel_rfl
theorem run_c : okNorm Lc θ0 [] 103 S1 (runS (runA (Ci [] []) 300) 5 (dropS 5 body) Sb.st) = true := by kernel_rfl
end Irq
end Go.Proofs.YtjebljnifeoiaaaGreat.Vm.Top
