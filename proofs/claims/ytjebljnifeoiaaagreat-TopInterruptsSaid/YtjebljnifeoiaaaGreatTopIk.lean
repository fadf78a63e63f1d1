/- TopInterrupts over the machine: the system is booted. No condition. -/
import Derived.Test.YtjebljnifeoiaaaGreatTopIh
namespace Go.Proofs.YtjebljnifeoiaaaGreat.Vm.Top
open Go Go.Proofs.YtjebljnifeoiaaaGreat.Vm Go.Proofs
set_option maxRecDepth 1000000
namespace Irq
theorem run_h4 : okNorm LS9c θ0 [] 35 S9c (runS (run []) 1 (dropS 5 body9) S9b.st) = true := by kernel_rfl
theorem run_h5 : Cut.okEndV LSr θ0 (Ci [] []) Tryz.f9 Sr (run [] (dropS 6 body9) S9c.st) = true := by kernel_rfl
end Irq
end Go.Proofs.YtjebljnifeoiaaaGreat.Vm.Top
