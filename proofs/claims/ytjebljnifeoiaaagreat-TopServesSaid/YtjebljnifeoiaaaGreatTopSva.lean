/- TopServes over the machine: before and behind the making of the system. No condition. -/
import Derived.Test.YtjebljnifeoiaaaGreatTopSv
namespace Go.Proofs.YtjebljnifeoiaaaGreat.Vm.Top
open Go Go.Proofs.YtjebljnifeoiaaaGreat.Vm Go.Proofs
set_option maxRecDepth 1000000
namespace Sv
theorem run_a : okNorm La [] [] 104 Sa (runS (runA (Cx [] facts) 300) 4 body (Sp.mk (slotsOf 0 [.fsl 0]) []).st) = true := by kernel_rfl
theorem run_c : okNorm (mkL [] 0 hblks) [] [] 104 Sc (runS (run []) 1 (dropS 5 body) Sb.st) = true := by kernel_rfl
theorem run_z : okNorm (mkL [] 0 hblks) θ0 [] 104 (O 0) (run [] (seqL (seqL yc)) Sc.st) = true := by kernel_rfl
end Sv
end Go.Proofs.YtjebljnifeoiaaaGreat.Vm.Top
