/- TopTalks over the machine: before and behind the making of the system. No condition. -/
import Derived.Test.YtjebljnifeoiaaaGreatTopTk
namespace Go.Proofs.YtjebljnifeoiaaaGreat.Vm.Top
open Go Go.Proofs.YtjebljnifeoiaaaGreat.Vm Go.Proofs
set_option maxRecDepth 1000000
namespace Tk
theorem run_a : okNorm La [] [] 114 Sa (runS (runA (Cx [] facts) 300) 4 body (Sp.mk (slotsOf 0 [.fsl 0]) []).st) = true := by kernel_rfl
theorem run_c : okNorm (mkL [] 0 hblks) [] [] 114 Sc (runS (run []) 1 (dropS 5 body) Sb.st) = true := by kernel_rfl
theorem run_z : okNorm (mkL [] 0 hblks) θ0 [] 114 (O 0) (run [] (seqL (seqL yc)) Sc.st) = true := by kernel_rfl
end Tk
end Go.Proofs.YtjebljnifeoiaaaGreat.Vm.Top
