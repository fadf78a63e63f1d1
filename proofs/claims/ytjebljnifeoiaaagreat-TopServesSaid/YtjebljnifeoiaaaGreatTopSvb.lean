/- TopServes over the machine: the system is made up to its image. No condition. -/
import Derived.Test.YtjebljnifeoiaaaGreatTopSv
namespace Go.Proofs.YtjebljnifeoiaaaGreat.Vm.Top
open Go Go.Proofs.YtjebljnifeoiaaaGreat.Vm Go.Proofs
set_option maxRecDepth 1000000
namespace Sv
theorem run_h1 : okEndV L13 (Cx [] []) Tryz.f13 S13 (run [] body13 (Sp.mk (slotsOf 0 [av3, av4]) Sa.blks).st) = true := by kernel_rfl
theorem run_h2 : okNorm L9a [] [] 35 S9a (runS (run []) 2 body9 (Sp.mk (slotsOf 0 [d13]) blks13).st) = true := by kernel_rfl
theorem run_h3 : okNorm L9b [] [] 35 S9b (runS (run []) 3 (dropS 2 body9) S9a.st) = true := by kernel_rfl
end Sv
end Go.Proofs.YtjebljnifeoiaaaGreat.Vm.Top
