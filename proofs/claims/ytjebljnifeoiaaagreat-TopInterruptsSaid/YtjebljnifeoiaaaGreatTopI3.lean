/- TopInterrupts over the machine: the runs of the raises and behind them. No condition. -/
import Derived.Test.YtjebljnifeoiaaaGreatTopI
namespace Go.Proofs.YtjebljnifeoiaaaGreat.Vm.Top
open Go Go.Proofs.YtjebljnifeoiaaaGreat.Vm Go.Proofs
set_option maxRecDepth 1000000
namespace Irq
theorem run_r10 : okNorm LR1 [] [] 103 R1 (runS (runA (Ci (kR 0) []) 300) 1 (dropS 11 body) S1.st) = true := by kernel_rfl
theorem run_r11 : okNorm LR1 [] [] 103 R1 (runS (runA (Ci (kR 1) []) 300) 1 (dropS 11 body) S1.st) = true := by kernel_rfl
theorem run_r12 : okNorm LR1 [] [] 103 R1 (runS (runA (Ci (kR 2) []) 300) 1 (dropS 11 body) S1.st) = true := by kernel_rfl
theorem run_r13 : okNorm LR1 [] [] 103 R1 (runS (runA (Ci (kR 3) []) 300) 1 (dropS 11 body) S1.st) = true := by kernel_rfl
theorem run_e1 : okEnd (Ci [] []) Tryz.f6 (.bool (.lit true)) (runA (Ci [] []) 300 (dropS 12 body) R1.st) = true := by kernel_rfl
theorem run_r20 : okNorm LR1 [] [] 103 R2 (runS (runA (Ci (kR 0) []) 300) 1 (dropS 11 body) S2.st) = true := by kernel_rfl
theorem run_r21 : okNorm LR1 [] [] 103 R2 (runS (runA (Ci (kR 1) []) 300) 1 (dropS 11 body) S2.st) = true := by kernel_rfl
theorem run_r22 : okNorm LR1 [] [] 103 R2 (runS (runA (Ci (kR 2) []) 300) 1 (dropS 11 body) S2.st) = true := by kernel_rfl
theorem run_r23 : okNorm LR1 [] [] 103 R2 (runS (runA (Ci (kR 3) []) 300) 1 (dropS 11 body) S2.st) = true := by kernel_rfl
theorem run_e2 : okEnd (Ci [] []) Tryz.f6 (.bool (.lit true)) (runA (Ci [] []) 300 (dropS 12 body) R2.st) = true := by kernel_rfl
end Irq
end Go.Proofs.YtjebljnifeoiaaaGreat.Vm.Top
