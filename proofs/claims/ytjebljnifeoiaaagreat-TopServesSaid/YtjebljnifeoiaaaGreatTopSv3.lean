/- TopServes over the machine: what is asked of the states from 60 to 89. No condition. -/
import Derived.Test.YtjebljnifeoiaaaGreatTopSv
namespace Go.Proofs.YtjebljnifeoiaaaGreat.Vm.Top
open Go Go.Proofs.YtjebljnifeoiaaaGreat.Vm Go.Proofs
set_option maxRecDepth 1000000
namespace Sv
theorem ok60 : okRow 60 = true := by kernel_rfl
theorem ok61 : okRow 61 = true := by kernel_rfl
theorem ok62 : okRow 62 = true := by kernel_rfl
theorem ok63 : okRow 63 = true := by kernel_rfl
theorem ok64 : okRow 64 = true := by kernel_rfl
theorem ok65 : okRow 65 = true := by kernel_rfl
theorem ok66 : okRow 66 = true := by kernel_rfl
theorem ok67 : okRow 67 = true := by kernel_rfl
theorem ok68 : okRow 68 = true := by kernel_rfl
theorem ok69 : okRow 69 = true := by kernel_rfl
theorem ok70 : okRow 70 = true := by kernel_rfl
theorem ok71 : okRow 71 = true := by kernel_rfl
theorem ok72 : okRow 72 = true := by kernel_rfl
theorem ok73 : okRow 73 = true := by kernel_rfl
theorem ok74 : okRow 74 = true := by kernel_rfl
theorem ok75 : okRow 75 = true := by kernel_rfl
theorem ok76 : okRow 76 = true := by kernel_rfl
theorem ok77 : okRow 77 = true := by kernel_rfl
theorem ok78 : okRow 78 = true := by kernel_rfl
theorem ok79 : okRow 79 = true := by kernel_rfl
theorem ok80 : okRow 80 = true := by kernel_rfl
theorem ok81 : okRow 81 = true := by kernel_rfl
theorem ok82 : okRow 82 = true := by kernel_rfl
theorem ok83 : okRow 83 = true := by kernel_rfl
theorem ok84 : okRow 84 = true := by kernel_rfl
theorem ok85 : okRow 85 = true := by kernel_rfl
theorem ok86 : okRow 86 = true := by kernel_rfl
theorem ok87 : okRow 87 = true := by kernel_rfl
theorem ok88 : okRow 88 = true := by kernel_rfl
theorem ok89 : okRow 89 = true := by kernel_rfl
theorem part3 : ∀ s, s < 30 → okRow (s + 60) = true
  | 0, _ => ok60
  | 1, _ => ok61
  | 2, _ => ok62
  | 3, _ => ok63
  | 4, _ => ok64
  | 5, _ => ok65
  | 6, _ => ok66
  | 7, _ => ok67
  | 8, _ => ok68
  | 9, _ => ok69
  | 10, _ => ok70
  | 11, _ => ok71
  | 12, _ => ok72
  | 13, _ => ok73
  | 14, _ => ok74
  | 15, _ => ok75
  | 16, _ => ok76
  | 17, _ => ok77
  | 18, _ => ok78
  | 19, _ => ok79
  | 20, _ => ok80
  | 21, _ => ok81
  | 22, _ => ok82
  | 23, _ => ok83
  | 24, _ => ok84
  | 25, _ => ok85
  | 26, _ => ok86
  | 27, _ => ok87
  | 28, _ => ok88
  | 29, _ => ok89
  | s + 30, h => absurd h (by omega)
end Sv
end Go.Proofs.YtjebljnifeoiaaaGreat.Vm.Top
