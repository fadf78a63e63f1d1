/- TopServes over the machine: what is asked of the states from 90 to 117. No condition. -/
import Derived.Test.YtjebljnifeoiaaaGreatTopSv
namespace Go.Proofs.YtjebljnifeoiaaaGreat.Vm.Top
open Go Go.Proofs.YtjebljnifeoiaaaGreat.Vm Go.Proofs
set_option maxRecDepth 1000000
namespace Sv
theorem ok90 : okRow 90 = true := by kernel_rfl
theorem ok91 : okRow 91 = true := by kernel_rfl
theorem ok92 : okRow 92 = true := by kernel_rfl
theorem ok93 : okRow 93 = true := by kernel_rfl
theorem ok94 : okRow 94 = true := by kernel_rfl
theorem ok95 : okRow 95 = true := by kernel_rfl
theorem ok96 : okRow 96 = true := by kernel_rfl
theorem ok97 : okRow 97 = true := by kernel_rfl
theorem ok98 : okRow 98 = true := by kernel_rfl
theorem ok99 : okRow 99 = true := by kernel_rfl
theorem ok100 : okRow 100 = true := by kernel_rfl
theorem ok101 : okRow 101 = true := by kernel_rfl
theorem ok102 : okRow 102 = true := by kernel_rfl
theorem ok103 : okRow 103 = true := by kernel_rfl
theorem ok104 : okRow 104 = true := by kernel_rfl
theorem ok105 : okRow 105 = true := by kernel_rfl
theorem ok106 : okRow 106 = true := by kernel_rfl
theorem ok107 : okRow 107 = true := by kernel_rfl
theorem ok108 : okRow 108 = true := by kernel_rfl
theorem ok109 : okRow 109 = true := by kernel_rfl
theorem ok110 : okRow 110 = true := by kernel_rfl
theorem ok111 : okRow 111 = true := by kernel_rfl
theorem ok112 : okRow 112 = true := by kernel_rfl
theorem ok113 : okRow 113 = true := by kernel_rfl
theorem ok114 : okRow 114 = true := by kernel_rfl
theorem ok115 : okRow 115 = true := by kernel_rfl
theorem ok116 : okRow 116 = true := by kernel_rfl
theorem ok117 : okRow 117 = true := by kernel_rfl
theorem part4 : ∀ s, s < 28 → okRow (s + 90) = true
  | 0, _ => ok90
  | 1, _ => ok91
  | 2, _ => ok92
  | 3, _ => ok93
  | 4, _ => ok94
  | 5, _ => ok95
  | 6, _ => ok96
  | 7, _ => ok97
  | 8, _ => ok98
  | 9, _ => ok99
  | 10, _ => ok100
  | 11, _ => ok101
  | 12, _ => ok102
  | 13, _ => ok103
  | 14, _ => ok104
  | 15, _ => ok105
  | 16, _ => ok106
  | 17, _ => ok107
  | 18, _ => ok108
  | 19, _ => ok109
  | 20, _ => ok110
  | 21, _ => ok111
  | 22, _ => ok112
  | 23, _ => ok113
  | 24, _ => ok114
  | 25, _ => ok115
  | 26, _ => ok116
  | 27, _ => ok117
  | s + 28, h => absurd h (by omega)
end Sv
end Go.Proofs.YtjebljnifeoiaaaGreat.Vm.Top
