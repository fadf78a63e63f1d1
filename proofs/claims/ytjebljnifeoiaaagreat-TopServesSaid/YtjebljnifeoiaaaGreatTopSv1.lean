/- TopServes over the machine: what is asked of the states from 0 to 29. No condition. -/
import Derived.Test.YtjebljnifeoiaaaGreatTopSv
namespace Go.Proofs.YtjebljnifeoiaaaGreat.Vm.Top
open Go Go.Proofs.YtjebljnifeoiaaaGreat.Vm Go.Proofs
set_option maxRecDepth 1000000
namespace Sv
theorem ok0 : okRow 0 = true := by kernel_rfl
theorem ok1 : okRow 1 = true := by kernel_rfl
theorem ok2 : okRow 2 = true := by kernel_rfl
theorem ok3 : okRow 3 = true := by kernel_rfl
theorem ok4 : okRow 4 = true := by kernel_rfl
theorem ok5 : okRow 5 = true := by kernel_rfl
theorem ok6 : okRow 6 = true := by kernel_rfl
theorem ok7 : okRow 7 = true := by kernel_rfl
theorem ok8 : okRow 8 = true := by kernel_rfl
theorem ok9 : okRow 9 = true := by kernel_rfl
theorem ok10 : okRow 10 = true := by kernel_rfl
theorem ok11 : okRow 11 = true := by kernel_rfl
theorem ok12 : okRow 12 = true := by kernel_rfl
theorem ok13 : okRow 13 = true := by kernel_rfl
theorem ok14 : okRow 14 = true := by kernel_rfl
theorem ok15 : okRow 15 = true := by kernel_rfl
theorem ok16 : okRow 16 = true := by kernel_rfl
theorem ok17 : okRow 17 = true := by kernel_rfl
theorem ok18 : okRow 18 = true := by kernel_rfl
theorem ok19 : okRow 19 = true := by kernel_rfl
theorem ok20 : okRow 20 = true := by kernel_rfl
theorem ok21 : okRow 21 = true := by kernel_rfl
theorem ok22 : okRow 22 = true := by kernel_rfl
theorem ok23 : okRow 23 = true := by kernel_rfl
theorem ok24 : okRow 24 = true := by kernel_rfl
theorem ok25 : okRow 25 = true := by kernel_rfl
theorem ok26 : okRow 26 = true := by kernel_rfl
theorem ok27 : okRow 27 = true := by kernel_rfl
theorem ok28 : okRow 28 = true := by kernel_rfl
theorem ok29 : okRow 29 = true := by kernel_rfl
theorem part1 : ∀ s, s < 30 → okRow (s + 0) = true
  | 0, _ => ok0
  | 1, _ => ok1
  | 2, _ => ok2
  | 3, _ => ok3
  | 4, _ => ok4
  | 5, _ => ok5
  | 6, _ => ok6
  | 7, _ => ok7
  | 8, _ => ok8
  | 9, _ => ok9
  | 10, _ => ok10
  | 11, _ => ok11
  | 12, _ => ok12
  | 13, _ => ok13
  | 14, _ => ok14
  | 15, _ => ok15
  | 16, _ => ok16
  | 17, _ => ok17
  | 18, _ => ok18
  | 19, _ => ok19
  | 20, _ => ok20
  | 21, _ => ok21
  | 22, _ => ok22
  | 23, _ => ok23
  | 24, _ => ok24
  | 25, _ => ok25
  | 26, _ => ok26
  | 27, _ => ok27
  | 28, _ => ok28
  | 29, _ => ok29
  | s + 30, h => absurd h (by omega)
end Sv
end Go.Proofs.YtjebljnifeoiaaaGreat.Vm.Top
