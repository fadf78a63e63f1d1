/- TopServes over the machine: what is asked of the states from 30 to 59. No condition. -/
import Derived.Test.YtjebljnifeoiaaaGreatTopSv
namespace Go.Proofs.YtjebljnifeoiaaaGreat.Vm.Top
open Go Go.Proofs.YtjebljnifeoiaaaGreat.Vm Go.Proofs
set_option maxRecDepth 1000000
namespace Sv
theorem ok30 : okRow 30 = true := by kernel_rfl
theorem ok31 : okRow 31 = true := by kernel_rfl
theorem ok32 : okRow 32 = true := by kernel_rfl
theorem ok33 : okRow 33 = true := by kernel_rfl
theorem ok34 : okRow 34 = true := by kernel_rfl
theorem ok35 : okRow 35 = true := by kernel_rfl
theorem ok36 : okRow 36 = true := by kernel_rfl
theorem ok37 : okRow 37 = true := by kernel_rfl
theorem ok38 : okRow 38 = true := by kernel_rfl
theorem ok39 : okRow 39 = true := by kernel_rfl
theorem ok40 : okRow 40 = true := by kernel_rfl
theorem ok41 : okRow 41 = true := by kernel_rfl
theorem ok42 : okRow 42 = true := by kernel_rfl
theorem ok43 : okRow 43 = true := by kernel_rfl
theorem ok44 : okRow 44 = true := by kernel_rfl
theorem ok45 : okRow 45 = true := by kernel_rfl
theorem ok46 : okRow 46 = true := by kernel_rfl
theorem ok47 : okRow 47 = true := by kernel_rfl
theorem ok48 : okRow 48 = true := by kernel_rfl
theorem ok49 : okRow 49 = true := by kernel_rfl
theorem ok50 : okRow 50 = true := by kernel_rfl
theorem ok51 : okRow 51 = true := by kernel_rfl
theorem ok52 : okRow 52 = true := by kernel_rfl
theorem ok53 : okRow 53 = true := by kernel_rfl
theorem ok54 : okRow 54 = true := by kernel_rfl
theorem ok55 : okRow 55 = true := by kernel_rfl
theorem ok56 : okRow 56 = true := by kernel_rfl
theorem ok57 : okRow 57 = true := by kernel_rfl
theorem ok58 : okRow 58 = true := by kernel_rfl
theorem ok59 : okRow 59 = true := by kernel_rfl
theorem part2 : ∀ s, s < 30 → okRow (s + 30) = true
  | 0, _ => ok30
  | 1, _ => ok31
  | 2, _ => ok32
  | 3, _ => ok33
  | 4, _ => ok34
  | 5, _ => ok35
  | 6, _ => ok36
  | 7, _ => ok37
  | 8, _ => ok38
  | 9, _ => ok39
  | 10, _ => ok40
  | 11, _ => ok41
  | 12, _ => ok42
  | 13, _ => ok43
  | 14, _ => ok44
  | 15, _ => ok45
  | 16, _ => ok46
  | 17, _ => ok47
  | 18, _ => ok48
  | 19, _ => ok49
  | 20, _ => ok50
  | 21, _ => ok51
  | 22, _ => ok52
  | 23, _ => ok53
  | 24, _ => ok54
  | 25, _ => ok55
  | 26, _ => ok56
  | 27, _ => ok57
  | 28, _ => ok58
  | 29, _ => ok59
  | s + 30, h => absurd h (by omega)
end Sv
end Go.Proofs.YtjebljnifeoiaaaGreat.Vm.Top
