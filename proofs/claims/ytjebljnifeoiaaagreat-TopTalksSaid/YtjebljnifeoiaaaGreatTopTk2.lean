/- TopTalks over the machine: what is asked of the states from 54 to 107. No condition. -/
import Derived.Test.YtjebljnifeoiaaaGreatTopTk
namespace Go.Proofs.YtjebljnifeoiaaaGreat.Vm.Top
open Go Go.Proofs.YtjebljnifeoiaaaGreat.Vm Go.Proofs
set_option maxRecDepth 1000000
namespace Tk
theorem ok54 : okRow 54 = true := by kernel_rfl
theorem ok55 : okRow 55 = true := by kernel_rfl
theorem ok56 : okRow 56 = true := by kernel_rfl
theorem ok57 : okRow 57 = true := by kernel_rfl
theorem ok58 : okRow 58 = true := by kernel_rfl
theorem ok59 : okRow 59 = true := by kernel_rfl
theorem ok60 : okRow 60 = true := by kernel_rfl
theorem ok61 : okRow 61 = true := by kernel_rfl
theorem ok62 : okRow 62 = true := by kernel_rfl
theorem ok63 : okRow 63 = true := by kernel_rfl
theorem ok64 : okRow 64 = true := by kernel_rfl
theorem ok65 : okRow 65 = true := by kernel_rfl
theorem ok66 : okRow 66 = true := by kernel_rfl
theorem ok67 : okRow 67 = true := by kernel_rfl
theorem ok68 : okRow 68 = true := by kernel_rfl
theorem ok69 : okRow 69 = true := by kernel_rfl
theorem ok70 : okRow 70 = true := by kernel_rfl
theorem ok71 : okRow 71 = true := by kernel_rfl
theorem ok72 : okRow 72 = true := by kernel_rfl
theorem ok73 : okRow 73 = true := by kernel_rfl
theorem ok74 : okRow 74 = true := by kernel_rfl
theorem ok75 : okRow 75 = true := by kernel_rfl
theorem ok76 : okRow 76 = true := by kernel_rfl
theorem ok77 : okRow 77 = true := by kernel_rfl
theorem ok78 : okRow 78 = true := by kernel_rfl
theorem ok79 : okRow 79 = true := by kernel_rfl
theorem ok80 : okRow 80 = true := by kernel_rfl
theorem ok81 : okRow 81 = true := by kernel_rfl
theorem ok82 : okRow 82 = true := by kernel_rfl
theorem ok83 : okRow 83 = true := by kernel_rfl
theorem ok84 : okRow 84 = true := by kernel_rfl
theorem ok85 : okRow 85 = true := by kernel_rfl
theorem ok86 : okRow 86 = true := by kernel_rfl
theorem ok87 : okRow 87 = true := by kernel_rfl
theorem ok88 : okRow 88 = true := by kernel_rfl
theorem ok89 : okRow 89 = true := by kernel_rfl
theorem ok90 : okRow 90 = true := by kernel_rfl
theorem ok91 : okRow 91 = true := by kernel_rfl
theorem ok92 : okRow 92 = true := by kernel_rfl
theorem ok93 : okRow 93 = true := by kernel_rfl
theorem ok94 : okRow 94 = true := by kernel_rfl
theorem ok95 : okRow 95 = true := by kernel_rfl
theorem ok96 : okRow 96 = true := by kernel_rfl
theorem ok97 : okRow 97 = true := by kernel_rfl
theorem ok98 : okRow 98 = true := by kernel_rfl
theorem ok99 : okRow 99 = true := by kernel_rfl
theorem ok100 : okRow 100 = true := by kernel_rfl
theorem ok101 : okRow 101 = true := by kernel_rfl
theorem ok102 : okRow 102 = true := by kernel_rfl
theorem ok103 : okRow 103 = true := by kernel_rfl
theorem ok104 : okRow 104 = true := by kernel_rfl
theorem ok105 : okRow 105 = true := by kernel_rfl
theorem ok106 : okRow 106 = true := by kernel_rfl
theorem ok107 : okRow 107 = true := by kernel_rfl
theorem part2 : ∀ s, s < 54 → okRow (s + 54) = true
  | 0, _ => ok54
  | 1, _ => ok55
  | 2, _ => ok56
  | 3, _ => ok57
  | 4, _ => ok58
  | 5, _ => ok59
  | 6, _ => ok60
  | 7, _ => ok61
  | 8, _ => ok62
  | 9, _ => ok63
  | 10, _ => ok64
  | 11, _ => ok65
  | 12, _ => ok66
  | 13, _ => ok67
  | 14, _ => ok68
  | 15, _ => ok69
  | 16, _ => ok70
  | 17, _ => ok71
  | 18, _ => ok72
  | 19, _ => ok73
  | 20, _ => ok74
  | 21, _ => ok75
  | 22, _ => ok76
  | 23, _ => ok77
  | 24, _ => ok78
  | 25, _ => ok79
  | 26, _ => ok80
  | 27, _ => ok81
  | 28, _ => ok82
  | 29, _ => ok83
  | 30, _ => ok84
  | 31, _ => ok85
  | 32, _ => ok86
  | 33, _ => ok87
  | 34, _ => ok88
  | 35, _ => ok89
  | 36, _ => ok90
  | 37, _ => ok91
  | 38, _ => ok92
  | 39, _ => ok93
  | 40, _ => ok94
  | 41, _ => ok95
  | 42, _ => ok96
  | 43, _ => ok97
  | 44, _ => ok98
  | 45, _ => ok99
  | 46, _ => ok100
  | 47, _ => ok101
  | 48, _ => ok102
  | 49, _ => ok103
  | 50, _ => ok104
  | 51, _ => ok105
  | 52, _ => ok106
  | 53, _ => ok107
  | s + 54, h => absurd h (by omega)
end Tk
end Go.Proofs.YtjebljnifeoiaaaGreat.Vm.Top
