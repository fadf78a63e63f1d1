/- TopTalks over the machine: what is asked of the states from 108 to 161. No condition. -/
import Derived.Test.YtjebljnifeoiaaaGreatTopTk
namespace Go.Proofs.YtjebljnifeoiaaaGreat.Vm.Top
open Go Go.Proofs.YtjebljnifeoiaaaGreat.Vm Go.Proofs
set_option maxRecDepth 1000000
namespace Tk
theorem ok108 : okRow 108 = true := by kernel_rfl
theorem ok109 : okRow 109 = true := by kernel_rfl
theorem ok110 : okRow 110 = true := by kernel_rfl
theorem ok111 : okRow 111 = true := by kernel_rfl
theorem ok112 : okRow 112 = true := by kernel_rfl
theorem ok113 : okRow 113 = true := by kernel_rfl
theorem ok114 : okRow 114 = true := by kernel_rfl
theorem ok115 : okRow 115 = true := by kernel_rfl
theorem ok116 : okRow 116 = true := by kernel_rfl
theorem ok117 : okRow 117 = true := by kernel_rfl
theorem ok118 : okRow 118 = true := by kernel_rfl
theorem ok119 : okRow 119 = true := by kernel_rfl
theorem ok120 : okRow 120 = true := by kernel_rfl
theorem ok121 : okRow 121 = true := by kernel_rfl
theorem ok122 : okRow 122 = true := by kernel_rfl
theorem ok123 : okRow 123 = true := by kernel_rfl
theorem ok124 : okRow 124 = true := by kernel_rfl
theorem ok125 : okRow 125 = true := by kernel_rfl
theorem ok126 : okRow 126 = true := by kernel_rfl
theorem ok127 : okRow 127 = true := by kernel_rfl
theorem ok128 : okRow 128 = true := by kernel_rfl
theorem ok129 : okRow 129 = true := by kernel_rfl
theorem ok130 : okRow 130 = true := by kernel_rfl
theorem ok131 : okRow 131 = true := by kernel_rfl
theorem ok132 : okRow 132 = true := by kernel_rfl
theorem ok133 : okRow 133 = true := by kernel_rfl
theorem ok134 : okRow 134 = true := by kernel_rfl
theorem ok135 : okRow 135 = true := by kernel_rfl
theorem ok136 : okRow 136 = true := by kernel_rfl
theorem ok137 : okRow 137 = true := by kernel_rfl
theorem ok138 : okRow 138 = true := by kernel_rfl
theorem ok139 : okRow 139 = true := by kernel_rfl
theorem ok140 : okRow 140 = true := by kernel_rfl
theorem ok141 : okRow 141 = true := by kernel_rfl
theorem ok142 : okRow 142 = true := by kernel_rfl
theorem ok143 : okRow 143 = true := by kernel_rfl
theorem ok144 : okRow 144 = true := by kernel_rfl
theorem ok145 : okRow 145 = true := by kernel_rfl
theorem ok146 : okRow 146 = true := by kernel_rfl
theorem ok147 : okRow 147 = true := by kernel_rfl
theorem ok148 : okRow 148 = true := by kernel_rfl
theorem ok149 : okRow 149 = true := by kernel_rfl
theorem ok150 : okRow 150 = true := by kernel_rfl
theorem ok151 : okRow 151 = true := by kernel_rfl
theorem ok152 : okRow 152 = true := by kernel_rfl
theorem ok153 : okRow 153 = true := by kernel_rfl
theorem ok154 : okRow 154 = true := by kernel_rfl
theorem ok155 : okRow 155 = true := by kernel_rfl
theorem ok156 : okRow 156 = true := by kernel_rfl
theorem ok157 : okRow 157 = true := by kernel_rfl
theorem ok158 : okRow 158 = true := by kernel_rfl
theorem ok159 : okRow 159 = true := by kernel_rfl
theorem ok160 : okRow 160 = true := by kernel_rfl
theorem ok161 : okRow 161 = true := by kernel_rfl
theorem part3 : ∀ s, s < 54 → okRow (s + 108) = true
  | 0, _ => ok108
  | 1, _ => ok109
  | 2, _ => ok110
  | 3, _ => ok111
  | 4, _ => ok112
  | 5, _ => ok113
  | 6, _ => ok114
  | 7, _ => ok115
  | 8, _ => ok116
  | 9, _ => ok117
  | 10, _ => ok118
  | 11, _ => ok119
  | 12, _ => ok120
  | 13, _ => ok121
  | 14, _ => ok122
  | 15, _ => ok123
  | 16, _ => ok124
  | 17, _ => ok125
  | 18, _ => ok126
  | 19, _ => ok127
  | 20, _ => ok128
  | 21, _ => ok129
  | 22, _ => ok130
  | 23, _ => ok131
  | 24, _ => ok132
  | 25, _ => ok133
  | 26, _ => ok134
  | 27, _ => ok135
  | 28, _ => ok136
  | 29, _ => ok137
  | 30, _ => ok138
  | 31, _ => ok139
  | 32, _ => ok140
  | 33, _ => ok141
  | 34, _ => ok142
  | 35, _ => ok143
  | 36, _ => ok144
  | 37, _ => ok145
  | 38, _ => ok146
  | 39, _ => ok147
  | 40, _ => ok148
  | 41, _ => ok149
  | 42, _ => ok150
  | 43, _ => ok151
  | 44, _ => ok152
  | 45, _ => ok153
  | 46, _ => ok154
  | 47, _ => ok155
  | 48, _ => ok156
  | 49, _ => ok157
  | 50, _ => ok158
  | 51, _ => ok159
  | 52, _ => ok160
  | 53, _ => ok161
  | s + 54, h => absurd h (by omega)
end Tk
end Go.Proofs.YtjebljnifeoiaaaGreat.Vm.Top
