/- TopTalks over the machine: what is asked of the states from 162 to 213. No condition. -/
import Derived.Test.YtjebljnifeoiaaaGreatTopTk
namespace Go.Proofs.YtjebljnifeoiaaaGreat.Vm.Top
open Go Go.Proofs.YtjebljnifeoiaaaGreat.Vm Go.Proofs
set_option maxRecDepth 1000000
namespace Tk
theorem ok162 : okRow 162 = true := by kernel_rfl
theorem ok163 : okRow 163 = true := by kernel_rfl
theorem ok164 : okRow 164 = true := by kernel_rfl
theorem ok165 : okRow 165 = true := by kernel_rfl
theorem ok166 : okRow 166 = true := by kernel_rfl
theorem ok167 : okRow 167 = true := by kernel_rfl
theorem ok168 : okRow 168 = true := by kernel_rfl
theorem ok169 : okRow 169 = true := by kernel_rfl
theorem ok170 : okRow 170 = true := by kernel_rfl
theorem ok171 : okRow 171 = true := by kernel_rfl
theorem ok172 : okRow 172 = true := by kernel_rfl
theorem ok173 : okRow 173 = true := by kernel_rfl
theorem ok174 : okRow 174 = true := by kernel_rfl
theorem ok175 : okRow 175 = true := by kernel_rfl
theorem ok176 : okRow 176 = true := by kernel_rfl
theorem ok177 : okRow 177 = true := by kernel_rfl
theorem ok178 : okRow 178 = true := by kernel_rfl
theorem ok179 : okRow 179 = true := by kernel_rfl
theorem ok180 : okRow 180 = true := by kernel_rfl
theorem ok181 : okRow 181 = true := by kernel_rfl
theorem ok182 : okRow 182 = true := by kernel_rfl
theorem ok183 : okRow 183 = true := by kernel_rfl
theorem ok184 : okRow 184 = true := by kernel_rfl
theorem ok185 : okRow 185 = true := by kernel_rfl
theorem ok186 : okRow 186 = true := by kernel_rfl
theorem ok187 : okRow 187 = true := by kernel_rfl
theorem ok188 : okRow 188 = true := by kernel_rfl
theorem ok189 : okRow 189 = true := by kernel_rfl
theorem ok190 : okRow 190 = true := by kernel_rfl
theorem ok191 : okRow 191 = true := by kernel_rfl
theorem ok192 : okRow 192 = true := by kernel_rfl
theorem ok193 : okRow 193 = true := by kernel_rfl
theorem ok194 : okRow 194 = true := by kernel_rfl
theorem ok195 : okRow 195 = true := by kernel_rfl
theorem ok196 : okRow 196 = true := by kernel_rfl
theorem ok197 : okRow 197 = true := by kernel_rfl
theorem ok198 : okRow 198 = true := by kernel_rfl
theorem ok199 : okRow 199 = true := by kernel_rfl
theorem ok200 : okRow 200 = true := by kernel_rfl
theorem ok201 : okRow 201 = true := by kernel_rfl
theorem ok202 : okRow 202 = true := by kernel_rfl
theorem ok203 : okRow 203 = true := by kernel_rfl
theorem ok204 : okRow 204 = true := by kernel_rfl
theorem ok205 : okRow 205 = true := by kernel_rfl
theorem ok206 : okRow 206 = true := by kernel_rfl
theorem ok207 : okRow 207 = true := by kernel_rfl
theorem ok208 : okRow 208 = true := by kernel_rfl
theorem ok209 : okRow 209 = true := by kernel_rfl
theorem ok210 : okRow 210 = true := by kernel_rfl
theorem ok211 : okRow 211 = true := by kernel_rfl
theorem ok212 : okRow 212 = true := by kernel_rfl
theorem ok213 : okRow 213 = true := by kernel_rfl
theorem part4 : ∀ s, s < 52 → okRow (s + 162) = true
  | 0, _ => ok162
  | 1, _ => ok163
  | 2, _ => ok164
  | 3, _ => ok165
  | 4, _ => ok166
  | 5, _ => ok167
  | 6, _ => ok168
  | 7, _ => ok169
  | 8, _ => ok170
  | 9, _ => ok171
  | 10, _ => ok172
  | 11, _ => ok173
  | 12, _ => ok174
  | 13, _ => ok175
  | 14, _ => ok176
  | 15, _ => ok177
  | 16, _ => ok178
  | 17, _ => ok179
  | 18, _ => ok180
  | 19, _ => ok181
  | 20, _ => ok182
  | 21, _ => ok183
  | 22, _ => ok184
  | 23, _ => ok185
  | 24, _ => ok186
  | 25, _ => ok187
  | 26, _ => ok188
  | 27, _ => ok189
  | 28, _ => ok190
  | 29, _ => ok191
  | 30, _ => ok192
  | 31, _ => ok193
  | 32, _ => ok194
  | 33, _ => ok195
  | 34, _ => ok196
  | 35, _ => ok197
  | 36, _ => ok198
  | 37, _ => ok199
  | 38, _ => ok200
  | 39, _ => ok201
  | 40, _ => ok202
  | 41, _ => ok203
  | 42, _ => ok204
  | 43, _ => ok205
  | 44, _ => ok206
  | 45, _ => ok207
  | 46, _ => ok208
  | 47, _ => ok209
  | 48, _ => ok210
  | 49, _ => ok211
  | 50, _ => ok212
  | 51, _ => ok213
  | s + 52, h => absurd h (by omega)
end Tk
end Go.Proofs.YtjebljnifeoiaaaGreat.Vm.Top
