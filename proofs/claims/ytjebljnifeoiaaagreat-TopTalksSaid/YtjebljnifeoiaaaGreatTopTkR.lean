/- TopTalks over the machine: every state. No condition. -/
import Derived.Test.YtjebljnifeoiaaaGreatTopTk1
import Derived.Test.YtjebljnifeoiaaaGreatTopTk2
import Derived.Test.YtjebljnifeoiaaaGreatTopTk3
import Derived.Test.YtjebljnifeoiaaaGreatTopTk4
namespace Go.Proofs.YtjebljnifeoiaaaGreat.Vm.Top
open Go Go.Proofs.YtjebljnifeoiaaaGreat.Vm Go.Proofs
set_option maxRecDepth 1000000
namespace Tk
theorem okRows (s : Nat) (h : s < 214) : okRow s = true := by
  by_cases h0 : s < 54
  · have e := part1 (s - 0) (by omega)
    rwa [show s - 0 + 0 = s by omega] at e
  by_cases h1 : s < 108
  · have e := part2 (s - 54) (by omega)
    rwa [show s - 54 + 54 = s by omega] at e
  by_cases h2 : s < 162
  · have e := part3 (s - 108) (by omega)
    rwa [show s - 108 + 108 = s by omega] at e
  by_cases h3 : s < 214
  · have e := part4 (s - 162) (by omega)
    rwa [show s - 162 + 162 = s by omega] at e
  omega
end Tk
end Go.Proofs.YtjebljnifeoiaaaGreat.Vm.Top
