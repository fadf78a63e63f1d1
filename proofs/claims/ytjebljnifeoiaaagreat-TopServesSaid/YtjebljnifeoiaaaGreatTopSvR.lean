/- TopServes over the machine: every state. No condition. -/
import Derived.Test.YtjebljnifeoiaaaGreatTopSv1
import Derived.Test.YtjebljnifeoiaaaGreatTopSv2
import Derived.Test.YtjebljnifeoiaaaGreatTopSv3
import Derived.Test.YtjebljnifeoiaaaGreatTopSv4
namespace Go.Proofs.YtjebljnifeoiaaaGreat.Vm.Top
open Go Go.Proofs.YtjebljnifeoiaaaGreat.Vm Go.Proofs
set_option maxRecDepth 1000000
namespace Sv
theorem okRows (s : Nat) (h : s < 118) : okRow s = true := by
  by_cases h0 : s < 30
  · have e := part1 (s - 0) (by omega)
    rwa [show s - 0 + 0 = s by omega] at e
  by_cases h1 : s < 60
  · have e := part2 (s - 30) (by omega)
    rwa [show s - 30 + 30 = s by omega] at e
  by_cases h2 : s < 90
  · have e := part3 (s - 60) (by omega)
    rwa [show s - 60 + 60 = s by omega] at e
  by_cases h3 : s < 118
  · have e := part4 (s - 90) (by omega)
    rwa [show s - 90 + 90 = s by omega] at e
  omega
end Sv
end Go.Proofs.YtjebljnifeoiaaaGreat.Vm.Top
