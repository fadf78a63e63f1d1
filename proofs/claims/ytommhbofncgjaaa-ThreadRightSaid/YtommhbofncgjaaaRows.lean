/-
  No cell of these rows narrows 'for every input' (looked for: loops, veiled, ifaces, maps, wideKeys, modest, calm, conditions, laid).
  DERIVED. THE GIVEN ROWS OF THIS SEAT. 5 by the template 'for every input the law returns true; each argument reads behind the call as it read before'; 0 by the template 'total and deterministic' (their statements: YtommhbofncgjaaaTotals.lean).
  GIVEN WITH THE SEED: the statements are not yours to turn. If you find one false, say at which input.
  Laid BY PROGRAM, IN A SANDBOX (cutbox-rows.mjs): the forced cells as the released guide's own fill.sh prints them over the translation a2fb9d19ebabad6d… (all of the seat's roots in one cut). By AI agents, Wed Nov 11 2026. No macro, syntax, notation, axiom, sorry.
-/
import Derived.Test.YtommhbofncgjaaaChecked
import GoSem.Claim
import GoSem.ClaimJoined
import GoSem.ClaimMapViews
import Derived.JoinedTies
import Derived.KernelRfl
namespace Go.Proofs.Ytommhbofncgjaaa
/- THE CELL 'sum', in the pinned program and in every row, IS THE sha256 OF THE DUMP (.gsa) THAT YtommhbofncgjaaaProg.lean LOADS. Nothing in Lean hashes anything: it is a label: what it is worth is what the hold of that sum in a sandbox is worth. -/
noncomputable def Try.pinned : Pinned := { name := "ytommhbofncgjaaa", sum := "a2fb9d19ebabad6dfb7438958bb0cab97069090dab4702c787c19890e6cfbf55", checked := Try.checked }
namespace Rows
def none {H : Type} : Left H := { results := [], args := [] }

/-- 'donjonlaw20.ThreadAsks': WHATEVER THE INPUT: true; the input reads as it did. -/
def threadAsksSpec : ChangeSpec := { name := "threadAsks", fn := fun _ => fun
  | [d1, d2, d3, d4] => { results := [.lit (.bool true)], args := [d1, d2, d3, d4] }
  | _ => none }
def threadAsksRow : OpenClaim := { program := "ytommhbofncgjaaa", sum := "a2fb9d19ebabad6dfb7438958bb0cab97069090dab4702c787c19890e6cfbf55", func := "donjon/donjonlaw20.ThreadAsks", spec := "threadAsks", apart := false }
def ThreadAsksSaid : Prop := threadAsksRow.holds Try.pinned (OpenSpec.ofChange threadAsksSpec)

/-- ITS FALSE NEIGHBOUR: 'it returns false'. Refute it at one input. -/
def threadAsksWrong : ChangeSpec := { name := "threadAsks", fn := fun _ => fun
  | [d1, d2, d3, d4] => { results := [.lit (.bool false)], args := [d1, d2, d3, d4] }
  | _ => none }
def ThreadAsksWrongFalsely : Prop := threadAsksRow.holds Try.pinned (OpenSpec.ofChange threadAsksWrong)

/-- 'donjonlaw20.ThreadDoes': WHATEVER THE INPUT: true; the input reads as it did. -/
def threadDoesSpec : ChangeSpec := { name := "threadDoes", fn := fun _ => fun
  | [d1, d2, d3] => { results := [.lit (.bool true)], args := [d1, d2, d3] }
  | _ => none }
def threadDoesRow : OpenClaim := { program := "ytommhbofncgjaaa", sum := "a2fb9d19ebabad6dfb7438958bb0cab97069090dab4702c787c19890e6cfbf55", func := "donjon/donjonlaw20.ThreadDoes", spec := "threadDoes", apart := false }
def ThreadDoesSaid : Prop := threadDoesRow.holds Try.pinned (OpenSpec.ofChange threadDoesSpec)

/-- ITS FALSE NEIGHBOUR: 'it returns false'. Refute it at one input. -/
def threadDoesWrong : ChangeSpec := { name := "threadDoes", fn := fun _ => fun
  | [d1, d2, d3] => { results := [.lit (.bool false)], args := [d1, d2, d3] }
  | _ => none }
def ThreadDoesWrongFalsely : Prop := threadDoesRow.holds Try.pinned (OpenSpec.ofChange threadDoesWrong)

/-- 'donjonlaw20.ThreadRight': WHATEVER THE INPUT: true; the input reads as it did. -/
def threadRightSpec : ChangeSpec := { name := "threadRight", fn := fun _ => fun
  | [d1, d2, d3, d4] => { results := [.lit (.bool true)], args := [d1, d2, d3, d4] }
  | _ => none }
def threadRightRow : OpenClaim := { program := "ytommhbofncgjaaa", sum := "a2fb9d19ebabad6dfb7438958bb0cab97069090dab4702c787c19890e6cfbf55", func := "donjon/donjonlaw20.ThreadRight", spec := "threadRight", apart := false }
def ThreadRightSaid : Prop := threadRightRow.holds Try.pinned (OpenSpec.ofChange threadRightSpec)

/-- ITS FALSE NEIGHBOUR: 'it returns false'. Refute it at one input. -/
def threadRightWrong : ChangeSpec := { name := "threadRight", fn := fun _ => fun
  | [d1, d2, d3, d4] => { results := [.lit (.bool false)], args := [d1, d2, d3, d4] }
  | _ => none }
def ThreadRightWrongFalsely : Prop := threadRightRow.holds Try.pinned (OpenSpec.ofChange threadRightWrong)

/-- 'donjonlaw20.ThreadOnly': WHATEVER THE INPUT: true; the input reads as it did. -/
def threadOnlySpec : ChangeSpec := { name := "threadOnly", fn := fun _ => fun
  | [d1, d2] => { results := [.lit (.bool true)], args := [d1, d2] }
  | _ => none }
def threadOnlyRow : OpenClaim := { program := "ytommhbofncgjaaa", sum := "a2fb9d19ebabad6dfb7438958bb0cab97069090dab4702c787c19890e6cfbf55", func := "donjon/donjonlaw20.ThreadOnly", spec := "threadOnly", apart := false }
def ThreadOnlySaid : Prop := threadOnlyRow.holds Try.pinned (OpenSpec.ofChange threadOnlySpec)

/-- ITS FALSE NEIGHBOUR: 'it returns false'. Refute it at one input. -/
def threadOnlyWrong : ChangeSpec := { name := "threadOnly", fn := fun _ => fun
  | [d1, d2] => { results := [.lit (.bool false)], args := [d1, d2] }
  | _ => none }
def ThreadOnlyWrongFalsely : Prop := threadOnlyRow.holds Try.pinned (OpenSpec.ofChange threadOnlyWrong)

/-- 'donjonlaw20.ThreadTrip': WHATEVER THE INPUT: true; the input reads as it did. -/
def threadTripSpec : ChangeSpec := { name := "threadTrip", fn := fun _ => fun
  | [d1, d2, d3, d4] => { results := [.lit (.bool true)], args := [d1, d2, d3, d4] }
  | _ => none }
def threadTripRow : OpenClaim := { program := "ytommhbofncgjaaa", sum := "a2fb9d19ebabad6dfb7438958bb0cab97069090dab4702c787c19890e6cfbf55", func := "donjon/donjonlaw20.ThreadTrip", spec := "threadTrip", apart := false }
def ThreadTripSaid : Prop := threadTripRow.holds Try.pinned (OpenSpec.ofChange threadTripSpec)

/-- ITS FALSE NEIGHBOUR: 'it returns false'. Refute it at one input. -/
def threadTripWrong : ChangeSpec := { name := "threadTrip", fn := fun _ => fun
  | [d1, d2, d3, d4] => { results := [.lit (.bool false)], args := [d1, d2, d3, d4] }
  | _ => none }
def ThreadTripWrongFalsely : Prop := threadTripRow.holds Try.pinned (OpenSpec.ofChange threadTripWrong)

/- THE SECOND FORM. 'bulk': how many values and letters a reading holds, each counted each time it is reached (what is shared counts as often as it is met; a slice's spare places count too). A statement '..UptoSaid' is the law's where the arguments, and the package variables that the reading takes, are together of bulk at most 1048576: NARROWER than '..Said'. Prove '..Said' where nothing that the law and all that it calls make is longer than what came in: it says more and counts as full. Else prove '..UptoSaid'. A law counts once. -/
mutual
def uptoBulk {H : Type} : DataW H → Nat
  | .lit (.string bytes) => bytes.length + 1
  | .lit _ => 1
  | .nil => 1
  | .ptr d => uptoBulk d + 1
  | .slice elems spare => uptoBulkAll elems + uptoBulkAll spare + 1
  | .agg parts => uptoBulkAll parts + 1
  | .iface _ d => uptoBulk d + 1
  | .map entries => uptoBulkEntries entries + 1
  | .held _ => 1
def uptoBulkAll {H : Type} : List (DataW H) → Nat
  | [] => 0
  | d :: r => uptoBulk d + uptoBulkAll r
def uptoBulkEntries {H : Type} : List (Lit × DataW H) → Nat
  | [] => 0
  | x :: r => uptoBulkEntry x + uptoBulkEntries r
def uptoBulkEntry {H : Type} : Lit × DataW H → Nat
  | (.string bytes, d) => bytes.length + uptoBulk d + 1
  | (_, d) => uptoBulk d + 1
 end
def uptoSmall : (H : Type) → List (DataW H) → Bool := fun _ ds => decide (uptoBulkAll ds ≤ 1048576)
def OpenSpec.upto (s : _root_.Go.ChangeSpec) : _root_.Go.OpenSpec := { _root_.Go.OpenSpec.ofChange s with cond := some uptoSmall }

/-- 'donjonlaw20.ThreadAsks', WHERE WHAT IT READS IS OF BULK AT MOST 1048576: true; the input reads as it did. -/
def threadAsksUptoRow : OpenClaim := { program := "ytommhbofncgjaaa", sum := "a2fb9d19ebabad6dfb7438958bb0cab97069090dab4702c787c19890e6cfbf55", func := "donjon/donjonlaw20.ThreadAsks", spec := "threadAsks", apart := false, narrowed := true }
def ThreadAsksUptoSaid : Prop := threadAsksUptoRow.holds Try.pinned (OpenSpec.upto threadAsksSpec)

/-- 'donjonlaw20.ThreadDoes', WHERE WHAT IT READS IS OF BULK AT MOST 1048576: true; the input reads as it did. -/
def threadDoesUptoRow : OpenClaim := { program := "ytommhbofncgjaaa", sum := "a2fb9d19ebabad6dfb7438958bb0cab97069090dab4702c787c19890e6cfbf55", func := "donjon/donjonlaw20.ThreadDoes", spec := "threadDoes", apart := false, narrowed := true }
def ThreadDoesUptoSaid : Prop := threadDoesUptoRow.holds Try.pinned (OpenSpec.upto threadDoesSpec)

/-- 'donjonlaw20.ThreadRight', WHERE WHAT IT READS IS OF BULK AT MOST 1048576: true; the input reads as it did. -/
def threadRightUptoRow : OpenClaim := { program := "ytommhbofncgjaaa", sum := "a2fb9d19ebabad6dfb7438958bb0cab97069090dab4702c787c19890e6cfbf55", func := "donjon/donjonlaw20.ThreadRight", spec := "threadRight", apart := false, narrowed := true }
def ThreadRightUptoSaid : Prop := threadRightUptoRow.holds Try.pinned (OpenSpec.upto threadRightSpec)

/-- 'donjonlaw20.ThreadOnly', WHERE WHAT IT READS IS OF BULK AT MOST 1048576: true; the input reads as it did. -/
def threadOnlyUptoRow : OpenClaim := { program := "ytommhbofncgjaaa", sum := "a2fb9d19ebabad6dfb7438958bb0cab97069090dab4702c787c19890e6cfbf55", func := "donjon/donjonlaw20.ThreadOnly", spec := "threadOnly", apart := false, narrowed := true }
def ThreadOnlyUptoSaid : Prop := threadOnlyUptoRow.holds Try.pinned (OpenSpec.upto threadOnlySpec)

/-- 'donjonlaw20.ThreadTrip', WHERE WHAT IT READS IS OF BULK AT MOST 1048576: true; the input reads as it did. -/
def threadTripUptoRow : OpenClaim := { program := "ytommhbofncgjaaa", sum := "a2fb9d19ebabad6dfb7438958bb0cab97069090dab4702c787c19890e6cfbf55", func := "donjon/donjonlaw20.ThreadTrip", spec := "threadTrip", apart := false, narrowed := true }
def ThreadTripUptoSaid : Prop := threadTripUptoRow.holds Try.pinned (OpenSpec.upto threadTripSpec)

end Rows
end Go.Proofs.Ytommhbofncgjaaa
