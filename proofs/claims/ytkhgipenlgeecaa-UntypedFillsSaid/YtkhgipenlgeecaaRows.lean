/-
  No cell of these rows narrows 'for every input' (looked for: loops, veiled, ifaces, maps, wideKeys, modest, calm, conditions, laid).
  DERIVED. THE GIVEN ROWS OF THIS SEAT. 12 by the template 'for every input the law returns true; each argument reads behind the call as it read before'; 0 by the template 'total and deterministic' (their statements: YtkhgipenlgeecaaTotals.lean).
  GIVEN WITH THE SEED: the statements are not yours to turn. If you find one false, say at which input.
  Laid BY PROGRAM, IN A SANDBOX (cutbox-rows.mjs): the forced cells as the released guide's own fill.sh prints them over the translation e69c9a6b40556a83… (all of the seat's roots in one cut). By AI agents, Wed Nov 11 2026. No macro, syntax, notation, axiom, sorry.
-/
import Derived.Test.YtkhgipenlgeecaaChecked
import GoSem.Claim
import GoSem.ClaimJoined
import GoSem.ClaimMapViews
import Derived.JoinedTies
import Derived.KernelRfl
namespace Go.Proofs.Ytkhgipenlgeecaa
/- THE CELL 'sum', in the pinned program and in every row, IS THE sha256 OF THE DUMP (.gsa) THAT YtkhgipenlgeecaaProg.lean LOADS. Nothing in Lean hashes anything: it is a label: what it is worth is what the hold of that sum in a sandbox is worth. -/
noncomputable def Try.pinned : Pinned := { name := "ytkhgipenlgeecaa", sum := "e69c9a6b40556a831e1fbbc188f8788a04da6cbbf0212a145de7a30502540f58", checked := Try.checked }
namespace Rows
def none {H : Type} : Left H := { results := [], args := [] }

/-- 'donjonlaw03.SpanTells': WHATEVER THE INPUT: true; the input reads as it did. -/
def spanTellsSpec : ChangeSpec := { name := "spanTells", fn := fun _ => fun
  | [d1, d2, d3, d4] => { results := [.lit (.bool true)], args := [d1, d2, d3, d4] }
  | _ => none }
def spanTellsRow : OpenClaim := { program := "ytkhgipenlgeecaa", sum := "e69c9a6b40556a831e1fbbc188f8788a04da6cbbf0212a145de7a30502540f58", func := "donjon/donjonlaw03.SpanTells", spec := "spanTells", apart := false }
def SpanTellsSaid : Prop := spanTellsRow.holds Try.pinned (OpenSpec.ofChange spanTellsSpec)

/-- ITS FALSE NEIGHBOUR: 'it returns false'. Refute it at one input. -/
def spanTellsWrong : ChangeSpec := { name := "spanTells", fn := fun _ => fun
  | [d1, d2, d3, d4] => { results := [.lit (.bool false)], args := [d1, d2, d3, d4] }
  | _ => none }
def SpanTellsWrongFalsely : Prop := spanTellsRow.holds Try.pinned (OpenSpec.ofChange spanTellsWrong)

/-- 'donjonlaw03.SpanLists': WHATEVER THE INPUT: true; the input reads as it did. -/
def spanListsSpec : ChangeSpec := { name := "spanLists", fn := fun _ => fun
  | [d1, d2, d3] => { results := [.lit (.bool true)], args := [d1, d2, d3] }
  | _ => none }
def spanListsRow : OpenClaim := { program := "ytkhgipenlgeecaa", sum := "e69c9a6b40556a831e1fbbc188f8788a04da6cbbf0212a145de7a30502540f58", func := "donjon/donjonlaw03.SpanLists", spec := "spanLists", apart := false }
def SpanListsSaid : Prop := spanListsRow.holds Try.pinned (OpenSpec.ofChange spanListsSpec)

/-- ITS FALSE NEIGHBOUR: 'it returns false'. Refute it at one input. -/
def spanListsWrong : ChangeSpec := { name := "spanLists", fn := fun _ => fun
  | [d1, d2, d3] => { results := [.lit (.bool false)], args := [d1, d2, d3] }
  | _ => none }
def SpanListsWrongFalsely : Prop := spanListsRow.holds Try.pinned (OpenSpec.ofChange spanListsWrong)

/-- 'donjonlaw03.SpanNests': WHATEVER THE INPUT: true; the input reads as it did. -/
def spanNestsSpec : ChangeSpec := { name := "spanNests", fn := fun _ => fun
  | [d1, d2] => { results := [.lit (.bool true)], args := [d1, d2] }
  | _ => none }
def spanNestsRow : OpenClaim := { program := "ytkhgipenlgeecaa", sum := "e69c9a6b40556a831e1fbbc188f8788a04da6cbbf0212a145de7a30502540f58", func := "donjon/donjonlaw03.SpanNests", spec := "spanNests", apart := false }
def SpanNestsSaid : Prop := spanNestsRow.holds Try.pinned (OpenSpec.ofChange spanNestsSpec)

/-- ITS FALSE NEIGHBOUR: 'it returns false'. Refute it at one input. -/
def spanNestsWrong : ChangeSpec := { name := "spanNests", fn := fun _ => fun
  | [d1, d2] => { results := [.lit (.bool false)], args := [d1, d2] }
  | _ => none }
def SpanNestsWrongFalsely : Prop := spanNestsRow.holds Try.pinned (OpenSpec.ofChange spanNestsWrong)

/-- 'donjonlaw03.SpanCovers': WHATEVER THE INPUT: true; the input reads as it did. -/
def spanCoversSpec : ChangeSpec := { name := "spanCovers", fn := fun _ => fun
  | [d1, d2] => { results := [.lit (.bool true)], args := [d1, d2] }
  | _ => none }
def spanCoversRow : OpenClaim := { program := "ytkhgipenlgeecaa", sum := "e69c9a6b40556a831e1fbbc188f8788a04da6cbbf0212a145de7a30502540f58", func := "donjon/donjonlaw03.SpanCovers", spec := "spanCovers", apart := false }
def SpanCoversSaid : Prop := spanCoversRow.holds Try.pinned (OpenSpec.ofChange spanCoversSpec)

/-- ITS FALSE NEIGHBOUR: 'it returns false'. Refute it at one input. -/
def spanCoversWrong : ChangeSpec := { name := "spanCovers", fn := fun _ => fun
  | [d1, d2] => { results := [.lit (.bool false)], args := [d1, d2] }
  | _ => none }
def SpanCoversWrongFalsely : Prop := spanCoversRow.holds Try.pinned (OpenSpec.ofChange spanCoversWrong)

/-- 'donjonlaw03.SpanHalves': WHATEVER THE INPUT: true; the input reads as it did. -/
def spanHalvesSpec : ChangeSpec := { name := "spanHalves", fn := fun _ => fun
  | [d1, d2] => { results := [.lit (.bool true)], args := [d1, d2] }
  | _ => none }
def spanHalvesRow : OpenClaim := { program := "ytkhgipenlgeecaa", sum := "e69c9a6b40556a831e1fbbc188f8788a04da6cbbf0212a145de7a30502540f58", func := "donjon/donjonlaw03.SpanHalves", spec := "spanHalves", apart := false }
def SpanHalvesSaid : Prop := spanHalvesRow.holds Try.pinned (OpenSpec.ofChange spanHalvesSpec)

/-- ITS FALSE NEIGHBOUR: 'it returns false'. Refute it at one input. -/
def spanHalvesWrong : ChangeSpec := { name := "spanHalves", fn := fun _ => fun
  | [d1, d2] => { results := [.lit (.bool false)], args := [d1, d2] }
  | _ => none }
def SpanHalvesWrongFalsely : Prop := spanHalvesRow.holds Try.pinned (OpenSpec.ofChange spanHalvesWrong)

/-- 'donjonlaw03.SpanLong': WHATEVER THE INPUT: true; the input reads as it did. -/
def spanLongSpec : ChangeSpec := { name := "spanLong", fn := fun _ => fun
  | [d1, d2] => { results := [.lit (.bool true)], args := [d1, d2] }
  | _ => none }
def spanLongRow : OpenClaim := { program := "ytkhgipenlgeecaa", sum := "e69c9a6b40556a831e1fbbc188f8788a04da6cbbf0212a145de7a30502540f58", func := "donjon/donjonlaw03.SpanLong", spec := "spanLong", apart := false }
def SpanLongSaid : Prop := spanLongRow.holds Try.pinned (OpenSpec.ofChange spanLongSpec)

/-- ITS FALSE NEIGHBOUR: 'it returns false'. Refute it at one input. -/
def spanLongWrong : ChangeSpec := { name := "spanLong", fn := fun _ => fun
  | [d1, d2] => { results := [.lit (.bool false)], args := [d1, d2] }
  | _ => none }
def SpanLongWrongFalsely : Prop := spanLongRow.holds Try.pinned (OpenSpec.ofChange spanLongWrong)

/-- 'donjonlaw03.SpanSplits': WHATEVER THE INPUT: true; the input reads as it did. -/
def spanSplitsSpec : ChangeSpec := { name := "spanSplits", fn := fun _ => fun
  | [d1, d2] => { results := [.lit (.bool true)], args := [d1, d2] }
  | _ => none }
def spanSplitsRow : OpenClaim := { program := "ytkhgipenlgeecaa", sum := "e69c9a6b40556a831e1fbbc188f8788a04da6cbbf0212a145de7a30502540f58", func := "donjon/donjonlaw03.SpanSplits", spec := "spanSplits", apart := false }
def SpanSplitsSaid : Prop := spanSplitsRow.holds Try.pinned (OpenSpec.ofChange spanSplitsSpec)

/-- ITS FALSE NEIGHBOUR: 'it returns false'. Refute it at one input. -/
def spanSplitsWrong : ChangeSpec := { name := "spanSplits", fn := fun _ => fun
  | [d1, d2] => { results := [.lit (.bool false)], args := [d1, d2] }
  | _ => none }
def SpanSplitsWrongFalsely : Prop := spanSplitsRow.holds Try.pinned (OpenSpec.ofChange spanSplitsWrong)

/-- 'donjonlaw06.UntypedPlans': WHATEVER THE INPUT: true; the input reads as it did. -/
def untypedPlansSpec : ChangeSpec := { name := "untypedPlans", fn := fun _ => fun
  | [d1, d2, d3] => { results := [.lit (.bool true)], args := [d1, d2, d3] }
  | _ => none }
def untypedPlansRow : OpenClaim := { program := "ytkhgipenlgeecaa", sum := "e69c9a6b40556a831e1fbbc188f8788a04da6cbbf0212a145de7a30502540f58", func := "donjon/donjonlaw06.UntypedPlans", spec := "untypedPlans", apart := false }
def UntypedPlansSaid : Prop := untypedPlansRow.holds Try.pinned (OpenSpec.ofChange untypedPlansSpec)

/-- ITS FALSE NEIGHBOUR: 'it returns false'. Refute it at one input. -/
def untypedPlansWrong : ChangeSpec := { name := "untypedPlans", fn := fun _ => fun
  | [d1, d2, d3] => { results := [.lit (.bool false)], args := [d1, d2, d3] }
  | _ => none }
def UntypedPlansWrongFalsely : Prop := untypedPlansRow.holds Try.pinned (OpenSpec.ofChange untypedPlansWrong)

/-- 'donjonlaw06.UntypedFills': WHATEVER THE INPUT: true; the input reads as it did. -/
def untypedFillsSpec : ChangeSpec := { name := "untypedFills", fn := fun _ => fun
  | [d1, d2] => { results := [.lit (.bool true)], args := [d1, d2] }
  | _ => none }
def untypedFillsRow : OpenClaim := { program := "ytkhgipenlgeecaa", sum := "e69c9a6b40556a831e1fbbc188f8788a04da6cbbf0212a145de7a30502540f58", func := "donjon/donjonlaw06.UntypedFills", spec := "untypedFills", apart := false }
def UntypedFillsSaid : Prop := untypedFillsRow.holds Try.pinned (OpenSpec.ofChange untypedFillsSpec)

/-- ITS FALSE NEIGHBOUR: 'it returns false'. Refute it at one input. -/
def untypedFillsWrong : ChangeSpec := { name := "untypedFills", fn := fun _ => fun
  | [d1, d2] => { results := [.lit (.bool false)], args := [d1, d2] }
  | _ => none }
def UntypedFillsWrongFalsely : Prop := untypedFillsRow.holds Try.pinned (OpenSpec.ofChange untypedFillsWrong)

/-- 'donjonlaw06.UntypedOneByOne': WHATEVER THE INPUT: true; the input reads as it did. -/
def untypedOneByOneSpec : ChangeSpec := { name := "untypedOneByOne", fn := fun _ => fun
  | [d1, d2, d3] => { results := [.lit (.bool true)], args := [d1, d2, d3] }
  | _ => none }
def untypedOneByOneRow : OpenClaim := { program := "ytkhgipenlgeecaa", sum := "e69c9a6b40556a831e1fbbc188f8788a04da6cbbf0212a145de7a30502540f58", func := "donjon/donjonlaw06.UntypedOneByOne", spec := "untypedOneByOne", apart := false }
def UntypedOneByOneSaid : Prop := untypedOneByOneRow.holds Try.pinned (OpenSpec.ofChange untypedOneByOneSpec)

/-- ITS FALSE NEIGHBOUR: 'it returns false'. Refute it at one input. -/
def untypedOneByOneWrong : ChangeSpec := { name := "untypedOneByOne", fn := fun _ => fun
  | [d1, d2, d3] => { results := [.lit (.bool false)], args := [d1, d2, d3] }
  | _ => none }
def UntypedOneByOneWrongFalsely : Prop := untypedOneByOneRow.holds Try.pinned (OpenSpec.ofChange untypedOneByOneWrong)

/-- 'donjonlaw06.UntypedLeft': WHATEVER THE INPUT: true; the input reads as it did. -/
def untypedLeftSpec : ChangeSpec := { name := "untypedLeft", fn := fun _ => fun
  | [d1, d2, d3] => { results := [.lit (.bool true)], args := [d1, d2, d3] }
  | _ => none }
def untypedLeftRow : OpenClaim := { program := "ytkhgipenlgeecaa", sum := "e69c9a6b40556a831e1fbbc188f8788a04da6cbbf0212a145de7a30502540f58", func := "donjon/donjonlaw06.UntypedLeft", spec := "untypedLeft", apart := false }
def UntypedLeftSaid : Prop := untypedLeftRow.holds Try.pinned (OpenSpec.ofChange untypedLeftSpec)

/-- ITS FALSE NEIGHBOUR: 'it returns false'. Refute it at one input. -/
def untypedLeftWrong : ChangeSpec := { name := "untypedLeft", fn := fun _ => fun
  | [d1, d2, d3] => { results := [.lit (.bool false)], args := [d1, d2, d3] }
  | _ => none }
def UntypedLeftWrongFalsely : Prop := untypedLeftRow.holds Try.pinned (OpenSpec.ofChange untypedLeftWrong)

/-- 'donjonlaw06.UntypedApart': WHATEVER THE INPUT: true; the input reads as it did. -/
def untypedApartSpec : ChangeSpec := { name := "untypedApart", fn := fun _ => fun
  | [d1, d2] => { results := [.lit (.bool true)], args := [d1, d2] }
  | _ => none }
def untypedApartRow : OpenClaim := { program := "ytkhgipenlgeecaa", sum := "e69c9a6b40556a831e1fbbc188f8788a04da6cbbf0212a145de7a30502540f58", func := "donjon/donjonlaw06.UntypedApart", spec := "untypedApart", apart := false }
def UntypedApartSaid : Prop := untypedApartRow.holds Try.pinned (OpenSpec.ofChange untypedApartSpec)

/-- ITS FALSE NEIGHBOUR: 'it returns false'. Refute it at one input. -/
def untypedApartWrong : ChangeSpec := { name := "untypedApart", fn := fun _ => fun
  | [d1, d2] => { results := [.lit (.bool false)], args := [d1, d2] }
  | _ => none }
def UntypedApartWrongFalsely : Prop := untypedApartRow.holds Try.pinned (OpenSpec.ofChange untypedApartWrong)

/- THE SECOND FORM. 'bulk': how many values and letters a reading holds, each counted each time it is reached (what is shared counts as often as it is met; a slice's spare places count too). A statement '..UptoSaid' is the law's where the arguments, and the package variables that the reading takes, are together of bulk at most 1048576: NARROWER than '..Said'. Prove '..Said' where nothing that the law and all that it calls make is longer than what came in: it says more and counts as full. Else prove '..UptoSaid'. A law counts once. -/
mutual
def uptoBulk {H : Type} : DataW H → Nat
  | .lit (.string bytes) => bytes.length + 1
  | .lit _ => 1
  | .nil => 1
  | .ptr d => uptoBulk d + 1
  | .slice elems spare => uptoBulkAll elems + uptoBulkAll spare + 1
  | .agg parts => uptoBulkAll parts + 1
  | .iface _ d => uptoBulk d + 1
  | .map entries => uptoBulkEntries entries + 1
  | .held _ => 1
def uptoBulkAll {H : Type} : List (DataW H) → Nat
  | [] => 0
  | d :: r => uptoBulk d + uptoBulkAll r
def uptoBulkEntries {H : Type} : List (Lit × DataW H) → Nat
  | [] => 0
  | x :: r => uptoBulkEntry x + uptoBulkEntries r
def uptoBulkEntry {H : Type} : Lit × DataW H → Nat
  | (.string bytes, d) => bytes.length + uptoBulk d + 1
  | (_, d) => uptoBulk d + 1
 end
def uptoSmall : (H : Type) → List (DataW H) → Bool := fun _ ds => decide (uptoBulkAll ds ≤ 1048576)
def OpenSpec.upto (s : _root_.Go.ChangeSpec) : _root_.Go.OpenSpec := { _root_.Go.OpenSpec.ofChange s with cond := some uptoSmall }

/-- 'donjonlaw03.SpanTells', WHERE WHAT IT READS IS OF BULK AT MOST 1048576: true; the input reads as it did. -/
def spanTellsUptoRow : OpenClaim := { program := "ytkhgipenlgeecaa", sum := "e69c9a6b40556a831e1fbbc188f8788a04da6cbbf0212a145de7a30502540f58", func := "donjon/donjonlaw03.SpanTells", spec := "spanTells", apart := false, narrowed := true }
def SpanTellsUptoSaid : Prop := spanTellsUptoRow.holds Try.pinned (OpenSpec.upto spanTellsSpec)

/-- 'donjonlaw03.SpanLists', WHERE WHAT IT READS IS OF BULK AT MOST 1048576: true; the input reads as it did. -/
def spanListsUptoRow : OpenClaim := { program := "ytkhgipenlgeecaa", sum := "e69c9a6b40556a831e1fbbc188f8788a04da6cbbf0212a145de7a30502540f58", func := "donjon/donjonlaw03.SpanLists", spec := "spanLists", apart := false, narrowed := true }
def SpanListsUptoSaid : Prop := spanListsUptoRow.holds Try.pinned (OpenSpec.upto spanListsSpec)

/-- 'donjonlaw03.SpanNests', WHERE WHAT IT READS IS OF BULK AT MOST 1048576: true; the input reads as it did. -/
def spanNestsUptoRow : OpenClaim := { program := "ytkhgipenlgeecaa", sum := "e69c9a6b40556a831e1fbbc188f8788a04da6cbbf0212a145de7a30502540f58", func := "donjon/donjonlaw03.SpanNests", spec := "spanNests", apart := false, narrowed := true }
def SpanNestsUptoSaid : Prop := spanNestsUptoRow.holds Try.pinned (OpenSpec.upto spanNestsSpec)

/-- 'donjonlaw03.SpanCovers', WHERE WHAT IT READS IS OF BULK AT MOST 1048576: true; the input reads as it did. -/
def spanCoversUptoRow : OpenClaim := { program := "ytkhgipenlgeecaa", sum := "e69c9a6b40556a831e1fbbc188f8788a04da6cbbf0212a145de7a30502540f58", func := "donjon/donjonlaw03.SpanCovers", spec := "spanCovers", apart := false, narrowed := true }
def SpanCoversUptoSaid : Prop := spanCoversUptoRow.holds Try.pinned (OpenSpec.upto spanCoversSpec)

/-- 'donjonlaw03.SpanHalves', WHERE WHAT IT READS IS OF BULK AT MOST 1048576: true; the input reads as it did. -/
def spanHalvesUptoRow : OpenClaim := { program := "ytkhgipenlgeecaa", sum := "e69c9a6b40556a831e1fbbc188f8788a04da6cbbf0212a145de7a30502540f58", func := "donjon/donjonlaw03.SpanHalves", spec := "spanHalves", apart := false, narrowed := true }
def SpanHalvesUptoSaid : Prop := spanHalvesUptoRow.holds Try.pinned (OpenSpec.upto spanHalvesSpec)

/-- 'donjonlaw03.SpanLong', WHERE WHAT IT READS IS OF BULK AT MOST 1048576: true; the input reads as it did. -/
def spanLongUptoRow : OpenClaim := { program := "ytkhgipenlgeecaa", sum := "e69c9a6b40556a831e1fbbc188f8788a04da6cbbf0212a145de7a30502540f58", func := "donjon/donjonlaw03.SpanLong", spec := "spanLong", apart := false, narrowed := true }
def SpanLongUptoSaid : Prop := spanLongUptoRow.holds Try.pinned (OpenSpec.upto spanLongSpec)

/-- 'donjonlaw03.SpanSplits', WHERE WHAT IT READS IS OF BULK AT MOST 1048576: true; the input reads as it did. -/
def spanSplitsUptoRow : OpenClaim := { program := "ytkhgipenlgeecaa", sum := "e69c9a6b40556a831e1fbbc188f8788a04da6cbbf0212a145de7a30502540f58", func := "donjon/donjonlaw03.SpanSplits", spec := "spanSplits", apart := false, narrowed := true }
def SpanSplitsUptoSaid : Prop := spanSplitsUptoRow.holds Try.pinned (OpenSpec.upto spanSplitsSpec)

/-- 'donjonlaw06.UntypedPlans', WHERE WHAT IT READS IS OF BULK AT MOST 1048576: true; the input reads as it did. -/
def untypedPlansUptoRow : OpenClaim := { program := "ytkhgipenlgeecaa", sum := "e69c9a6b40556a831e1fbbc188f8788a04da6cbbf0212a145de7a30502540f58", func := "donjon/donjonlaw06.UntypedPlans", spec := "untypedPlans", apart := false, narrowed := true }
def UntypedPlansUptoSaid : Prop := untypedPlansUptoRow.holds Try.pinned (OpenSpec.upto untypedPlansSpec)

/-- 'donjonlaw06.UntypedFills', WHERE WHAT IT READS IS OF BULK AT MOST 1048576: true; the input reads as it did. -/
def untypedFillsUptoRow : OpenClaim := { program := "ytkhgipenlgeecaa", sum := "e69c9a6b40556a831e1fbbc188f8788a04da6cbbf0212a145de7a30502540f58", func := "donjon/donjonlaw06.UntypedFills", spec := "untypedFills", apart := false, narrowed := true }
def UntypedFillsUptoSaid : Prop := untypedFillsUptoRow.holds Try.pinned (OpenSpec.upto untypedFillsSpec)

/-- 'donjonlaw06.UntypedOneByOne', WHERE WHAT IT READS IS OF BULK AT MOST 1048576: true; the input reads as it did. -/
def untypedOneByOneUptoRow : OpenClaim := { program := "ytkhgipenlgeecaa", sum := "e69c9a6b40556a831e1fbbc188f8788a04da6cbbf0212a145de7a30502540f58", func := "donjon/donjonlaw06.UntypedOneByOne", spec := "untypedOneByOne", apart := false, narrowed := true }
def UntypedOneByOneUptoSaid : Prop := untypedOneByOneUptoRow.holds Try.pinned (OpenSpec.upto untypedOneByOneSpec)

/-- 'donjonlaw06.UntypedLeft', WHERE WHAT IT READS IS OF BULK AT MOST 1048576: true; the input reads as it did. -/
def untypedLeftUptoRow : OpenClaim := { program := "ytkhgipenlgeecaa", sum := "e69c9a6b40556a831e1fbbc188f8788a04da6cbbf0212a145de7a30502540f58", func := "donjon/donjonlaw06.UntypedLeft", spec := "untypedLeft", apart := false, narrowed := true }
def UntypedLeftUptoSaid : Prop := untypedLeftUptoRow.holds Try.pinned (OpenSpec.upto untypedLeftSpec)

/-- 'donjonlaw06.UntypedApart', WHERE WHAT IT READS IS OF BULK AT MOST 1048576: true; the input reads as it did. -/
def untypedApartUptoRow : OpenClaim := { program := "ytkhgipenlgeecaa", sum := "e69c9a6b40556a831e1fbbc188f8788a04da6cbbf0212a145de7a30502540f58", func := "donjon/donjonlaw06.UntypedApart", spec := "untypedApart", apart := false, narrowed := true }
def UntypedApartUptoSaid : Prop := untypedApartUptoRow.holds Try.pinned (OpenSpec.upto untypedApartSpec)

end Rows
end Go.Proofs.Ytkhgipenlgeecaa
