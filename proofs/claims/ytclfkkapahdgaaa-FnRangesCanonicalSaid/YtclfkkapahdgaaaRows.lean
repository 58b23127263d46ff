/-
  No cell of these rows narrows 'for every input' (looked for: loops, veiled, ifaces, maps, wideKeys, modest, calm, conditions, laid).
  DERIVED. THE GIVEN ROWS OF THIS SEAT. 18 by the template 'for every input the law returns true; each argument reads behind the call as it read before'; 0 by the template 'total and deterministic' (their statements: YtclfkkapahdgaaaTotals.lean).
  GIVEN WITH THE SEED: the statements are not yours to turn. If you find one false, say at which input.
  Laid BY PROGRAM, IN A SANDBOX (cutbox-rows.mjs): the forced cells as the released guide's own fill.sh prints them over the translation 944239317f5402de… (all of the seat's roots in one cut). By AI agents, Wed Nov 11 2026. No macro, syntax, notation, axiom, sorry.
-/
import Derived.Test.YtclfkkapahdgaaaChecked
import GoSem.Claim
import GoSem.ClaimJoined
import GoSem.ClaimMapViews
import Derived.JoinedTies
import Derived.KernelRfl
namespace Go.Proofs.Ytclfkkapahdgaaa
/- THE CELL 'sum', in the pinned program and in every row, IS THE sha256 OF THE DUMP (.gsa) THAT YtclfkkapahdgaaaProg.lean LOADS. Nothing in Lean hashes anything: it is a label: what it is worth is what the hold of that sum in a sandbox is worth. -/
noncomputable def Try.pinned : Pinned := { name := "ytclfkkapahdgaaa", sum := "944239317f5402ded22bd46ea9293d53866e76c5638e2f77da5b786d486e57f5", checked := Try.checked }
namespace Rows
def none {H : Type} : Left H := { results := [], args := [] }

/-- 'laws.FnExactRangesValid': WHATEVER THE INPUT: true; the input reads as it did. -/
def fnExactRangesValidSpec : ChangeSpec := { name := "fnExactRangesValid", fn := fun _ => fun
  | [d] => { results := [.lit (.bool true)], args := [d] }
  | _ => none }
def fnExactRangesValidRow : OpenClaim := { program := "ytclfkkapahdgaaa", sum := "944239317f5402ded22bd46ea9293d53866e76c5638e2f77da5b786d486e57f5", func := "loop.example/multipathtransport/laws.FnExactRangesValid", spec := "fnExactRangesValid", apart := false }
def FnExactRangesValidSaid : Prop := fnExactRangesValidRow.holds Try.pinned (OpenSpec.ofChange fnExactRangesValidSpec)

/-- ITS FALSE NEIGHBOUR: 'it returns false'. Refute it at one input. -/
def fnExactRangesValidWrong : ChangeSpec := { name := "fnExactRangesValid", fn := fun _ => fun
  | [d] => { results := [.lit (.bool false)], args := [d] }
  | _ => none }
def FnExactRangesValidWrongFalsely : Prop := fnExactRangesValidRow.holds Try.pinned (OpenSpec.ofChange fnExactRangesValidWrong)

/-- 'laws.FnExactRangesCount': WHATEVER THE INPUT: true; the input reads as it did. -/
def fnExactRangesCountSpec : ChangeSpec := { name := "fnExactRangesCount", fn := fun _ => fun
  | [d] => { results := [.lit (.bool true)], args := [d] }
  | _ => none }
def fnExactRangesCountRow : OpenClaim := { program := "ytclfkkapahdgaaa", sum := "944239317f5402ded22bd46ea9293d53866e76c5638e2f77da5b786d486e57f5", func := "loop.example/multipathtransport/laws.FnExactRangesCount", spec := "fnExactRangesCount", apart := false }
def FnExactRangesCountSaid : Prop := fnExactRangesCountRow.holds Try.pinned (OpenSpec.ofChange fnExactRangesCountSpec)

/-- ITS FALSE NEIGHBOUR: 'it returns false'. Refute it at one input. -/
def fnExactRangesCountWrong : ChangeSpec := { name := "fnExactRangesCount", fn := fun _ => fun
  | [d] => { results := [.lit (.bool false)], args := [d] }
  | _ => none }
def FnExactRangesCountWrongFalsely : Prop := fnExactRangesCountRow.holds Try.pinned (OpenSpec.ofChange fnExactRangesCountWrong)

/-- 'laws.FnRangesPart': WHATEVER THE INPUT: true; the input reads as it did. -/
def fnRangesPartSpec : ChangeSpec := { name := "fnRangesPart", fn := fun _ => fun
  | [d1, d2] => { results := [.lit (.bool true)], args := [d1, d2] }
  | _ => none }
def fnRangesPartRow : OpenClaim := { program := "ytclfkkapahdgaaa", sum := "944239317f5402ded22bd46ea9293d53866e76c5638e2f77da5b786d486e57f5", func := "loop.example/multipathtransport/laws.FnRangesPart", spec := "fnRangesPart", apart := false }
def FnRangesPartSaid : Prop := fnRangesPartRow.holds Try.pinned (OpenSpec.ofChange fnRangesPartSpec)

/-- ITS FALSE NEIGHBOUR: 'it returns false'. Refute it at one input. -/
def fnRangesPartWrong : ChangeSpec := { name := "fnRangesPart", fn := fun _ => fun
  | [d1, d2] => { results := [.lit (.bool false)], args := [d1, d2] }
  | _ => none }
def FnRangesPartWrongFalsely : Prop := fnRangesPartRow.holds Try.pinned (OpenSpec.ofChange fnRangesPartWrong)

/-- 'laws.FnExactRangesHas': WHATEVER THE INPUT: true; the input reads as it did. -/
def fnExactRangesHasSpec : ChangeSpec := { name := "fnExactRangesHas", fn := fun _ => fun
  | [d1, d2] => { results := [.lit (.bool true)], args := [d1, d2] }
  | _ => none }
def fnExactRangesHasRow : OpenClaim := { program := "ytclfkkapahdgaaa", sum := "944239317f5402ded22bd46ea9293d53866e76c5638e2f77da5b786d486e57f5", func := "loop.example/multipathtransport/laws.FnExactRangesHas", spec := "fnExactRangesHas", unfollowed := true, recurses := true, apart := false }
def FnExactRangesHasSaid : Prop := fnExactRangesHasRow.holds Try.pinned (OpenSpec.ofChange fnExactRangesHasSpec)

/-- ITS FALSE NEIGHBOUR: 'it returns false'. Refute it at one input. -/
def fnExactRangesHasWrong : ChangeSpec := { name := "fnExactRangesHas", fn := fun _ => fun
  | [d1, d2] => { results := [.lit (.bool false)], args := [d1, d2] }
  | _ => none }
def FnExactRangesHasWrongFalsely : Prop := fnExactRangesHasRow.holds Try.pinned (OpenSpec.ofChange fnExactRangesHasWrong)

/-- 'laws.FnExactRangesGaps': WHATEVER THE INPUT: true; the input reads as it did. -/
def fnExactRangesGapsSpec : ChangeSpec := { name := "fnExactRangesGaps", fn := fun _ => fun
  | [d] => { results := [.lit (.bool true)], args := [d] }
  | _ => none }
def fnExactRangesGapsRow : OpenClaim := { program := "ytclfkkapahdgaaa", sum := "944239317f5402ded22bd46ea9293d53866e76c5638e2f77da5b786d486e57f5", func := "loop.example/multipathtransport/laws.FnExactRangesGaps", spec := "fnExactRangesGaps", apart := false }
def FnExactRangesGapsSaid : Prop := fnExactRangesGapsRow.holds Try.pinned (OpenSpec.ofChange fnExactRangesGapsSpec)

/-- ITS FALSE NEIGHBOUR: 'it returns false'. Refute it at one input. -/
def fnExactRangesGapsWrong : ChangeSpec := { name := "fnExactRangesGaps", fn := fun _ => fun
  | [d] => { results := [.lit (.bool false)], args := [d] }
  | _ => none }
def FnExactRangesGapsWrongFalsely : Prop := fnExactRangesGapsRow.holds Try.pinned (OpenSpec.ofChange fnExactRangesGapsWrong)

/-- 'laws.FnRangesCanonical': WHATEVER THE INPUT: true; the input reads as it did. -/
def fnRangesCanonicalSpec : ChangeSpec := { name := "fnRangesCanonical", fn := fun _ => fun
  | [d1, d2] => { results := [.lit (.bool true)], args := [d1, d2] }
  | _ => none }
def fnRangesCanonicalRow : OpenClaim := { program := "ytclfkkapahdgaaa", sum := "944239317f5402ded22bd46ea9293d53866e76c5638e2f77da5b786d486e57f5", func := "loop.example/multipathtransport/laws.FnRangesCanonical", spec := "fnRangesCanonical", apart := false }
def FnRangesCanonicalSaid : Prop := fnRangesCanonicalRow.holds Try.pinned (OpenSpec.ofChange fnRangesCanonicalSpec)

/-- ITS FALSE NEIGHBOUR: 'it returns false'. Refute it at one input. -/
def fnRangesCanonicalWrong : ChangeSpec := { name := "fnRangesCanonical", fn := fun _ => fun
  | [d1, d2] => { results := [.lit (.bool false)], args := [d1, d2] }
  | _ => none }
def FnRangesCanonicalWrongFalsely : Prop := fnRangesCanonicalRow.holds Try.pinned (OpenSpec.ofChange fnRangesCanonicalWrong)

/-- 'laws.FnExactRangesRemove': WHATEVER THE INPUT: true; the input reads as it did. -/
def fnExactRangesRemoveSpec : ChangeSpec := { name := "fnExactRangesRemove", fn := fun _ => fun
  | [d1, d2, d3] => { results := [.lit (.bool true)], args := [d1, d2, d3] }
  | _ => none }
def fnExactRangesRemoveRow : OpenClaim := { program := "ytclfkkapahdgaaa", sum := "944239317f5402ded22bd46ea9293d53866e76c5638e2f77da5b786d486e57f5", func := "loop.example/multipathtransport/laws.FnExactRangesRemove", spec := "fnExactRangesRemove", apart := false }
def FnExactRangesRemoveSaid : Prop := fnExactRangesRemoveRow.holds Try.pinned (OpenSpec.ofChange fnExactRangesRemoveSpec)

/-- ITS FALSE NEIGHBOUR: 'it returns false'. Refute it at one input. -/
def fnExactRangesRemoveWrong : ChangeSpec := { name := "fnExactRangesRemove", fn := fun _ => fun
  | [d1, d2, d3] => { results := [.lit (.bool false)], args := [d1, d2, d3] }
  | _ => none }
def FnExactRangesRemoveWrongFalsely : Prop := fnExactRangesRemoveRow.holds Try.pinned (OpenSpec.ofChange fnExactRangesRemoveWrong)

/-- 'laws.FnRangesGaps': WHATEVER THE INPUT: true; the input reads as it did. -/
def fnRangesGapsSpec : ChangeSpec := { name := "fnRangesGaps", fn := fun _ => fun
  | [d] => { results := [.lit (.bool true)], args := [d] }
  | _ => none }
def fnRangesGapsRow : OpenClaim := { program := "ytclfkkapahdgaaa", sum := "944239317f5402ded22bd46ea9293d53866e76c5638e2f77da5b786d486e57f5", func := "loop.example/multipathtransport/laws.FnRangesGaps", spec := "fnRangesGaps", unfollowed := true, recurses := true, apart := false }
def FnRangesGapsSaid : Prop := fnRangesGapsRow.holds Try.pinned (OpenSpec.ofChange fnRangesGapsSpec)

/-- ITS FALSE NEIGHBOUR: 'it returns false'. Refute it at one input. -/
def fnRangesGapsWrong : ChangeSpec := { name := "fnRangesGaps", fn := fun _ => fun
  | [d] => { results := [.lit (.bool false)], args := [d] }
  | _ => none }
def FnRangesGapsWrongFalsely : Prop := fnRangesGapsRow.holds Try.pinned (OpenSpec.ofChange fnRangesGapsWrong)

/-- 'laws.FnExactRangesAdd': WHATEVER THE INPUT: true; the input reads as it did. -/
def fnExactRangesAddSpec : ChangeSpec := { name := "fnExactRangesAdd", fn := fun _ => fun
  | [d1, d2, d3] => { results := [.lit (.bool true)], args := [d1, d2, d3] }
  | _ => none }
def fnExactRangesAddRow : OpenClaim := { program := "ytclfkkapahdgaaa", sum := "944239317f5402ded22bd46ea9293d53866e76c5638e2f77da5b786d486e57f5", func := "loop.example/multipathtransport/laws.FnExactRangesAdd", spec := "fnExactRangesAdd", apart := false }
def FnExactRangesAddSaid : Prop := fnExactRangesAddRow.holds Try.pinned (OpenSpec.ofChange fnExactRangesAddSpec)

/-- ITS FALSE NEIGHBOUR: 'it returns false'. Refute it at one input. -/
def fnExactRangesAddWrong : ChangeSpec := { name := "fnExactRangesAdd", fn := fun _ => fun
  | [d1, d2, d3] => { results := [.lit (.bool false)], args := [d1, d2, d3] }
  | _ => none }
def FnExactRangesAddWrongFalsely : Prop := fnExactRangesAddRow.holds Try.pinned (OpenSpec.ofChange fnExactRangesAddWrong)

/-- 'laws.FnRangesAddTwice': WHATEVER THE INPUT: true; the input reads as it did. -/
def fnRangesAddTwiceSpec : ChangeSpec := { name := "fnRangesAddTwice", fn := fun _ => fun
  | [d] => { results := [.lit (.bool true)], args := [d] }
  | _ => none }
def fnRangesAddTwiceRow : OpenClaim := { program := "ytclfkkapahdgaaa", sum := "944239317f5402ded22bd46ea9293d53866e76c5638e2f77da5b786d486e57f5", func := "loop.example/multipathtransport/laws.FnRangesAddTwice", spec := "fnRangesAddTwice", apart := false }
def FnRangesAddTwiceSaid : Prop := fnRangesAddTwiceRow.holds Try.pinned (OpenSpec.ofChange fnRangesAddTwiceSpec)

/-- ITS FALSE NEIGHBOUR: 'it returns false'. Refute it at one input. -/
def fnRangesAddTwiceWrong : ChangeSpec := { name := "fnRangesAddTwice", fn := fun _ => fun
  | [d] => { results := [.lit (.bool false)], args := [d] }
  | _ => none }
def FnRangesAddTwiceWrongFalsely : Prop := fnRangesAddTwiceRow.holds Try.pinned (OpenSpec.ofChange fnRangesAddTwiceWrong)

/-- 'laws.FnRangesUnionOrder': WHATEVER THE INPUT: true; the input reads as it did. -/
def fnRangesUnionOrderSpec : ChangeSpec := { name := "fnRangesUnionOrder", fn := fun _ => fun
  | [d] => { results := [.lit (.bool true)], args := [d] }
  | _ => none }
def fnRangesUnionOrderRow : OpenClaim := { program := "ytclfkkapahdgaaa", sum := "944239317f5402ded22bd46ea9293d53866e76c5638e2f77da5b786d486e57f5", func := "loop.example/multipathtransport/laws.FnRangesUnionOrder", spec := "fnRangesUnionOrder", apart := false }
def FnRangesUnionOrderSaid : Prop := fnRangesUnionOrderRow.holds Try.pinned (OpenSpec.ofChange fnRangesUnionOrderSpec)

/-- ITS FALSE NEIGHBOUR: 'it returns false'. Refute it at one input. -/
def fnRangesUnionOrderWrong : ChangeSpec := { name := "fnRangesUnionOrder", fn := fun _ => fun
  | [d] => { results := [.lit (.bool false)], args := [d] }
  | _ => none }
def FnRangesUnionOrderWrongFalsely : Prop := fnRangesUnionOrderRow.holds Try.pinned (OpenSpec.ofChange fnRangesUnionOrderWrong)

/-- 'laws.FnRangesFill': WHATEVER THE INPUT: true; the input reads as it did. -/
def fnRangesFillSpec : ChangeSpec := { name := "fnRangesFill", fn := fun _ => fun
  | [d] => { results := [.lit (.bool true)], args := [d] }
  | _ => none }
def fnRangesFillRow : OpenClaim := { program := "ytclfkkapahdgaaa", sum := "944239317f5402ded22bd46ea9293d53866e76c5638e2f77da5b786d486e57f5", func := "loop.example/multipathtransport/laws.FnRangesFill", spec := "fnRangesFill", apart := false }
def FnRangesFillSaid : Prop := fnRangesFillRow.holds Try.pinned (OpenSpec.ofChange fnRangesFillSpec)

/-- ITS FALSE NEIGHBOUR: 'it returns false'. Refute it at one input. -/
def fnRangesFillWrong : ChangeSpec := { name := "fnRangesFill", fn := fun _ => fun
  | [d] => { results := [.lit (.bool false)], args := [d] }
  | _ => none }
def FnRangesFillWrongFalsely : Prop := fnRangesFillRow.holds Try.pinned (OpenSpec.ofChange fnRangesFillWrong)

/-- 'laws.FnExactRangesUnion': WHATEVER THE INPUT: true; the input reads as it did. -/
def fnExactRangesUnionSpec : ChangeSpec := { name := "fnExactRangesUnion", fn := fun _ => fun
  | [d1, d2] => { results := [.lit (.bool true)], args := [d1, d2] }
  | _ => none }
def fnExactRangesUnionRow : OpenClaim := { program := "ytclfkkapahdgaaa", sum := "944239317f5402ded22bd46ea9293d53866e76c5638e2f77da5b786d486e57f5", func := "loop.example/multipathtransport/laws.FnExactRangesUnion", spec := "fnExactRangesUnion", apart := false }
def FnExactRangesUnionSaid : Prop := fnExactRangesUnionRow.holds Try.pinned (OpenSpec.ofChange fnExactRangesUnionSpec)

/-- ITS FALSE NEIGHBOUR: 'it returns false'. Refute it at one input. -/
def fnExactRangesUnionWrong : ChangeSpec := { name := "fnExactRangesUnion", fn := fun _ => fun
  | [d1, d2] => { results := [.lit (.bool false)], args := [d1, d2] }
  | _ => none }
def FnExactRangesUnionWrongFalsely : Prop := fnExactRangesUnionRow.holds Try.pinned (OpenSpec.ofChange fnExactRangesUnionWrong)

/-- 'laws.FnRangesCountAdd': WHATEVER THE INPUT: true; the input reads as it did. -/
def fnRangesCountAddSpec : ChangeSpec := { name := "fnRangesCountAdd", fn := fun _ => fun
  | [d1, d2] => { results := [.lit (.bool true)], args := [d1, d2] }
  | _ => none }
def fnRangesCountAddRow : OpenClaim := { program := "ytclfkkapahdgaaa", sum := "944239317f5402ded22bd46ea9293d53866e76c5638e2f77da5b786d486e57f5", func := "loop.example/multipathtransport/laws.FnRangesCountAdd", spec := "fnRangesCountAdd", unfollowed := true, recurses := true, apart := false }
def FnRangesCountAddSaid : Prop := fnRangesCountAddRow.holds Try.pinned (OpenSpec.ofChange fnRangesCountAddSpec)

/-- ITS FALSE NEIGHBOUR: 'it returns false'. Refute it at one input. -/
def fnRangesCountAddWrong : ChangeSpec := { name := "fnRangesCountAdd", fn := fun _ => fun
  | [d1, d2] => { results := [.lit (.bool false)], args := [d1, d2] }
  | _ => none }
def FnRangesCountAddWrongFalsely : Prop := fnRangesCountAddRow.holds Try.pinned (OpenSpec.ofChange fnRangesCountAddWrong)

/-- 'laws.FnRangesUndo': WHATEVER THE INPUT: true; the input reads as it did. -/
def fnRangesUndoSpec : ChangeSpec := { name := "fnRangesUndo", fn := fun _ => fun
  | [d] => { results := [.lit (.bool true)], args := [d] }
  | _ => none }
def fnRangesUndoRow : OpenClaim := { program := "ytclfkkapahdgaaa", sum := "944239317f5402ded22bd46ea9293d53866e76c5638e2f77da5b786d486e57f5", func := "loop.example/multipathtransport/laws.FnRangesUndo", spec := "fnRangesUndo", apart := false }
def FnRangesUndoSaid : Prop := fnRangesUndoRow.holds Try.pinned (OpenSpec.ofChange fnRangesUndoSpec)

/-- ITS FALSE NEIGHBOUR: 'it returns false'. Refute it at one input. -/
def fnRangesUndoWrong : ChangeSpec := { name := "fnRangesUndo", fn := fun _ => fun
  | [d] => { results := [.lit (.bool false)], args := [d] }
  | _ => none }
def FnRangesUndoWrongFalsely : Prop := fnRangesUndoRow.holds Try.pinned (OpenSpec.ofChange fnRangesUndoWrong)

/-- 'laws.FnRangesAdd': WHATEVER THE INPUT: true; the input reads as it did. -/
def fnRangesAddSpec : ChangeSpec := { name := "fnRangesAdd", fn := fun _ => fun
  | [d] => { results := [.lit (.bool true)], args := [d] }
  | _ => none }
def fnRangesAddRow : OpenClaim := { program := "ytclfkkapahdgaaa", sum := "944239317f5402ded22bd46ea9293d53866e76c5638e2f77da5b786d486e57f5", func := "loop.example/multipathtransport/laws.FnRangesAdd", spec := "fnRangesAdd", unfollowed := true, recurses := true, apart := false }
def FnRangesAddSaid : Prop := fnRangesAddRow.holds Try.pinned (OpenSpec.ofChange fnRangesAddSpec)

/-- ITS FALSE NEIGHBOUR: 'it returns false'. Refute it at one input. -/
def fnRangesAddWrong : ChangeSpec := { name := "fnRangesAdd", fn := fun _ => fun
  | [d] => { results := [.lit (.bool false)], args := [d] }
  | _ => none }
def FnRangesAddWrongFalsely : Prop := fnRangesAddRow.holds Try.pinned (OpenSpec.ofChange fnRangesAddWrong)

/-- 'laws.FnRangesUnion': WHATEVER THE INPUT: true; the input reads as it did. -/
def fnRangesUnionSpec : ChangeSpec := { name := "fnRangesUnion", fn := fun _ => fun
  | [d] => { results := [.lit (.bool true)], args := [d] }
  | _ => none }
def fnRangesUnionRow : OpenClaim := { program := "ytclfkkapahdgaaa", sum := "944239317f5402ded22bd46ea9293d53866e76c5638e2f77da5b786d486e57f5", func := "loop.example/multipathtransport/laws.FnRangesUnion", spec := "fnRangesUnion", unfollowed := true, recurses := true, apart := false }
def FnRangesUnionSaid : Prop := fnRangesUnionRow.holds Try.pinned (OpenSpec.ofChange fnRangesUnionSpec)

/-- ITS FALSE NEIGHBOUR: 'it returns false'. Refute it at one input. -/
def fnRangesUnionWrong : ChangeSpec := { name := "fnRangesUnion", fn := fun _ => fun
  | [d] => { results := [.lit (.bool false)], args := [d] }
  | _ => none }
def FnRangesUnionWrongFalsely : Prop := fnRangesUnionRow.holds Try.pinned (OpenSpec.ofChange fnRangesUnionWrong)

/-- 'laws.FnRangesFull': WHATEVER THE INPUT: true; the input reads as it did. -/
def fnRangesFullSpec : ChangeSpec := { name := "fnRangesFull", fn := fun _ => fun
  | [d] => { results := [.lit (.bool true)], args := [d] }
  | _ => none }
def fnRangesFullRow : OpenClaim := { program := "ytclfkkapahdgaaa", sum := "944239317f5402ded22bd46ea9293d53866e76c5638e2f77da5b786d486e57f5", func := "loop.example/multipathtransport/laws.FnRangesFull", spec := "fnRangesFull", apart := false }
def FnRangesFullSaid : Prop := fnRangesFullRow.holds Try.pinned (OpenSpec.ofChange fnRangesFullSpec)

/-- ITS FALSE NEIGHBOUR: 'it returns false'. Refute it at one input. -/
def fnRangesFullWrong : ChangeSpec := { name := "fnRangesFull", fn := fun _ => fun
  | [d] => { results := [.lit (.bool false)], args := [d] }
  | _ => none }
def FnRangesFullWrongFalsely : Prop := fnRangesFullRow.holds Try.pinned (OpenSpec.ofChange fnRangesFullWrong)

/- THE SECOND FORM. 'bulk': how many values and letters a reading holds, each counted each time it is reached (what is shared counts as often as it is met; a slice's spare places count too). A statement '..UptoSaid' is the law's where the arguments, and the package variables that the reading takes, are together of bulk at most 1048576: NARROWER than '..Said'. Prove '..Said' where nothing that the law and all that it calls make is longer than what came in: it says more and counts as full. Else prove '..UptoSaid'. A law counts once. -/
mutual
def uptoBulk {H : Type} : DataW H → Nat
  | .lit (.string bytes) => bytes.length + 1
  | .lit _ => 1
  | .nil => 1
  | .ptr d => uptoBulk d + 1
  | .slice elems spare => uptoBulkAll elems + uptoBulkAll spare + 1
  | .agg parts => uptoBulkAll parts + 1
  | .iface _ d => uptoBulk d + 1
  | .map entries => uptoBulkEntries entries + 1
  | .held _ => 1
def uptoBulkAll {H : Type} : List (DataW H) → Nat
  | [] => 0
  | d :: r => uptoBulk d + uptoBulkAll r
def uptoBulkEntries {H : Type} : List (Lit × DataW H) → Nat
  | [] => 0
  | x :: r => uptoBulkEntry x + uptoBulkEntries r
def uptoBulkEntry {H : Type} : Lit × DataW H → Nat
  | (.string bytes, d) => bytes.length + uptoBulk d + 1
  | (_, d) => uptoBulk d + 1
 end
def uptoSmall : (H : Type) → List (DataW H) → Bool := fun _ ds => decide (uptoBulkAll ds ≤ 1048576)
def OpenSpec.upto (s : _root_.Go.ChangeSpec) : _root_.Go.OpenSpec := { _root_.Go.OpenSpec.ofChange s with cond := some uptoSmall }

/-- 'laws.FnExactRangesValid', WHERE WHAT IT READS IS OF BULK AT MOST 1048576: true; the input reads as it did. -/
def fnExactRangesValidUptoRow : OpenClaim := { program := "ytclfkkapahdgaaa", sum := "944239317f5402ded22bd46ea9293d53866e76c5638e2f77da5b786d486e57f5", func := "loop.example/multipathtransport/laws.FnExactRangesValid", spec := "fnExactRangesValid", apart := false, narrowed := true }
def FnExactRangesValidUptoSaid : Prop := fnExactRangesValidUptoRow.holds Try.pinned (OpenSpec.upto fnExactRangesValidSpec)

/-- 'laws.FnExactRangesCount', WHERE WHAT IT READS IS OF BULK AT MOST 1048576: true; the input reads as it did. -/
def fnExactRangesCountUptoRow : OpenClaim := { program := "ytclfkkapahdgaaa", sum := "944239317f5402ded22bd46ea9293d53866e76c5638e2f77da5b786d486e57f5", func := "loop.example/multipathtransport/laws.FnExactRangesCount", spec := "fnExactRangesCount", apart := false, narrowed := true }
def FnExactRangesCountUptoSaid : Prop := fnExactRangesCountUptoRow.holds Try.pinned (OpenSpec.upto fnExactRangesCountSpec)

/-- 'laws.FnRangesPart', WHERE WHAT IT READS IS OF BULK AT MOST 1048576: true; the input reads as it did. -/
def fnRangesPartUptoRow : OpenClaim := { program := "ytclfkkapahdgaaa", sum := "944239317f5402ded22bd46ea9293d53866e76c5638e2f77da5b786d486e57f5", func := "loop.example/multipathtransport/laws.FnRangesPart", spec := "fnRangesPart", apart := false, narrowed := true }
def FnRangesPartUptoSaid : Prop := fnRangesPartUptoRow.holds Try.pinned (OpenSpec.upto fnRangesPartSpec)

/-- 'laws.FnExactRangesHas', WHERE WHAT IT READS IS OF BULK AT MOST 1048576: true; the input reads as it did. -/
def fnExactRangesHasUptoRow : OpenClaim := { program := "ytclfkkapahdgaaa", sum := "944239317f5402ded22bd46ea9293d53866e76c5638e2f77da5b786d486e57f5", func := "loop.example/multipathtransport/laws.FnExactRangesHas", spec := "fnExactRangesHas", unfollowed := true, recurses := true, apart := false, narrowed := true }
def FnExactRangesHasUptoSaid : Prop := fnExactRangesHasUptoRow.holds Try.pinned (OpenSpec.upto fnExactRangesHasSpec)

/-- 'laws.FnExactRangesGaps', WHERE WHAT IT READS IS OF BULK AT MOST 1048576: true; the input reads as it did. -/
def fnExactRangesGapsUptoRow : OpenClaim := { program := "ytclfkkapahdgaaa", sum := "944239317f5402ded22bd46ea9293d53866e76c5638e2f77da5b786d486e57f5", func := "loop.example/multipathtransport/laws.FnExactRangesGaps", spec := "fnExactRangesGaps", apart := false, narrowed := true }
def FnExactRangesGapsUptoSaid : Prop := fnExactRangesGapsUptoRow.holds Try.pinned (OpenSpec.upto fnExactRangesGapsSpec)

/-- 'laws.FnRangesCanonical', WHERE WHAT IT READS IS OF BULK AT MOST 1048576: true; the input reads as it did. -/
def fnRangesCanonicalUptoRow : OpenClaim := { program := "ytclfkkapahdgaaa", sum := "944239317f5402ded22bd46ea9293d53866e76c5638e2f77da5b786d486e57f5", func := "loop.example/multipathtransport/laws.FnRangesCanonical", spec := "fnRangesCanonical", apart := false, narrowed := true }
def FnRangesCanonicalUptoSaid : Prop := fnRangesCanonicalUptoRow.holds Try.pinned (OpenSpec.upto fnRangesCanonicalSpec)

/-- 'laws.FnExactRangesRemove', WHERE WHAT IT READS IS OF BULK AT MOST 1048576: true; the input reads as it did. -/
def fnExactRangesRemoveUptoRow : OpenClaim := { program := "ytclfkkapahdgaaa", sum := "944239317f5402ded22bd46ea9293d53866e76c5638e2f77da5b786d486e57f5", func := "loop.example/multipathtransport/laws.FnExactRangesRemove", spec := "fnExactRangesRemove", apart := false, narrowed := true }
def FnExactRangesRemoveUptoSaid : Prop := fnExactRangesRemoveUptoRow.holds Try.pinned (OpenSpec.upto fnExactRangesRemoveSpec)

/-- 'laws.FnRangesGaps', WHERE WHAT IT READS IS OF BULK AT MOST 1048576: true; the input reads as it did. -/
def fnRangesGapsUptoRow : OpenClaim := { program := "ytclfkkapahdgaaa", sum := "944239317f5402ded22bd46ea9293d53866e76c5638e2f77da5b786d486e57f5", func := "loop.example/multipathtransport/laws.FnRangesGaps", spec := "fnRangesGaps", unfollowed := true, recurses := true, apart := false, narrowed := true }
def FnRangesGapsUptoSaid : Prop := fnRangesGapsUptoRow.holds Try.pinned (OpenSpec.upto fnRangesGapsSpec)

/-- 'laws.FnExactRangesAdd', WHERE WHAT IT READS IS OF BULK AT MOST 1048576: true; the input reads as it did. -/
def fnExactRangesAddUptoRow : OpenClaim := { program := "ytclfkkapahdgaaa", sum := "944239317f5402ded22bd46ea9293d53866e76c5638e2f77da5b786d486e57f5", func := "loop.example/multipathtransport/laws.FnExactRangesAdd", spec := "fnExactRangesAdd", apart := false, narrowed := true }
def FnExactRangesAddUptoSaid : Prop := fnExactRangesAddUptoRow.holds Try.pinned (OpenSpec.upto fnExactRangesAddSpec)

/-- 'laws.FnRangesAddTwice', WHERE WHAT IT READS IS OF BULK AT MOST 1048576: true; the input reads as it did. -/
def fnRangesAddTwiceUptoRow : OpenClaim := { program := "ytclfkkapahdgaaa", sum := "944239317f5402ded22bd46ea9293d53866e76c5638e2f77da5b786d486e57f5", func := "loop.example/multipathtransport/laws.FnRangesAddTwice", spec := "fnRangesAddTwice", apart := false, narrowed := true }
def FnRangesAddTwiceUptoSaid : Prop := fnRangesAddTwiceUptoRow.holds Try.pinned (OpenSpec.upto fnRangesAddTwiceSpec)

/-- 'laws.FnRangesUnionOrder', WHERE WHAT IT READS IS OF BULK AT MOST 1048576: true; the input reads as it did. -/
def fnRangesUnionOrderUptoRow : OpenClaim := { program := "ytclfkkapahdgaaa", sum := "944239317f5402ded22bd46ea9293d53866e76c5638e2f77da5b786d486e57f5", func := "loop.example/multipathtransport/laws.FnRangesUnionOrder", spec := "fnRangesUnionOrder", apart := false, narrowed := true }
def FnRangesUnionOrderUptoSaid : Prop := fnRangesUnionOrderUptoRow.holds Try.pinned (OpenSpec.upto fnRangesUnionOrderSpec)

/-- 'laws.FnRangesFill', WHERE WHAT IT READS IS OF BULK AT MOST 1048576: true; the input reads as it did. -/
def fnRangesFillUptoRow : OpenClaim := { program := "ytclfkkapahdgaaa", sum := "944239317f5402ded22bd46ea9293d53866e76c5638e2f77da5b786d486e57f5", func := "loop.example/multipathtransport/laws.FnRangesFill", spec := "fnRangesFill", apart := false, narrowed := true }
def FnRangesFillUptoSaid : Prop := fnRangesFillUptoRow.holds Try.pinned (OpenSpec.upto fnRangesFillSpec)

/-- 'laws.FnExactRangesUnion', WHERE WHAT IT READS IS OF BULK AT MOST 1048576: true; the input reads as it did. -/
def fnExactRangesUnionUptoRow : OpenClaim := { program := "ytclfkkapahdgaaa", sum := "944239317f5402ded22bd46ea9293d53866e76c5638e2f77da5b786d486e57f5", func := "loop.example/multipathtransport/laws.FnExactRangesUnion", spec := "fnExactRangesUnion", apart := false, narrowed := true }
def FnExactRangesUnionUptoSaid : Prop := fnExactRangesUnionUptoRow.holds Try.pinned (OpenSpec.upto fnExactRangesUnionSpec)

/-- 'laws.FnRangesCountAdd', WHERE WHAT IT READS IS OF BULK AT MOST 1048576: true; the input reads as it did. -/
def fnRangesCountAddUptoRow : OpenClaim := { program := "ytclfkkapahdgaaa", sum := "944239317f5402ded22bd46ea9293d53866e76c5638e2f77da5b786d486e57f5", func := "loop.example/multipathtransport/laws.FnRangesCountAdd", spec := "fnRangesCountAdd", unfollowed := true, recurses := true, apart := false, narrowed := true }
def FnRangesCountAddUptoSaid : Prop := fnRangesCountAddUptoRow.holds Try.pinned (OpenSpec.upto fnRangesCountAddSpec)

/-- 'laws.FnRangesUndo', WHERE WHAT IT READS IS OF BULK AT MOST 1048576: true; the input reads as it did. -/
def fnRangesUndoUptoRow : OpenClaim := { program := "ytclfkkapahdgaaa", sum := "944239317f5402ded22bd46ea9293d53866e76c5638e2f77da5b786d486e57f5", func := "loop.example/multipathtransport/laws.FnRangesUndo", spec := "fnRangesUndo", apart := false, narrowed := true }
def FnRangesUndoUptoSaid : Prop := fnRangesUndoUptoRow.holds Try.pinned (OpenSpec.upto fnRangesUndoSpec)

/-- 'laws.FnRangesAdd', WHERE WHAT IT READS IS OF BULK AT MOST 1048576: true; the input reads as it did. -/
def fnRangesAddUptoRow : OpenClaim := { program := "ytclfkkapahdgaaa", sum := "944239317f5402ded22bd46ea9293d53866e76c5638e2f77da5b786d486e57f5", func := "loop.example/multipathtransport/laws.FnRangesAdd", spec := "fnRangesAdd", unfollowed := true, recurses := true, apart := false, narrowed := true }
def FnRangesAddUptoSaid : Prop := fnRangesAddUptoRow.holds Try.pinned (OpenSpec.upto fnRangesAddSpec)

/-- 'laws.FnRangesUnion', WHERE WHAT IT READS IS OF BULK AT MOST 1048576: true; the input reads as it did. -/
def fnRangesUnionUptoRow : OpenClaim := { program := "ytclfkkapahdgaaa", sum := "944239317f5402ded22bd46ea9293d53866e76c5638e2f77da5b786d486e57f5", func := "loop.example/multipathtransport/laws.FnRangesUnion", spec := "fnRangesUnion", unfollowed := true, recurses := true, apart := false, narrowed := true }
def FnRangesUnionUptoSaid : Prop := fnRangesUnionUptoRow.holds Try.pinned (OpenSpec.upto fnRangesUnionSpec)

/-- 'laws.FnRangesFull', WHERE WHAT IT READS IS OF BULK AT MOST 1048576: true; the input reads as it did. -/
def fnRangesFullUptoRow : OpenClaim := { program := "ytclfkkapahdgaaa", sum := "944239317f5402ded22bd46ea9293d53866e76c5638e2f77da5b786d486e57f5", func := "loop.example/multipathtransport/laws.FnRangesFull", spec := "fnRangesFull", apart := false, narrowed := true }
def FnRangesFullUptoSaid : Prop := fnRangesFullUptoRow.holds Try.pinned (OpenSpec.upto fnRangesFullSpec)

end Rows
end Go.Proofs.Ytclfkkapahdgaaa
