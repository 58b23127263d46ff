/-
  No cell of these rows narrows 'for every input' (looked for: loops, veiled, ifaces, maps, wideKeys, modest, calm, conditions, laid).
  DERIVED. THE GIVEN ROWS OF THIS SEAT. 8 by the template 'for every input the law returns true; each argument reads behind the call as it read before'; 0 by the template 'total and deterministic' (their statements: YtibnjbbiagjnjaaTotals.lean).
  GIVEN WITH THE SEED: the statements are not yours to turn. If you find one false, say at which input.
  Laid BY PROGRAM, IN A SANDBOX (cutbox-rows.mjs): the forced cells as the released guide's own fill.sh prints them over the translation 6a0e4572aa9e9c8d… (all of the seat's roots in one cut). By AI agents, Wed Nov 11 2026. No macro, syntax, notation, axiom, sorry.
-/
import Derived.Test.YtibnjbbiagjnjaaChecked
import GoSem.Claim
import GoSem.ClaimJoined
import GoSem.ClaimMapViews
import Derived.JoinedTies
import Derived.KernelRfl
namespace Go.Proofs.Ytibnjbbiagjnjaa
/- THE CELL 'sum', in the pinned program and in every row, IS THE sha256 OF THE DUMP (.gsa) THAT YtibnjbbiagjnjaaProg.lean LOADS. Nothing in Lean hashes anything: it is a label: what it is worth is what the hold of that sum in a sandbox is worth. -/
noncomputable def Try.pinned : Pinned := { name := "ytibnjbbiagjnjaa", sum := "6a0e4572aa9e9c8d56e2ac96e59601b52f6bfe158ba14fd79143b5d285d88110", checked := Try.checked }
namespace Rows
def none {H : Type} : Left H := { results := [], args := [] }

/-- 'laws.FnFrameDistinct': WHATEVER THE INPUT: true; the input reads as it did. -/
def fnFrameDistinctSpec : ChangeSpec := { name := "fnFrameDistinct", fn := fun _ => fun
  | [d1, d2] => { results := [.lit (.bool true)], args := [d1, d2] }
  | _ => none }
def fnFrameDistinctRow : OpenClaim := { program := "ytibnjbbiagjnjaa", sum := "6a0e4572aa9e9c8d56e2ac96e59601b52f6bfe158ba14fd79143b5d285d88110", func := "loop.example/multipathtransport/laws.FnFrameDistinct", spec := "fnFrameDistinct", inPlace := ["internal/abi.NoEscape"], unfollowed := true, recurses := true, apart := false }
def FnFrameDistinctSaid : Prop := fnFrameDistinctRow.holds Try.pinned (OpenSpec.ofChange fnFrameDistinctSpec)

/-- ITS FALSE NEIGHBOUR: 'it returns false'. Refute it at one input. -/
def fnFrameDistinctWrong : ChangeSpec := { name := "fnFrameDistinct", fn := fun _ => fun
  | [d1, d2] => { results := [.lit (.bool false)], args := [d1, d2] }
  | _ => none }
def FnFrameDistinctWrongFalsely : Prop := fnFrameDistinctRow.holds Try.pinned (OpenSpec.ofChange fnFrameDistinctWrong)

/-- 'laws.FnExactFramesEncode': WHATEVER THE INPUT: true; the input reads as it did. -/
def fnExactFramesEncodeSpec : ChangeSpec := { name := "fnExactFramesEncode", fn := fun _ => fun
  | [d] => { results := [.lit (.bool true)], args := [d] }
  | _ => none }
def fnExactFramesEncodeRow : OpenClaim := { program := "ytibnjbbiagjnjaa", sum := "6a0e4572aa9e9c8d56e2ac96e59601b52f6bfe158ba14fd79143b5d285d88110", func := "loop.example/multipathtransport/laws.FnExactFramesEncode", spec := "fnExactFramesEncode", inPlace := ["internal/abi.NoEscape"], unfollowed := true, recurses := true, apart := false }
def FnExactFramesEncodeSaid : Prop := fnExactFramesEncodeRow.holds Try.pinned (OpenSpec.ofChange fnExactFramesEncodeSpec)

/-- ITS FALSE NEIGHBOUR: 'it returns false'. Refute it at one input. -/
def fnExactFramesEncodeWrong : ChangeSpec := { name := "fnExactFramesEncode", fn := fun _ => fun
  | [d] => { results := [.lit (.bool false)], args := [d] }
  | _ => none }
def FnExactFramesEncodeWrongFalsely : Prop := fnExactFramesEncodeRow.holds Try.pinned (OpenSpec.ofChange fnExactFramesEncodeWrong)

/-- 'laws.FnFramesParts': WHATEVER THE INPUT: true; the input reads as it did. -/
def fnFramesPartsSpec : ChangeSpec := { name := "fnFramesParts", fn := fun _ => fun
  | [d] => { results := [.lit (.bool true)], args := [d] }
  | _ => none }
def fnFramesPartsRow : OpenClaim := { program := "ytibnjbbiagjnjaa", sum := "6a0e4572aa9e9c8d56e2ac96e59601b52f6bfe158ba14fd79143b5d285d88110", func := "loop.example/multipathtransport/laws.FnFramesParts", spec := "fnFramesParts", inPlace := ["internal/abi.NoEscape"], unfollowed := true, recurses := true, apart := false }
def FnFramesPartsSaid : Prop := fnFramesPartsRow.holds Try.pinned (OpenSpec.ofChange fnFramesPartsSpec)

/-- ITS FALSE NEIGHBOUR: 'it returns false'. Refute it at one input. -/
def fnFramesPartsWrong : ChangeSpec := { name := "fnFramesParts", fn := fun _ => fun
  | [d] => { results := [.lit (.bool false)], args := [d] }
  | _ => none }
def FnFramesPartsWrongFalsely : Prop := fnFramesPartsRow.holds Try.pinned (OpenSpec.ofChange fnFramesPartsWrong)

/-- 'laws.FnExactFrameValid': WHATEVER THE INPUT: true; the input reads as it did. -/
def fnExactFrameValidSpec : ChangeSpec := { name := "fnExactFrameValid", fn := fun _ => fun
  | [d] => { results := [.lit (.bool true)], args := [d] }
  | _ => none }
def fnExactFrameValidRow : OpenClaim := { program := "ytibnjbbiagjnjaa", sum := "6a0e4572aa9e9c8d56e2ac96e59601b52f6bfe158ba14fd79143b5d285d88110", func := "loop.example/multipathtransport/laws.FnExactFrameValid", spec := "fnExactFrameValid", unfollowed := true, recurses := true, apart := false }
def FnExactFrameValidSaid : Prop := fnExactFrameValidRow.holds Try.pinned (OpenSpec.ofChange fnExactFrameValidSpec)

/-- ITS FALSE NEIGHBOUR: 'it returns false'. Refute it at one input. -/
def fnExactFrameValidWrong : ChangeSpec := { name := "fnExactFrameValid", fn := fun _ => fun
  | [d] => { results := [.lit (.bool false)], args := [d] }
  | _ => none }
def FnExactFrameValidWrongFalsely : Prop := fnExactFrameValidRow.holds Try.pinned (OpenSpec.ofChange fnExactFrameValidWrong)

/-- 'laws.FnExactFrameEliciting': WHATEVER THE INPUT: true; the input reads as it did. -/
def fnExactFrameElicitingSpec : ChangeSpec := { name := "fnExactFrameEliciting", fn := fun _ => fun
  | [d] => { results := [.lit (.bool true)], args := [d] }
  | _ => none }
def fnExactFrameElicitingRow : OpenClaim := { program := "ytibnjbbiagjnjaa", sum := "6a0e4572aa9e9c8d56e2ac96e59601b52f6bfe158ba14fd79143b5d285d88110", func := "loop.example/multipathtransport/laws.FnExactFrameEliciting", spec := "fnExactFrameEliciting", unfollowed := true, recurses := true, apart := false }
def FnExactFrameElicitingSaid : Prop := fnExactFrameElicitingRow.holds Try.pinned (OpenSpec.ofChange fnExactFrameElicitingSpec)

/-- ITS FALSE NEIGHBOUR: 'it returns false'. Refute it at one input. -/
def fnExactFrameElicitingWrong : ChangeSpec := { name := "fnExactFrameEliciting", fn := fun _ => fun
  | [d] => { results := [.lit (.bool false)], args := [d] }
  | _ => none }
def FnExactFrameElicitingWrongFalsely : Prop := fnExactFrameElicitingRow.holds Try.pinned (OpenSpec.ofChange fnExactFrameElicitingWrong)

/-- 'laws.FnFrameEliciting': WHATEVER THE INPUT: true; the input reads as it did. -/
def fnFrameElicitingSpec : ChangeSpec := { name := "fnFrameEliciting", fn := fun _ => fun
  | [d] => { results := [.lit (.bool true)], args := [d] }
  | _ => none }
def fnFrameElicitingRow : OpenClaim := { program := "ytibnjbbiagjnjaa", sum := "6a0e4572aa9e9c8d56e2ac96e59601b52f6bfe158ba14fd79143b5d285d88110", func := "loop.example/multipathtransport/laws.FnFrameEliciting", spec := "fnFrameEliciting", unfollowed := true, recurses := true, apart := false }
def FnFrameElicitingSaid : Prop := fnFrameElicitingRow.holds Try.pinned (OpenSpec.ofChange fnFrameElicitingSpec)

/-- ITS FALSE NEIGHBOUR: 'it returns false'. Refute it at one input. -/
def fnFrameElicitingWrong : ChangeSpec := { name := "fnFrameEliciting", fn := fun _ => fun
  | [d] => { results := [.lit (.bool false)], args := [d] }
  | _ => none }
def FnFrameElicitingWrongFalsely : Prop := fnFrameElicitingRow.holds Try.pinned (OpenSpec.ofChange fnFrameElicitingWrong)

/-- 'laws.FnFrameValid': WHATEVER THE INPUT: true; the input reads as it did. -/
def fnFrameValidSpec : ChangeSpec := { name := "fnFrameValid", fn := fun _ => fun
  | [d] => { results := [.lit (.bool true)], args := [d] }
  | _ => none }
def fnFrameValidRow : OpenClaim := { program := "ytibnjbbiagjnjaa", sum := "6a0e4572aa9e9c8d56e2ac96e59601b52f6bfe158ba14fd79143b5d285d88110", func := "loop.example/multipathtransport/laws.FnFrameValid", spec := "fnFrameValid", inPlace := ["internal/abi.NoEscape"], unfollowed := true, recurses := true, apart := false }
def FnFrameValidSaid : Prop := fnFrameValidRow.holds Try.pinned (OpenSpec.ofChange fnFrameValidSpec)

/-- ITS FALSE NEIGHBOUR: 'it returns false'. Refute it at one input. -/
def fnFrameValidWrong : ChangeSpec := { name := "fnFrameValid", fn := fun _ => fun
  | [d] => { results := [.lit (.bool false)], args := [d] }
  | _ => none }
def FnFrameValidWrongFalsely : Prop := fnFrameValidRow.holds Try.pinned (OpenSpec.ofChange fnFrameValidWrong)

/-- 'laws.FnExactFrameEncode': WHATEVER THE INPUT: true; the input reads as it did. -/
def fnExactFrameEncodeSpec : ChangeSpec := { name := "fnExactFrameEncode", fn := fun _ => fun
  | [d] => { results := [.lit (.bool true)], args := [d] }
  | _ => none }
def fnExactFrameEncodeRow : OpenClaim := { program := "ytibnjbbiagjnjaa", sum := "6a0e4572aa9e9c8d56e2ac96e59601b52f6bfe158ba14fd79143b5d285d88110", func := "loop.example/multipathtransport/laws.FnExactFrameEncode", spec := "fnExactFrameEncode", inPlace := ["internal/abi.NoEscape"], unfollowed := true, recurses := true, apart := false }
def FnExactFrameEncodeSaid : Prop := fnExactFrameEncodeRow.holds Try.pinned (OpenSpec.ofChange fnExactFrameEncodeSpec)

/-- ITS FALSE NEIGHBOUR: 'it returns false'. Refute it at one input. -/
def fnExactFrameEncodeWrong : ChangeSpec := { name := "fnExactFrameEncode", fn := fun _ => fun
  | [d] => { results := [.lit (.bool false)], args := [d] }
  | _ => none }
def FnExactFrameEncodeWrongFalsely : Prop := fnExactFrameEncodeRow.holds Try.pinned (OpenSpec.ofChange fnExactFrameEncodeWrong)

/- THE SECOND FORM. 'bulk': how many values and letters a reading holds, each counted each time it is reached (what is shared counts as often as it is met; a slice's spare places count too). A statement '..UptoSaid' is the law's where the arguments, and the package variables that the reading takes, are together of bulk at most 1048576: NARROWER than '..Said'. Prove '..Said' where nothing that the law and all that it calls make is longer than what came in: it says more and counts as full. Else prove '..UptoSaid'. A law counts once. -/
mutual
def uptoBulk {H : Type} : DataW H → Nat
  | .lit (.string bytes) => bytes.length + 1
  | .lit _ => 1
  | .nil => 1
  | .ptr d => uptoBulk d + 1
  | .slice elems spare => uptoBulkAll elems + uptoBulkAll spare + 1
  | .agg parts => uptoBulkAll parts + 1
  | .iface _ d => uptoBulk d + 1
  | .map entries => uptoBulkEntries entries + 1
  | .held _ => 1
def uptoBulkAll {H : Type} : List (DataW H) → Nat
  | [] => 0
  | d :: r => uptoBulk d + uptoBulkAll r
def uptoBulkEntries {H : Type} : List (Lit × DataW H) → Nat
  | [] => 0
  | x :: r => uptoBulkEntry x + uptoBulkEntries r
def uptoBulkEntry {H : Type} : Lit × DataW H → Nat
  | (.string bytes, d) => bytes.length + uptoBulk d + 1
  | (_, d) => uptoBulk d + 1
 end
def uptoSmall : (H : Type) → List (DataW H) → Bool := fun _ ds => decide (uptoBulkAll ds ≤ 1048576)
def OpenSpec.upto (s : _root_.Go.ChangeSpec) : _root_.Go.OpenSpec := { _root_.Go.OpenSpec.ofChange s with cond := some uptoSmall }

/-- 'laws.FnFrameDistinct', WHERE WHAT IT READS IS OF BULK AT MOST 1048576: true; the input reads as it did. -/
def fnFrameDistinctUptoRow : OpenClaim := { program := "ytibnjbbiagjnjaa", sum := "6a0e4572aa9e9c8d56e2ac96e59601b52f6bfe158ba14fd79143b5d285d88110", func := "loop.example/multipathtransport/laws.FnFrameDistinct", spec := "fnFrameDistinct", inPlace := ["internal/abi.NoEscape"], unfollowed := true, recurses := true, apart := false, narrowed := true }
def FnFrameDistinctUptoSaid : Prop := fnFrameDistinctUptoRow.holds Try.pinned (OpenSpec.upto fnFrameDistinctSpec)

/-- 'laws.FnExactFramesEncode', WHERE WHAT IT READS IS OF BULK AT MOST 1048576: true; the input reads as it did. -/
def fnExactFramesEncodeUptoRow : OpenClaim := { program := "ytibnjbbiagjnjaa", sum := "6a0e4572aa9e9c8d56e2ac96e59601b52f6bfe158ba14fd79143b5d285d88110", func := "loop.example/multipathtransport/laws.FnExactFramesEncode", spec := "fnExactFramesEncode", inPlace := ["internal/abi.NoEscape"], unfollowed := true, recurses := true, apart := false, narrowed := true }
def FnExactFramesEncodeUptoSaid : Prop := fnExactFramesEncodeUptoRow.holds Try.pinned (OpenSpec.upto fnExactFramesEncodeSpec)

/-- 'laws.FnFramesParts', WHERE WHAT IT READS IS OF BULK AT MOST 1048576: true; the input reads as it did. -/
def fnFramesPartsUptoRow : OpenClaim := { program := "ytibnjbbiagjnjaa", sum := "6a0e4572aa9e9c8d56e2ac96e59601b52f6bfe158ba14fd79143b5d285d88110", func := "loop.example/multipathtransport/laws.FnFramesParts", spec := "fnFramesParts", inPlace := ["internal/abi.NoEscape"], unfollowed := true, recurses := true, apart := false, narrowed := true }
def FnFramesPartsUptoSaid : Prop := fnFramesPartsUptoRow.holds Try.pinned (OpenSpec.upto fnFramesPartsSpec)

/-- 'laws.FnExactFrameValid', WHERE WHAT IT READS IS OF BULK AT MOST 1048576: true; the input reads as it did. -/
def fnExactFrameValidUptoRow : OpenClaim := { program := "ytibnjbbiagjnjaa", sum := "6a0e4572aa9e9c8d56e2ac96e59601b52f6bfe158ba14fd79143b5d285d88110", func := "loop.example/multipathtransport/laws.FnExactFrameValid", spec := "fnExactFrameValid", unfollowed := true, recurses := true, apart := false, narrowed := true }
def FnExactFrameValidUptoSaid : Prop := fnExactFrameValidUptoRow.holds Try.pinned (OpenSpec.upto fnExactFrameValidSpec)

/-- 'laws.FnExactFrameEliciting', WHERE WHAT IT READS IS OF BULK AT MOST 1048576: true; the input reads as it did. -/
def fnExactFrameElicitingUptoRow : OpenClaim := { program := "ytibnjbbiagjnjaa", sum := "6a0e4572aa9e9c8d56e2ac96e59601b52f6bfe158ba14fd79143b5d285d88110", func := "loop.example/multipathtransport/laws.FnExactFrameEliciting", spec := "fnExactFrameEliciting", unfollowed := true, recurses := true, apart := false, narrowed := true }
def FnExactFrameElicitingUptoSaid : Prop := fnExactFrameElicitingUptoRow.holds Try.pinned (OpenSpec.upto fnExactFrameElicitingSpec)

/-- 'laws.FnFrameEliciting', WHERE WHAT IT READS IS OF BULK AT MOST 1048576: true; the input reads as it did. -/
def fnFrameElicitingUptoRow : OpenClaim := { program := "ytibnjbbiagjnjaa", sum := "6a0e4572aa9e9c8d56e2ac96e59601b52f6bfe158ba14fd79143b5d285d88110", func := "loop.example/multipathtransport/laws.FnFrameEliciting", spec := "fnFrameEliciting", unfollowed := true, recurses := true, apart := false, narrowed := true }
def FnFrameElicitingUptoSaid : Prop := fnFrameElicitingUptoRow.holds Try.pinned (OpenSpec.upto fnFrameElicitingSpec)

/-- 'laws.FnFrameValid', WHERE WHAT IT READS IS OF BULK AT MOST 1048576: true; the input reads as it did. -/
def fnFrameValidUptoRow : OpenClaim := { program := "ytibnjbbiagjnjaa", sum := "6a0e4572aa9e9c8d56e2ac96e59601b52f6bfe158ba14fd79143b5d285d88110", func := "loop.example/multipathtransport/laws.FnFrameValid", spec := "fnFrameValid", inPlace := ["internal/abi.NoEscape"], unfollowed := true, recurses := true, apart := false, narrowed := true }
def FnFrameValidUptoSaid : Prop := fnFrameValidUptoRow.holds Try.pinned (OpenSpec.upto fnFrameValidSpec)

/-- 'laws.FnExactFrameEncode', WHERE WHAT IT READS IS OF BULK AT MOST 1048576: true; the input reads as it did. -/
def fnExactFrameEncodeUptoRow : OpenClaim := { program := "ytibnjbbiagjnjaa", sum := "6a0e4572aa9e9c8d56e2ac96e59601b52f6bfe158ba14fd79143b5d285d88110", func := "loop.example/multipathtransport/laws.FnExactFrameEncode", spec := "fnExactFrameEncode", inPlace := ["internal/abi.NoEscape"], unfollowed := true, recurses := true, apart := false, narrowed := true }
def FnExactFrameEncodeUptoSaid : Prop := fnExactFrameEncodeUptoRow.holds Try.pinned (OpenSpec.upto fnExactFrameEncodeSpec)

end Rows
end Go.Proofs.Ytibnjbbiagjnjaa
