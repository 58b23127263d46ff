/-
  No cell of these rows narrows 'for every input' (looked for: loops, veiled, ifaces, maps, wideKeys, modest, calm, conditions, laid).
  DERIVED. THE GIVEN ROWS OF THIS SEAT. 17 by the template 'for every input the law returns true; each argument reads behind the call as it read before'; 0 by the template 'total and deterministic' (their statements: YtnmanfjhbppbdaaTotals.lean).
  GIVEN WITH THE SEED: the statements are not yours to turn. If you find one false, say at which input.
  Laid BY PROGRAM, IN A SANDBOX (cutbox-rows.mjs): the forced cells as the released guide's own fill.sh prints them over the translation a7909ca599e088c5… (all of the seat's roots in one cut). By AI agents, Wed Nov 11 2026. No macro, syntax, notation, axiom, sorry.
-/
import Derived.Test.YtnmanfjhbppbdaaChecked
import GoSem.Claim
import GoSem.ClaimJoined
import GoSem.ClaimMapViews
import Derived.JoinedTies
import Derived.KernelRfl
namespace Go.Proofs.Ytnmanfjhbppbdaa
/- THE CELL 'sum', in the pinned program and in every row, IS THE sha256 OF THE DUMP (.gsa) THAT YtnmanfjhbppbdaaProg.lean LOADS. Nothing in Lean hashes anything: it is a label: what it is worth is what the hold of that sum in a sandbox is worth. -/
noncomputable def Try.pinned : Pinned := { name := "ytnmanfjhbppbdaa", sum := "a7909ca599e088c57af52ba28e1ac82965f0cd641cf45fd5f177dc43f7aa1427", checked := Try.checked }
namespace Rows
def none {H : Type} : Left H := { results := [], args := [] }

/-- 'laws.FnExactConstants': WHATEVER THE INPUT: true; the input reads as it did. -/
def fnExactConstantsSpec : ChangeSpec := { name := "fnExactConstants", fn := fun _ => fun
  | [] => { results := [.lit (.bool true)], args := [] }
  | _ => none }
def fnExactConstantsRow : OpenClaim := { program := "ytnmanfjhbppbdaa", sum := "a7909ca599e088c57af52ba28e1ac82965f0cd641cf45fd5f177dc43f7aa1427", func := "loop.example/multipathtransport/laws.FnExactConstants", spec := "fnExactConstants", apart := false }
def FnExactConstantsSaid : Prop := fnExactConstantsRow.holds Try.pinned (OpenSpec.ofChange fnExactConstantsSpec)

/-- ITS FALSE NEIGHBOUR: 'it returns false'. Refute it at one input. -/
def fnExactConstantsWrong : ChangeSpec := { name := "fnExactConstants", fn := fun _ => fun
  | [] => { results := [.lit (.bool false)], args := [] }
  | _ => none }
def FnExactConstantsWrongFalsely : Prop := fnExactConstantsRow.holds Try.pinned (OpenSpec.ofChange fnExactConstantsWrong)

/-- 'laws.FnExactVarintLen': WHATEVER THE INPUT: true; the input reads as it did. -/
def fnExactVarintLenSpec : ChangeSpec := { name := "fnExactVarintLen", fn := fun _ => fun
  | [d] => { results := [.lit (.bool true)], args := [d] }
  | _ => none }
def fnExactVarintLenRow : OpenClaim := { program := "ytnmanfjhbppbdaa", sum := "a7909ca599e088c57af52ba28e1ac82965f0cd641cf45fd5f177dc43f7aa1427", func := "loop.example/multipathtransport/laws.FnExactVarintLen", spec := "fnExactVarintLen", apart := false }
def FnExactVarintLenSaid : Prop := fnExactVarintLenRow.holds Try.pinned (OpenSpec.ofChange fnExactVarintLenSpec)

/-- ITS FALSE NEIGHBOUR: 'it returns false'. Refute it at one input. -/
def fnExactVarintLenWrong : ChangeSpec := { name := "fnExactVarintLen", fn := fun _ => fun
  | [d] => { results := [.lit (.bool false)], args := [d] }
  | _ => none }
def FnExactVarintLenWrongFalsely : Prop := fnExactVarintLenRow.holds Try.pinned (OpenSpec.ofChange fnExactVarintLenWrong)

/-- 'laws.FnExactVarintDecode': WHATEVER THE INPUT: true; the input reads as it did. -/
def fnExactVarintDecodeSpec : ChangeSpec := { name := "fnExactVarintDecode", fn := fun _ => fun
  | [d] => { results := [.lit (.bool true)], args := [d] }
  | _ => none }
def fnExactVarintDecodeRow : OpenClaim := { program := "ytnmanfjhbppbdaa", sum := "a7909ca599e088c57af52ba28e1ac82965f0cd641cf45fd5f177dc43f7aa1427", func := "loop.example/multipathtransport/laws.FnExactVarintDecode", spec := "fnExactVarintDecode", apart := false }
def FnExactVarintDecodeSaid : Prop := fnExactVarintDecodeRow.holds Try.pinned (OpenSpec.ofChange fnExactVarintDecodeSpec)

/-- ITS FALSE NEIGHBOUR: 'it returns false'. Refute it at one input. -/
def fnExactVarintDecodeWrong : ChangeSpec := { name := "fnExactVarintDecode", fn := fun _ => fun
  | [d] => { results := [.lit (.bool false)], args := [d] }
  | _ => none }
def FnExactVarintDecodeWrongFalsely : Prop := fnExactVarintDecodeRow.holds Try.pinned (OpenSpec.ofChange fnExactVarintDecodeWrong)

/-- 'laws.FnVarintHigh': WHATEVER THE INPUT: true; the input reads as it did. -/
def fnVarintHighSpec : ChangeSpec := { name := "fnVarintHigh", fn := fun _ => fun
  | [d1, d2] => { results := [.lit (.bool true)], args := [d1, d2] }
  | _ => none }
def fnVarintHighRow : OpenClaim := { program := "ytnmanfjhbppbdaa", sum := "a7909ca599e088c57af52ba28e1ac82965f0cd641cf45fd5f177dc43f7aa1427", func := "loop.example/multipathtransport/laws.FnVarintHigh", spec := "fnVarintHigh", apart := false }
def FnVarintHighSaid : Prop := fnVarintHighRow.holds Try.pinned (OpenSpec.ofChange fnVarintHighSpec)

/-- ITS FALSE NEIGHBOUR: 'it returns false'. Refute it at one input. -/
def fnVarintHighWrong : ChangeSpec := { name := "fnVarintHigh", fn := fun _ => fun
  | [d1, d2] => { results := [.lit (.bool false)], args := [d1, d2] }
  | _ => none }
def FnVarintHighWrongFalsely : Prop := fnVarintHighRow.holds Try.pinned (OpenSpec.ofChange fnVarintHighWrong)

/-- 'laws.FnExactVarintEncode': WHATEVER THE INPUT: true; the input reads as it did. -/
def fnExactVarintEncodeSpec : ChangeSpec := { name := "fnExactVarintEncode", fn := fun _ => fun
  | [d] => { results := [.lit (.bool true)], args := [d] }
  | _ => none }
def fnExactVarintEncodeRow : OpenClaim := { program := "ytnmanfjhbppbdaa", sum := "a7909ca599e088c57af52ba28e1ac82965f0cd641cf45fd5f177dc43f7aa1427", func := "loop.example/multipathtransport/laws.FnExactVarintEncode", spec := "fnExactVarintEncode", apart := false }
def FnExactVarintEncodeSaid : Prop := fnExactVarintEncodeRow.holds Try.pinned (OpenSpec.ofChange fnExactVarintEncodeSpec)

/-- ITS FALSE NEIGHBOUR: 'it returns false'. Refute it at one input. -/
def fnExactVarintEncodeWrong : ChangeSpec := { name := "fnExactVarintEncode", fn := fun _ => fun
  | [d] => { results := [.lit (.bool false)], args := [d] }
  | _ => none }
def FnExactVarintEncodeWrongFalsely : Prop := fnExactVarintEncodeRow.holds Try.pinned (OpenSpec.ofChange fnExactVarintEncodeWrong)

/-- 'laws.FnVarintLen': WHATEVER THE INPUT: true; the input reads as it did. -/
def fnVarintLenSpec : ChangeSpec := { name := "fnVarintLen", fn := fun _ => fun
  | [d] => { results := [.lit (.bool true)], args := [d] }
  | _ => none }
def fnVarintLenRow : OpenClaim := { program := "ytnmanfjhbppbdaa", sum := "a7909ca599e088c57af52ba28e1ac82965f0cd641cf45fd5f177dc43f7aa1427", func := "loop.example/multipathtransport/laws.FnVarintLen", spec := "fnVarintLen", apart := false }
def FnVarintLenSaid : Prop := fnVarintLenRow.holds Try.pinned (OpenSpec.ofChange fnVarintLenSpec)

/-- ITS FALSE NEIGHBOUR: 'it returns false'. Refute it at one input. -/
def fnVarintLenWrong : ChangeSpec := { name := "fnVarintLen", fn := fun _ => fun
  | [d] => { results := [.lit (.bool false)], args := [d] }
  | _ => none }
def FnVarintLenWrongFalsely : Prop := fnVarintLenRow.holds Try.pinned (OpenSpec.ofChange fnVarintLenWrong)

/-- 'laws.FnExactVarintSplit': WHATEVER THE INPUT: true; the input reads as it did. -/
def fnExactVarintSplitSpec : ChangeSpec := { name := "fnExactVarintSplit", fn := fun _ => fun
  | [d] => { results := [.lit (.bool true)], args := [d] }
  | _ => none }
def fnExactVarintSplitRow : OpenClaim := { program := "ytnmanfjhbppbdaa", sum := "a7909ca599e088c57af52ba28e1ac82965f0cd641cf45fd5f177dc43f7aa1427", func := "loop.example/multipathtransport/laws.FnExactVarintSplit", spec := "fnExactVarintSplit", apart := false }
def FnExactVarintSplitSaid : Prop := fnExactVarintSplitRow.holds Try.pinned (OpenSpec.ofChange fnExactVarintSplitSpec)

/-- ITS FALSE NEIGHBOUR: 'it returns false'. Refute it at one input. -/
def fnExactVarintSplitWrong : ChangeSpec := { name := "fnExactVarintSplit", fn := fun _ => fun
  | [d] => { results := [.lit (.bool false)], args := [d] }
  | _ => none }
def FnExactVarintSplitWrongFalsely : Prop := fnExactVarintSplitRow.holds Try.pinned (OpenSpec.ofChange fnExactVarintSplitWrong)

/-- 'laws.FnExactVarintMinimal': WHATEVER THE INPUT: true; the input reads as it did. -/
def fnExactVarintMinimalSpec : ChangeSpec := { name := "fnExactVarintMinimal", fn := fun _ => fun
  | [d] => { results := [.lit (.bool true)], args := [d] }
  | _ => none }
def fnExactVarintMinimalRow : OpenClaim := { program := "ytnmanfjhbppbdaa", sum := "a7909ca599e088c57af52ba28e1ac82965f0cd641cf45fd5f177dc43f7aa1427", func := "loop.example/multipathtransport/laws.FnExactVarintMinimal", spec := "fnExactVarintMinimal", apart := false }
def FnExactVarintMinimalSaid : Prop := fnExactVarintMinimalRow.holds Try.pinned (OpenSpec.ofChange fnExactVarintMinimalSpec)

/-- ITS FALSE NEIGHBOUR: 'it returns false'. Refute it at one input. -/
def fnExactVarintMinimalWrong : ChangeSpec := { name := "fnExactVarintMinimal", fn := fun _ => fun
  | [d] => { results := [.lit (.bool false)], args := [d] }
  | _ => none }
def FnExactVarintMinimalWrongFalsely : Prop := fnExactVarintMinimalRow.holds Try.pinned (OpenSpec.ofChange fnExactVarintMinimalWrong)

/-- 'laws.FnVarintOrder': WHATEVER THE INPUT: true; the input reads as it did. -/
def fnVarintOrderSpec : ChangeSpec := { name := "fnVarintOrder", fn := fun _ => fun
  | [d1, d2] => { results := [.lit (.bool true)], args := [d1, d2] }
  | _ => none }
def fnVarintOrderRow : OpenClaim := { program := "ytnmanfjhbppbdaa", sum := "a7909ca599e088c57af52ba28e1ac82965f0cd641cf45fd5f177dc43f7aa1427", func := "loop.example/multipathtransport/laws.FnVarintOrder", spec := "fnVarintOrder", apart := false }
def FnVarintOrderSaid : Prop := fnVarintOrderRow.holds Try.pinned (OpenSpec.ofChange fnVarintOrderSpec)

/-- ITS FALSE NEIGHBOUR: 'it returns false'. Refute it at one input. -/
def fnVarintOrderWrong : ChangeSpec := { name := "fnVarintOrder", fn := fun _ => fun
  | [d1, d2] => { results := [.lit (.bool false)], args := [d1, d2] }
  | _ => none }
def FnVarintOrderWrongFalsely : Prop := fnVarintOrderRow.holds Try.pinned (OpenSpec.ofChange fnVarintOrderWrong)

/-- 'laws.FnExactVarintJoin': WHATEVER THE INPUT: true; the input reads as it did. -/
def fnExactVarintJoinSpec : ChangeSpec := { name := "fnExactVarintJoin", fn := fun _ => fun
  | [d] => { results := [.lit (.bool true)], args := [d] }
  | _ => none }
def fnExactVarintJoinRow : OpenClaim := { program := "ytnmanfjhbppbdaa", sum := "a7909ca599e088c57af52ba28e1ac82965f0cd641cf45fd5f177dc43f7aa1427", func := "loop.example/multipathtransport/laws.FnExactVarintJoin", spec := "fnExactVarintJoin", apart := false }
def FnExactVarintJoinSaid : Prop := fnExactVarintJoinRow.holds Try.pinned (OpenSpec.ofChange fnExactVarintJoinSpec)

/-- ITS FALSE NEIGHBOUR: 'it returns false'. Refute it at one input. -/
def fnExactVarintJoinWrong : ChangeSpec := { name := "fnExactVarintJoin", fn := fun _ => fun
  | [d] => { results := [.lit (.bool false)], args := [d] }
  | _ => none }
def FnExactVarintJoinWrongFalsely : Prop := fnExactVarintJoinRow.holds Try.pinned (OpenSpec.ofChange fnExactVarintJoinWrong)

/-- 'laws.FnVarintPrefix': WHATEVER THE INPUT: true; the input reads as it did. -/
def fnVarintPrefixSpec : ChangeSpec := { name := "fnVarintPrefix", fn := fun _ => fun
  | [d] => { results := [.lit (.bool true)], args := [d] }
  | _ => none }
def fnVarintPrefixRow : OpenClaim := { program := "ytnmanfjhbppbdaa", sum := "a7909ca599e088c57af52ba28e1ac82965f0cd641cf45fd5f177dc43f7aa1427", func := "loop.example/multipathtransport/laws.FnVarintPrefix", spec := "fnVarintPrefix", apart := false }
def FnVarintPrefixSaid : Prop := fnVarintPrefixRow.holds Try.pinned (OpenSpec.ofChange fnVarintPrefixSpec)

/-- ITS FALSE NEIGHBOUR: 'it returns false'. Refute it at one input. -/
def fnVarintPrefixWrong : ChangeSpec := { name := "fnVarintPrefix", fn := fun _ => fun
  | [d] => { results := [.lit (.bool false)], args := [d] }
  | _ => none }
def FnVarintPrefixWrongFalsely : Prop := fnVarintPrefixRow.holds Try.pinned (OpenSpec.ofChange fnVarintPrefixWrong)

/-- 'laws.FnVarintRoundTrip': WHATEVER THE INPUT: true; the input reads as it did. -/
def fnVarintRoundTripSpec : ChangeSpec := { name := "fnVarintRoundTrip", fn := fun _ => fun
  | [d1, d2] => { results := [.lit (.bool true)], args := [d1, d2] }
  | _ => none }
def fnVarintRoundTripRow : OpenClaim := { program := "ytnmanfjhbppbdaa", sum := "a7909ca599e088c57af52ba28e1ac82965f0cd641cf45fd5f177dc43f7aa1427", func := "loop.example/multipathtransport/laws.FnVarintRoundTrip", spec := "fnVarintRoundTrip", apart := false }
def FnVarintRoundTripSaid : Prop := fnVarintRoundTripRow.holds Try.pinned (OpenSpec.ofChange fnVarintRoundTripSpec)

/-- ITS FALSE NEIGHBOUR: 'it returns false'. Refute it at one input. -/
def fnVarintRoundTripWrong : ChangeSpec := { name := "fnVarintRoundTrip", fn := fun _ => fun
  | [d1, d2] => { results := [.lit (.bool false)], args := [d1, d2] }
  | _ => none }
def FnVarintRoundTripWrongFalsely : Prop := fnVarintRoundTripRow.holds Try.pinned (OpenSpec.ofChange fnVarintRoundTripWrong)

/-- 'laws.FnVarintShortest': WHATEVER THE INPUT: true; the input reads as it did. -/
def fnVarintShortestSpec : ChangeSpec := { name := "fnVarintShortest", fn := fun _ => fun
  | [d] => { results := [.lit (.bool true)], args := [d] }
  | _ => none }
def fnVarintShortestRow : OpenClaim := { program := "ytnmanfjhbppbdaa", sum := "a7909ca599e088c57af52ba28e1ac82965f0cd641cf45fd5f177dc43f7aa1427", func := "loop.example/multipathtransport/laws.FnVarintShortest", spec := "fnVarintShortest", apart := false }
def FnVarintShortestSaid : Prop := fnVarintShortestRow.holds Try.pinned (OpenSpec.ofChange fnVarintShortestSpec)

/-- ITS FALSE NEIGHBOUR: 'it returns false'. Refute it at one input. -/
def fnVarintShortestWrong : ChangeSpec := { name := "fnVarintShortest", fn := fun _ => fun
  | [d] => { results := [.lit (.bool false)], args := [d] }
  | _ => none }
def FnVarintShortestWrongFalsely : Prop := fnVarintShortestRow.holds Try.pinned (OpenSpec.ofChange fnVarintShortestWrong)

/-- 'laws.FnVarintMinimal': WHATEVER THE INPUT: true; the input reads as it did. -/
def fnVarintMinimalSpec : ChangeSpec := { name := "fnVarintMinimal", fn := fun _ => fun
  | [d] => { results := [.lit (.bool true)], args := [d] }
  | _ => none }
def fnVarintMinimalRow : OpenClaim := { program := "ytnmanfjhbppbdaa", sum := "a7909ca599e088c57af52ba28e1ac82965f0cd641cf45fd5f177dc43f7aa1427", func := "loop.example/multipathtransport/laws.FnVarintMinimal", spec := "fnVarintMinimal", apart := false }
def FnVarintMinimalSaid : Prop := fnVarintMinimalRow.holds Try.pinned (OpenSpec.ofChange fnVarintMinimalSpec)

/-- ITS FALSE NEIGHBOUR: 'it returns false'. Refute it at one input. -/
def fnVarintMinimalWrong : ChangeSpec := { name := "fnVarintMinimal", fn := fun _ => fun
  | [d] => { results := [.lit (.bool false)], args := [d] }
  | _ => none }
def FnVarintMinimalWrongFalsely : Prop := fnVarintMinimalRow.holds Try.pinned (OpenSpec.ofChange fnVarintMinimalWrong)

/-- 'laws.FnVarintConcat': WHATEVER THE INPUT: true; the input reads as it did. -/
def fnVarintConcatSpec : ChangeSpec := { name := "fnVarintConcat", fn := fun _ => fun
  | [d1, d2] => { results := [.lit (.bool true)], args := [d1, d2] }
  | _ => none }
def fnVarintConcatRow : OpenClaim := { program := "ytnmanfjhbppbdaa", sum := "a7909ca599e088c57af52ba28e1ac82965f0cd641cf45fd5f177dc43f7aa1427", func := "loop.example/multipathtransport/laws.FnVarintConcat", spec := "fnVarintConcat", apart := false }
def FnVarintConcatSaid : Prop := fnVarintConcatRow.holds Try.pinned (OpenSpec.ofChange fnVarintConcatSpec)

/-- ITS FALSE NEIGHBOUR: 'it returns false'. Refute it at one input. -/
def fnVarintConcatWrong : ChangeSpec := { name := "fnVarintConcat", fn := fun _ => fun
  | [d1, d2] => { results := [.lit (.bool false)], args := [d1, d2] }
  | _ => none }
def FnVarintConcatWrongFalsely : Prop := fnVarintConcatRow.holds Try.pinned (OpenSpec.ofChange fnVarintConcatWrong)

/-- 'laws.FnVarintJoin': WHATEVER THE INPUT: true; the input reads as it did. -/
def fnVarintJoinSpec : ChangeSpec := { name := "fnVarintJoin", fn := fun _ => fun
  | [d] => { results := [.lit (.bool true)], args := [d] }
  | _ => none }
def fnVarintJoinRow : OpenClaim := { program := "ytnmanfjhbppbdaa", sum := "a7909ca599e088c57af52ba28e1ac82965f0cd641cf45fd5f177dc43f7aa1427", func := "loop.example/multipathtransport/laws.FnVarintJoin", spec := "fnVarintJoin", apart := false }
def FnVarintJoinSaid : Prop := fnVarintJoinRow.holds Try.pinned (OpenSpec.ofChange fnVarintJoinSpec)

/-- ITS FALSE NEIGHBOUR: 'it returns false'. Refute it at one input. -/
def fnVarintJoinWrong : ChangeSpec := { name := "fnVarintJoin", fn := fun _ => fun
  | [d] => { results := [.lit (.bool false)], args := [d] }
  | _ => none }
def FnVarintJoinWrongFalsely : Prop := fnVarintJoinRow.holds Try.pinned (OpenSpec.ofChange fnVarintJoinWrong)

/-- 'laws.FnVarintSplit': WHATEVER THE INPUT: true; the input reads as it did. -/
def fnVarintSplitSpec : ChangeSpec := { name := "fnVarintSplit", fn := fun _ => fun
  | [d] => { results := [.lit (.bool true)], args := [d] }
  | _ => none }
def fnVarintSplitRow : OpenClaim := { program := "ytnmanfjhbppbdaa", sum := "a7909ca599e088c57af52ba28e1ac82965f0cd641cf45fd5f177dc43f7aa1427", func := "loop.example/multipathtransport/laws.FnVarintSplit", spec := "fnVarintSplit", apart := false }
def FnVarintSplitSaid : Prop := fnVarintSplitRow.holds Try.pinned (OpenSpec.ofChange fnVarintSplitSpec)

/-- ITS FALSE NEIGHBOUR: 'it returns false'. Refute it at one input. -/
def fnVarintSplitWrong : ChangeSpec := { name := "fnVarintSplit", fn := fun _ => fun
  | [d] => { results := [.lit (.bool false)], args := [d] }
  | _ => none }
def FnVarintSplitWrongFalsely : Prop := fnVarintSplitRow.holds Try.pinned (OpenSpec.ofChange fnVarintSplitWrong)

/- THE SECOND FORM. 'bulk': how many values and letters a reading holds, each counted each time it is reached (what is shared counts as often as it is met; a slice's spare places count too). A statement '..UptoSaid' is the law's where the arguments, and the package variables that the reading takes, are together of bulk at most 1048576: NARROWER than '..Said'. Prove '..Said' where nothing that the law and all that it calls make is longer than what came in: it says more and counts as full. Else prove '..UptoSaid'. A law counts once. -/
mutual
def uptoBulk {H : Type} : DataW H → Nat
  | .lit (.string bytes) => bytes.length + 1
  | .lit _ => 1
  | .nil => 1
  | .ptr d => uptoBulk d + 1
  | .slice elems spare => uptoBulkAll elems + uptoBulkAll spare + 1
  | .agg parts => uptoBulkAll parts + 1
  | .iface _ d => uptoBulk d + 1
  | .map entries => uptoBulkEntries entries + 1
  | .held _ => 1
def uptoBulkAll {H : Type} : List (DataW H) → Nat
  | [] => 0
  | d :: r => uptoBulk d + uptoBulkAll r
def uptoBulkEntries {H : Type} : List (Lit × DataW H) → Nat
  | [] => 0
  | x :: r => uptoBulkEntry x + uptoBulkEntries r
def uptoBulkEntry {H : Type} : Lit × DataW H → Nat
  | (.string bytes, d) => bytes.length + uptoBulk d + 1
  | (_, d) => uptoBulk d + 1
 end
def uptoSmall : (H : Type) → List (DataW H) → Bool := fun _ ds => decide (uptoBulkAll ds ≤ 1048576)
def OpenSpec.upto (s : _root_.Go.ChangeSpec) : _root_.Go.OpenSpec := { _root_.Go.OpenSpec.ofChange s with cond := some uptoSmall }

/-- 'laws.FnExactConstants', WHERE WHAT IT READS IS OF BULK AT MOST 1048576: true; the input reads as it did. -/
def fnExactConstantsUptoRow : OpenClaim := { program := "ytnmanfjhbppbdaa", sum := "a7909ca599e088c57af52ba28e1ac82965f0cd641cf45fd5f177dc43f7aa1427", func := "loop.example/multipathtransport/laws.FnExactConstants", spec := "fnExactConstants", apart := false, narrowed := true }
def FnExactConstantsUptoSaid : Prop := fnExactConstantsUptoRow.holds Try.pinned (OpenSpec.upto fnExactConstantsSpec)

/-- 'laws.FnExactVarintLen', WHERE WHAT IT READS IS OF BULK AT MOST 1048576: true; the input reads as it did. -/
def fnExactVarintLenUptoRow : OpenClaim := { program := "ytnmanfjhbppbdaa", sum := "a7909ca599e088c57af52ba28e1ac82965f0cd641cf45fd5f177dc43f7aa1427", func := "loop.example/multipathtransport/laws.FnExactVarintLen", spec := "fnExactVarintLen", apart := false, narrowed := true }
def FnExactVarintLenUptoSaid : Prop := fnExactVarintLenUptoRow.holds Try.pinned (OpenSpec.upto fnExactVarintLenSpec)

/-- 'laws.FnExactVarintDecode', WHERE WHAT IT READS IS OF BULK AT MOST 1048576: true; the input reads as it did. -/
def fnExactVarintDecodeUptoRow : OpenClaim := { program := "ytnmanfjhbppbdaa", sum := "a7909ca599e088c57af52ba28e1ac82965f0cd641cf45fd5f177dc43f7aa1427", func := "loop.example/multipathtransport/laws.FnExactVarintDecode", spec := "fnExactVarintDecode", apart := false, narrowed := true }
def FnExactVarintDecodeUptoSaid : Prop := fnExactVarintDecodeUptoRow.holds Try.pinned (OpenSpec.upto fnExactVarintDecodeSpec)

/-- 'laws.FnVarintHigh', WHERE WHAT IT READS IS OF BULK AT MOST 1048576: true; the input reads as it did. -/
def fnVarintHighUptoRow : OpenClaim := { program := "ytnmanfjhbppbdaa", sum := "a7909ca599e088c57af52ba28e1ac82965f0cd641cf45fd5f177dc43f7aa1427", func := "loop.example/multipathtransport/laws.FnVarintHigh", spec := "fnVarintHigh", apart := false, narrowed := true }
def FnVarintHighUptoSaid : Prop := fnVarintHighUptoRow.holds Try.pinned (OpenSpec.upto fnVarintHighSpec)

/-- 'laws.FnExactVarintEncode', WHERE WHAT IT READS IS OF BULK AT MOST 1048576: true; the input reads as it did. -/
def fnExactVarintEncodeUptoRow : OpenClaim := { program := "ytnmanfjhbppbdaa", sum := "a7909ca599e088c57af52ba28e1ac82965f0cd641cf45fd5f177dc43f7aa1427", func := "loop.example/multipathtransport/laws.FnExactVarintEncode", spec := "fnExactVarintEncode", apart := false, narrowed := true }
def FnExactVarintEncodeUptoSaid : Prop := fnExactVarintEncodeUptoRow.holds Try.pinned (OpenSpec.upto fnExactVarintEncodeSpec)

/-- 'laws.FnVarintLen', WHERE WHAT IT READS IS OF BULK AT MOST 1048576: true; the input reads as it did. -/
def fnVarintLenUptoRow : OpenClaim := { program := "ytnmanfjhbppbdaa", sum := "a7909ca599e088c57af52ba28e1ac82965f0cd641cf45fd5f177dc43f7aa1427", func := "loop.example/multipathtransport/laws.FnVarintLen", spec := "fnVarintLen", apart := false, narrowed := true }
def FnVarintLenUptoSaid : Prop := fnVarintLenUptoRow.holds Try.pinned (OpenSpec.upto fnVarintLenSpec)

/-- 'laws.FnExactVarintSplit', WHERE WHAT IT READS IS OF BULK AT MOST 1048576: true; the input reads as it did. -/
def fnExactVarintSplitUptoRow : OpenClaim := { program := "ytnmanfjhbppbdaa", sum := "a7909ca599e088c57af52ba28e1ac82965f0cd641cf45fd5f177dc43f7aa1427", func := "loop.example/multipathtransport/laws.FnExactVarintSplit", spec := "fnExactVarintSplit", apart := false, narrowed := true }
def FnExactVarintSplitUptoSaid : Prop := fnExactVarintSplitUptoRow.holds Try.pinned (OpenSpec.upto fnExactVarintSplitSpec)

/-- 'laws.FnExactVarintMinimal', WHERE WHAT IT READS IS OF BULK AT MOST 1048576: true; the input reads as it did. -/
def fnExactVarintMinimalUptoRow : OpenClaim := { program := "ytnmanfjhbppbdaa", sum := "a7909ca599e088c57af52ba28e1ac82965f0cd641cf45fd5f177dc43f7aa1427", func := "loop.example/multipathtransport/laws.FnExactVarintMinimal", spec := "fnExactVarintMinimal", apart := false, narrowed := true }
def FnExactVarintMinimalUptoSaid : Prop := fnExactVarintMinimalUptoRow.holds Try.pinned (OpenSpec.upto fnExactVarintMinimalSpec)

/-- 'laws.FnVarintOrder', WHERE WHAT IT READS IS OF BULK AT MOST 1048576: true; the input reads as it did. -/
def fnVarintOrderUptoRow : OpenClaim := { program := "ytnmanfjhbppbdaa", sum := "a7909ca599e088c57af52ba28e1ac82965f0cd641cf45fd5f177dc43f7aa1427", func := "loop.example/multipathtransport/laws.FnVarintOrder", spec := "fnVarintOrder", apart := false, narrowed := true }
def FnVarintOrderUptoSaid : Prop := fnVarintOrderUptoRow.holds Try.pinned (OpenSpec.upto fnVarintOrderSpec)

/-- 'laws.FnExactVarintJoin', WHERE WHAT IT READS IS OF BULK AT MOST 1048576: true; the input reads as it did. -/
def fnExactVarintJoinUptoRow : OpenClaim := { program := "ytnmanfjhbppbdaa", sum := "a7909ca599e088c57af52ba28e1ac82965f0cd641cf45fd5f177dc43f7aa1427", func := "loop.example/multipathtransport/laws.FnExactVarintJoin", spec := "fnExactVarintJoin", apart := false, narrowed := true }
def FnExactVarintJoinUptoSaid : Prop := fnExactVarintJoinUptoRow.holds Try.pinned (OpenSpec.upto fnExactVarintJoinSpec)

/-- 'laws.FnVarintPrefix', WHERE WHAT IT READS IS OF BULK AT MOST 1048576: true; the input reads as it did. -/
def fnVarintPrefixUptoRow : OpenClaim := { program := "ytnmanfjhbppbdaa", sum := "a7909ca599e088c57af52ba28e1ac82965f0cd641cf45fd5f177dc43f7aa1427", func := "loop.example/multipathtransport/laws.FnVarintPrefix", spec := "fnVarintPrefix", apart := false, narrowed := true }
def FnVarintPrefixUptoSaid : Prop := fnVarintPrefixUptoRow.holds Try.pinned (OpenSpec.upto fnVarintPrefixSpec)

/-- 'laws.FnVarintRoundTrip', WHERE WHAT IT READS IS OF BULK AT MOST 1048576: true; the input reads as it did. -/
def fnVarintRoundTripUptoRow : OpenClaim := { program := "ytnmanfjhbppbdaa", sum := "a7909ca599e088c57af52ba28e1ac82965f0cd641cf45fd5f177dc43f7aa1427", func := "loop.example/multipathtransport/laws.FnVarintRoundTrip", spec := "fnVarintRoundTrip", apart := false, narrowed := true }
def FnVarintRoundTripUptoSaid : Prop := fnVarintRoundTripUptoRow.holds Try.pinned (OpenSpec.upto fnVarintRoundTripSpec)

/-- 'laws.FnVarintShortest', WHERE WHAT IT READS IS OF BULK AT MOST 1048576: true; the input reads as it did. -/
def fnVarintShortestUptoRow : OpenClaim := { program := "ytnmanfjhbppbdaa", sum := "a7909ca599e088c57af52ba28e1ac82965f0cd641cf45fd5f177dc43f7aa1427", func := "loop.example/multipathtransport/laws.FnVarintShortest", spec := "fnVarintShortest", apart := false, narrowed := true }
def FnVarintShortestUptoSaid : Prop := fnVarintShortestUptoRow.holds Try.pinned (OpenSpec.upto fnVarintShortestSpec)

/-- 'laws.FnVarintMinimal', WHERE WHAT IT READS IS OF BULK AT MOST 1048576: true; the input reads as it did. -/
def fnVarintMinimalUptoRow : OpenClaim := { program := "ytnmanfjhbppbdaa", sum := "a7909ca599e088c57af52ba28e1ac82965f0cd641cf45fd5f177dc43f7aa1427", func := "loop.example/multipathtransport/laws.FnVarintMinimal", spec := "fnVarintMinimal", apart := false, narrowed := true }
def FnVarintMinimalUptoSaid : Prop := fnVarintMinimalUptoRow.holds Try.pinned (OpenSpec.upto fnVarintMinimalSpec)

/-- 'laws.FnVarintConcat', WHERE WHAT IT READS IS OF BULK AT MOST 1048576: true; the input reads as it did. -/
def fnVarintConcatUptoRow : OpenClaim := { program := "ytnmanfjhbppbdaa", sum := "a7909ca599e088c57af52ba28e1ac82965f0cd641cf45fd5f177dc43f7aa1427", func := "loop.example/multipathtransport/laws.FnVarintConcat", spec := "fnVarintConcat", apart := false, narrowed := true }
def FnVarintConcatUptoSaid : Prop := fnVarintConcatUptoRow.holds Try.pinned (OpenSpec.upto fnVarintConcatSpec)

/-- 'laws.FnVarintJoin', WHERE WHAT IT READS IS OF BULK AT MOST 1048576: true; the input reads as it did. -/
def fnVarintJoinUptoRow : OpenClaim := { program := "ytnmanfjhbppbdaa", sum := "a7909ca599e088c57af52ba28e1ac82965f0cd641cf45fd5f177dc43f7aa1427", func := "loop.example/multipathtransport/laws.FnVarintJoin", spec := "fnVarintJoin", apart := false, narrowed := true }
def FnVarintJoinUptoSaid : Prop := fnVarintJoinUptoRow.holds Try.pinned (OpenSpec.upto fnVarintJoinSpec)

/-- 'laws.FnVarintSplit', WHERE WHAT IT READS IS OF BULK AT MOST 1048576: true; the input reads as it did. -/
def fnVarintSplitUptoRow : OpenClaim := { program := "ytnmanfjhbppbdaa", sum := "a7909ca599e088c57af52ba28e1ac82965f0cd641cf45fd5f177dc43f7aa1427", func := "loop.example/multipathtransport/laws.FnVarintSplit", spec := "fnVarintSplit", apart := false, narrowed := true }
def FnVarintSplitUptoSaid : Prop := fnVarintSplitUptoRow.holds Try.pinned (OpenSpec.upto fnVarintSplitSpec)

end Rows
end Go.Proofs.Ytnmanfjhbppbdaa
