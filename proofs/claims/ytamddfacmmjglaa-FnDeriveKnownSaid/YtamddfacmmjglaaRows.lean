/-
  No cell of these rows narrows 'for every input' (looked for: loops, veiled, ifaces, maps, wideKeys, modest, calm, conditions, laid).
  DERIVED. THE GIVEN ROWS OF THIS SEAT. 6 by the template 'for every input the law returns true; each argument reads behind the call as it read before'; 0 by the template 'total and deterministic' (their statements: YtamddfacmmjglaaTotals.lean).
  GIVEN WITH THE SEED: the statements are not yours to turn. If you find one false, say at which input.
  Laid BY PROGRAM, IN A SANDBOX (cutbox-rows.mjs): the forced cells as the released guide's own fill.sh prints them over the translation c8ea93163a933aff… (all of the seat's roots in one cut). By AI agents, Wed Nov 11 2026. No macro, syntax, notation, axiom, sorry.
-/
import Derived.Test.YtamddfacmmjglaaChecked
import GoSem.Claim
import GoSem.ClaimJoined
import GoSem.ClaimMapViews
import Derived.JoinedTies
import Derived.KernelRfl
namespace Go.Proofs.Ytamddfacmmjglaa
/- THE CELL 'sum', in the pinned program and in every row, IS THE sha256 OF THE DUMP (.gsa) THAT YtamddfacmmjglaaProg.lean LOADS. Nothing in Lean hashes anything: it is a label: what it is worth is what the hold of that sum in a sandbox is worth. -/
noncomputable def Try.pinned : Pinned := { name := "ytamddfacmmjglaa", sum := "c8ea93163a933aff034610e59bf8949c820d32d8a03a45a4934c22b5d2827844", checked := Try.checked }
namespace Rows
def none {H : Type} : Left H := { results := [], args := [] }

/-- 'laws.FnExactBoxesValid': WHATEVER THE INPUT: true; the input reads as it did. -/
def fnExactBoxesValidSpec : ChangeSpec := { name := "fnExactBoxesValid", fn := fun _ => fun
  | [d] => { results := [.lit (.bool true)], args := [d] }
  | _ => none }
def fnExactBoxesValidRow : OpenClaim := { program := "ytamddfacmmjglaa", sum := "c8ea93163a933aff034610e59bf8949c820d32d8a03a45a4934c22b5d2827844", func := "loop.example/multipathtransport/laws.FnExactBoxesValid", spec := "fnExactBoxesValid", apart := false }
def FnExactBoxesValidSaid : Prop := fnExactBoxesValidRow.holds Try.pinned (OpenSpec.ofChange fnExactBoxesValidSpec)

/-- ITS FALSE NEIGHBOUR: 'it returns false'. Refute it at one input. -/
def fnExactBoxesValidWrong : ChangeSpec := { name := "fnExactBoxesValid", fn := fun _ => fun
  | [d] => { results := [.lit (.bool false)], args := [d] }
  | _ => none }
def FnExactBoxesValidWrongFalsely : Prop := fnExactBoxesValidRow.holds Try.pinned (OpenSpec.ofChange fnExactBoxesValidWrong)

/-- 'laws.FnDeriveAgain': WHATEVER THE INPUT: true; the input reads as it did. -/
def fnDeriveAgainSpec : ChangeSpec := { name := "fnDeriveAgain", fn := fun _ => fun
  | [d] => { results := [.lit (.bool true)], args := [d] }
  | _ => none }
def fnDeriveAgainRow : OpenClaim := { program := "ytamddfacmmjglaa", sum := "c8ea93163a933aff034610e59bf8949c820d32d8a03a45a4934c22b5d2827844", func := "loop.example/multipathtransport/laws.FnDeriveAgain", spec := "fnDeriveAgain", apart := false }
def FnDeriveAgainSaid : Prop := fnDeriveAgainRow.holds Try.pinned (OpenSpec.ofChange fnDeriveAgainSpec)

/-- ITS FALSE NEIGHBOUR: 'it returns false'. Refute it at one input. -/
def fnDeriveAgainWrong : ChangeSpec := { name := "fnDeriveAgain", fn := fun _ => fun
  | [d] => { results := [.lit (.bool false)], args := [d] }
  | _ => none }
def FnDeriveAgainWrongFalsely : Prop := fnDeriveAgainRow.holds Try.pinned (OpenSpec.ofChange fnDeriveAgainWrong)

/-- 'laws.FnDeriveOrder': WHATEVER THE INPUT: true; the input reads as it did. -/
def fnDeriveOrderSpec : ChangeSpec := { name := "fnDeriveOrder", fn := fun _ => fun
  | [d] => { results := [.lit (.bool true)], args := [d] }
  | _ => none }
def fnDeriveOrderRow : OpenClaim := { program := "ytamddfacmmjglaa", sum := "c8ea93163a933aff034610e59bf8949c820d32d8a03a45a4934c22b5d2827844", func := "loop.example/multipathtransport/laws.FnDeriveOrder", spec := "fnDeriveOrder", apart := false }
def FnDeriveOrderSaid : Prop := fnDeriveOrderRow.holds Try.pinned (OpenSpec.ofChange fnDeriveOrderSpec)

/-- ITS FALSE NEIGHBOUR: 'it returns false'. Refute it at one input. -/
def fnDeriveOrderWrong : ChangeSpec := { name := "fnDeriveOrder", fn := fun _ => fun
  | [d] => { results := [.lit (.bool false)], args := [d] }
  | _ => none }
def FnDeriveOrderWrongFalsely : Prop := fnDeriveOrderRow.holds Try.pinned (OpenSpec.ofChange fnDeriveOrderWrong)

/-- 'laws.FnDeriveClosed': WHATEVER THE INPUT: true; the input reads as it did. -/
def fnDeriveClosedSpec : ChangeSpec := { name := "fnDeriveClosed", fn := fun _ => fun
  | [d] => { results := [.lit (.bool true)], args := [d] }
  | _ => none }
def fnDeriveClosedRow : OpenClaim := { program := "ytamddfacmmjglaa", sum := "c8ea93163a933aff034610e59bf8949c820d32d8a03a45a4934c22b5d2827844", func := "loop.example/multipathtransport/laws.FnDeriveClosed", spec := "fnDeriveClosed", apart := false }
def FnDeriveClosedSaid : Prop := fnDeriveClosedRow.holds Try.pinned (OpenSpec.ofChange fnDeriveClosedSpec)

/-- ITS FALSE NEIGHBOUR: 'it returns false'. Refute it at one input. -/
def fnDeriveClosedWrong : ChangeSpec := { name := "fnDeriveClosed", fn := fun _ => fun
  | [d] => { results := [.lit (.bool false)], args := [d] }
  | _ => none }
def FnDeriveClosedWrongFalsely : Prop := fnDeriveClosedRow.holds Try.pinned (OpenSpec.ofChange fnDeriveClosedWrong)

/-- 'laws.FnDeriveFewer': WHATEVER THE INPUT: true; the input reads as it did. -/
def fnDeriveFewerSpec : ChangeSpec := { name := "fnDeriveFewer", fn := fun _ => fun
  | [d1, d2] => { results := [.lit (.bool true)], args := [d1, d2] }
  | _ => none }
def fnDeriveFewerRow : OpenClaim := { program := "ytamddfacmmjglaa", sum := "c8ea93163a933aff034610e59bf8949c820d32d8a03a45a4934c22b5d2827844", func := "loop.example/multipathtransport/laws.FnDeriveFewer", spec := "fnDeriveFewer", apart := false }
def FnDeriveFewerSaid : Prop := fnDeriveFewerRow.holds Try.pinned (OpenSpec.ofChange fnDeriveFewerSpec)

/-- ITS FALSE NEIGHBOUR: 'it returns false'. Refute it at one input. -/
def fnDeriveFewerWrong : ChangeSpec := { name := "fnDeriveFewer", fn := fun _ => fun
  | [d1, d2] => { results := [.lit (.bool false)], args := [d1, d2] }
  | _ => none }
def FnDeriveFewerWrongFalsely : Prop := fnDeriveFewerRow.holds Try.pinned (OpenSpec.ofChange fnDeriveFewerWrong)

/-- 'laws.FnDeriveKnown': WHATEVER THE INPUT: true; the input reads as it did. -/
def fnDeriveKnownSpec : ChangeSpec := { name := "fnDeriveKnown", fn := fun _ => fun
  | [d] => { results := [.lit (.bool true)], args := [d] }
  | _ => none }
def fnDeriveKnownRow : OpenClaim := { program := "ytamddfacmmjglaa", sum := "c8ea93163a933aff034610e59bf8949c820d32d8a03a45a4934c22b5d2827844", func := "loop.example/multipathtransport/laws.FnDeriveKnown", spec := "fnDeriveKnown", apart := false }
def FnDeriveKnownSaid : Prop := fnDeriveKnownRow.holds Try.pinned (OpenSpec.ofChange fnDeriveKnownSpec)

/-- ITS FALSE NEIGHBOUR: 'it returns false'. Refute it at one input. -/
def fnDeriveKnownWrong : ChangeSpec := { name := "fnDeriveKnown", fn := fun _ => fun
  | [d] => { results := [.lit (.bool false)], args := [d] }
  | _ => none }
def FnDeriveKnownWrongFalsely : Prop := fnDeriveKnownRow.holds Try.pinned (OpenSpec.ofChange fnDeriveKnownWrong)

/- THE SECOND FORM. 'bulk': how many values and letters a reading holds, each counted each time it is reached (what is shared counts as often as it is met; a slice's spare places count too). A statement '..UptoSaid' is the law's where the arguments, and the package variables that the reading takes, are together of bulk at most 1048576: NARROWER than '..Said'. Prove '..Said' where nothing that the law and all that it calls make is longer than what came in: it says more and counts as full. Else prove '..UptoSaid'. A law counts once. -/
mutual
def uptoBulk {H : Type} : DataW H → Nat
  | .lit (.string bytes) => bytes.length + 1
  | .lit _ => 1
  | .nil => 1
  | .ptr d => uptoBulk d + 1
  | .slice elems spare => uptoBulkAll elems + uptoBulkAll spare + 1
  | .agg parts => uptoBulkAll parts + 1
  | .iface _ d => uptoBulk d + 1
  | .map entries => uptoBulkEntries entries + 1
  | .held _ => 1
def uptoBulkAll {H : Type} : List (DataW H) → Nat
  | [] => 0
  | d :: r => uptoBulk d + uptoBulkAll r
def uptoBulkEntries {H : Type} : List (Lit × DataW H) → Nat
  | [] => 0
  | x :: r => uptoBulkEntry x + uptoBulkEntries r
def uptoBulkEntry {H : Type} : Lit × DataW H → Nat
  | (.string bytes, d) => bytes.length + uptoBulk d + 1
  | (_, d) => uptoBulk d + 1
 end
def uptoSmall : (H : Type) → List (DataW H) → Bool := fun _ ds => decide (uptoBulkAll ds ≤ 1048576)
def OpenSpec.upto (s : _root_.Go.ChangeSpec) : _root_.Go.OpenSpec := { _root_.Go.OpenSpec.ofChange s with cond := some uptoSmall }

/-- 'laws.FnExactBoxesValid', WHERE WHAT IT READS IS OF BULK AT MOST 1048576: true; the input reads as it did. -/
def fnExactBoxesValidUptoRow : OpenClaim := { program := "ytamddfacmmjglaa", sum := "c8ea93163a933aff034610e59bf8949c820d32d8a03a45a4934c22b5d2827844", func := "loop.example/multipathtransport/laws.FnExactBoxesValid", spec := "fnExactBoxesValid", apart := false, narrowed := true }
def FnExactBoxesValidUptoSaid : Prop := fnExactBoxesValidUptoRow.holds Try.pinned (OpenSpec.upto fnExactBoxesValidSpec)

/-- 'laws.FnDeriveAgain', WHERE WHAT IT READS IS OF BULK AT MOST 1048576: true; the input reads as it did. -/
def fnDeriveAgainUptoRow : OpenClaim := { program := "ytamddfacmmjglaa", sum := "c8ea93163a933aff034610e59bf8949c820d32d8a03a45a4934c22b5d2827844", func := "loop.example/multipathtransport/laws.FnDeriveAgain", spec := "fnDeriveAgain", apart := false, narrowed := true }
def FnDeriveAgainUptoSaid : Prop := fnDeriveAgainUptoRow.holds Try.pinned (OpenSpec.upto fnDeriveAgainSpec)

/-- 'laws.FnDeriveOrder', WHERE WHAT IT READS IS OF BULK AT MOST 1048576: true; the input reads as it did. -/
def fnDeriveOrderUptoRow : OpenClaim := { program := "ytamddfacmmjglaa", sum := "c8ea93163a933aff034610e59bf8949c820d32d8a03a45a4934c22b5d2827844", func := "loop.example/multipathtransport/laws.FnDeriveOrder", spec := "fnDeriveOrder", apart := false, narrowed := true }
def FnDeriveOrderUptoSaid : Prop := fnDeriveOrderUptoRow.holds Try.pinned (OpenSpec.upto fnDeriveOrderSpec)

/-- 'laws.FnDeriveClosed', WHERE WHAT IT READS IS OF BULK AT MOST 1048576: true; the input reads as it did. -/
def fnDeriveClosedUptoRow : OpenClaim := { program := "ytamddfacmmjglaa", sum := "c8ea93163a933aff034610e59bf8949c820d32d8a03a45a4934c22b5d2827844", func := "loop.example/multipathtransport/laws.FnDeriveClosed", spec := "fnDeriveClosed", apart := false, narrowed := true }
def FnDeriveClosedUptoSaid : Prop := fnDeriveClosedUptoRow.holds Try.pinned (OpenSpec.upto fnDeriveClosedSpec)

/-- 'laws.FnDeriveFewer', WHERE WHAT IT READS IS OF BULK AT MOST 1048576: true; the input reads as it did. -/
def fnDeriveFewerUptoRow : OpenClaim := { program := "ytamddfacmmjglaa", sum := "c8ea93163a933aff034610e59bf8949c820d32d8a03a45a4934c22b5d2827844", func := "loop.example/multipathtransport/laws.FnDeriveFewer", spec := "fnDeriveFewer", apart := false, narrowed := true }
def FnDeriveFewerUptoSaid : Prop := fnDeriveFewerUptoRow.holds Try.pinned (OpenSpec.upto fnDeriveFewerSpec)

/-- 'laws.FnDeriveKnown', WHERE WHAT IT READS IS OF BULK AT MOST 1048576: true; the input reads as it did. -/
def fnDeriveKnownUptoRow : OpenClaim := { program := "ytamddfacmmjglaa", sum := "c8ea93163a933aff034610e59bf8949c820d32d8a03a45a4934c22b5d2827844", func := "loop.example/multipathtransport/laws.FnDeriveKnown", spec := "fnDeriveKnown", apart := false, narrowed := true }
def FnDeriveKnownUptoSaid : Prop := fnDeriveKnownUptoRow.holds Try.pinned (OpenSpec.upto fnDeriveKnownSpec)

end Rows
end Go.Proofs.Ytamddfacmmjglaa
