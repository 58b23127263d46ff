/- What the rows ask of this seat's translation as a whole, each once: where the cut begins, that a call may enter it, that nothing is lifted. No condition. -/
import Derived.Test.YtibnjbbiagjnjaaRows
import Derived.ProofKit
namespace Go.Proofs.Ytibnjbbiagjnjaa
/-! ### for whatever program whose head's first word is 'cut' -/
def cutWord : List Char := [99, 117, 116].map Char.ofNat
theorem strip_cut (rest : List (List Char)) : stripLifts liftWords (cutWord :: rest) = ([], cutWord :: rest) := by
  have h : ∀ o ∈ liftWords, (cutWord == o.toList) = false := by
    intro o ho
    simp only [liftWords, List.mem_cons, List.not_mem_nil, or_false] at ho
    rcases ho with rfl | rfl | rfl | rfl | rfl | rfl | rfl | rfl | rfl | rfl | rfl | rfl | rfl | rfl | rfl <;> decide +kernel
  generalize liftWords = l at h ⊢
  induction l with
  | nil => rfl
  | cons o os ih =>
    have e := h o (List.mem_cons_self ..)
    simp only [stripLifts, e]
    exact ih fun x hx => h x (List.mem_cons_of_mem _ hx)
theorem cut_gc : (cutWord == "gc".toList) = false := by decide +kernel
theorem cut_spec : (cutWord == "spec".toList) = false := by decide +kernel
theorem cut_carried : (cutWord == "carried".toList) = false := by decide +kernel
theorem cut_cut : (cutWord == "cut".toList) = true := by decide +kernel
theorem mayEnter_cut (P : Program) (rest : List (List Char)) (h : behindMainWord (wordsSigns P.initOrder.toList) = cutWord :: rest)
    (h1 : P.laysLater = false) (h2 : P.bearsReflect = false) (h3 : P.doorFits [] = true) : P.mayEnter = true := by
  unfold Program.mayEnter
  rw [h]
  have e : (some cutWord == some "cut".toList) = true := cut_cut
  simp only [strip_cut, cut_gc, cut_spec, cut_carried, h1, h2, h3, List.head?_cons, e]
  rfl
theorem make_cut (P : Program) (rest : List (List Char)) (h : behindMainWord (wordsSigns P.initOrder.toList) = cutWord :: rest) : P.make = some .cut := by
  unfold Program.make
  rw [h]
  simp only [cut_gc, cut_spec, cut_cut]
  rfl
theorem lifts_cut (P : Program) (rest : List (List Char)) (h : behindMainWord (wordsSigns P.initOrder.toList) = cutWord :: rest) : P.liftsFinal = false := by
  have e : (some cutWord == some "carried".toList) = false := cut_carried
  have e' : (some cutWord == some "cut".toList) = true := cut_cut
  unfold Program.liftsFinal Program.headLifts
  rw [h]
  simp only [strip_cut, List.head?_cons, e, e']
  rfl

/-! ### this seat's -/
def headNats : List Nat := [104, 97, 114, 110, 101, 115, 115, 32, 97, 49, 57, 97, 53, 97, 55, 56, 57, 49, 54, 101, 51, 56, 102, 54, 48, 98, 50, 54, 54, 57, 57, 57, 101, 53, 55, 57, 56, 102, 101, 100, 51, 55, 53, 97, 51, 53, 100, 98, 51, 51, 50, 57, 57, 98, 98, 57, 54, 49, 52, 55, 54, 56, 99, 99, 102, 101, 51, 54, 102, 53, 56, 50, 32, 99, 117, 116, 32, 97, 116, 32, 108, 111, 111, 112, 46, 101, 120, 97, 109, 112, 108, 101, 47, 109, 117, 108, 116, 105, 112, 97, 116, 104, 116, 114, 97, 110, 115, 112, 111, 114, 116, 47, 108, 97, 119, 115, 46, 70, 110, 70, 114, 97, 109, 101, 68, 105, 115, 116, 105, 110, 99, 116, 32, 108, 111, 111, 112, 46, 101, 120, 97, 109, 112, 108, 101, 47, 109, 117, 108, 116, 105, 112, 97, 116, 104, 116, 114, 97, 110, 115, 112, 111, 114, 116, 47, 108, 97, 119, 115, 46, 70, 110, 69, 120, 97, 99, 116, 70, 114, 97, 109, 101, 115, 69, 110, 99, 111, 100, 101, 32, 108, 111, 111, 112, 46, 101, 120, 97, 109, 112, 108, 101, 47, 109, 117, 108, 116, 105, 112, 97, 116, 104, 116, 114, 97, 110, 115, 112, 111, 114, 116, 47, 108, 97, 119, 115, 46, 70, 110, 70, 114, 97, 109, 101, 115, 80, 97, 114, 116, 115, 32, 108, 111, 111, 112, 46, 101, 120, 97, 109, 112, 108, 101, 47, 109, 117, 108, 116, 105, 112, 97, 116, 104, 116, 114, 97, 110, 115, 112, 111, 114, 116, 47, 108, 97, 119, 115, 46, 70, 110, 69, 120, 97, 99, 116, 70, 114, 97, 109, 101, 86, 97, 108, 105, 100, 32, 108, 111, 111, 112, 46, 101, 120, 97, 109, 112, 108, 101, 47, 109, 117, 108, 116, 105, 112, 97, 116, 104, 116, 114, 97, 110, 115, 112, 111, 114, 116, 47, 108, 97, 119, 115, 46, 70, 110, 69, 120, 97, 99, 116, 70, 114, 97, 109, 101, 69, 108, 105, 99, 105, 116, 105, 110, 103, 32, 108, 111, 111, 112, 46, 101, 120, 97, 109, 112, 108, 101, 47, 109, 117, 108, 116, 105, 112, 97, 116, 104, 116, 114, 97, 110, 115, 112, 111, 114, 116, 47, 108, 97, 119, 115, 46, 70, 110, 70, 114, 97, 109, 101, 69, 108, 105, 99, 105, 116, 105, 110, 103, 32, 108, 111, 111, 112, 46, 101, 120, 97, 109, 112, 108, 101, 47, 109, 117, 108, 116, 105, 112, 97, 116, 104, 116, 114, 97, 110, 115, 112, 111, 114, 116, 47, 108, 97, 119, 115, 46, 70, 110, 70, 114, 97, 109, 101, 86, 97, 108, 105, 100, 32, 108, 111, 111, 112, 46, 101, 120, 97, 109, 112, 108, 101, 47, 109, 117, 108, 116, 105, 112, 97, 116, 104, 116, 114, 97, 110, 115, 112, 111, 114, 116, 47, 108, 97, 119, 115, 46, 70, 110, 69, 120, 97, 99, 116, 70, 114, 97, 109, 101, 69, 110, 99, 111, 100, 101]
def headRest : List (List Nat) := [[97, 116], [108, 111, 111, 112, 46, 101, 120, 97, 109, 112, 108, 101, 47, 109, 117, 108, 116, 105, 112, 97, 116, 104, 116, 114, 97, 110, 115, 112, 111, 114, 116, 47, 108, 97, 119, 115, 46, 70, 110, 70, 114, 97, 109, 101, 68, 105, 115, 116, 105, 110, 99, 116], [108, 111, 111, 112, 46, 101, 120, 97, 109, 112, 108, 101, 47, 109, 117, 108, 116, 105, 112, 97, 116, 104, 116, 114, 97, 110, 115, 112, 111, 114, 116, 47, 108, 97, 119, 115, 46, 70, 110, 69, 120, 97, 99, 116, 70, 114, 97, 109, 101, 115, 69, 110, 99, 111, 100, 101], [108, 111, 111, 112, 46, 101, 120, 97, 109, 112, 108, 101, 47, 109, 117, 108, 116, 105, 112, 97, 116, 104, 116, 114, 97, 110, 115, 112, 111, 114, 116, 47, 108, 97, 119, 115, 46, 70, 110, 70, 114, 97, 109, 101, 115, 80, 97, 114, 116, 115], [108, 111, 111, 112, 46, 101, 120, 97, 109, 112, 108, 101, 47, 109, 117, 108, 116, 105, 112, 97, 116, 104, 116, 114, 97, 110, 115, 112, 111, 114, 116, 47, 108, 97, 119, 115, 46, 70, 110, 69, 120, 97, 99, 116, 70, 114, 97, 109, 101, 86, 97, 108, 105, 100], [108, 111, 111, 112, 46, 101, 120, 97, 109, 112, 108, 101, 47, 109, 117, 108, 116, 105, 112, 97, 116, 104, 116, 114, 97, 110, 115, 112, 111, 114, 116, 47, 108, 97, 119, 115, 46, 70, 110, 69, 120, 97, 99, 116, 70, 114, 97, 109, 101, 69, 108, 105, 99, 105, 116, 105, 110, 103], [108, 111, 111, 112, 46, 101, 120, 97, 109, 112, 108, 101, 47, 109, 117, 108, 116, 105, 112, 97, 116, 104, 116, 114, 97, 110, 115, 112, 111, 114, 116, 47, 108, 97, 119, 115, 46, 70, 110, 70, 114, 97, 109, 101, 69, 108, 105, 99, 105, 116, 105, 110, 103], [108, 111, 111, 112, 46, 101, 120, 97, 109, 112, 108, 101, 47, 109, 117, 108, 116, 105, 112, 97, 116, 104, 116, 114, 97, 110, 115, 112, 111, 114, 116, 47, 108, 97, 119, 115, 46, 70, 110, 70, 114, 97, 109, 101, 86, 97, 108, 105, 100], [108, 111, 111, 112, 46, 101, 120, 97, 109, 112, 108, 101, 47, 109, 117, 108, 116, 105, 112, 97, 116, 104, 116, 114, 97, 110, 115, 112, 111, 114, 116, 47, 108, 97, 119, 115, 46, 70, 110, 69, 120, 97, 99, 116, 70, 114, 97, 109, 101, 69, 110, 99, 111, 100, 101]]
theorem head_eq : Try.prog.initOrder = String.ofList (headNats.map Char.ofNat) := by kernel_rfl
theorem head_list : Try.prog.initOrder.toList = headNats.map Char.ofNat := by rw [head_eq, String.toList_ofList]
theorem head_words0 : behindMainWord (wordsSigns (headNats.map Char.ofNat)) = cutWord :: headRest.map (fun w => w.map Char.ofNat) := by kernel_rfl
theorem head_words : behindMainWord (wordsSigns Try.prog.initOrder.toList) = cutWord :: headRest.map (fun w => w.map Char.ofNat) := by
  rw [head_list]
  exact head_words0
theorem lays_ok : Try.prog.laysLater = false := by kernel_rfl
theorem bears_ok : Try.prog.bearsReflect = false := by kernel_rfl
theorem door_ok : Try.prog.doorFits [] = true := by kernel_rfl
theorem mayEnter_ok : Try.prog.mayEnter = true := mayEnter_cut _ _ head_words lays_ok bears_ok door_ok
theorem lifts_ok : Try.prog.liftsFinal = false := lifts_cut _ _ head_words
theorem make_ok : Try.prog.make = some .cut := make_cut _ _ head_words
end Go.Proofs.Ytibnjbbiagjnjaa
