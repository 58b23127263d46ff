/- The plain law of encoded lists, and the list readers at what they read. No condition beyond those in each theorem. -/
import Derived.Test.YtnmanfjhbppbdaaVSplit
import Derived.Test.YtnmanfjhbppbdaaVJoin
namespace Go.Proofs.Ytnmanfjhbppbdaa
open Go.RowKit
theorem shortest (l : List UInt8) (h : fine l = true) : vlen (dnum l) ≤ (dsize l : Int) ∧ 0 < vlen (dnum l) := by
  have b := dnum_le l
  have e : dnum l = pre l (dsize l) := by unfold dnum; rw [if_pos h]
  have hp := dsize_pos l
  rw [h, decide_eq_true_eq] at hp
  rcases vlen_cases (dnum l) with ⟨g1, r⟩ | ⟨g1, r⟩ | ⟨g1, g2, r⟩ | ⟨g1, g2, r⟩ | ⟨g1, g2, r⟩
  · omega
  · omega
  · omega
  · rcases dsize_cases l with d | d | d | d
    · omega
    · have := pre_bd l 1 (by omega) (by omega); rw [d] at e; omega
    · omega
    · omega
  · rcases dsize_cases l with d | d | d | d
    · omega
    · have := pre_bd l 1 (by omega) (by omega); rw [d] at e; omega
    · have := pre_bd l 2 (by omega) (by omega); rw [d] at e; omega
    · omega

/-- A list's encoding is read back. -/
theorem split_join : ∀ (xs : List Int) (c : Nat), xs.length ≤ c → xs.all isVar = true → vsplit c (vjoin xs) = some xs := by
  intro xs
  induction xs with
  | nil => intro c _ _; exact vsplit_nil c
  | cons x xs ih =>
    intro c hc ha
    rw [List.all_cons, Bool.and_eq_true] at ha
    have hx : 0 ≤ x ∧ x ≤ 1073741823 := by have := ha.1; unfold isVar at this; simpa using this
    obtain ⟨c, rfl⟩ : ∃ d, c = d + 1 := ⟨c - 1, by simp at hc; omega⟩
    have e : vjoin (x :: xs) = venc x ++ vjoin xs := rfl
    obtain ⟨r1, r2, r3⟩ := read_venc x hx.1 hx.2 (vjoin xs)
    have hv := venc_length x
    have hd : dsize (venc x ++ vjoin xs) = (venc x).length := by omega
    rw [e, vsplit_succ _ _ r3, r1, hd, List.drop_left, ih c (by simp at hc; omega) ha.2]
    rfl
theorem vsplit_len : ∀ (c : Nat) (l : List UInt8) (xs : List Int), vsplit c l = some xs → xs.length ≤ c ∧ xs.all isVar = true ∧ (vjoin xs).length ≤ l.length := by
  intro c
  induction c with
  | zero =>
    intro l xs h
    cases l with
    | nil => simp [vsplit] at h; subst h; simp [vjoin]
    | cons b r => simp [vsplit] at h
  | succ c ih =>
    intro l xs h
    cases l with
    | nil => simp [vsplit] at h; subst h; simp [vjoin]
    | cons b r =>
      simp only [vsplit] at h
      split at h
      · rename_i hf
        simp only [Option.map_eq_some_iff] at h
        obtain ⟨ys, h1, rfl⟩ := h
        obtain ⟨i1, i2, i3⟩ := ih _ _ h1
        have hb := dnum_le (b :: r)
        refine ⟨by simp; omega, ?_, ?_⟩
        · rw [List.all_cons, i2, Bool.and_true]; unfold isVar; simp; exact hb
        · have e : vjoin (dnum (b :: r) :: ys) = venc (dnum (b :: r)) ++ vjoin ys := rfl
          have hs := shortest (b :: r) hf
          have hv := venc_length (dnum (b :: r))
          have hd := dsize_le (b :: r)
          rw [e, List.length_append]
          rw [List.length_drop] at i3
          omega
      · cases h
def Split2 (w : World) (xs : List Int) (ok : Bool) (e : Ending) (w' : World) : Prop :=
  ∃ A c, e = .returned (.tuple #[.slice A xs.length c, .bool ok]) ∧ OwnInts w' w.heap.size A c xs ∧ Below w.heap.size w w'
theorem split_parts (l : List UInt8) : ∃ (xs : List Int) (ok : Bool), (vsplit 20 l).getD [] = xs ∧ (vsplit 20 l).isSome = ok ∧ xs.length ≤ 20 ∧ (ok = true → vsplit 20 l = some xs ∧ xs.all isVar = true ∧ (vjoin xs).length ≤ l.length) := by
  refine ⟨_, _, rfl, rfl, ?_⟩
  cases h : vsplit 20 l with
  | none => simp
  | some xs =>
    obtain ⟨h1, h2, h3⟩ := vsplit_len 20 l xs h
    exact ⟨h1, fun _ => ⟨rfl, h2, h3⟩⟩
theorem isplit_of (s : ByteArray) (w : World) (hm : s.size ≤ 9223372036854775807) (xs : List Int) (ok : Bool) (h1 : (vsplit 20 s.data.toList).getD [] = xs) (h2 : (vsplit 20 s.data.toList).isSome = ok) :
    Calls Try.prog 24 #[.string s] w (Split2 w xs ok) :=
  (isplit_any s w hm).mono fun _ _ ⟨A, c, he, ho, hb⟩ => ⟨A, c, by rw [he, h1, h2], by rw [← h1]; exact ho, hb⟩
theorem ssplit_of (s : ByteArray) (w : World) (hm : s.size ≤ 9223372036854775807) (xs : List Int) (ok : Bool) (h1 : (vsplit 20 s.data.toList).getD [] = xs) (h2 : (vsplit 20 s.data.toList).isSome = ok) :
    Calls Try.prog 29 #[.string s] w (Split2 w xs ok) :=
  (ssplit_any s w hm).mono fun _ _ ⟨A, c, he, ho, hb⟩ => ⟨A, c, by rw [he, h1, h2], by rw [← h1]; exact ho, hb⟩
theorem same_same (B B' : Nat) (A A' : Option Addr) (xs : List Int) (c c' : Nat) (w : World) (h : IntsIn w B A xs) (h' : IntsIn w B' A' xs) (hBw : B ≤ w.heap.size) (hBw' : B' ≤ w.heap.size) (hm : xs.length ≤ 1000000000000) :
    Calls Try.prog 41 #[.slice A xs.length c, .slice A' xs.length c'] w (EqPost w true) :=
  (sameInts_any B B' A A' xs xs c c' w h h' hBw hBw' hm).mono fun _ _ ⟨he, hb⟩ => ⟨by rw [he, decide_eq_true rfl], hb⟩

/-- The join at a list of which it is known whether it has an encoding. -/
theorem ijoin_of (B : Nat) (A : Option Addr) (xs : List Int) (c : Nat) (w : World) (h : IntsIn w B A xs) (hBw : B ≤ w.heap.size) (hm : xs.length ≤ 1000000000000) (ok : Bool) (s : ByteArray) (h1 : joinOk xs = ok) (h2 : (⟨(if joinOk xs then vjoin xs else []).toArray⟩ : ByteArray) = s) :
    Calls Try.prog 37 #[.slice A xs.length c] w fun e w' => e = .returned (.tuple #[.string s, .bool ok]) ∧ Below w.heap.size w w' :=
  (ijoin_any B A xs c w h hBw hm).mono fun _ _ ⟨he, hb⟩ => ⟨by rw [he, h2, h1], hb⟩
theorem sjoin_of (B : Nat) (A : Option Addr) (xs : List Int) (c : Nat) (w : World) (h : IntsIn w B A xs) (hBw : B ≤ w.heap.size) (hm : xs.length ≤ 1000000000000) (ok : Bool) (s : ByteArray) (h1 : joinOk xs = ok) (h2 : (⟨(if joinOk xs then vjoin xs else []).toArray⟩ : ByteArray) = s) :
    Calls Try.prog 35 #[.slice A xs.length c] w fun e w' => e = .returned (.tuple #[.string s, .bool ok]) ∧ Below w.heap.size w w' :=
  (sjoin_any B A xs c w h hBw hm).mono fun _ _ ⟨he, hb⟩ => ⟨by rw [he, h2, h1], hb⟩
end Go.Proofs.Ytnmanfjhbppbdaa
