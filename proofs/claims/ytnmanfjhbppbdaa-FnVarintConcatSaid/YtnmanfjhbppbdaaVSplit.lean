/- Contracts of the reading of a list, the program's and the reference's. No condition but that the text is no longer than a Go text can be. -/
import Derived.Test.YtnmanfjhbppbdaaInts
import Derived.Test.YtnmanfjhbppbdaaVDec
namespace Go.Proofs.Ytnmanfjhbppbdaa
open Go.RowKit

/-- At most c integers read one after the other. -/
def vsplit : Nat → List UInt8 → Option (List Int)
  | _, [] => some []
  | 0, _ :: _ => none
  | c + 1, b :: r => if fine (b :: r) then (vsplit c ((b :: r).drop (dsize (b :: r)))).map (dnum (b :: r) :: ·) else none
theorem vsplit_nil (c : Nat) : vsplit c [] = some [] := by cases c <;> rfl
theorem vsplit_zero (l : List UInt8) (h : l ≠ []) : vsplit 0 l = none := by
  cases l with
  | nil => exact absurd rfl h
  | cons b r => rfl
theorem vsplit_bad (c : Nat) (l : List UInt8) (h : l ≠ []) (hf : fine l = false) : vsplit c l = none := by
  cases l with
  | nil => exact absurd rfl h
  | cons b r =>
    cases c with
    | zero => rfl
    | succ c => simp only [vsplit, hf]; rfl
theorem vsplit_succ (c : Nat) (l : List UInt8) (hf : fine l = true) : vsplit (c + 1) l = (vsplit c (l.drop (dsize l))).map (dnum l :: ·) := by
  cases l with
  | nil => exact absurd hf (by decide)
  | cons b r => simp only [vsplit, hf, if_true]
/-- What has been read, and what is left to be read. -/
def SplitAt (l : List UInt8) (xs : List Int) (t : List UInt8) : Prop := xs.length ≤ 20 ∧ vsplit 20 l = (vsplit (20 - xs.length) t).map (xs ++ ·)
theorem splitAt_start (l : List UInt8) : SplitAt l [] l := ⟨by simp, by simp⟩
theorem splitAt_end {l : List UInt8} {xs : List Int} (h : SplitAt l xs []) : vsplit 20 l = some xs := by rw [h.2, vsplit_nil]; simp
theorem splitAt_bad {l t : List UInt8} {xs : List Int} (h : SplitAt l xs t) (ht : t ≠ []) (hf : fine t = false) : vsplit 20 l = none := by rw [h.2, vsplit_bad _ _ ht hf]; rfl
theorem splitAt_full {l t : List UInt8} {xs : List Int} (h : SplitAt l xs t) (ht : t ≠ []) (hl : 20 ≤ xs.length) : vsplit 20 l = none := by
  rw [h.2, show 20 - xs.length = 0 by omega, vsplit_zero _ ht]; rfl
theorem splitAt_step {l t : List UInt8} {xs : List Int} (h : SplitAt l xs t) (hf : fine t = true) (hl : xs.length < 20) : SplitAt l (xs ++ [dnum t]) (t.drop (dsize t)) := by
  refine ⟨by simp; omega, ?_⟩
  have e : 20 - xs.length = (20 - (xs ++ [dnum t]).length) + 1 := by simp; omega
  rw [h.2, e, vsplit_succ _ _ hf, Option.map_map]
  congr 1
  funext ys
  simp

def SplitPost (w : World) (l : List UInt8) (e : Ending) (w' : World) : Prop :=
  ∃ A c, e = .returned (.tuple #[.slice A ((vsplit 20 l).getD []).length c, .bool (vsplit 20 l).isSome]) ∧ OwnInts w' w.heap.size A c ((vsplit 20 l).getD []) ∧ Below w.heap.size w w'
theorem split_some {w w' : World} {l : List UInt8} {xs : List Int} {A : Option Addr} {c : Nat} (h : vsplit 20 l = some xs) (ho : OwnInts w' w.heap.size A c xs) (hb : Below w.heap.size w w') :
    SplitPost w l (.returned (.tuple #[.slice A xs.length c, .bool true])) w' := by
  refine ⟨A, c, ?_, ?_, hb⟩
  · rw [h]; rfl
  · rw [h]; exact ho
theorem split_none {w w' : World} {l : List UInt8} {A : Option Addr} {c : Nat} (h : vsplit 20 l = none) (ho : OwnInts w' w.heap.size A c []) (hb : Below w.heap.size w w') :
    SplitPost w l (.returned (.tuple #[.slice A 0 c, .bool false])) w' := by
  refine ⟨A, c, ?_, ?_, hb⟩
  · rw [h]; rfl
  · rw [h]; exact ho
def strLen : Value → Nat | .string t => t.size | _ => 0
theorem drop_extract (t : ByteArray) (k : Nat) : (t.extract k t.size).data.toList = t.data.toList.drop k := by
  have h := size_list t
  simp only [ByteArray.data_extract, Array.toList_extract, List.extract_eq_take_drop]
  exact List.take_of_length_le (by rw [List.length_drop]; omega)
theorem ne_nil_of (t : ByteArray) (h : ¬ t.size = 0) : t.data.toList ≠ [] := fun e => h (by rw [← size_list, e]; rfl)

set_option maxHeartbeats 800000 in
theorem isplit_any (s : ByteArray) (w : World) (hm : s.size ≤ 9223372036854775807) : Calls Try.prog 24 #[.string s] w (SplitPost w s.data.toList) := by
  go_enter Try.func24, Try.ntmps24
  go_wp2_with fail
  go_loopw [0, 4, 5, 6, 7] (fun s0 v4 _ _ _ wr => ∃ (t : ByteArray) (A : Option Addr) (c : Nat) (xs : List Int), s0 = .string t ∧ v4 = .slice A xs.length c ∧ Hid (OwnInts wr w.heap.size A c xs) ∧ Hid (Below w.heap.size w wr) ∧ t.size ≤ s.size ∧ xs.length ≤ 20 ∧ Hid (SplitAt s.data.toList xs t.data.toList)) (fun s0 _ _ _ _ _ => strLen s0)
  case atStart => exact ⟨s, none, 0, [], rfl, rfl, OwnInts.nil _ _, Below.refl _ _, Nat.le_refl _, by simp, splitAt_start _⟩
  case round =>
    obtain ⟨t, A, c, xs, rfl, rfl, hO, hB, ht, hx, hS⟩ := hrel
    by_cases h0 : t.size = 0
    · have e1 := isEmpty_true t h0
      have D := Lib.hid (split_some (splitAt_end (by have := hS.out; rwa [show t.data.toList = [] from List.eq_nil_of_length_eq_zero (by rw [size_list]; exact h0)] at this)) hO.out hB.out)
      clear h0
      go_wp2
      go_ret2
      exact D.out
    · have e1 := isEmpty_false t (by omega)
      have hne := ne_nil_of t h0
      cases hf : fine t.data.toList with
      | false =>
        have D := Lib.hid (split_none (splitAt_bad hS.out hne hf) (OwnInts.nil wr w.heap.size) hB.out)
        go_wp2_with (go_at_call 23; refine (idec_any _ _ (by omega)).mono ?_; rintro e w2 ⟨rfl, rfl⟩)
        go_ret2
        exact D.out
      | true =>
        by_cases hl : xs.length = 20
        · have D := Lib.hid (split_none (splitAt_full hS.out hne (by omega)) (OwnInts.nil wr w.heap.size) hB.out)
          go_wp2_with (go_at_call 23; refine (idec_any _ _ (by omega)).mono ?_; rintro e w2 ⟨rfl, rfl⟩)
          go_ret2
          exact D.out
        · have hl' : xs.length < 20 := by omega
          have hz := dsize_pos t.data.toList
          rw [hf, decide_eq_true_eq] at hz
          have hz' := dsize_le t.data.toList
          rw [size_list] at hz'
          have hS' := Lib.hid (splitAt_step hS.out hf hl')
          have hf' := Lib.hid hf
          have hd := Lib.hid (drop_extract t (dsize t.data.toList))
          clear hne
          obtain ⟨d, hdd⟩ : ∃ d, d = dsize t.data.toList := ⟨_, rfl⟩
          obtain ⟨n, hn⟩ : ∃ n, n = dnum t.data.toList := ⟨_, rfl⟩
          rw [← hdd] at hz hz' hS' hd
          rw [← hn] at hS'
          have hl20 : ((xs.length : Int) == 20) = false := by rw [beq_eq_false_iff_ne]; omega
          have hdec : Calls Try.prog 23 #[.string t] wr fun e w' => e = .returned (.tuple #[.int .i64 n, .int .i64 d, .bool true]) ∧ wr = w' := by
            have := idec_any t wr (by omega)
            rw [hf, ← hdd, ← hn] at this
            exact this
          have hdec' := Lib.hid hdec
          have hcell : (wr.alloc (.cells #[.int .i64 n] 3)).cell? ⟨wr.heap.size, 0, none⟩ = some (.int .i64 n) := cell_lit wr [.int .i64 n] 3 0 _ rfl
          have hBs : w.heap.size ≤ (wr.alloc (.cells #[.int .i64 n] 3)).heap.size := by have := hB.out.size; simp; omega
          clear hdec hf hdd hn hl h0
          go_wp2_with fail
          with_reducible refine hdec'.out.mono ?_
          rintro e w2 ⟨rfl, rfl⟩
          go_wp2_with (at_builtin; refine wpList_append_int rfl (.tmp 23) (.tmp 25) rfl w.heap.size A c xs rfl (hO.out.alloc _) wr.heap.size n rfl hcell (by omega) hBs ?_; intro A' c' w3 hO3 hg3 hB3)
          have hO3' := Lib.hid hO3
          have hB3' := Lib.hid (((hB.out).alloc hB.out.size _).trans hB3)
          clear hO3 hg3 hB3
          go_wp2
          go_roundw
          case rel => exact ⟨_, A', c', xs ++ [n], rfl, by simp, hO3'.out, hB3'.out, by simp; omega, by simp; omega, by rw [hd.out]; exact hS'.out⟩
          case measure => simp [strLen]; omega
theorem OwnInts.empty (w : World) (B : Nat) (hB : B ≤ w.heap.size) : OwnInts (w.alloc (.cells #[] 3)) B (some ⟨w.heap.size, 0, none⟩) 0 [] :=
  World.ownsRow_lit w #[] 0 hB (by unfold maxLen; omega) rfl
set_option maxHeartbeats 800000 in
theorem ssplit_any (s : ByteArray) (w : World) (hm : s.size ≤ 9223372036854775807) : Calls Try.prog 29 #[.string s] w (SplitPost w s.data.toList) := by
  go_enter Try.func29, Try.ntmps29
  go_wp2_with fail
  go_loopw [0, 4, 5, 6] (fun s0 v4 _ _ wr => ∃ (t : ByteArray) (A : Option Addr) (c : Nat) (xs : List Int), s0 = .string t ∧ v4 = .slice A xs.length c ∧ Hid (OwnInts wr w.heap.size A c xs) ∧ Hid (Below w.heap.size w wr) ∧ t.size ≤ s.size ∧ xs.length ≤ 20 ∧ Hid (SplitAt s.data.toList xs t.data.toList)) (fun s0 _ _ _ _ => strLen s0)
  case atStart => exact ⟨s, _, 0, [], rfl, rfl, OwnInts.empty w _ (Nat.le_refl _), (Below.refl _ _).alloc (Nat.le_refl _) _, Nat.le_refl _, by simp, splitAt_start _⟩
  case round =>
    obtain ⟨t, A, c, xs, rfl, rfl, hO, hB, ht, hx, hS⟩ := hrel
    by_cases h0 : t.size = 0
    · have e1 := isEmpty_true t h0
      have D := Lib.hid (split_some (splitAt_end (by have := hS.out; rwa [show t.data.toList = [] from List.eq_nil_of_length_eq_zero (by rw [size_list]; exact h0)] at this)) hO.out hB.out)
      clear h0
      go_wp2
      go_ret2
      exact D.out
    · have e1 := isEmpty_false t (by omega)
      have hne := ne_nil_of t h0
      cases hf : fine t.data.toList with
      | false =>
        have D := Lib.hid (fun w2 (hw2 : Below wr.heap.size wr w2) => split_none (w' := w2.alloc (.cells #[] 3)) (splitAt_bad hS.out hne hf) (OwnInts.empty w2 w.heap.size (Nat.le_trans hB.out.size hw2.size)) (((hB.out).trans (hw2.mono hB.out.size)).alloc (Nat.le_trans hB.out.size hw2.size) _))
        have hz := (dec_none _ hf).1
        go_wp2_with (go_at_call 45; refine (sdec_any _ _ (by omega)).mono ?_; rintro e w2 ⟨rfl, hw2⟩)
        go_ret2
        exact D.out w2 hw2
      | true =>
        by_cases hl : xs.length = 20
        · have D := Lib.hid (fun w2 (hw2 : Below wr.heap.size wr w2) => split_none (w' := w2.alloc (.cells #[] 3)) (splitAt_full hS.out hne (by omega)) (OwnInts.empty w2 w.heap.size (Nat.le_trans hB.out.size hw2.size)) (((hB.out).trans (hw2.mono hB.out.size)).alloc (Nat.le_trans hB.out.size hw2.size) _))
          have hz := dsize_pos t.data.toList
          rw [hf, decide_eq_true_eq] at hz
          have hl20 : (20 : Int) ≤ (xs.length : Int) := by omega
          go_wp2_with (go_at_call 45; refine (sdec_any _ _ (by omega)).mono ?_; rintro e w2 ⟨rfl, hw2⟩)
          go_ret2
          exact D.out w2 hw2
        · have hl' : xs.length < 20 := by omega
          have hz := dsize_pos t.data.toList
          rw [hf, decide_eq_true_eq] at hz
          have hz' := dsize_le t.data.toList
          rw [size_list] at hz'
          have hS' := Lib.hid (splitAt_step hS.out hf hl')
          have hf' := Lib.hid hf
          have hd := Lib.hid (drop_extract t (dsize t.data.toList))
          clear hne
          obtain ⟨d, hdd⟩ : ∃ d, d = dsize t.data.toList := ⟨_, rfl⟩
          obtain ⟨n, hn⟩ : ∃ n, n = dnum t.data.toList := ⟨_, rfl⟩
          rw [← hdd] at hz hz' hS' hd
          rw [← hn] at hS'
          have hz0 : ((d : Int) == 0) = false := by rw [beq_eq_false_iff_ne]; omega
          have hdec : Calls Try.prog 45 #[.string t] wr fun e w' => e = .returned (.tuple #[.int .i64 n, .int .i64 d]) ∧ Below wr.heap.size wr w' := by
            have := sdec_any t wr (by omega)
            rw [← hdd, ← hn] at this
            exact this
          have hdec' := Lib.hid hdec
          clear hdec hf hdd hn hl h0
          go_wp2_with fail
          with_reducible refine hdec'.out.mono ?_
          rintro e w2 ⟨rfl, hw2⟩
          have hcell : (w2.alloc (.cells #[.int .i64 n] 3)).cell? ⟨w2.heap.size, 0, none⟩ = some (.int .i64 n) := cell_lit w2 [.int .i64 n] 3 0 _ rfl
          have hBs : w.heap.size ≤ (w2.alloc (.cells #[.int .i64 n] 3)).heap.size := by have := hB.out.size; have := hw2.size; simp; omega
          have hO2 := Lib.hid (hO.out.below hw2)
          have hB2 := Lib.hid (hB.out.trans (hw2.mono hB.out.size))
          have hs2 : w.heap.size ≤ w2.heap.size := Nat.le_trans hB.out.size hw2.size
          clear hw2
          go_wp2_with (at_builtin; refine wpList_append_int rfl (.tmp 23) (.tmp 25) rfl w.heap.size A c xs rfl (hO2.out.alloc _) w2.heap.size n rfl hcell (by omega) hBs ?_; intro A' c' w3 hO3 hg3 hB3)
          have hO3' := Lib.hid hO3
          have hB3' := Lib.hid (((hB2.out).alloc hs2 _).trans hB3)
          clear hO3 hg3 hB3
          go_wp2
          go_roundw
          case rel => exact ⟨_, A', c', xs ++ [n], rfl, by simp, hO3'.out, hB3'.out, by simp; omega, by simp; omega, by rw [hd.out]; exact hS'.out⟩
          case measure => simp [strLen]; omega
end Go.Proofs.Ytnmanfjhbppbdaa
