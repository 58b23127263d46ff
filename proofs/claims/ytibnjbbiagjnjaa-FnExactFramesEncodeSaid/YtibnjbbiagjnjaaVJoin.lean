/- Contracts of the encoding of a list, the program's and the reference's. No condition but that the list is no longer than a Go slice can be. -/
import Derived.Test.YtibnjbbiagjnjaaIntsEq
import Derived.Test.YtibnjbbiagjnjaaVEnc
import Derived.Deep.RegionHeld3
namespace Go.Proofs.Ytibnjbbiagjnjaa
open Go.RowKit
def vjoin (xs : List Int) : List UInt8 := xs.flatMap venc
def isVar (n : Int) : Bool := decide (0 ≤ n) && decide (n ≤ 1073741823)
def joinOk (xs : List Int) : Bool := decide (xs.length ≤ 20) && xs.all isVar
theorem vjoin_nil : vjoin [] = [] := rfl
theorem vjoin_append (xs ys : List Int) : vjoin (xs ++ ys) = vjoin xs ++ vjoin ys := List.flatMap_append ..
theorem vjoin_one (x : Int) : vjoin [x] = venc x := by simp [vjoin]
theorem venc_len' (n : Int) : (venc n).length ≤ 4 := by unfold venc; (repeat' split) <;> simp [vb1, vb2, vb4]
theorem vjoin_len (xs : List Int) : (vjoin xs).length ≤ 4 * xs.length := by
  induction xs with
  | nil => simp [vjoin]
  | cons x xs ih =>
    have h := venc_len' x
    have e : vjoin (x :: xs) = venc x ++ vjoin xs := rfl
    rw [e, List.length_append, List.length_cons]; omega
theorem take_snoc {xs : List Int} {k : Nat} (h : k < xs.length) : xs.take (k + 1) = xs.take k ++ [xs.getD k 0] := by
  rw [List.take_succ_eq_append_getElem h, List.getD_eq_getElem?_getD, List.getElem?_eq_getElem h]; rfl
theorem all_take_snoc {xs : List Int} {k : Nat} (h : k < xs.length) : (xs.take (k + 1)).all isVar = ((xs.take k).all isVar && isVar (xs.getD k 0)) := by
  rw [take_snoc h, List.all_append]; simp
theorem isVar_vlen (n : Int) : (vlen n == 0) = !isVar n := by
  unfold isVar
  rcases vlen_cases n with ⟨g1, r⟩ | ⟨g1, r⟩ | ⟨g1, g2, r⟩ | ⟨g1, g2, r⟩ | ⟨g1, g2, r⟩ <;> rw [r]
  · have : decide (0 ≤ n) = false := by simp; omega
    rw [this]; rfl
  · have : decide (n ≤ 1073741823) = false := by simp; omega
    rw [this, Bool.and_false]; rfl
  all_goals
    have h1 : decide (0 ≤ n) = true := by simp; omega
    have h2 : decide (n ≤ 1073741823) = true := by simp; omega
    rw [h1, h2]; rfl
theorem all_false_of {xs : List Int} {k : Nat} (h : k < xs.length) (hv : isVar (xs.getD k 0) = false) : xs.all isVar = false := by
  rw [List.all_eq_false]
  refine ⟨xs.getD k 0, ?_, by rw [hv]; decide⟩
  rw [List.getD_eq_getElem?_getD, List.getElem?_eq_getElem h]
  exact List.getElem_mem _
def JoinPost (w : World) (xs : List Int) (e : Ending) (w' : World) : Prop :=
  e = .returned (.tuple #[.string ⟨(if joinOk xs then vjoin xs else []).toArray⟩, .bool (joinOk xs)]) ∧ Below w.heap.size w w'
theorem join_yes {w w' : World} {xs : List Int} {s : ByteArray} (h : joinOk xs = true) (hs : s.data.toList = vjoin xs) (hb : Below w.heap.size w w') : JoinPost w xs (.returned (.tuple #[.string s, .bool true])) w' := by
  refine ⟨?_, hb⟩
  rw [h, if_pos rfl]
  have : s = ⟨(vjoin xs).toArray⟩ := bytes_ext hs
  rw [this]
theorem join_no {w w' : World} {xs : List Int} (h : joinOk xs = false) (hb : Below w.heap.size w w') : JoinPost w xs (.returned (.tuple #[.string ⟨#[]⟩, .bool false])) w' := by
  refine ⟨?_, hb⟩
  rw [h]; rfl
theorem joined_step (s : ByteArray) (x : Int) (l : List UInt8) (h : s.data.toList = l) : (s ++ ⟨(venc x).toArray⟩ : ByteArray).data.toList = l ++ venc x := by
  rw [ByteArray.data_append, Array.toList_append, h]
theorem size_of_list (s : ByteArray) (l : List UInt8) (h : s.data.toList = l) : s.size = l.length := by rw [← h]; simp
set_option maxHeartbeats 800000 in
theorem sl1join_any (B : Nat) (A : Option Addr) (xs : List Int) (c : Nat) (w : World) (h : IntsIn w B A xs) (hBw : B ≤ w.heap.size) (hm : xs.length ≤ 60) (ha : xs.all isVar = true) :
    Calls Try.prog 54 #[.slice A xs.length c] w fun e w' => e = .returned (.string ⟨(vjoin xs).toArray⟩) ∧ Below w.heap.size w w' := by
  have H := Lib.hid h
  have HA := Lib.hid ha
  clear h ha
  go_enter Try.func54, Try.ntmps54
  go_wp2_with fail
  go_loopw [3, 4] (fun o i wr => ∃ (k : Nat) (s : ByteArray), k ≤ xs.length ∧ i = .int .i64 k ∧ o = .string s ∧ Hid (s.data.toList = vjoin (xs.take k)) ∧ Hid (Below w.heap.size w wr)) (fun _ i _ => xs.length - (intOf i).toNat)
  case atStart => exact ⟨0, ByteArray.empty, Nat.zero_le _, rfl, rfl, rfl, Below.refl _ _⟩
  case round =>
    obtain ⟨k, s, hk, rfl, rfl, hs, hB⟩ := hrel
    by_cases hlt : k < xs.length
    · obtain ⟨b, off, rfl, hbB, hc⟩ := (H.out.below (hB.out.mono hBw)) (by omega)
      have g1 := hc k hlt
      clear hc
      have hsz : s.size ≤ 240 := by
        have h1 := vjoin_len (xs.take k)
        rw [size_of_list s _ hs.out]
        have := List.length_take_le k xs
        omega
      have hv : 0 ≤ xs.getD k 0 ∧ xs.getD k 0 ≤ 1073741823 := by
        have h1 := List.all_eq_true.1 HA.out (xs.getD k 0) (by
          rw [List.getD_eq_getElem?_getD, List.getElem?_eq_getElem hlt]
          exact List.getElem_mem _)
        unfold isVar at h1
        simpa using h1
      have hs' := Lib.hid (show vjoin (xs.take (k + 1)) = vjoin (xs.take k) ++ venc (xs.getD k 0) by rw [take_snoc hlt, vjoin_append, vjoin_one])
      generalize xs.getD k 0 = x at g1 hv hs'
      obtain ⟨hv0, hv1⟩ := hv
      have hx := venc_len' x
      have cat : ∀ W, (Op.stringOp .add s ⟨(venc x).toArray⟩).run Try.prog W = .ok (.string (s ++ ⟨(venc x).toArray⟩)) W := fun W => run_string_add_sum W _ _ (by
        rw [size_of_list ⟨(venc x).toArray⟩ (venc x) rfl]; omega)
      have j1 : (k : Int) < (xs.length : Int) := by omega
      have hbs : b < wr.heap.size := by have := hB.out.size; omega
      go_wp2_with fail
      go_region_held3 (fun w' => w'.cell? ⟨b, off + k, none⟩ = some (.int .i64 x)) (first | go_keep | (exact (hB3.cell (p := ⟨b, off + k, none⟩) (by simpa using hbs)).trans g1)) ((first | (go_at_call 63; refine (slen_any _ _ hv0 hv1).mono ?_; rintro e w2 ⟨rfl, rfl⟩) | (go_at_call 62; refine (sbytes_any _ _ hv0 hv1).mono ?_; rintro e w3 ⟨rfl, hB3⟩)))
      have hBB := Lib.hid (drew2 hB.out.drew hB3)
      clear hB3
      go_wp2
      go_roundw
      case rel => exact ⟨k + 1, _, by omega, by go_num, rfl, by rw [hs'.out]; exact joined_step s x _ hs.out, hBB.out⟩
      case measure => simp [intOf]; omega
    · have hk' : k = xs.length := by omega
      have D := Lib.hid (show s = ⟨(vjoin xs).toArray⟩ from bytes_ext (by have := hs.out; rw [hk', List.take_of_length_le (Nat.le_refl _)] at this; exact this))
      clear hk'
      go_wp2_with fail
      go_ret
      exact ⟨by rw [D.out]; rfl, hB.out⟩
theorem in_bool (n : Int) (w : World) (b : Bool) (h : isVar n = b) : Calls Try.prog 38 #[.int .i64 n, .int .i64 0, .int .i64 1073741823] w fun e w' => e = .returned (.bool b) ∧ w = w' :=
  (in_any n 0 1073741823 w).mono fun _ _ ⟨he, hw⟩ => ⟨by rw [he]; congr 2, hw⟩
end Go.Proofs.Ytibnjbbiagjnjaa
