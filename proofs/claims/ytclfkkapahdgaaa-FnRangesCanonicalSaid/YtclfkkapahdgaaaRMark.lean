/- Contracts of the laws' helpers that mark the memory of a result and look at the marks; ranges compared. No condition beyond those in each theorem. -/
import Derived.Test.YtclfkkapahdgaaaRngEq
import Derived.Test.YtclfkkapahdgaaaRGaps
import Derived.Laws.StructEq
import Derived.Deep.QuietTactic
import Derived.BigQuiet
namespace Go.Proofs.Ytclfkkapahdgaaa
open Go.RowKit
set_option linter.unusedVariables false
def rmarks (k0 : Int) (n : Nat) : List Rg := (List.range n).map fun i => (k0 + 2 * (i : Nat), k0 + 2 * (i : Nat) + 1)
def rmarked (k0 : Int) (k : Nat) (xs : List Rg) : List Rg := rmarks k0 k ++ xs.drop k
theorem rmarks_length (k0 : Int) (n : Nat) : (rmarks k0 n).length = n := by unfold rmarks; simp
theorem rmarks_at (k0 : Int) (n i : Nat) (h : i < n) : (rmarks k0 n).getD i (0, 0) = (k0 + 2 * (i : Nat), k0 + 2 * (i : Nat) + 1) := by
  unfold rmarks
  rw [List.getD_eq_getElem?_getD, List.getElem?_map, List.getElem?_range h]; rfl
theorem rmarked_length (k0 : Int) (k : Nat) (xs : List Rg) (h : k ≤ xs.length) : (rmarked k0 k xs).length = xs.length := by
  unfold rmarked; rw [List.length_append, rmarks_length, List.length_drop]; omega
theorem rmarked_succ (k0 : Int) (k : Nat) (xs : List Rg) (h : k < xs.length) : rmarked k0 (k + 1) xs = (rmarked k0 k xs).set k (k0 + 2 * (k : Nat), k0 + 2 * (k : Nat) + 1) := by
  unfold rmarked rmarks
  rw [List.range_succ, List.map_append, List.append_assoc, List.set_append_right _ _ (by simp)]
  simp
  rw [List.drop_eq_getElem_cons h]
  rfl
theorem rmarked_all (k0 : Int) (xs : List Rg) : rmarked k0 xs.length xs = rmarks k0 xs.length := by unfold rmarked; simp
theorem own_block_eq (A : Option Addr) (n c : Nat) : (Value.slice A n c).ownBlock = A.map Addr.block := by cases A <;> rfl
theorem OwnRs.span {w : World} {B : Nat} {A : Option Addr} {c : Nat} {rs : List Rg} (h : OwnRs w B A c rs) : ∀ k, A.map Addr.block = some k → B ≤ k ∧ k < w.heap.size := fun k hk => h.block k (by rw [own_block_eq]; exact hk)
theorem OwnRs.apart {w w' : World} {B : Nat} {A : Option Addr} {c : Nat} {rs : List Rg} {row : Option Nat} (h : OwnRs w B A c rs) (hg : w.grownBy w' row) (hne : ∀ j k, A.map Addr.block = some j → row = some k → j ≠ k) : OwnRs w' B A c rs := by
  refine World.ownsRow.kept h hg ?_
  rw [own_block_eq]
  cases hA : A.map Addr.block with
  | none => exact .inl rfl
  | some j => exact .inr (fun e => hne j j hA e.symm rfl)
theorem only_setCell {a b : World} {g : Nat} (h : a.grownBy b (some g)) (j : Nat) (v : Value) : a.grownBy (b.setCell ⟨g, j, none⟩ v) (some g) :=
  ⟨h.os, h.tape, h.output, by simpa [World.setCell] using h.size, fun k hk hne => (Below.heap_setCell _ _ _ _ (fun e => hne (by rw [e]))).trans (h.block k hk hne)⟩
def RMarkPost (w : World) (B : Nat) (A : Option Addr) (c : Nat) (n : Nat) (k0 : Int) (e : Ending) (w' : World) : Prop :=
  e = .returned (.int .i64 (k0 + 2 * n)) ∧ OwnRs w' B A c (rmarks k0 n) ∧ Below B w w' ∧ w.grownBy w' (A.map Addr.block)
theorem half_stored {w : World} {B g c : Nat} {rs : List Rg} (h : OwnRs w B (some ⟨g, 0, none⟩) c rs) (k : Nat) (hk : k < rs.length) (x : Value) :
    (w.setCell ⟨g, k * 2, none⟩ x).cell? ⟨g, k * 2 + 1, none⟩ = w.cell? ⟨g, k * 2 + 1, none⟩ ∧ (w.setCell ⟨g, k * 2, none⟩ x).frozen? ⟨g, k * 2 + 1, none⟩ = false := by
  constructor
  · exact World.cell?_setCell_other w ⟨g, k * 2, none⟩ ⟨g, k * 2 + 1, none⟩ x (fun e => by have := congrArg Addr.off e; simp at this)
  · have h1 := (World.ownsRow.stored h (k * 2) x).1
    exact World.ownsRow.frozenAt h1 (k * 2 + 1)
set_option maxHeartbeats 800000 in
theorem rmark_any (B : Nat) (A : Option Addr) (xs : List Rg) (c : Nat) (k0 : Int) (w : World) (h : OwnRs w B A c xs) (hk0 : 0 ≤ k0) (hk1 : k0 ≤ 100000000) (hm : xs.length ≤ 1000000000000) :
    Calls Try.prog 33 #[.slice A xs.length c, .int .i64 k0] w (RMarkPost w B A c xs.length k0) := by
  have H := Lib.hid h
  clear h
  go_enter Try.func33, Try.ntmps33
  go_wp2_with fail
  go_loopw [1, 5] (fun q i wr => ∃ k : Nat, k ≤ xs.length ∧ i = .int .i64 k ∧ q = .int .i64 (k0 + 2 * k) ∧ Hid (OwnRs wr B A c (rmarked k0 k xs)) ∧ Hid (Below B w wr) ∧ Hid (w.grownBy wr (A.map Addr.block))) (fun _ i _ => xs.length - (intOf i).toNat)
  case atStart => exact ⟨0, Nat.zero_le _, rfl, by simp, by show OwnRs w B A c (rmarked k0 0 xs); rw [show rmarked k0 0 xs = xs from by simp [rmarked, rmarks]]; exact H.out, Below.refl _ _, World.grownBy.refl _ _⟩
  case round =>
    obtain ⟨k, hk, rfl, rfl, hO, hB, hG⟩ := hrel
    by_cases hlt : k < xs.length
    · have hl := Lib.hid (rmarked_length k0 k xs hk)
      obtain ⟨g, rfl, hg, hgl, hc⟩ := hO.out.cell (by rw [hl.out]; omega)
      obtain ⟨g1, g2⟩ := hc k (by rw [hl.out]; omega)
      clear hc
      have f1 := hO.out.frozen (k * 2)
      have HS := Lib.hid (half_stored hO.out k (by rw [hl.out]; omega))
      have f2 := (HS.out (.int .i64 (k0 + 2 * k))).2
      have g3 := (HS.out (.int .i64 (k0 + 2 * k))).1.trans g2
      have hO2 := Lib.hid (show OwnRs ((wr.setCell ⟨g, k * 2, none⟩ (.int .i64 (k0 + 2 * k))).setCell ⟨g, k * 2 + 1, none⟩ (.int .i64 (k0 + 2 * k + 1))) B (some ⟨g, 0, none⟩) c (rmarked k0 (k + 1) xs) by rw [rmarked_succ k0 k xs hlt]; exact hO.out.stored k _ _ (by rw [hl.out]; omega))
      have hB2 := Lib.hid ((hB.out.setCell (p := ⟨g, k * 2, none⟩) hg (.int .i64 (k0 + 2 * k))).setCell (p := ⟨g, k * 2 + 1, none⟩) hg (.int .i64 (k0 + 2 * k + 1)))
      have hG2 := Lib.hid (only_setCell (only_setCell hG.out (k * 2) (.int .i64 (k0 + 2 * k))) (k * 2 + 1) (.int .i64 (k0 + 2 * k + 1)))
      generalize (rmarked k0 k xs).getD k (0, 0) = x at g1 g2 g3
      go_wp2_with fail
      go_roundw
      case rel => exact ⟨k + 1, by omega, by go_num, by congr 1; omega, hO2.out, hB2.out, hG2.out⟩
      case measure => simp [intOf]; omega
    · have hk' : k = xs.length := by omega
      have D := Lib.hid (show RMarkPost w B A c xs.length k0 (.returned (.int .i64 (k0 + 2 * k))) wr by
        refine ⟨by rw [hk'], ?_, hB.out, hG.out⟩
        rw [← rmarked_all, ← hk']; exact hO.out)
      clear hk'
      go_wp2_with fail
      go_ret
      exact D.out
set_option maxHeartbeats 800000 in
theorem rheld_any (B n : Nat) (A : Option Addr) (c : Nat) (k0 : Int) (w : World) (h : RsIn w B A (rmarks k0 n)) (hk0 : 0 ≤ k0) (hk1 : k0 ≤ 100000000) (hm : n ≤ 1000000000000) :
    Calls Try.prog 34 #[.slice A n c, .int .i64 k0] w fun e w' => e = .returned (.int .i64 (k0 + 2 * n)) ∧ w = w' := by
  have H := Lib.hid h
  clear h
  go_enter Try.func34, Try.ntmps34
  go_wp2_with fail
  go_loop [1, 5] (fun q i => ∃ k : Nat, k ≤ n ∧ i = .int .i64 k ∧ q = .int .i64 (k0 + 2 * k)) (fun _ i => n - (intOf i).toNat)
  case atStart => exact ⟨0, Nat.zero_le _, rfl, by simp⟩
  case round =>
    obtain ⟨k, hk, rfl, rfl⟩ := hrel
    by_cases hlt : k < n
    · obtain ⟨b, off, rfl, _, hc⟩ := H.out (by rw [rmarks_length]; omega)
      obtain ⟨g1, g2⟩ := hc k (by rw [rmarks_length]; omega)
      rw [rmarks_at k0 n k hlt] at g1 g2
      simp only at g1 g2
      clear hc
      go_wp2_with fail
      go_round
      case rel => exact ⟨k + 1, by omega, by go_num, by congr 1; omega⟩
      case measure => simp [intOf]; omega
    · have hk' : k = n := by omega
      have D := Lib.hid hk'
      clear hk'
      go_wp2_with fail
      go_ret
      exact ⟨by rw [D.out]; rfl, rfl⟩
theorem rg_guard (op : BinOp) (x y : Operand) (xs ys : Array Value) (W : World) : (eqGuard op 38 x y (.agg xs) (.agg ys)).run Try.prog W = .ok () W := run_eqGuard_agg W op _ x y xs ys (by kernel_rfl)
theorem rg_fields : (Try.prog.fieldsOf 38).toList.map (fun f => (f.name, f.type, f.offset)) = [("Low", 3, 0), ("High", 3, 1)] := by kernel_rfl
theorem rg_under : Try.prog.underlying 38 = some (.struct (Try.prog.fieldsOf 38)) := by kernel_rfl
theorem rg_stood : Try.prog.stoodInHeld 38 = false := by kernel_rfl
theorem rg_neq (x y u v : Int) (W : World) : (binOp .neq 38 (.agg #[.int .i64 x, .int .i64 y]) (.agg #[.int .i64 u, .int .i64 v])).run Try.prog W = .ok (.bool (!(x == u && y == v))) W := by
  rw [run_neq_struct, run_equalIn_agg W 9999 _ _ _ rg_under rg_stood]
  have h := rg_fields
  generalize (Try.prog.fieldsOf 38).toList = l at h
  obtain ⟨f, g, rfl⟩ : ∃ f g, l = [f, g] := by
    cases l with
    | nil => simp at h
    | cons f l =>
      cases l with
      | nil => simp at h
      | cons g l =>
        cases l with
        | nil => exact ⟨f, g, rfl⟩
        | cons k l => simp at h
  simp only [List.map_cons, List.map_nil, List.cons.injEq, Prod.mk.injEq, and_true] at h
  obtain ⟨⟨a1, a2, a3⟩, b1, b2, b3⟩ := h
  simp [Op.eqFields, a1, a2, a3, b1, b2, b3, go_sem, Try.underlying3]
  by_cases c1 : x = u <;> by_cases c2 : y = v <;> simp [c1, c2]
theorem rg_same (x y u v : Int) (h : decide (x = u ∧ y = v) = true) (W : World) : (binOp .neq 38 (.agg #[.int .i64 x, .int .i64 y]) (.agg #[.int .i64 u, .int .i64 v])).run Try.prog W = .ok (.bool false) W := by
  rw [decide_eq_true_eq] at h
  rw [rg_neq, h.1, h.2]; simp
theorem rg_differ (x y u v : Int) (h : decide (x = u ∧ y = v) = false) (W : World) : (binOp .neq 38 (.agg #[.int .i64 x, .int .i64 y]) (.agg #[.int .i64 u, .int .i64 v])).run Try.prog W = .ok (.bool true) W := by
  rw [decide_eq_false_iff_not] at h
  rw [rg_neq]
  have : (x == u && y == v) = false := by
    rw [← Bool.not_eq_true]; intro e; simp at e; exact h e
  rw [this]; rfl
set_option maxHeartbeats 1600000 in
theorem sameRs_any (B B' : Nat) (A A' : Option Addr) (xs ys : List Rg) (c c' : Nat) (w : World) (h : RsIn w B A xs) (h' : RsIn w B' A' ys) (hBw : B ≤ w.heap.size) (hBw' : B' ≤ w.heap.size) (hm : xs.length ≤ 1000000000000) :
    Calls Try.prog 36 #[.slice A xs.length c, .slice A' ys.length c'] w (BoolPost w (decide (xs = ys))) := by
  have H := Lib.hid h
  have H' := Lib.hid h'
  clear h h'
  by_cases hl : xs.length = ys.length
  · have E : xs.length ≤ ys.length ∧ ys.length ≤ xs.length := by omega
    obtain ⟨E1, E2⟩ := E
    have HL := Lib.hid hl
    have e1 : ((xs.length : Int) != (ys.length : Int)) = false := by rw [bne_eq_false_iff_eq]; omega
    clear hl
    go_enter Try.func36, Try.ntmps36
    go_wp2_with fail
    go_loopw [5] (fun i wr => ∃ k : Nat, k ≤ xs.length ∧ i = .int .i64 k ∧ Hid (xs.take k = ys.take k) ∧ Hid (Below w.heap.size w wr)) (fun i _ => xs.length - (intOf i).toNat)
    case atStart => exact ⟨0, Nat.zero_le _, rfl, rfl, Below.refl _ _⟩
    case round =>
      obtain ⟨k, hk, rfl, ht, hB⟩ := hrel
      by_cases hlt : k < xs.length
      · obtain ⟨b, off, rfl, hb, hc⟩ := (H.out.below (hB.out.mono hBw)) (by omega)
        obtain ⟨b', off', rfl, hb', hc'⟩ := (H'.out.below (hB.out.mono hBw')) (by omega)
        obtain ⟨g1, g2⟩ := hc k hlt
        obtain ⟨g3, g4⟩ := hc' k (by omega)
        have T := Lib.hid (rtake_succ_eq hlt (show k < ys.length by omega))
        clear hc hc'
        generalize xs.getD k (0, 0) = p at g1 g2 T
        generalize ys.getD k (0, 0) = q at g3 g4 T
        obtain ⟨x, y⟩ := p
        obtain ⟨u, v⟩ := q
        simp only at g1 g2 g3 g4
        have j1 : (k : Int) < (xs.length : Int) := by omega
        have j2 : (k : Int) < (ys.length : Int) := by omega
        obtain ⟨e, he⟩ : ∃ e, decide (x = u ∧ y = v) = e := ⟨_, rfl⟩
        have HE := Lib.hid he
        clear he
        have gd := rg_guard
        cases e with
        | true =>
          have ne := rg_same x y u v HE.out
          have hxy := of_decide_eq_true HE.out
          have T' := Lib.hid (T.out.2 ⟨ht.out, by rw [hxy.1, hxy.2]⟩)
          clear hxy
          go_wp2_with fail
          go_quiet (fail)
          go_wp2_with fail
          go_roundw
          case rel => exact ⟨k + 1, by omega, by go_num, T'.out, below_drewN hB.out _⟩
          case measure => simp [intOf]; omega
        | false =>
          have ne := rg_differ x y u v HE.out
          have hxy := of_decide_eq_false HE.out
          have D := Lib.hid (show false = decide (xs = ys) by
            rw [eq_comm, decide_eq_false_iff_not]
            intro he
            have := (T.out.1 (by rw [he])).2
            injection this with t1 t2
            exact hxy ⟨t1, t2⟩)
          clear hxy
          go_wp2_with fail
          go_quiet (fail)
          go_wp2_with fail
          go_ret
          exact ⟨ret_bool D.out, below_drewN hB.out _⟩
      · have hk' : k = xs.length := by omega
        have K := Lib.hid hk'
        clear hk'
        go_wp2
        go_ret
        refine ⟨ret_bool ?_, hB.out⟩
        rw [eq_comm, decide_eq_true_eq]
        have := ht.out
        rw [K.out, List.take_of_length_le (Nat.le_refl _), List.take_of_length_le (by rw [HL.out]; exact Nat.le_refl _)] at this
        exact this
  · have e1 : ((xs.length : Int) != (ys.length : Int)) = true := by rw [bne_iff_ne]; omega
    have D := Lib.hid (show false = decide (xs = ys) by rw [eq_comm, decide_eq_false_iff_not]; intro he; exact hl (by rw [he]))
    clear hl
    go_enter Try.func36, Try.ntmps36
    go_wp2_with fail
    go_ret
    exact ⟨ret_bool D.out, Below.refl _ _⟩
end Go.Proofs.Ytclfkkapahdgaaa
