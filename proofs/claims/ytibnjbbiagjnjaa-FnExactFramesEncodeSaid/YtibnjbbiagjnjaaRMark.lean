/- Contracts of the laws' helpers that mark the memory of a result and look at the marks; ranges compared. No condition beyond those in each theorem. -/
import Derived.Test.YtibnjbbiagjnjaaRngEq
import Derived.Test.YtibnjbbiagjnjaaRGaps
import Derived.Laws.StructEq
import Derived.Deep.QuietTactic
import Derived.BigQuiet
namespace Go.Proofs.Ytibnjbbiagjnjaa
open Go.RowKit
set_option linter.unusedVariables false
def rmarks (k0 : Int) (n : Nat) : List Rg := (List.range n).map fun i => (k0 + 2 * (i : Nat), k0 + 2 * (i : Nat) + 1)
def rmarked (k0 : Int) (k : Nat) (xs : List Rg) : List Rg := rmarks k0 k ++ xs.drop k
theorem rmarks_length (k0 : Int) (n : Nat) : (rmarks k0 n).length = n := by unfold rmarks; simp
theorem rmarks_at (k0 : Int) (n i : Nat) (h : i < n) : (rmarks k0 n).getD i (0, 0) = (k0 + 2 * (i : Nat), k0 + 2 * (i : Nat) + 1) := by
  unfold rmarks
  rw [List.getD_eq_getElem?_getD, List.getElem?_map, List.getElem?_range h]; rfl
theorem rmarked_length (k0 : Int) (k : Nat) (xs : List Rg) (h : k ≤ xs.length) : (rmarked k0 k xs).length = xs.length := by
  unfold rmarked; rw [List.length_append, rmarks_length, List.length_drop]; omega
theorem rmarked_succ (k0 : Int) (k : Nat) (xs : List Rg) (h : k < xs.length) : rmarked k0 (k + 1) xs = (rmarked k0 k xs).set k (k0 + 2 * (k : Nat), k0 + 2 * (k : Nat) + 1) := by
  unfold rmarked rmarks
  rw [List.range_succ, List.map_append, List.append_assoc, List.set_append_right _ _ (by simp)]
  simp
  rw [List.drop_eq_getElem_cons h]
  rfl
theorem rmarked_all (k0 : Int) (xs : List Rg) : rmarked k0 xs.length xs = rmarks k0 xs.length := by unfold rmarked; simp
theorem own_block_eq (A : Option Addr) (n c : Nat) : (Value.slice A n c).ownBlock = A.map Addr.block := by cases A <;> rfl
theorem OwnRs.span {w : World} {B : Nat} {A : Option Addr} {c : Nat} {rs : List Rg} (h : OwnRs w B A c rs) : ∀ k, A.map Addr.block = some k → B ≤ k ∧ k < w.heap.size := fun k hk => h.block k (by rw [own_block_eq]; exact hk)
theorem OwnRs.apart {w w' : World} {B : Nat} {A : Option Addr} {c : Nat} {rs : List Rg} {row : Option Nat} (h : OwnRs w B A c rs) (hg : w.grownBy w' row) (hne : ∀ j k, A.map Addr.block = some j → row = some k → j ≠ k) : OwnRs w' B A c rs := by
  refine World.ownsRow.kept h hg ?_
  rw [own_block_eq]
  cases hA : A.map Addr.block with
  | none => exact .inl rfl
  | some j => exact .inr (fun e => hne j j hA e.symm rfl)
theorem rg_guard (op : BinOp) (x y : Operand) (xs ys : Array Value) (W : World) : (eqGuard op 53 x y (.agg xs) (.agg ys)).run Try.prog W = .ok () W := run_eqGuard_agg W op _ x y xs ys (by kernel_rfl)
theorem rg_fields : (Try.prog.fieldsOf 53).toList.map (fun f => (f.name, f.type, f.offset)) = [("Low", 3, 0), ("High", 3, 1)] := by kernel_rfl
theorem rg_under : Try.prog.underlying 53 = some (.struct (Try.prog.fieldsOf 53)) := by kernel_rfl
theorem rg_stood : Try.prog.stoodInHeld 53 = false := by kernel_rfl
theorem rg_neq (x y u v : Int) (W : World) : (binOp .neq 53 (.agg #[.int .i64 x, .int .i64 y]) (.agg #[.int .i64 u, .int .i64 v])).run Try.prog W = .ok (.bool (!(x == u && y == v))) W := by
  rw [run_neq_struct, run_equalIn_agg W 9999 _ _ _ rg_under rg_stood]
  have h := rg_fields
  generalize (Try.prog.fieldsOf 53).toList = l at h
  obtain ⟨f, g, rfl⟩ : ∃ f g, l = [f, g] := by
    cases l with
    | nil => simp at h
    | cons f l =>
      cases l with
      | nil => simp at h
      | cons g l =>
        cases l with
        | nil => exact ⟨f, g, rfl⟩
        | cons k l => simp at h
  simp only [List.map_cons, List.map_nil, List.cons.injEq, Prod.mk.injEq, and_true] at h
  obtain ⟨⟨a1, a2, a3⟩, b1, b2, b3⟩ := h
  simp [Op.eqFields, a1, a2, a3, b1, b2, b3, go_sem, Try.underlying3]
  by_cases c1 : x = u <;> by_cases c2 : y = v <;> simp [c1, c2]
theorem rg_same (x y u v : Int) (h : decide (x = u ∧ y = v) = true) (W : World) : (binOp .neq 53 (.agg #[.int .i64 x, .int .i64 y]) (.agg #[.int .i64 u, .int .i64 v])).run Try.prog W = .ok (.bool false) W := by
  rw [decide_eq_true_eq] at h
  rw [rg_neq, h.1, h.2]; simp
theorem rg_differ (x y u v : Int) (h : decide (x = u ∧ y = v) = false) (W : World) : (binOp .neq 53 (.agg #[.int .i64 x, .int .i64 y]) (.agg #[.int .i64 u, .int .i64 v])).run Try.prog W = .ok (.bool true) W := by
  rw [decide_eq_false_iff_not] at h
  rw [rg_neq]
  have : (x == u && y == v) = false := by
    rw [← Bool.not_eq_true]; intro e; simp at e; exact h e
  rw [this]; rfl
set_option maxHeartbeats 1600000 in
theorem sameRs_any (B B' : Nat) (A A' : Option Addr) (xs ys : List Rg) (c c' : Nat) (w : World) (h : RsIn w B A xs) (h' : RsIn w B' A' ys) (hBw : B ≤ w.heap.size) (hBw' : B' ≤ w.heap.size) (hm : xs.length ≤ 1000000000000) :
    Calls Try.prog 37 #[.slice A xs.length c, .slice A' ys.length c'] w (BoolPost w (decide (xs = ys))) := by
  have H := Lib.hid h
  have H' := Lib.hid h'
  clear h h'
  by_cases hl : xs.length = ys.length
  · have E : xs.length ≤ ys.length ∧ ys.length ≤ xs.length := by omega
    obtain ⟨E1, E2⟩ := E
    have HL := Lib.hid hl
    have e1 : ((xs.length : Int) != (ys.length : Int)) = false := by rw [bne_eq_false_iff_eq]; omega
    clear hl
    go_enter Try.func37, Try.ntmps37
    go_wp2_with fail
    go_loopw [5] (fun i wr => ∃ k : Nat, k ≤ xs.length ∧ i = .int .i64 k ∧ Hid (xs.take k = ys.take k) ∧ Hid (Below w.heap.size w wr)) (fun i _ => xs.length - (intOf i).toNat)
    case atStart => exact ⟨0, Nat.zero_le _, rfl, rfl, Below.refl _ _⟩
    case round =>
      obtain ⟨k, hk, rfl, ht, hB⟩ := hrel
      by_cases hlt : k < xs.length
      · obtain ⟨b, off, rfl, hb, hc⟩ := (H.out.below (hB.out.mono hBw)) (by omega)
        obtain ⟨b', off', rfl, hb', hc'⟩ := (H'.out.below (hB.out.mono hBw')) (by omega)
        obtain ⟨g1, g2⟩ := hc k hlt
        obtain ⟨g3, g4⟩ := hc' k (by omega)
        have T := Lib.hid (rtake_succ_eq hlt (show k < ys.length by omega))
        clear hc hc'
        generalize xs.getD k (0, 0) = p at g1 g2 T
        generalize ys.getD k (0, 0) = q at g3 g4 T
        obtain ⟨x, y⟩ := p
        obtain ⟨u, v⟩ := q
        simp only at g1 g2 g3 g4
        have j1 : (k : Int) < (xs.length : Int) := by omega
        have j2 : (k : Int) < (ys.length : Int) := by omega
        obtain ⟨e, he⟩ : ∃ e, decide (x = u ∧ y = v) = e := ⟨_, rfl⟩
        have HE := Lib.hid he
        clear he
        have gd := rg_guard
        cases e with
        | true =>
          have ne := rg_same x y u v HE.out
          have hxy := of_decide_eq_true HE.out
          have T' := Lib.hid (T.out.2 ⟨ht.out, by rw [hxy.1, hxy.2]⟩)
          clear hxy
          go_wp2_with fail
          go_quiet (fail)
          go_wp2_with fail
          go_roundw
          case rel => exact ⟨k + 1, by omega, by go_num, T'.out, below_drewN hB.out _⟩
          case measure => simp [intOf]; omega
        | false =>
          have ne := rg_differ x y u v HE.out
          have hxy := of_decide_eq_false HE.out
          have D := Lib.hid (show false = decide (xs = ys) by
            rw [eq_comm, decide_eq_false_iff_not]
            intro he
            have := (T.out.1 (by rw [he])).2
            injection this with t1 t2
            exact hxy ⟨t1, t2⟩)
          clear hxy
          go_wp2_with fail
          go_quiet (fail)
          go_wp2_with fail
          go_ret
          exact ⟨ret_bool D.out, below_drewN hB.out _⟩
      · have hk' : k = xs.length := by omega
        have K := Lib.hid hk'
        clear hk'
        go_wp2
        go_ret
        refine ⟨ret_bool ?_, hB.out⟩
        rw [eq_comm, decide_eq_true_eq]
        have := ht.out
        rw [K.out, List.take_of_length_le (Nat.le_refl _), List.take_of_length_le (by rw [HL.out]; exact Nat.le_refl _)] at this
        exact this
  · have e1 : ((xs.length : Int) != (ys.length : Int)) = true := by rw [bne_iff_ne]; omega
    have D := Lib.hid (show false = decide (xs = ys) by rw [eq_comm, decide_eq_false_iff_not]; intro he; exact hl (by rw [he]))
    clear hl
    go_enter Try.func37, Try.ntmps37
    go_wp2_with fail
    go_ret
    exact ⟨ret_bool D.out, Below.refl _ _⟩
end Go.Proofs.Ytibnjbbiagjnjaa
