/- The contract of the numbers for which membership is compared, and contracts of the calls at known results. No condition beyond those in each theorem. -/
import Derived.Test.YtclfkkapahdgaaaRDraw
import Derived.Test.YtclfkkapahdgaaaRLaw
import Derived.Test.YtclfkkapahdgaaaRHas
import Derived.Test.YtclfkkapahdgaaaRMark
import Derived.Test.YtclfkkapahdgaaaRGaps2
namespace Go.Proofs.Ytclfkkapahdgaaa
open Go.RowKit
set_option linter.unusedVariables false
/-! ### slices of integers -/
def OwnI (w : World) (B : Nat) (A : Option Addr) (c : Nat) (xs : List Int) : Prop := w.ownsRow B 3 1 (.slice A xs.length c) xs.length (xs.map (Value.int .i64))
theorem intI_info : (Try.prog.info? 3).map (fun i => (i.zero, i.size, i.bytes)) = some (some (.int .i64 0), 1, 8) := by kernel_rfl
theorem OwnI.below {w w' : World} {B : Nat} {A : Option Addr} {c : Nat} {xs : List Int} (h : OwnI w B A c xs) (hb : Below w.heap.size w w') : OwnI w' B A c xs :=
  World.ownsRow.kept h ⟨hb.os, hb.tape, hb.output, hb.size, fun k hk _ => hb.block k hk⟩ (row := none) (by
    cases hb : (Value.slice A xs.length c).ownBlock with
    | none => exact .inl rfl
    | some k => exact .inr (by simp))
theorem OwnI.cell {w : World} {B : Nat} {A : Option Addr} {c : Nat} {xs : List Int} (h : OwnI w B A c xs) (hn : 0 < xs.length) :
    ∃ g, A = some ⟨g, 0, none⟩ ∧ B ≤ g ∧ g < w.heap.size ∧ ∀ i, i < xs.length → w.cell? ⟨g, i, none⟩ = some (.int .i64 (xs.getD i 0)) := by
  rcases h.2 with ⟨_, h0⟩ | ⟨g, cap, cur, hv, hB, hh, r⟩
  · omega
  · injection hv with hA _ hc
    subst hA
    refine ⟨g, rfl, hB, ?_, fun i hi => ?_⟩
    · rcases Nat.lt_or_ge g w.heap.size with hlt | hge
      · exact hlt
      · rw [Array.getElem?_eq_none hge] at hh; cases hh
    · have := World.ownsRow.cells h (g := g) rfl i (.int .i64 (xs.getD i 0)) (by
        rw [List.getElem?_map, List.getElem?_eq_getElem hi, List.getD_eq_getElem?_getD, List.getElem?_eq_getElem hi]; rfl)
      have ha : (⟨g, 0, none⟩ : Addr).add i = ⟨g, i, none⟩ := by
        unfold Addr.add; by_cases h0 : i = 0 <;> simp [h0]
      rw [ha] at this
      exact this
theorem OwnI.lit (w : World) (B : Nat) (ns : List Int) (n : Nat) (hn : ns.length = n) (hB : B ≤ w.heap.size) (hm : n ≤ 1000) : OwnI (w.alloc (.cells (ns.map (Value.int .i64)).toArray 3)) B (some ⟨w.heap.size, 0, none⟩) n ns := by
  subst hn
  exact World.ownsRow_lit w (ns.map (Value.int .i64)).toArray ns.length hB (by unfold maxLen; omega) (by simp)
/-- 'append(xs, ..)' of integers that lie in a new block. -/
theorem wpList_append_i {ops : Array Oper} {rest : List Oper} {o : Oper} {a : Act} {w0 : World} {Q : Exit → Act → World → Prop} (ys : List Int) (hgd : o.guard = none) (s x : Operand)
    (ho : o.op = .call { callee := .builtin .append, args := #[s, x], argTypes := #[42, 42] })
    (B : Nat) (A : Option Addr) (c : Nat) (xs : List Int) (hs : a.eval s = .slice A xs.length c) (hown : OwnI w0 B A c xs)
    (b n : Nat) (hx : a.eval x = .slice (some ⟨b, 0, none⟩) n n) (hb : b = w0.heap.size) (hn : n = ys.length) (hn0 : 0 < n) (hn1 : n ≤ 10) (hl : xs.length ≤ 1000000) (hB : B ≤ w0.heap.size)
    (h : ∀ A' c' w' qs, Hid (qs = xs ++ ys) → Hid (qs.length = xs.length + ys.length) → Hid (OwnI w' B A' c' qs) → Hid (Below B w0 w') → wpList Try.prog ops Q rest (a.put o.dst (.slice A' qs.length c')) w') :
    wpList Try.prog ops Q (o :: rest) a (w0.alloc (.cells (ys.map (Value.int .i64)).toArray 3)) := by
  obtain ⟨i0, hi, hz0, hz1, hz2⟩ := info_parts intI_info
  subst hb hn
  have hB1 : Below B w0 (w0.alloc (.cells (ys.map (Value.int .i64)).toArray 3)) := (Below.refl B w0).alloc hB _
  refine wpList_append_own _ hgd s x 42 ho B 3 i0 (.int .i64 0) 1 8 Try.underlying42 hi hz0 hz1 hz2 rfl (by decide) _ xs.length _ hs (World.ownsRow.alloc hown _) ⟨w0.heap.size, 0, none⟩ ys.length ys.length (ys.map (Value.int .i64)) hx (by simp) ?_ ?_ ?_ ?_ (Nat.le_trans hB hB1.size) ?_
  · intro j u hj
    have := cell_lit w0 (ys.map (Value.int .i64)) 3 j u hj
    exact this
  · intro u hu
    obtain ⟨y, _, rfl⟩ := List.mem_map.1 hu
    rfl
  · unfold maxLen; omega
  · omega
  · intro v' w' hown' hg _
    obtain ⟨A', c', rfl⟩ := own_form hown'
    have hk : ∀ k, (Value.slice A xs.length c).ownBlock = some k → B ≤ k := fun k hk => (World.ownsRow.lt hown k hk).1
    have e : (xs ++ ys).length = xs.length + ys.length := by simp
    rw [← e] at hown' ⊢
    exact h A' c' w' (xs ++ ys) rfl e (by show OwnI _ _ _ _ _; unfold OwnI; rw [List.map_append]; exact hown') (hB1.trans ((Below.refl _ _).grown hg (Nat.le_trans hB hB1.size) hk))
def SomeI (w : World) (e : Ending) (w' : World) : Prop := ∃ A c xs, e = .returned (.slice A xs.length c) ∧ xs.length ≤ 200 ∧ OwnI w' w.heap.size A c xs ∧ Below w.heap.size w w'
set_option maxHeartbeats 800000 in
theorem sample_any (w : World) : Calls Try.prog 40 #[] w (SomeI w) := by
  have O0 := Lib.hid (OwnI.lit w w.heap.size [-1, 999, 1000, 1001] 4 rfl (Nat.le_refl _) (by omega))
  have B0 := Lib.hid ((Below.refl w.heap.size w).alloc (Nat.le_refl _) (.cells (([-1, 999, 1000, 1001] : List Int).map (Value.int .i64)).toArray 3))
  go_enter Try.func40, Try.ntmps40
  go_wp2_with fail
  go_loopw [1, 2] (fun o i wr => ∃ (k : Nat) (A : Option Addr) (c : Nat) (xs : List Int), k ≤ 61 ∧ i = .int .i64 k ∧ o = .slice A xs.length c ∧ xs.length ≤ 4 + k ∧ Hid (OwnI wr w.heap.size A c xs) ∧ Hid (Below w.heap.size w wr)) (fun _ i _ => 62 - (intOf i).toNat)
  case atStart => exact ⟨0, _, 4, [-1, 999, 1000, 1001], by omega, rfl, rfl, by simp, O0.out, B0.out⟩
  case round =>
    clear O0 B0
    obtain ⟨k, A, c, xs, hk, rfl, rfl, hl, hO, hB⟩ := hrel
    by_cases hlt : k ≤ 60
    · go_wp2_with (at_builtin; refine wpList_append_i [(k : Int)] (by rfl) (.tmp 8) (.tmp 10) (by rfl) w.heap.size A c xs (by rfl) hO.out _ 1 (by rfl) (by rfl) (by rfl) (by omega) (by omega) (by omega) hB.out.size ?_; intro A' c' w' qs hqs hql O2 hB2)
      have B2 := Lib.hid (hB.out.trans hB2.out)
      go_wp2_with fail
      go_roundw
      case rel => exact ⟨k + 1, A', c', qs, by omega, by go_num, rfl, by rw [hql.out, List.length_singleton]; omega, O2.out, B2.out⟩
      case measure => simp [intOf]; omega
    · go_wp2_with (at_builtin; refine wpList_append_i [997, 998] (by rfl) (.tmp 12) (.tmp 13) (by rfl) w.heap.size A c xs (by rfl) hO.out _ 2 (by rfl) (by rfl) (by rfl) (by omega) (by omega) (by omega) hB.out.size ?_; intro A' c' w' qs hqs hql O2 hB2)
      have D := Lib.hid (show SomeI w (.returned (.slice A' qs.length c')) w' from ⟨A', c', qs, rfl, by rw [hql.out, List.length_cons, List.length_singleton]; omega, O2.out, hB.out.trans hB2.out⟩)
      go_wp2_with fail
      go_ret
      exact D.out
/-! ### the calls at known results -/
def Pair2 (w : World) (qs : List Rg) (ok : Bool) (e : Ending) (w' : World) : Prop := ∃ A c, e = .returned (.tuple #[.slice A qs.length c, .bool ok]) ∧ OwnRs w' w.heap.size A c qs ∧ Below w.heap.size w w'
def Row2 (w : World) (qs : List Rg) (e : Ending) (w' : World) : Prop := ∃ A c, e = .returned (.slice A qs.length c) ∧ OwnRs w' w.heap.size A c qs ∧ Below w.heap.size w w'
theorem few_len (rs : List Rg) : (few rs).1.length ≤ 16 := by unfold few; split <;> simp; omega
theorem add_parts (l : List Rg) (lo hi : Int) : ∃ qs ok, Hid (addOf l lo hi = (qs, ok)) ∧ qs.length ≤ 16 := by
  refine ⟨(addOf l lo hi).1, (addOf l lo hi).2, rfl, ?_⟩
  unfold addOf; split
  · exact few_len _
  · simp
theorem rem_parts (l : List Rg) (lo hi : Int) : ∃ qs ok, Hid (remOf l lo hi = (qs, ok)) ∧ qs.length ≤ 16 := by
  refine ⟨(remOf l lo hi).1, (remOf l lo hi).2, rfl, ?_⟩
  unfold remOf; split
  · exact few_len _
  · simp
theorem union_parts (l t : List Rg) : ∃ qs ok, Hid (unionOf l t = (qs, ok)) ∧ qs.length ≤ 16 := by
  refine ⟨(unionOf l t).1, (unionOf l t).2, rfl, ?_⟩
  unfold unionOf; split
  · exact few_len _
  · simp
theorem gaps_parts (l : List Rg) : ∃ qs, Hid (gapsOf l = qs) ∧ qs.length ≤ 16 := by
  refine ⟨_, rfl, ?_⟩
  unfold gapsOf
  cases h : rvalid l with
  | true => have := rvalid_len h; rw [if_pos rfl, rgaps_length]; omega
  | false => simp
section
variable {l qs : List Rg} {ok : Bool} {lo hi : Int} {B : Nat} {A : Option Addr} {c : Nat} {w : World}
theorem iadd_is (hO : OwnRs w B A c l) (hm : l.length ≤ 2000000) (hp : addOf l lo hi = (qs, ok)) : Calls Try.prog 35 #[.slice A l.length c, .int .i64 lo, .int .i64 hi] w (Pair2 w qs ok) := by
  have hh := iaddAll_any w.heap.size A l c lo hi w hO.in_ (Nat.le_refl _) hm hO.cap
  rw [hp] at hh; exact hh
theorem sadd_is (hO : OwnRs w B A c l) (hm : l.length ≤ 2000000) (hp : addOf l lo hi = (qs, ok)) : Calls Try.prog 41 #[.slice A l.length c, .int .i64 lo, .int .i64 hi] w (Pair2 w qs ok) := by
  have hh := saddAll_any w.heap.size A l c lo hi w hO.in_ (Nat.le_refl _) hm
  rw [hp] at hh; exact hh
theorem irem_is (hO : OwnRs w B A c l) (hm : l.length ≤ 2000000) (hp : remOf l lo hi = (qs, ok)) : Calls Try.prog 38 #[.slice A l.length c, .int .i64 lo, .int .i64 hi] w (Pair2 w qs ok) := by
  have hh := iremAll_any w.heap.size A l c lo hi w hO.in_ (Nat.le_refl _) hm
  rw [hp] at hh; exact hh
theorem srem_is (hO : OwnRs w B A c l) (hm : l.length ≤ 2000000) (hp : remOf l lo hi = (qs, ok)) : Calls Try.prog 37 #[.slice A l.length c, .int .i64 lo, .int .i64 hi] w (Pair2 w qs ok) := by
  have hh := sremAll_any w.heap.size A l c lo hi w hO.in_ (Nat.le_refl _) hm
  rw [hp] at hh; exact hh
theorem igaps_is (hO : OwnRs w B A c l) (hm : l.length ≤ 2000000) (hp : gapsOf l = qs) : Calls Try.prog 32 #[.slice A l.length c] w (Row2 w qs) := by
  have hh := igaps_any w.heap.size A l c w hO.in_ (Nat.le_refl _) (Nat.le_trans hm (by decide))
  rw [hp] at hh; exact hh
theorem sgaps_is (hO : OwnRs w B A c l) (hm : l.length ≤ 2000000) (hp : gapsOf l = qs) : Calls Try.prog 31 #[.slice A l.length c] w (Row2 w qs) := by
  have hh := sgaps_any w.heap.size A l c w hO.in_ (Nat.le_refl _) (Nat.le_trans hm (by decide))
  rw [hp] at hh; exact hh
theorem ivalid_is {b : Bool} (hO : OwnRs w B A c l) (hm : l.length ≤ 2000000) (hp : rvalid l = b) : Calls Try.prog 24 #[.slice A l.length c] w (BoolPost w b) := by
  have hh := ivalid_any w.heap.size A l c w hO.in_ (Nat.le_refl _) (Nat.le_trans hm (by decide))
  rw [hp] at hh; exact hh
theorem svalid_is {b : Bool} (hO : OwnRs w B A c l) (hm : l.length ≤ 2000000) (hp : rvalid l = b) : Calls Try.prog 22 #[.slice A l.length c] w (BoolPost w b) := by
  have hh := svalid_any w.heap.size A l c w hO.in_ (Nat.le_refl _) (Nat.le_trans hm (by decide))
  rw [hp] at hh; exact hh
theorem ihas_is {b : Bool} (x : Int) (hO : OwnRs w B A c l) (hm : l.length ≤ 2000000) (hp : (rvalid l && rhas l x) = b) : Calls Try.prog 30 #[.slice A l.length c, .int .i64 x] w (BoolPost w b) := by
  have hh := iphas_any w.heap.size A l c x w hO.in_ (Nat.le_refl _) (Nat.le_trans hm (by decide))
  rw [hp] at hh; exact hh
theorem icount_is {n : Int} (hO : OwnRs w B A c l) (hm : l.length ≤ 2000000) (hp : rcount l = n) : Calls Try.prog 27 #[.slice A l.length c] w (IntPost w n) := by
  have hh := icount_any w.heap.size A l c w hO.in_ (Nat.le_refl _) (Nat.le_trans hm (by decide))
  rw [hp] at hh; exact hh
theorem scount_is {n : Int} (hO : OwnRs w B A c l) (hm : l.length ≤ 2000000) (hp : rcount l = n) : Calls Try.prog 26 #[.slice A l.length c] w (IntPost w n) := by
  have hh := scount_any w.heap.size A l c w hO.in_ (Nat.le_refl _) (Nat.le_trans hm (by decide))
  rw [hp] at hh; exact hh
theorem iunion_is {t : List Rg} {B' : Nat} {A' : Option Addr} {c' : Nat} (hO : OwnRs w B A c l) (hO' : OwnRs w B' A' c' t) (hm : l.length ≤ 2000000) (hm' : t.length ≤ 2000000) (hp : unionOf l t = (qs, ok)) : Calls Try.prog 44 #[.slice A l.length c, .slice A' t.length c'] w (Pair2 w qs ok) := by
  have hh := iunion_any w.heap.size w.heap.size A A' l t c c' w hO.in_ hO'.in_ (Nat.le_refl _) (Nat.le_refl _) hm hm'
  rw [hp] at hh; exact hh
theorem sunion_is {t : List Rg} {B' : Nat} {A' : Option Addr} {c' : Nat} (hO : OwnRs w B A c l) (hO' : OwnRs w B' A' c' t) (hm : l.length ≤ 2000000) (hm' : t.length ≤ 2000000) (hp : unionOf l t = (qs, ok)) : Calls Try.prog 45 #[.slice A l.length c, .slice A' t.length c'] w (Pair2 w qs ok) := by
  have hh := sunion_any w.heap.size w.heap.size A A' l t c c' w hO.in_ hO'.in_ (Nat.le_refl _) (Nat.le_refl _) hm hm'
  rw [hp] at hh; exact hh
theorem same_is {t : List Rg} {B' : Nat} {A' : Option Addr} {c' : Nat} {b : Bool} (hO : OwnRs w B A c l) (hO' : OwnRs w B' A' c' t) (hm : l.length ≤ 2000000) (hp : decide (l = t) = b) : Calls Try.prog 36 #[.slice A l.length c, .slice A' t.length c'] w (BoolPost w b) := by
  have hh := sameRs_any w.heap.size w.heap.size A A' l t c c' w hO.in_ hO'.in_ (Nat.le_refl _) (Nat.le_refl _) (Nat.le_trans hm (by decide))
  rw [hp] at hh; exact hh
end
end Go.Proofs.Ytclfkkapahdgaaa
