/- The reader of a code: a state that every draw keeps, and the contract of a draw. No condition beyond those in each theorem. -/
import Derived.Test.YtibnjbbiagjnjaaKit
import Derived.Deep.QuietTactic
import Derived.BigQuiet
import Derived.OpenShut
import Derived.RegionTactic
import Derived.ChangeAlike
namespace Go.Proofs.Ytibnjbbiagjnjaa
open Go.RowKit

/-- The code's cells: bytes, in a block below r. -/
def CodeOk (w : World) (r : Nat) (A : Option Addr) (len : Nat) : Prop :=
  0 < len → ∃ b off, A = some ⟨b, off, none⟩ ∧ b < r ∧ ∀ i, i < len → ∃ c : Int, 0 ≤ c ∧ c < 256 ∧ w.cell? ⟨b, off + i, none⟩ = some (.int .u8 c)
/-- The reader lies in block r; it has been asked at most N times. -/
def Rd (w : World) (r N : Nat) : Prop :=
  ∃ (A : Option Addr) (len cap p : Nat), w.heap[r]? = some (.cells #[.slice A len cap, .int .i64 (p : Int)] 73 (0, 0)) ∧ p ≤ N ∧ len ≤ 2000 ∧ CodeOk w r A len
def Picked (w : World) (r N : Nat) (n : Int) (e : Ending) (w' : World) : Prop :=
  ∃ m : Int, e = .returned (.int .i64 m) ∧ 0 ≤ m ∧ m < n ∧ Rd w' r (N + 1) ∧ w.grownBy w' (some r)

theorem rd_cells {w : World} {r : Nat} {x y : Value} (h : w.heap[r]? = some (.cells #[x, y] 73 (0, 0))) :
    w.cell? ⟨r, 0, none⟩ = some x ∧ w.cell? ⟨r, 1, none⟩ = some y ∧ w.frozen? ⟨r, 1, none⟩ = false ∧ r < w.heap.size :=
  ⟨cell_of_row w r 0 _ _ _ h, cell_of_row w r 1 _ _ _ h, by simp [World.frozen?, h], by
    rcases Nat.lt_or_ge r w.heap.size with hlt | hge
    · exact hlt
    · rw [Array.getElem?_eq_none hge] at h; cases h⟩
/-- The step of the counter leaves a reader, and turns nothing but block r. -/
theorem rd_step {w : World} {r N : Nat} {A : Option Addr} {len cap p : Nat} (h : w.heap[r]? = some (.cells #[.slice A len cap, .int .i64 (p : Int)] 73 (0, 0))) (hp : p ≤ N) (hl : len ≤ 2000) (hc : CodeOk w r A len) (n : Nat) :
    Rd ((w.setCell ⟨r, 1, none⟩ (.int .i64 ((p : Int) + 1))).drewN n) r (N + 1) ∧ w.grownBy ((w.setCell ⟨r, 1, none⟩ (.int .i64 ((p : Int) + 1))).drewN n) (some r) := by
  have hr := (rd_cells h).2.2.2
  refine ⟨⟨A, len, cap, p + 1, ?_, by omega, hl, ?_⟩, ?_⟩
  · show (w.setCell ⟨r, 1, none⟩ (.int .i64 ((p : Int) + 1))).heap[r]? = _
    simp [World.setCell, Array.getElem?_modify, h]
  · intro h0
    obtain ⟨b, off, rfl, hb, hcell⟩ := hc h0
    refine ⟨b, off, rfl, hb, fun i hi => ?_⟩
    obtain ⟨c, h1, h2, h3⟩ := hcell i hi
    refine ⟨c, h1, h2, ?_⟩
    rw [← h3]
    exact World.cell?_setCell_other w ⟨r, 1, none⟩ ⟨b, off + i, none⟩ _ (fun e => by have := congrArg Addr.block e; simp at this; omega)
  · exact ⟨rfl, rfl, rfl, by simp [World.setCell], fun k hk hne => Below.heap_setCell _ _ _ _ (fun e => hne (by rw [e]))⟩
theorem i64_xor_nat (a b : Nat) (ha : a < 9223372036854775808) (hb : b < 9223372036854775808) : bits .xor .i64 (a : Int) (b : Int) = ((a ^^^ b : Nat) : Int) := by
  have hx : a ^^^ b < 2 ^ 63 := Nat.xor_lt_two_pow (by omega) (by omega)
  show IntKind.i64.wrap ((BitVec.ofInt 64 (a : Int) ^^^ BitVec.ofInt 64 (b : Int)).toNat : Int) = _
  rw [BitVec.toNat_xor, ofInt_i64 a ha, ofInt_i64 b hb, IntKind.wrap_i64]
  omega
theorem xor_64 (x : Int) (h0 : 0 ≤ x) (h : x ≤ 1000000000000000) : ∃ y : Int, bits .xor .i64 x (x / 64) = y ∧ 0 ≤ y := by
  obtain ⟨k, rfl⟩ : ∃ k : Nat, x = k := ⟨x.toNat, by omega⟩
  have := i64_xor_nat k (k / 64) (by omega) (by omega)
  rw [show ((k / 64 : Nat) : Int) = (k : Int) / 64 from rfl] at this
  exact ⟨_, this, by omega⟩
set_option maxHeartbeats 400000 in
theorem pick_any (w : World) (r N : Nat) (n : Int) (h : Rd w r N) (hN : N ≤ 1099511627776) (hn : 1 ≤ n) (hn2 : n ≤ 1099511627776) :
    Calls Try.prog 48 #[.pointer (some ⟨r, 0, none⟩), .int .i64 n] w (Picked w r N n) := by
  obtain ⟨A, len, cap, p, hh, hp, hl, hc⟩ := h
  obtain ⟨c0, c1, f1, _⟩ := rd_cells hh
  have S := Lib.hid (rd_step hh hp hl hc)
  by_cases h0 : len = 0
  · subst h0
    clear hh hc
    go_enter Try.func48, Try.ntmps48
    go_wp2
    go_ret
    exact ⟨0, rfl, by omega, by omega, S.out 0⟩
  · obtain ⟨b, off, rfl, hbr, hcell⟩ := hc (by omega)
    have hb : b ≠ r := by omega
    clear hh hc
    have hlen : ((len : Int) == 0) = false := by simp; omega
    by_cases h1 : p < len
    · obtain ⟨c, g1, g2, g3⟩ := hcell p h1
      clear hcell
      go_enter Try.func48, Try.ntmps48
      go_wp2
      go_ret
      have e1 := Int.emod_nonneg c (b := n) (by omega)
      have e2 := Int.emod_lt_of_pos c (b := n) (by omega)
      exact ⟨_, rfl, e1, e2, S.out 0⟩
    · obtain ⟨j, hj⟩ : ∃ j, j = p % len := ⟨_, rfl⟩
      obtain ⟨k, hk⟩ : ∃ k, k = (p * 7 + 3) % len := ⟨_, rfl⟩
      obtain ⟨q, hq⟩ : ∃ q, q = p / len := ⟨_, rfl⟩
      have hj1 : j < len := by rw [hj]; exact Nat.mod_lt _ (by omega)
      have hk1 : k < len := by rw [hk]; exact Nat.mod_lt _ (by omega)
      have hq1 : q ≤ p := by rw [hq]; exact Nat.div_le_self _ _
      obtain ⟨c, g1, g2, g3⟩ := hcell j hj1
      obtain ⟨d, k1, k2, k3⟩ := hcell k hk1
      clear hcell
      have T1 : ((p : Int)).tmod (len : Int) = (j : Int) := by rw [hj]; exact Int.tmod_eq_emod_of_nonneg (by omega)
      have T2 : ((p : Int) * 7 + 3).tmod (len : Int) = (k : Int) := by rw [hk, Int.tmod_eq_emod_of_nonneg (by omega)]; rfl
      have T3 : ((p : Int)).tdiv (len : Int) = (q : Int) := by rw [hq]; exact Int.tdiv_eq_ediv_of_nonneg (by omega)
      have W1 := IntWalk.i64_in ((p : Int) * 7) (by omega)
      have W2 := IntWalk.i64_in ((p : Int) * 7 + 3) (by omega)
      have W3 := IntWalk.i64_in (c * 131) (by omega)
      have W4 := IntWalk.i64_in (d * 1117) (by omega)
      have W5 := IntWalk.i64_in (c * 131 + d * 1117) (by omega)
      have W6 := IntWalk.i64_in ((p : Int) * 29) (by omega)
      have W7 := IntWalk.i64_in (c * 131 + d * 1117 + (p : Int) * 29) (by omega)
      have W8 := IntWalk.i64_in ((q : Int)) (by omega)
      have W9 := IntWalk.i64_in ((q : Int) * 53) (by omega)
      have W10 := IntWalk.i64_in (c * 131 + d * 1117 + (p : Int) * 29 + (q : Int) * 53) (by omega)
      have B1 : 0 ≤ c * 131 + d * 1117 + (p : Int) * 29 + (q : Int) * 53 := by omega
      have B2 : c * 131 + d * 1117 + (p : Int) * 29 + (q : Int) * 53 ≤ 1000000000000000 := by omega
      have J1 : (j : Int) < (len : Int) := by omega
      have K1 : (k : Int) < (len : Int) := by omega
      clear hj hk hq
      go_enter Try.func48, Try.ntmps48
      go_wp2
      go_quiet (fail)
      clear T1 T2 T3 W1 W2 W3 W4 W5 W6 W7 W8 W9 W10 J1 K1 g3 k3
      generalize c * 131 + d * 1117 + (p : Int) * 29 + (q : Int) * 53 = x at B1 B2 ⊢
      obtain ⟨y, hy, hy0⟩ := xor_64 x B1 B2
      go_wp2
      go_ret
      have e1 := Int.emod_nonneg y (b := n) (by omega)
      have e2 := Int.emod_lt_of_pos y (b := n) (by omega)
      exact ⟨_, rfl, e1, e2, S.out _⟩
/-- A code that came in: bytes. -/
def CodeArg (w : World) (A : Option Addr) (len cap : Nat) : Prop :=
  len ≤ cap ∧ cap ≤ 9223372036854775807 ∧ (0 < len → ∃ b off, A = some ⟨b, off, none⟩ ∧ b < w.heap.size ∧ ∀ i, i < len → ∃ c : Int, 0 ≤ c ∧ c < 256 ∧ w.cell? ⟨b, off + i, none⟩ = some (.int .u8 c))
theorem codeArg_of {w : World} {A : Option Addr} {len cap : Nat} {zs : List Int} (h : IsRow .u8 w A len cap zs) : CodeArg w A len cap := by
  rcases h with ⟨rfl, rfl, rfl, rfl⟩ | ⟨x, rfl, hl, hm, hz, hc, hw⟩
  · exact ⟨Nat.le_refl _, by omega, fun h => absurd h (by omega)⟩
  · unfold maxLen at hm
    refine ⟨hl, by omega, fun h0 => ?_⟩
    obtain ⟨b, off, spot⟩ := x
    have hs : spot = none := by simpa [Addr.add] using World.cell?_spot (hc 0 (by omega))
    subst hs
    have e : ∀ i, (⟨b, off, none⟩ : Addr).add i = ⟨b, off + i, none⟩ := by
      intro i; unfold Addr.add; by_cases hi : i = 0 <;> simp [hi]
    refine ⟨b, off, rfl, by simpa [e] using cell_lt (hc 0 (by omega)), fun i hi => ?_⟩
    have hci := hc i (by omega)
    rw [e] at hci
    have hmem : zs.getD i 0 ∈ zs := by
      rw [List.getD_eq_getElem?_getD, List.getElem?_eq_getElem (by omega)]
      exact List.getElem_mem _
    have hwf := hw _ hmem
    generalize zs.getD i 0 = c at hci hwf
    have hb := bounds_u8 hwf
    exact ⟨c, hb.1, by omega, hci⟩
def Opened (w : World) (e : Ending) (w' : World) : Prop := ∃ r, e = .returned (.pointer (some ⟨r, 0, none⟩)) ∧ Rd w' r 0 ∧ Below w.heap.size w w' ∧ w.heap.size ≤ r
theorem open_any (A : Option Addr) (len cap : Nat) (w : World) (h : CodeArg w A len cap) :
    Calls Try.prog 31 #[.slice A len cap] w (Opened w) := by
  obtain ⟨hl, hm, hc⟩ := h
  have fin : ∀ (len' cap' : Nat), len' ≤ 2000 → len' ≤ len → Opened w (.returned (.pointer (some ⟨w.heap.size, 0, none⟩))) (w.alloc (.cells #[.slice A len' cap', .int .i64 0] 73)) := by
    intro len' cap' h1 h2
    refine ⟨w.heap.size, rfl, ⟨A, len', cap', 0, heap_alloc_new w _, Nat.le_refl _, h1, fun h0 => ?_⟩, (Below.refl _ _).alloc (Nat.le_refl _) _, Nat.le_refl _⟩
    obtain ⟨b, off, rfl, hb, hcell⟩ := hc (by omega)
    refine ⟨b, off, rfl, hb, fun i hi => ?_⟩
    obtain ⟨c, g1, g2, g3⟩ := hcell i (by omega)
    exact ⟨c, g1, g2, (World.cell?_alloc_lt w _ ⟨b, off + i, none⟩ hb).trans g3⟩
  have F := Lib.hid fin
  clear fin
  by_cases h2 : len ≤ 2000
  · clear hc
    go_enter Try.func31, Try.ntmps31
    go_wp2
    go_ret
    exact F.out len cap h2 (Nat.le_refl _)
  · obtain ⟨b, off, rfl, _⟩ := hc (by omega)
    go_enter Try.func31, Try.ntmps31
    go_wp2
    go_ret
    exact F.out 2000 _ (Nat.le_refl _) (by omega)
/-- A draw of a number between two bounds: the reader goes on, only its block (and what is new) has turned. -/
def Drew (w : World) (r N : Nat) (lo hi : Int) (e : Ending) (w' : World) : Prop :=
  ∃ m : Int, e = .returned (.int .i64 m) ∧ lo ≤ m ∧ m ≤ hi ∧ Rd w' r N ∧ w.grownBy w' (some r)
theorem Rd.mono {w : World} {r N M : Nat} (h : Rd w r N) (hM : N ≤ M) : Rd w r M := by
  obtain ⟨A, len, cap, p, h1, h2, h3, h4⟩ := h
  exact ⟨A, len, cap, p, h1, by omega, h3, h4⟩
theorem Rd.lt {w : World} {r N : Nat} (h : Rd w r N) : r < w.heap.size := by
  obtain ⟨A, len, cap, p, h1, _⟩ := h
  exact (rd_cells h1).2.2.2
/-- A reader lies in block r and below: what leaves these leaves it. -/
theorem Rd.keep {w w' : World} {r N : Nat} (h : Rd w r N) (hk : ∀ k, k ≤ r → w'.heap[k]? = w.heap[k]?) : Rd w' r N := by
  obtain ⟨A, len, cap, p, h1, h2, h3, h4⟩ := h
  refine ⟨A, len, cap, p, (hk r (Nat.le_refl _)).trans h1, h2, h3, fun h0 => ?_⟩
  obtain ⟨b, off, rfl, hb, hc⟩ := h4 h0
  exact ⟨b, off, rfl, hb, fun i hi => by
    obtain ⟨c, g1, g2, g3⟩ := hc i hi
    exact ⟨c, g1, g2, (World.cell?_of_block (hk b (by omega))).trans g3⟩⟩
theorem Rd.alloc {w : World} {r N : Nat} (h : Rd w r N) (o : Obj) : Rd (w.alloc o) r N := by
  have hr := h.lt
  exact h.keep fun k hk => Below.heap_alloc w o k (by omega)
theorem Rd.below {w w' : World} {r N : Nat} (h : Rd w r N) (hb : Below w.heap.size w w') : Rd w' r N := by
  have hr := h.lt
  exact h.keep fun k hk => hb.block k (by omega)
/-- What grows a row behind it leaves it. -/
theorem Rd.grown {w w' : World} {r N : Nat} {row : Option Nat} (h : Rd w r N) (hg : w.grownBy w' row) (hr : ∀ k, row = some k → r < k) : Rd w' r N := by
  have hl := h.lt
  exact h.keep fun k hk => hg.block k (by omega) (fun e => by have := hr k e.symm; omega)
theorem only_alloc {a w : World} {row : Option Nat} (h : a.grownBy w row) (o : Obj) : a.grownBy (w.alloc o) row :=
  ⟨h.os, h.tape, h.output, Nat.le_trans h.size (by simp), fun i hi hne => (Below.heap_alloc w o i (Nat.lt_of_lt_of_le hi h.size)).trans (h.block i hi hne)⟩
theorem only_trans {a b c : World} {row : Option Nat} (h : a.grownBy b row) (k : b.grownBy c row) : a.grownBy c row :=
  ⟨k.os.trans h.os, k.tape.trans h.tape, k.output.trans h.output, Nat.le_trans h.size k.size, fun i hi hne => (k.block i (Nat.lt_of_lt_of_le hi h.size) hne).trans (h.block i hi hne)⟩
theorem only_cell {a b : World} {row : Option Nat} (h : a.grownBy b row) {p : Addr} (hp : p.block < a.heap.size) (hne : some p.block ≠ row) : b.cell? p = a.cell? p :=
  World.cell?_of_block (h.block p.block hp hne)

theorem cell_new (w : World) (ns : List Int) (t : TypeId) (k : Nat) (v : Int) (h : ns[k]? = some v) : (w.alloc (.cells (ns.map (Value.int .i64)).toArray t)).cell? ⟨w.heap.size, k, none⟩ = some (.int .i64 v) := by
  rw [cell_of_row _ _ _ _ _ _ (heap_alloc_new w _)]
  simp [h]
theorem only_of_alloc {w w1 : World} {o : Obj} {r : Nat} (h : (w.alloc o).grownBy w1 (some r)) : w.grownBy w1 (some r) :=
  only_trans (only_alloc (World.grownBy.refl w _) o) h
theorem CodeArg.below {w w' : World} {A : Option Addr} {len cap : Nat} (h : CodeArg w A len cap) (hb : Below w.heap.size w w') : CodeArg w' A len cap :=
  ⟨h.1, h.2.1, fun h0 => by
    obtain ⟨b, off, hA, hlt, hc⟩ := h.2.2 h0
    exact ⟨b, off, hA, Nat.lt_of_lt_of_le hlt hb.size, fun i hi => by
      obtain ⟨c, g1, g2, g3⟩ := hc i hi
      exact ⟨c, g1, g2, (hb.cell (p := ⟨b, off + i, none⟩) hlt).trans g3⟩⟩⟩
theorem below_only {w w1 w2 : World} {r : Nat} (h : Below w.heap.size w w1) (hr : w.heap.size ≤ r) (k : w1.grownBy w2 (some r)) : Below w.heap.size w w2 :=
  h.grown k h.size (fun j hj => by injection hj with hj; omega)
theorem cell_kept {w w1 : World} {ns : List Int} {t : TypeId} {r : Nat} (hG : (w.alloc (.cells (ns.map (Value.int .i64)).toArray t)).grownBy w1 (some r)) (hr : r < w.heap.size) (k : Nat) (v : Int) (hv : ns[k]? = some v) :
    w1.cell? ⟨w.heap.size, k, none⟩ = some (.int .i64 v) :=
  (only_cell hG (p := ⟨w.heap.size, k, none⟩) (by simp) (by simp; omega)).trans (cell_new w ns t k v hv)
end Go.Proofs.Ytibnjbbiagjnjaa
