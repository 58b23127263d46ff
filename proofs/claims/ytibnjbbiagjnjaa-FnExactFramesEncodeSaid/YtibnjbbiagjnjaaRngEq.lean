/- Contracts of the laws' helpers on slices of ranges: equal, copied, their size. No condition beyond those in each theorem. -/
import Derived.Test.YtibnjbbiagjnjaaRValid
import Derived.Deep.RegionHeld3
import Derived.Laws.MakeOwn
namespace Go.Proofs.Ytibnjbbiagjnjaa
open Go.RowKit
theorem eqR (a b c d : Int) (w : World) : Calls Try.prog 58 #[.agg #[.int .i64 a, .int .i64 b], .agg #[.int .i64 c, .int .i64 d]] w (BoolPost w (decide (a = c ∧ b = d))) := by
  have HB := Lib.hid (fun o o' => ((Below.refl w.heap.size w).alloc (Nat.le_refl _) o).alloc (by simp) o')
  go_enter Try.func58, Try.ntmps58
  go_wp2
  · have h1 : (a != c) = true := by assumption
    go_ret
    exact ⟨ret_bool (by rw [eq_comm, decide_eq_false_iff_not]; intro h; rw [bne_iff_ne] at h1; exact h1 h.1), HB.out _ _⟩
  · have h1 : (a != c) = false := by assumption
    have h2 : (b != d) = true := by assumption
    go_ret
    exact ⟨ret_bool (by rw [eq_comm, decide_eq_false_iff_not]; intro h; rw [bne_iff_ne] at h2; exact h2 h.2), HB.out _ _⟩
  · have h1 : (a != c) = false := by assumption
    have h2 : (b != d) = false := by assumption
    go_ret
    exact ⟨ret_bool (by rw [eq_comm, decide_eq_true_eq]; exact ⟨by simpa using h1, by simpa using h2⟩), HB.out _ _⟩
theorem rtake_succ_eq {xs ys : List Rg} {k : Nat} (hx : k < xs.length) (hy : k < ys.length) : xs.take (k + 1) = ys.take (k + 1) ↔ xs.take k = ys.take k ∧ xs.getD k (0, 0) = ys.getD k (0, 0) := by
  rw [List.take_succ_eq_append_getElem hx, List.take_succ_eq_append_getElem hy, List.getD_eq_getElem?_getD, List.getD_eq_getElem?_getD, List.getElem?_eq_getElem hx, List.getElem?_eq_getElem hy]
  constructor
  · intro h
    have := List.append_inj' h rfl
    exact ⟨this.1, by simpa using this.2⟩
  · rintro ⟨h1, h2⟩
    rw [h1]; simp at h2; rw [h2]
set_option maxHeartbeats 1600000 in
theorem eqRs_any (B B' : Nat) (A A' : Option Addr) (xs ys : List Rg) (c c' : Nat) (w : World) (h : RsIn w B A xs) (h' : RsIn w B' A' ys) (hBw : B ≤ w.heap.size) (hBw' : B' ≤ w.heap.size) (hm : xs.length ≤ 1000000000000) :
    Calls Try.prog 47 #[.slice A xs.length c, .slice A' ys.length c'] w (BoolPost w (decide (xs = ys))) := by
  have H := Lib.hid h
  have H' := Lib.hid h'
  clear h h'
  by_cases hl : xs.length = ys.length
  · have E : xs.length ≤ ys.length ∧ ys.length ≤ xs.length := by omega
    obtain ⟨E1, E2⟩ := E
    have HL := Lib.hid hl
    have e1 : ((xs.length : Int) != (ys.length : Int)) = false := by rw [bne_eq_false_iff_eq]; omega
    clear hl
    go_enter Try.func47, Try.ntmps47
    go_wp2_with fail
    go_loopw [5] (fun i wr => ∃ k : Nat, k ≤ xs.length ∧ i = .int .i64 k ∧ Hid (xs.take k = ys.take k) ∧ Hid (Below w.heap.size w wr)) (fun i _ => xs.length - (intOf i).toNat)
    case atStart => exact ⟨0, Nat.zero_le _, rfl, rfl, Below.refl _ _⟩
    case round =>
      obtain ⟨k, hk, rfl, ht, hB⟩ := hrel
      by_cases hlt : k < xs.length
      · obtain ⟨b, off, rfl, hb, hc⟩ := (H.out.below (hB.out.mono hBw)) (by omega)
        obtain ⟨b', off', rfl, hb', hc'⟩ := (H'.out.below (hB.out.mono hBw')) (by omega)
        obtain ⟨g1, g2⟩ := hc k hlt
        obtain ⟨g3, g4⟩ := hc' k (by omega)
        have T := Lib.hid (rtake_succ_eq hlt (show k < ys.length by omega))
        clear hc hc'
        generalize xs.getD k (0, 0) = p at g1 g2 T
        generalize ys.getD k (0, 0) = q at g3 g4 T
        obtain ⟨x, y⟩ := p
        obtain ⟨u, v⟩ := q
        simp only at g1 g2 g3 g4
        have j1 : (k : Int) < (xs.length : Int) := by omega
        have j2 : (k : Int) < (ys.length : Int) := by omega
        have z1 : b < wr.heap.size := by have := hB.out.size; omega
        have z2 : b' < wr.heap.size := by have := hB.out.size; omega
        obtain ⟨e, he⟩ : ∃ e, decide (x = u ∧ y = v) = e := ⟨_, rfl⟩
        have hcall : ∀ W, Calls Try.prog 58 #[.agg #[.int .i64 x, .int .i64 y], .agg #[.int .i64 u, .int .i64 v]] W (BoolPost W e) := fun W => by rw [← he]; exact eqR x y u v W
        have hcall' := Lib.hid hcall
        have HE := Lib.hid he
        clear hcall he
        go_wp2_with fail
        go_region_held3 (fun w' => w'.cell? ⟨b, off + k * 2, none⟩ = some (.int .i64 x) ∧ w'.cell? ⟨b, off + k * 2 + 1, none⟩ = some (.int .i64 y) ∧ w'.cell? ⟨b', off' + k * 2, none⟩ = some (.int .i64 u) ∧ w'.cell? ⟨b', off' + k * 2 + 1, none⟩ = some (.int .i64 v)) (first | go_keep | (exact ⟨(hB3.cell (p := ⟨b, off + k * 2, none⟩) (by simpa using z1)).trans g1, (hB3.cell (p := ⟨b, off + k * 2 + 1, none⟩) (by simpa using z1)).trans g2, (hB3.cell (p := ⟨b', off' + k * 2, none⟩) (by simpa using z2)).trans g3, (hB3.cell (p := ⟨b', off' + k * 2 + 1, none⟩) (by simpa using z2)).trans g4⟩)) ((first | (go_at_call 58; refine (hcall'.out _).mono ?_; rintro e w3 ⟨rfl, hB3⟩)))
        have hBB := Lib.hid (drew2 hB.out.drew hB3)
        clear hB3
        cases e with
        | true =>
          have hxy := of_decide_eq_true HE.out
          have T' := Lib.hid (T.out.2 ⟨ht.out, by rw [hxy.1, hxy.2]⟩)
          clear hxy
          go_wp2
          go_roundw
          case rel => exact ⟨k + 1, by omega, by go_num, T'.out, hBB.out⟩
          case measure => simp [intOf]; omega
        | false =>
          have hxy := of_decide_eq_false HE.out
          have D := Lib.hid (show false = decide (xs = ys) by
            rw [eq_comm, decide_eq_false_iff_not]
            intro he
            have := (T.out.1 (by rw [he])).2
            injection this with t1 t2
            exact hxy ⟨t1, t2⟩)
          clear hxy
          go_wp2
          go_ret
          exact ⟨ret_bool D.out, hBB.out⟩
      · have hk' : k = xs.length := by omega
        have K := Lib.hid hk'
        clear hk'
        go_wp2
        go_ret
        refine ⟨ret_bool ?_, hB.out⟩
        rw [eq_comm, decide_eq_true_eq]
        have := ht.out
        rw [K.out, List.take_of_length_le (Nat.le_refl _), List.take_of_length_le (by rw [HL.out]; exact Nat.le_refl _)] at this
        exact this
  · have e1 : ((xs.length : Int) != (ys.length : Int)) = true := by rw [bne_iff_ne]; omega
    have D := Lib.hid (show false = decide (xs = ys) by rw [eq_comm, decide_eq_false_iff_not]; intro he; exact hl (by rw [he]))
    clear hl
    go_enter Try.func47, Try.ntmps47
    go_wp2_with fail
    go_ret
    exact ⟨ret_bool D.out, Below.refl _ _⟩
theorem size_fits (A : Option Addr) (n c : Nat) (left : Int) (w : World) (h0 : left ≤ 1048576) (h : (n : Int) ≤ left) : Calls Try.prog 43 #[.slice A n c, .int .i64 left] w fun e w' => e = .returned (.int .i64 (left - n)) ∧ w = w' := by
  go_enter Try.func43, Try.ntmps43
  go_wp2
  go_ret
  exact ⟨rfl, rfl⟩
theorem size_over (A : Option Addr) (n c : Nat) (left : Int) (w : World) (hn : n ≤ 9223372036854775807) (h0 : 0 ≤ left) (h1 : left ≤ 1048576) (h : left < (n : Int)) : Calls Try.prog 43 #[.slice A n c, .int .i64 left] w fun e w' => e = .returned (.int .i64 (-1)) ∧ w = w' := by
  go_enter Try.func43, Try.ntmps43
  go_wp2
  go_ret
  exact ⟨rfl, rfl⟩

/-! ### the laws' copy -/
theorem toR (a b : Int) (w : World) : Calls Try.prog 57 #[.agg #[.int .i64 a, .int .i64 b]] w fun e w' => e = .returned (.agg #[.int .i64 a, .int .i64 b]) ∧ Below w.heap.size w w' := by
  have HB := Lib.hid (fun o o' o'' => (((Below.refl w.heap.size w).alloc (Nat.le_refl _) o).alloc (by simp) o').alloc (by simp; omega) o'')
  go_enter Try.func57, Try.ntmps57
  go_wp2
  exact bodyPost_ret (v := .agg #[.int .i64 a, .int .i64 b]) (by simp [results, Try.results57, go_sem]) rfl ⟨rfl, HB.out _ _ _⟩
theorem make_rs (n : Nat) (hn : n ≤ 1000000000) (W : World) : (Instr.makeSlice 23 (.int .i64 (n : Int)) (.int .i64 (n : Int))).run Try.prog W = .ok (.slice (some ⟨W.heap.size, 0, none⟩) n n) (W.alloc (.cells (rcells (List.replicate n (0, 0))).toArray 53)) := by
  obtain ⟨i, hi, hz, h1, h2⟩ := info_parts rng_info
  have hb : (i.bytes : Int) * (n : Int) ≤ 281474976710656 := by rw [h2]; omega
  have hr := run_make (P := Try.prog) W 23 53 i (.agg #[.int .i64 0, .int .i64 0]) Try.underlying23 hi hz .i64 .i64 n n (by omega) (by omega) hb (by omega)
  simp only [Int.toNat_natCast] at hr
  rw [hr, h1]
  congr 3
  apply Array.ext
  · simp [size_madeCells, rcells_length]
  · intro j k1 k2
    have e : (madeCells (Value.agg #[.int .i64 0, .int .i64 0]).cells (n * 2))[j] = Value.int .i64 0 := by
      have : ((madeCells (Value.agg #[.int .i64 0, .int .i64 0]).cells (n * 2)))[j] = (Value.agg #[.int .i64 0, .int .i64 0]).cells[j % 2]! := by simp [madeCells]; rfl
      rw [this]
      have hj : j % 2 = 0 ∨ j % 2 = 1 := by omega
      rcases hj with hj | hj <;> rw [hj] <;> rfl
    rw [e]
    have hl : j < n * 2 := by simpa [size_madeCells] using k1
    have hr : ∀ m, ∀ u ∈ rcells (List.replicate m ((0 : Int), (0 : Int))), u = Value.int .i64 0 := by
      intro m
      induction m with
      | zero => intro u hu; cases hu
      | succ m ih =>
        intro u hu
        rw [List.replicate_succ] at hu
        simp only [rcells, List.mem_cons] at hu
        rcases hu with rfl | rfl | hu
        · rfl
        · rfl
        · exact ih u hu
    exact (hr n _ (by simp)).symm
def rcopied (k : Nat) (xs : List Rg) : List Rg := xs.take k ++ List.replicate (xs.length - k) (0, 0)
theorem rcopied_length (k : Nat) (xs : List Rg) (h : k ≤ xs.length) : (rcopied k xs).length = xs.length := by unfold rcopied; simp; omega
theorem rcopied_succ (k : Nat) (xs : List Rg) (h : k < xs.length) : rcopied (k + 1) xs = (rcopied k xs).set k (xs.getD k (0, 0)) := by
  unfold rcopied
  rw [List.take_succ_eq_append_getElem h, List.set_append_right _ _ (by simp; omega), List.append_assoc]
  have e : xs.length - k = (xs.length - (k + 1)) + 1 := by omega
  rw [e, List.replicate_succ]
  have e2 : k - (xs.take k).length = 0 := by simp; omega
  rw [e2, List.set_cons_zero, List.getD_eq_getElem?_getD, List.getElem?_eq_getElem h]; rfl
theorem rcopied_all (xs : List Rg) : rcopied xs.length xs = xs := by unfold rcopied; simp
theorem rcells_set (rs : List Rg) : ∀ k x y, k < rs.length → rcells (rs.set k (x, y)) = ((rcells rs).set (k * 2) (.int .i64 x)).set (k * 2 + 1) (.int .i64 y) := by
  induction rs with
  | nil => intro k x y h; simp at h
  | cons r rs ih =>
    intro k x y h
    cases k with
    | zero => rfl
    | succ k =>
      have := ih k x y (by simpa using h)
      have e : (k + 1) * 2 = k * 2 + 1 + 1 := by omega
      rw [e]
      simp only [List.set_cons_succ, rcells, this]
theorem OwnRs.stored {w : World} {B g c : Nat} {rs : List Rg} (h : OwnRs w B (some ⟨g, 0, none⟩) c rs) (k : Nat) (x y : Int) (hk : k < rs.length) :
    OwnRs ((w.setCell ⟨g, k * 2, none⟩ (.int .i64 x)).setCell ⟨g, k * 2 + 1, none⟩ (.int .i64 y)) B (some ⟨g, 0, none⟩) c (rs.set k (x, y)) := by
  unfold OwnRs at h ⊢
  rw [List.length_set, rcells_set rs k x y hk]
  exact (World.ownsRow.stored (World.ownsRow.stored h (k * 2) (.int .i64 x)).1 (k * 2 + 1) (.int .i64 y)).1
theorem OwnRs.frozen {w : World} {B g c : Nat} {rs : List Rg} (h : OwnRs w B (some ⟨g, 0, none⟩) c rs) (j : Nat) : w.frozen? ⟨g, j, none⟩ = false := World.ownsRow.frozenAt h j
def RCopy (w : World) (xs : List Rg) (e : Ending) (w' : World) : Prop :=
  ∃ A c, e = .returned (.slice A xs.length c) ∧ OwnRs w' w.heap.size A c xs ∧ Below w.heap.size w w'
theorem own_zero (w : World) (xs : List Rg) (hn : xs.length ≤ 1000000000) : OwnRs (w.alloc (.cells (rcells (List.replicate xs.length (0, 0))).toArray 53)) w.heap.size (some ⟨w.heap.size, 0, none⟩) xs.length (rcopied 0 xs) := by
  have h := World.ownsRow_lit (base := w.heap.size) (e := 53) (size := 2) w (rcells (List.replicate xs.length (0, 0))).toArray xs.length (Nat.le_refl _) (by unfold maxLen; omega) (by simp [rcells_length])
  unfold OwnRs
  have e : (rcopied 0 xs).length = xs.length := rcopied_length 0 xs (by omega)
  have e2 : rcopied 0 xs = List.replicate xs.length (0, 0) := by unfold rcopied; simp
  rw [e, e2]
  exact h
set_option maxHeartbeats 800000 in
theorem toRs_any (B : Nat) (A : Option Addr) (xs : List Rg) (c : Nat) (w : World) (h : RsIn w B A xs) (hBw : B ≤ w.heap.size) (hm : xs.length ≤ 1000000000) :
    Calls Try.prog 46 #[.slice A xs.length c] w (RCopy w xs) := by
  have H := Lib.hid h
  clear h
  have hmk := fun W => make_rs xs.length hm W
  have O0 := Lib.hid (own_zero w xs hm)
  generalize rcells (List.replicate xs.length (0, 0)) = zs at hmk O0
  go_enter Try.func46, Try.ntmps46
  go_wp2_with fail
  go_loopw [4] (fun i wr => ∃ k : Nat, k ≤ xs.length ∧ i = .int .i64 k ∧ Hid (OwnRs wr w.heap.size (some ⟨w.heap.size, 0, none⟩) xs.length (rcopied k xs)) ∧ Hid (Below w.heap.size w wr)) (fun i _ => xs.length - (intOf i).toNat)
  case atStart => exact ⟨0, Nat.zero_le _, rfl, O0.out, (Below.refl _ _).alloc (Nat.le_refl _) _⟩
  case round =>
    obtain ⟨k, hk, rfl, hO, hB⟩ := hrel
    by_cases hlt : k < xs.length
    · obtain ⟨b, off, rfl, hbB, hc⟩ := (H.out.below (hB.out.mono hBw)) (by omega)
      obtain ⟨g1, g2⟩ := hc k hlt
      clear hc
      have hl := Lib.hid (rcopied_length k xs hk)
      have hS := Lib.hid (rcopied_succ k xs hlt)
      generalize xs.getD k (0, 0) = p at g1 g2 hS
      obtain ⟨x, y⟩ := p
      simp only at g1 g2
      go_wp2_with fail
      refine (toR x y wr).mono ?_
      rintro e w2 ⟨rfl, hB2⟩
      have hO2 := Lib.hid (hO.out.below hB2)
      have hBB := Lib.hid (drew2 hB.out hB2)
      clear hB2
      obtain ⟨g, hgA, hg, hgl, hc⟩ := hO2.out.cell (by rw [hl.out]; omega)
      injection hgA with hgA
      injection hgA with hgA
      subst hgA
      obtain ⟨g3, g4⟩ := hc k (by rw [hl.out]; omega)
      clear hc
      have f1 := hO2.out.frozen (k * 2)
      have f2 := hO2.out.frozen (k * 2 + 1)
      have hO3 := Lib.hid (hO2.out.stored k x y (by rw [hl.out]; omega))
      have hB3 := Lib.hid ((hBB.out.setCell (p := ⟨w.heap.size, k * 2, none⟩) (Nat.le_refl _) (.int .i64 x)).setCell (p := ⟨w.heap.size, k * 2 + 1, none⟩) (Nat.le_refl _) (.int .i64 y))
      generalize (rcopied k xs).getD k (0, 0) = q at g3 g4
      go_wp2_with fail
      go_roundw
      case rel => exact ⟨k + 1, by omega, by go_num, by rw [hS.out]; exact hO3.out, hB3.out⟩
      case measure => simp [intOf]; omega
    · have hk' : k = xs.length := by omega
      have D := Lib.hid (show RCopy w xs (.returned (.slice (some ⟨w.heap.size, 0, none⟩) xs.length xs.length)) wr by
        refine ⟨_, _, rfl, ?_, hB.out⟩
        have := hO.out
        rw [hk', rcopied_all] at this
        exact this)
      clear hk'
      go_wp2_with fail
      go_ret
      exact D.out
end Go.Proofs.Ytibnjbbiagjnjaa
