/- The drawn input of the laws of derivation, and contracts of the calls at known results. No condition but bounds on lengths. -/
import Derived.Test.YtamddfacmmjglaaDDrawB
import Derived.Test.YtamddfacmmjglaaDList
namespace Go.Proofs.Ytamddfacmmjglaa
open Go.RowKit
set_option linter.unusedVariables false
def SomeBK (w : World) (e : Ending) (w' : World) : Prop := ∃ A c l A' c' ks, e = .returned (.tuple #[.slice A l.length c, .slice A' ks.length c']) ∧ l.length ≤ 10 ∧ Hid (∀ b ∈ l, (b : Bx).ins.length ≤ 10) ∧ ks.length ≤ 10 ∧ OwnBx w' w.heap.size A c l ∧ OwnInts w' w.heap.size A' c' ks ∧ Below w.heap.size w w'
theorem drawDerive_any (A : Option Addr) (len cap : Nat) (w : World) (h : CodeArg w A len cap) : Calls Try.prog 14 #[.slice A len cap] w (SomeBK w) := by
  go_enter Try.func14, Try.ntmps14
  go_wp2_with fail
  refine (open_any A len cap w h).mono ?_
  rintro e w1 ⟨r, rfl, hR, hB, hr⟩
  have hrl := hR.lt
  have R1 := Lib.hid hR
  have B1 := Lib.hid hB
  clear hR hB
  go_wp2_with fail
  refine (boxes_any w1 r 0 R1.out (by omega)).mono ?_
  rintro e w2 ⟨A2, c2, l, rfl, hl, hs, hO, hR, hG⟩
  have S2 := Lib.hid hs
  have O2 := Lib.hid hO
  have R2 := Lib.hid hR
  have B2 := Lib.hid (below_only B1.out hr hG)
  clear hO hR hG hs
  go_wp2_with fail
  refine (known_any w2 r (0 + 300) R2.out (by omega)).mono ?_
  rintro e w3 ⟨A3, c3, ks, rfl, hl3, hO3, _, hG⟩
  have O3 := Lib.hid (O2.out.kept hG (by rintro j ⟨⟩; exact hrl))
  have B3 := Lib.hid (below_only B2.out hr hG)
  have D := Lib.hid (show SomeBK w (.returned (.tuple #[.slice A2 l.length c2, .slice A3 ks.length c3])) w3 from ⟨A2, c2, l, A3, c3, ks, rfl, hl, S2.out, hl3, O3.out.mono B1.out.size, hO3.mono B2.out.size, B3.out⟩)
  clear hG hO3
  go_wp2
  go_ret2
  exact D.out
theorem dout_len (bs : List Bx) (ks : List Int) : (dout bs ks).length ≤ 20 := by
  unfold dout; split
  · exact dlist_len _
  · simp
theorem memd_drop {xs : List Int} {x : Int} {k : Nat} (h : k < xs.length) : decide (x ∈ xs.drop k) = (decide (xs.getD k 0 = x) || decide (x ∈ xs.drop (k + 1))) := by
  rw [List.drop_eq_getElem_cons h, List.getD_eq_getElem?_getD, List.getElem?_eq_getElem h]
  simp only [List.mem_cons, Option.getD_some, Bool.decide_or]
  congr 1
  exact decide_eq_decide.2 eq_comm
theorem hasInt_any (B : Nat) (A : Option Addr) (xs : List Int) (c : Nat) (x : Int) (w : World) (r : Bool) (h : IntsIn w B A xs) (hm : xs.length ≤ 1000000) (hr : decide (x ∈ xs) = r) :
    Calls Try.prog 18 #[.slice A xs.length c, .int .i64 x] w fun e w' => e = .returned (.bool r) ∧ w = w' := by
  have H := Lib.hid h
  have R := Lib.hid hr
  clear h hr
  go_enter Try.func18, Try.ntmps18
  go_wp2_with fail
  go_loop [5] (fun i => ∃ k : Nat, k ≤ xs.length ∧ i = .int .i64 k ∧ Hid (decide (x ∈ xs) = decide (x ∈ xs.drop k))) (fun i => xs.length - (intOf i).toNat)
  case atStart => exact ⟨0, Nat.zero_le _, rfl, rfl⟩
  case round =>
    obtain ⟨k, hk, rfl, ha⟩ := hrel
    by_cases hlt : k < xs.length
    · obtain ⟨b, off, rfl, hbB, hc⟩ := H.out (by omega)
      have g1 := hc k hlt
      clear hc
      have S := Lib.hid (memd_drop (x := x) hlt)
      generalize xs.getD k 0 = y at g1 S
      by_cases hxy : y = x
      · have D := Lib.hid (show true = r by rw [← R.out, ha.out, S.out, decide_eq_true hxy]; rfl)
        subst hxy
        go_wp2_with fail
        go_ret
        exact ⟨ret_bool D.out, rfl⟩
      · have E := Lib.hid (show decide (x ∈ xs) = decide (x ∈ xs.drop (k + 1)) by rw [ha.out, S.out, decide_eq_false hxy]; rfl)
        have hne : (y == x) = false := beq_eq_false_iff_ne.2 hxy
        clear hxy
        go_wp2_with fail
        go_round
        case rel => exact ⟨k + 1, by omega, by go_num, E.out⟩
        case measure => simp [intOf]; omega
    · have hk' : k = xs.length := by omega
      have D := Lib.hid (show false = r by rw [← R.out, ha.out, hk', List.drop_length]; rfl)
      clear hk'
      go_wp2_with fail
      go_ret
      exact ⟨ret_bool D.out, rfl⟩
section
variable {l : List Bx} {ks q : List Int} {B B' : Nat} {A A' : Option Addr} {c c' : Nat} {w : World}
theorem big_of (h : ∀ b ∈ l, b.ins.length ≤ 10) : ∀ b ∈ l, b.ins.length ≤ 1000000000000 := fun b hb => Nat.le_trans (h b hb) (by decide)
theorem ider_r (hO : OwnBx w B A c l) (hI : OwnInts w B' A' c' ks) (hl : l.length ≤ 1000) (hk : ks.length ≤ 1000) (hs : ∀ b ∈ l, b.ins.length ≤ 10) (hp : dout l ks = q) : Calls Try.prog 15 #[.slice A l.length c, .slice A' ks.length c'] w (CopyPost w q) := by
  have hh := ider2_any w.heap.size w.heap.size A A' l ks c c' w hO.in_ hI.in_ (Nat.le_refl _) (Nat.le_refl _) (Nat.le_trans hl (by decide)) (big_of hs) (Nat.le_trans hk (by decide))
  rw [hp] at hh; exact hh
theorem iderw_r (hO : RowBx w B A c l) (hI : OwnInts w B' A' c' ks) (hB : B ≤ w.heap.size) (hl : l.length ≤ 1000) (hk : ks.length ≤ 1000) (hs : ∀ b ∈ l, b.ins.length ≤ 10) (hp : dout l ks = q) : Calls Try.prog 15 #[.slice A l.length c, .slice A' ks.length c'] w (CopyPost w q) := by
  have hh := ider2_any w.heap.size w.heap.size A A' l ks c c' w (hO.in_ hB) hI.in_ (Nat.le_refl _) (Nat.le_refl _) (Nat.le_trans hl (by decide)) (big_of hs) (Nat.le_trans hk (by decide))
  rw [hp] at hh; exact hh
theorem sder_r (hO : OwnBx w B A c l) (hI : OwnInts w B' A' c' ks) (hl : l.length ≤ 1000) (hk : ks.length ≤ 1000) (hs : ∀ b ∈ l, b.ins.length ≤ 10) (hp : dout l ks = q) : Calls Try.prog 16 #[.slice A l.length c, .slice A' ks.length c'] w (CopyPost w q) := by
  have hh := sder2_any w.heap.size w.heap.size A A' l ks c c' w hO.in_ hI.in_ (Nat.le_refl _) (Nat.le_refl _) (Nat.le_trans hl (by decide)) (big_of hs) (Nat.le_trans hk (by decide))
  rw [hp] at hh; exact hh
theorem dsame_r {b : Bool} (hO : OwnInts w B A c q) (hI : OwnInts w B' A' c' ks) (hk : q.length ≤ 1000) (hp : decide (q = ks) = b) : Calls Try.prog 17 #[.slice A q.length c, .slice A' ks.length c'] w (EqPost w b) := by
  have hh := sameInts_any w.heap.size w.heap.size A A' q ks c c' w hO.in_ hI.in_ (Nat.le_refl _) (Nat.le_refl _) (Nat.le_trans hk (by decide))
  rw [hp] at hh; exact hh
theorem dhas_r {b : Bool} {x : Int} (hO : OwnInts w B A c q) (hk : q.length ≤ 1000) (hp : decide (x ∈ q) = b) : Calls Try.prog 18 #[.slice A q.length c, .int .i64 x] w fun e w' => e = .returned (.bool b) ∧ w = w' :=
  hasInt_any w.heap.size A q c x w b hO.in_ (Nat.le_trans hk (by decide)) hp
theorem sval_r {b : Bool} (hO : OwnBx w B A c l) (hl : l.length ≤ 1000) (hs : ∀ b ∈ l, b.ins.length ≤ 10) (hp : bvalid l = b) : Calls Try.prog 10 #[.slice A l.length c] w fun e w' => e = .returned (.bool b) ∧ w = w' :=
  sbv_any w.heap.size A l c w b hO.in_ (Nat.le_trans hl (by decide)) (big_of hs) hp
end
theorem getD_in {xs : List Int} {k : Nat} (h : k < xs.length) : xs.getD k 0 ∈ xs := getD_mem' h
/-! ### boxes appended to a row whose atoms lie elsewhere -/
theorem RowBx.alloc {w : World} {B : Nat} {A : Option Addr} {c : Nat} {bs : List Bx} (h : RowBx w B A c bs) (hB : B ≤ w.heap.size) (o : Obj) : RowBx (w.alloc o) B A c bs := by
  obtain ⟨V, hV, hc⟩ := h
  exact ⟨V, World.ownsRow.alloc hV o, hc.imp fun _ _ _ h => h.below ((Below.refl B w).alloc hB o)⟩
theorem RowBx.below {w w' : World} {B : Nat} {A : Option Addr} {c : Nat} {bs : List Bx} (h : RowBx w B A c bs) (hB : B ≤ w.heap.size) (hb : Below w.heap.size w w') : RowBx w' B A c bs := by
  obtain ⟨V, hV, hc⟩ := h
  exact ⟨V, row_kept hV (below_grown hb) (by simp), hc.imp fun _ _ _ h => h.below (hb.mono hB)⟩
theorem wpList_append_rbx {ops : Array Oper} {rest : List Oper} {o : Oper} {a : Act} {w0 : World} {Q : Exit → Act → World → Prop} (hw : Region.wanted o (yielded ops a.tmps) = true) (s x : Operand)
    (ho : o.op = .call { callee := .builtin .append, args := #[s, x], argTypes := #[25, 25] })
    (B : Nat) (A : Option Addr) (c : Nat) (bs : List Bx) (hs : a.eval s = .slice A bs.length c) (hown : RowBx w0 B A c bs)
    (b : Nat) (key : Int) (Ai : Option Addr) (ci n : Nat) (ins : List Int) (hn : n = ins.length) (hx : a.eval x = .slice (some ⟨b, 0, none⟩) 1 1) (hb : b = w0.heap.size) (hI : IntsIn w0 B Ai ins) (hl : bs.length ≤ 1000) (hB : B ≤ w0.heap.size)
    (h : ∀ A' c' w' qs, Hid (qs = bs ++ [⟨key, ins⟩]) → Hid (qs.length = bs.length + 1) → Hid (RowBx w' B A' c' qs) → Hid (Below B w0 w') → wpList Try.prog ops Q rest (a.put o.dst (.slice A' qs.length c')) w') :
    wpList Try.prog ops Q (o :: rest) a (w0.alloc (.cells #[.int .i64 key, .slice Ai n ci] 37)) :=
  wpList_step fun K hK => by
    simp only [hw, if_true]
    subst hn
    have hB1 : Below B w0 (w0.alloc (.cells #[.int .i64 key, .slice Ai ins.length ci] 37)) := (Below.refl B w0).alloc hB _
    exact wp_append_row_bx s x ho B A c bs hs (hown.alloc hB _) _ 1 [⟨key, ins⟩] 1 rfl hx (new_one w0 key Ai ci b ins _ hb (hI.below hB1)) (by omega) (Nat.le_trans hB hB1.size) fun A' c' w' qs h1 h2 h3 h4 => hK _ _ (h A' c' w' qs h1 h2 h3 (hB1.trans h4))
theorem step_append_bs {ops : Array Oper} {o : Oper} {a : Act} {w : World} {K : Act → World → Prop} {Q : Exit → Act → World → Prop} {E : Prop} (hgd : o.guard = none) (s x : Operand)
    (ho : o.op = .call { callee := .builtin .append, args := #[s, x], argTypes := #[25, 25] })
    (B : Nat) (A : Option Addr) (c : Nat) (bs : List Bx) (hs : a.eval s = .slice A bs.length c) (hown : RowBx w B A c bs)
    (A2 : Option Addr) (c2 : Nat) (ts : List Bx) (hx : a.eval x = .slice A2 ts.length c2) (h2 : BxIn w B A2 ts) (hl : bs.length + ts.length ≤ 1000000) (hB : B ≤ w.heap.size)
    (h : ∀ A' c' w' qs, Hid (qs = bs ++ ts) → Hid (qs.length = bs.length + ts.length) → Hid (RowBx w' B A' c' qs) → Hid (Below B w w') → K (a.put o.dst (.slice A' qs.length c')) w') :
    if Region.wanted o (yielded ops a.tmps) = true then Oper.wp Try.prog o a w K Q else E := by
  have hw : Region.wanted o (yielded ops a.tmps) = true := by simp [Region.wanted, hgd]
  rw [if_pos hw]
  exact wp_append_row_bx s x ho B A c bs hs hown A2 c2 ts ts.length rfl hx h2.new hl hB h
/-! ### parts of a slice of boxes -/
theorem bs_from {w : World} {B b off : Nat} {bs : List Bx} (h : BxIn w B (some ⟨b, off, none⟩) bs) (k : Nat) : BxIn w B (some ⟨b, off + k * 2, none⟩) (bs.drop k) := fun h0 => by
  rw [List.length_drop] at h0
  obtain ⟨b', off', hA, hb, hc⟩ := h (by omega)
  injection hA with hA
  injection hA with h1 h2 _
  subst h1 h2
  refine ⟨b, off + k * 2, rfl, hb, fun i hi => ?_⟩
  rw [List.length_drop] at hi
  have e : (bs.drop k).getD i ⟨0, []⟩ = bs.getD (k + i) ⟨0, []⟩ := by
    rw [List.getD_eq_getElem?_getD, List.getElem?_drop, List.getD_eq_getElem?_getD]
  have := hc (k + i) (by omega)
  rw [e, show off + k * 2 + i * 2 = off + (k + i) * 2 by omega]
  exact this
theorem BxIn.take {w : World} {B : Nat} {A : Option Addr} {bs : List Bx} (h : BxIn w B A bs) (k : Nat) : BxIn w B A (bs.take k) := fun h0 => by
  rw [List.length_take] at h0
  obtain ⟨b, off, hA, hb, hc⟩ := h (by omega)
  refine ⟨b, off, hA, hb, fun i hi => ?_⟩
  rw [List.length_take] at hi
  have e : (bs.take k).getD i ⟨0, []⟩ = bs.getD i ⟨0, []⟩ := by
    rw [List.getD_eq_getElem?_getD, List.getElem?_take, if_pos (by omega), List.getD_eq_getElem?_getD]
  rw [e]
  exact hc i (by omega)
theorem bpart_of {w : World} {B : Nat} {A : Option Addr} {bs : List Bx} (h : BxIn w B A bs) (c k : Nat) (hk : k ≤ bs.length) (hc : bs.length ≤ c) :
    ∃ (A2 : Option Addr) (ds : List Bx), Hid (ds = bs.drop k) ∧ ds.length ≤ bs.length ∧ (∀ W, (Instr.slice 25 (.slice A bs.length c) (some (.int .i64 (k : Int))) none none).run Try.prog W = .ok (.slice A2 ds.length (c - k)) W) ∧ Hid (BxIn w B A2 ds) := by
  obtain ⟨i, hi, hz, h1, h3⟩ := info_parts box_info
  refine ⟨if c = k then A else A.map (·.add (k * 2)), _, rfl, by rw [List.length_drop]; omega, fun W => ?_, ?_⟩
  · have e1 : (0 : Int) ≤ (k : Int) ∧ (k : Int) ≤ (bs.length : Int) := by omega
    simp [Instr.slice, Instr.sliceBounds, Instr.sliceBound, asIntOf, run_underlying Try.underlying25, sizeOf, typeInfo, hi, h1, e1, hk]
  · by_cases h0 : k < bs.length
    · rw [if_neg (by omega)]
      obtain ⟨b, off, rfl, _, _⟩ := h (by omega)
      have e : (⟨b, off, none⟩ : Addr).add (k * 2) = ⟨b, off + k * 2, none⟩ := by unfold Addr.add; by_cases h0 : k * 2 = 0 <;> simp [h0]
      rw [Option.map_some, e]
      exact bs_from h k
    · rw [List.drop_eq_nil_of_le (by omega)]
      exact BxIn.nil _ _ _
theorem bpart_upto (A : Option Addr) (bs : List Bx) (c k : Nat) (hk : k ≤ bs.length) (hc : bs.length ≤ c) (W : World) :
    (Instr.slice 25 (.slice A bs.length c) none (some (.int .i64 (k : Int))) none).run Try.prog W = .ok (.slice A (bs.take k).length c) W := by
  obtain ⟨i, hi, hz, h1, h3⟩ := info_parts box_info
  have e1 : (0 : Int) ≤ (k : Int) ∧ (k : Int) ≤ (c : Int) := by omega
  have e2 : k ≤ c := by omega
  have e3 : min k bs.length = k := by omega
  by_cases h0 : c = 0
  · have : k = 0 := by omega
    subst h0
    subst this
    simp [Instr.slice, Instr.sliceBounds, Instr.sliceBound, asIntOf, run_underlying Try.underlying25, sizeOf, typeInfo, hi]
  · cases A with
    | none => simp [Instr.slice, Instr.sliceBounds, Instr.sliceBound, asIntOf, run_underlying Try.underlying25, sizeOf, typeInfo, hi, e1, e2, e3, h0]
    | some a =>
      have e : a.add 0 = a := by unfold Addr.add; simp
      simp [Instr.slice, Instr.sliceBounds, Instr.sliceBound, asIntOf, run_underlying Try.underlying25, sizeOf, typeInfo, hi, e1, e2, e3, h0, e]
theorem bpart_to {w : World} {B : Nat} {A : Option Addr} {bs : List Bx} (h : BxIn w B A bs) (c k : Nat) (hk : k ≤ bs.length) (hc : bs.length ≤ c) :
    ∃ (ds : List Bx), Hid (ds = bs.take k) ∧ ds.length ≤ bs.length ∧ (∀ W, (Instr.slice 25 (.slice A bs.length c) none (some (.int .i64 (k : Int))) none).run Try.prog W = .ok (.slice A ds.length c) W) ∧ Hid (BxIn w B A ds) :=
  ⟨_, rfl, by rw [List.length_take]; omega, bpart_upto A bs c k hk hc, h.take k⟩
end Go.Proofs.Ytamddfacmmjglaa
