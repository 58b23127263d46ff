/- Proved: the law FnVarintConcat returns true for every input and leaves its arguments as they were: Lists are concatenated with their encodings. (P9) No condition. -/
import Derived.Test.YtnmanfjhbppbdaaRows
import Derived.WalkKit
import Derived.ProofKit
import Derived.OpenShut
import Derived.ShutString
import Derived.ChangeOld
import Derived.Below
import Derived.Test.YtnmanfjhbppbdaaHead
import Derived.Test.YtnmanfjhbppbdaaBytes
import Derived.Test.YtnmanfjhbppbdaaVLists
import Derived.Test.YtnmanfjhbppbdaaIntsApp
namespace Go.Proofs.Ytnmanfjhbppbdaa.fnVarintConcat
open Go.ChangeShapes Go.WideShapes Go.ChangeAt Go.RowKit
open Go.ChangeMaps (open_string shut_string)
set_option linter.unusedVariables false

theorem own : ownKnob Try.prog.godebug = none := by kernel_rfl
theorem laidOut : laidOutB Try.prog = true := by kernel_rfl

theorem bt_append (l m : List UInt8) (k : Nat) (h : k < l.length) : bt (l ++ m) k = bt l k := by
  unfold bt
  rw [List.getD_eq_getElem?_getD, List.getD_eq_getElem?_getD, List.getElem?_append_left h]
theorem fine_append (l m : List UInt8) (h : fine l = true) : fine (l ++ m) = true ∧ dsize (l ++ m) = dsize l ∧ dnum (l ++ m) = dnum l := by
  obtain ⟨b, r, rfl, h1, h2, h3⟩ := fine_head h
  have hf : fine (b :: r ++ m) = true := by
    show fine (b :: (r ++ m)) = true
    rw [fine_cons, Bool.and_eq_true, decide_eq_true_eq, decide_eq_true_eq]
    exact ⟨h1, by rw [List.length_append]; omega⟩
  have hs : dsize (b :: r ++ m) = dsize (b :: r) := by
    rw [h3]; unfold dsize; rw [if_pos hf]; rfl
  refine ⟨hf, hs, ?_⟩
  have hl := dsize_le (b :: r)
  unfold dnum
  rw [if_pos hf, if_pos h, hs]
  have hp := dsize_pos (b :: r)
  rw [h, decide_eq_true_eq] at hp
  have key : ∀ k, 1 ≤ k → k ≤ (b :: r).length → pre (b :: r ++ m) k = pre (b :: r) k := by
    intro k
    induction k with
    | zero => intro h0; omega
    | succ k ih =>
      intro _ hk
      rcases Nat.eq_zero_or_pos k with h0 | h0
      · subst h0
        rw [pre_one, pre_one, bt_append _ _ 0 (by omega)]
      · rw [pre_next _ _ h0, pre_next _ _ h0, ih h0 (by omega), bt_append _ _ k (by omega)]
  exact key _ hp hl
theorem vsplit_append : ∀ (c : Nat) (l m : List UInt8) (xs ys : List Int) (d : Nat), vsplit c l = some xs → vsplit d m = some ys → xs.length + d ≤ c + d → ∀ e, xs.length + ys.length ≤ e → (∀ f, ys.length ≤ f → vsplit f m = some ys) → vsplit e (l ++ m) = some (xs ++ ys) := by
  intro c
  induction c with
  | zero =>
    intro l m xs ys d h1 h2 _ e he hm
    cases l with
    | nil => simp [vsplit] at h1; subst h1; simpa using hm e (by simpa using he)
    | cons b r => simp [vsplit] at h1
  | succ c ih =>
    intro l m xs ys d h1 h2 _ e he hm
    cases l with
    | nil => simp [vsplit] at h1; subst h1; simpa using hm e (by simpa using he)
    | cons b r =>
      simp only [vsplit] at h1
      split at h1
      · rename_i hf
        simp only [Option.map_eq_some_iff] at h1
        obtain ⟨zs, h3, rfl⟩ := h1
        obtain ⟨f1, f2, f3⟩ := fine_append (b :: r) m hf
        obtain ⟨e, rfl⟩ : ∃ e', e = e' + 1 := ⟨e - 1, by simp at he; omega⟩
        have hd := dsize_le (b :: r)
        have hl := (vsplit_len c _ zs h3).1
        rw [vsplit_succ _ _ f1, f2, f3, List.drop_append_of_le_length hd, ih _ m zs ys d h3 h2 (by omega) e (by simp at he; omega) hm]
        rfl
      · cases h1
theorem vsplit_more : ∀ (c : Nat) (m : List UInt8) (ys : List Int), vsplit c m = some ys → ∀ f, ys.length ≤ f → vsplit f m = some ys := by
  intro c
  induction c with
  | zero =>
    intro m ys h f _
    cases m with
    | nil => simp [vsplit] at h; subst h; exact vsplit_nil f
    | cons b r => simp [vsplit] at h
  | succ c ih =>
    intro m ys h f hf
    cases m with
    | nil => simp [vsplit] at h; subst h; exact vsplit_nil f
    | cons b r =>
      simp only [vsplit] at h
      split at h
      · rename_i hfi
        simp only [Option.map_eq_some_iff] at h
        obtain ⟨zs, h3, rfl⟩ := h
        obtain ⟨f, rfl⟩ : ∃ f', f = f' + 1 := ⟨f - 1, by simp at hf; omega⟩
        rw [vsplit_succ _ _ hfi, ih _ zs h3 f (by simp at hf; omega)]
        rfl
      · cases h
theorem split_cat (l m : List UInt8) (xs ys : List Int) (h1 : vsplit 20 l = some xs) (h2 : vsplit 20 m = some ys) (h : xs.length + ys.length ≤ 20) : vsplit 20 (l ++ m) = some (xs ++ ys) :=
  vsplit_append 20 l m xs ys 20 h1 h2 (by have := (vsplit_len 20 l xs h1).1; omega) 20 h (vsplit_more 20 m ys h2)
theorem own_empty (w : World) (B : Nat) (hB : B ≤ w.heap.size) : OwnInts (w.alloc (.cells #[] 3)) B (some ⟨w.heap.size, 0, none⟩) 0 [] :=
  World.ownsRow_lit w #[] 0 hB (by unfold maxLen; omega) rfl
theorem own_nil_append {w : World} {B : Nat} {A : Option Addr} {c : Nat} {xs : List Int} (h : OwnInts w B A c ([] ++ xs)) : OwnInts w B A c xs := h
theorem same_cat (B B' : Nat) (A A' : Option Addr) (xs : List Int) (n n' c c' : Nat) (w : World) (hn : n = xs.length) (hn' : n' = xs.length) (h : IntsIn w B A xs) (h' : IntsIn w B' A' xs) (hBw : B ≤ w.heap.size) (hBw' : B' ≤ w.heap.size) (hm : xs.length ≤ 1000000000000) :
    Calls Try.prog 41 #[.slice A n c, .slice A' n' c'] w (EqPost w true) := by
  subst hn; subst hn'; exact same_same B B' A A' xs c c' w h h' hBw hBw' hm
set_option maxHeartbeats 800000

theorem walk (a0 : Option Addr) (len0 cap0 : Nat) (z0 : List Int) (a1 : Option Addr) (len1 cap1 : Nat) (z1 : List Int) (w : World) (w0 : IsRow .u8 w a0 len0 cap0 z0) (w1 : IsRow .u8 w a1 len1 cap1 z1) :
    Calls Try.prog 17 #[.slice a0 len0 cap0, .slice a1 len1 cap1] w fun e w' => e = .returned (.bool true) ∧ Below w.heap.size w w' := by
  have hc := codeArg_of w0
  have hc' := codeArg_of w1
  have hl := hc.1
  have hm := hc.2.1
  have hl' := hc'.1
  have hm' := hc'.2.1
  have HC := Lib.hid hc
  have HC' := Lib.hid hc'
  clear w0 w1 hc hc'
  by_cases h1 : len0 ≤ 1048576
  · by_cases h2 : len1 ≤ 1048576
    · go_enter Try.func17, Try.ntmps17
      go_wp2_with fail
      refine (drawSplit_any a0 len0 cap0 w HC.out).mono ?_
      rintro e w1 ⟨s, rfl, hs, hB⟩
      have B1 := Lib.hid hB
      clear hB
      obtain ⟨xs, ok, hx1, hx2, hlen, hok⟩ := split_parts s.data.toList
      have HX := Lib.hid (And.intro hx1 (And.intro hx2 hok))
      clear hx1 hx2 hok
      go_wp2_with fail
      with_reducible refine (isplit_of s w1 (by omega) xs ok HX.out.1 HX.out.2.1).mono ?_
      rintro e w2 ⟨A2, c2, rfl, hO, hB⟩
      have O2 := Lib.hid hO.in_
      have B2 := Lib.hid (drew2 B1.out hB)
      clear hO hB
      go_wp2_with fail
      with_reducible refine (ssplit_of s w2 (by omega) xs ok HX.out.1 HX.out.2.1).mono ?_
      rintro e w3 ⟨A3, c3, rfl, hO, hB⟩
      have O3 := Lib.hid hO.in_
      have I3 := Lib.hid (O2.out.below hB)
      have L3 := Lib.hid hB.size
      have B3 := Lib.hid (drew2 B2.out hB)
      clear hO hB
      go_wp2_with fail
      have hsame := same_same w2.heap.size w3.heap.size A2 A3 xs c2 c3 w3 I3.out O3.out L3.out (Nat.le_refl _) (by omega)
      with_reducible refine hsame.mono ?_
      clear hsame
      rintro e w4 ⟨rfl, hB⟩
      have I4 := Lib.hid (I3.out.below (hB.mono L3.out))
      have O4 := Lib.hid (O3.out.below hB)
      have L4 := Lib.hid (Nat.le_trans L3.out hB.size)
      have L4' := Lib.hid hB.size
      have B4 := Lib.hid (drew2 B3.out hB)
      clear hB
      cases ok with
      | false =>
        go_wp2_with fail
        with_reducible refine (same_same w2.heap.size w3.heap.size A2 A3 xs c2 c3 w4 I4.out O4.out L4.out L4'.out (by omega)).mono ?_
        rintro e w5 ⟨rfl, hB⟩
        have B5 := Lib.hid (drew2 B4.out hB)
        clear hB
        go_wp2
        go_ret
        exact ⟨rfl, B5.out⟩
      | true =>
        have hv := Lib.hid (HX.out.2.2 rfl).1
        go_wp2_with fail
        refine (drawSplit_any a1 len1 cap1 w4 (HC'.out.below B4.out)).mono ?_
        rintro e w5 ⟨t, rfl, ht, hB⟩
        have I5 := Lib.hid ((I4.out.mono L4.out).below hB)
        have L5 := Lib.hid hB.size
        have B5 := Lib.hid (drew2 B4.out hB)
        clear hB
        obtain ⟨ys, fi, hy1, hy2, hylen, hyok⟩ := split_parts t.data.toList
        have HY := Lib.hid (And.intro hy1 (And.intro hy2 hyok))
        clear hy1 hy2 hyok
        go_wp2_with fail
        with_reducible refine (isplit_of t w5 (by omega) ys fi HY.out.1 HY.out.2.1).mono ?_
        rintro e w6 ⟨A6, c6, rfl, hO, hB⟩
        have J6 := Lib.hid hO.in_
        have I6 := Lib.hid ((I5.out.mono L5.out).below hB)
        have L6 := Lib.hid hB.size
        have B6 := Lib.hid (drew2 B5.out hB)
        clear hO hB
        cases fi with
        | false =>
          go_wp2
          go_ret
          exact ⟨rfl, B6.out⟩
        | true =>
          by_cases hsum : 20 < xs.length + ys.length
          · go_wp2
            go_ret
            exact ⟨rfl, B6.out⟩
          · have hsum' : xs.length + ys.length ≤ 20 := by omega
            have cat : ∀ W, (Op.stringOp .add s t).run Try.prog W = .ok (.string (s ++ t)) W := fun W => run_string_add_sum W _ _ (by omega)
            have hz : (s ++ t).size ≤ 9223372036854775807 := by rw [ByteArray.size_append]; omega
            have SP := Lib.hid (show vsplit 20 (s ++ t).data.toList = some (xs ++ ys) by
              rw [ByteArray.data_append, Array.toList_append]
              exact split_cat _ _ xs ys hv.out (HY.out.2.2 rfl).1 hsum')
            have HZ := Lib.hid hz
            clear hz
            go_wp2_with fail
            with_reducible refine (isplit_of (s ++ t) w6 HZ.out (xs ++ ys) true (by rw [SP.out, Option.getD_some]) (by rw [SP.out, Option.isSome_some])).mono ?_
            rintro e w7 ⟨A7, c7, rfl, hO, hB⟩
            have O7 := Lib.hid hO.in_
            have I7 := Lib.hid (((I6.out.mono L6.out).below hB).mono hB.size)
            have J7 := Lib.hid ((J6.out.below hB).mono hB.size)
            have B7 := Lib.hid (drew2 B6.out hB)
            clear hO hB
            have E8 := Lib.hid (own_empty w7 w7.heap.size (Nat.le_refl _))
            have K8 := Lib.hid ((Below.refl w7.heap.size w7).alloc (Nat.le_refl _) (.cells #[] 3))
            have z8 : w7.heap.size ≤ (w7.alloc (.cells #[] 3)).heap.size := by simp
            have I8 := Lib.hid (I7.out.below K8.out)
            have J8 := Lib.hid (J7.out.below K8.out)
            go_wp2_with (first | (at_builtin; refine wpList_append_ints (by rfl) (.tmp 83) (.tmp 84) rfl w7.heap.size (some ⟨w7.heap.size, 0, none⟩) 0 [] rfl E8.out w7.heap.size A2 c2 xs rfl I8.out (by simp; omega) z8 ?_; intro A9 c9 w9 hO9 hB9) | (at_builtin; refine wpList_append_ints (by rfl) (.tmp 85) (.tmp 86) rfl w7.heap.size A9 c9 xs rfl (own_nil_append hO9) w7.heap.size A6 c6 ys rfl (J7.out.below (K8.out.trans hB9)) (by omega) (Nat.le_trans z8 hB9.size) ?_; intro A10 c10 w10 hO10 hB10))
            have K10 := Lib.hid ((K8.out.trans hB9).trans hB10)
            have I10 := Lib.hid (O7.out.below K10.out)
            have O10 := Lib.hid hO10.in_
            have B10 := Lib.hid (drew2 B7.out K10.out)
            clear hO9 hB9 hO10 hB10
            refine (same_cat w7.heap.size w10.heap.size A7 A10 (xs ++ ys) _ _ c7 c10 w10 (by simp) (by simp) I10.out O10.out K10.out.size (Nat.le_refl _) (by simp; omega)).mono ?_
            rintro e w11 ⟨rfl, hB⟩
            have B11 := Lib.hid (drew2 B10.out hB)
            clear hB
            go_wp2
            go_ret
            exact ⟨rfl, B11.out⟩
    · go_enter Try.func17, Try.ntmps17
      go_wp2
      go_ret
      exact ⟨rfl, Below.refl _ _⟩
  · go_enter Try.func17, Try.ntmps17
    go_wp2
    go_ret
    exact ⟨rfl, Below.refl _ _⟩

set_option maxRecDepth 100000 in
theorem lifted (os : Os) (started : os.Started) (H : Type) (enc : TypeId × Value → H) :
    ReturnsInHanded {} Try.checked os 17 .any (Rows.fnVarintConcatSpec.pre6 enc Try.prog Try.f17 Rows.fnVarintConcatRow.domain false) (Rows.fnVarintConcatSpec.post enc Try.prog Try.f17 false true false false) := by
  refine returnsInHanded_of_change (C := Try.checked) own started (by kernel_rfl) Try.func17
    (ChangeSpec.witness6 (enc := enc) (C := Try.checked) false ⟨#[], #[.slice none 0 0, .slice none 0 0], []⟩ 8 (by kernel_rfl) (by kernel_rfl) (by kernel_rfl) (by kernel_rfl)) ?_
  intro W base args ds gs before hval0 hW hcnd _
  have hval : ∀ (j : Nat) t v, Try.f17.params[j]? = some t → args[j]? = some v → Value.okWide Try.prog W .any base t v := hval0
  have hW' := hW
  obtain ⟨p, q, hA0, hV, rfl, hfz, hnd⟩ := hW
  have hA : DataW.TrodAll enc Try.prog W 0 (fun _ => true) true Try.f17.params.toList args.toList ds p := hA0
  rw [Try.params17] at hA hval
  obtain ⟨v0, vs0, d0, ds0, p0, q0, hargs, rfl, rfl, h0, r0⟩ := trodAll_cons hA
  obtain ⟨v1, vs1, d1, ds1, p1, q1, rfl, rfl, rfl, h1, r1⟩ := trodAll_cons r0
  obtain ⟨rfl, rfl, rfl⟩ := trodAll_nil r1
  obtain rfl : args = #[v0, v1] := by cases args; simp_all
  obtain ⟨rfl, rfl⟩ := trodVars_none hV
  obtain ⟨a0, len0, cap0, rfl⟩ := okWide_slice Try.underlying28 (hval 0 28 v0 rfl rfl)
  have k0 := h0
  have lt0 : ∀ x ∈ p0, x.block < W.heap.size := by obtain ⟨m, hm⟩ := k0; exact DataW.trod_lt m _ _ _ hm
  obtain ⟨z0, w0⟩ : ∃ zs, IsRow .u8 W a0 len0 cap0 zs := by
    obtain ⟨fuel, hf⟩ := h0
    rcases open_ints Try.underlying28 Try.underlying5 (by kernel_rfl) hf with ⟨hcs, _⟩ | ⟨x, l, c, zs, hcs, _, hl, hm, hz, _, hcell, hwz⟩
    · simp [Value.cells] at hcs
      obtain ⟨rfl, rfl, rfl⟩ := hcs
      exact ⟨[], .inl ⟨rfl, rfl, rfl, rfl⟩⟩
    · simp [Value.cells] at hcs
      obtain ⟨rfl, rfl, rfl⟩ := hcs
      exact ⟨zs, .inr ⟨_, rfl, hl, hm, by simpa using hz, hcell, hwz⟩⟩
  obtain ⟨a1, len1, cap1, rfl⟩ := okWide_slice Try.underlying28 (hval 1 28 v1 rfl rfl)
  have k1 := h1
  have lt1 : ∀ x ∈ p1, x.block < W.heap.size := by obtain ⟨m, hm⟩ := k1; exact DataW.trod_lt m _ _ _ hm
  obtain ⟨z1, w1⟩ : ∃ zs, IsRow .u8 W a1 len1 cap1 zs := by
    obtain ⟨fuel, hf⟩ := h1
    rcases open_ints Try.underlying28 Try.underlying5 (by kernel_rfl) hf with ⟨hcs, _⟩ | ⟨x, l, c, zs, hcs, _, hl, hm, hz, _, hcell, hwz⟩
    · simp [Value.cells] at hcs
      obtain ⟨rfl, rfl, rfl⟩ := hcs
      exact ⟨[], .inl ⟨rfl, rfl, rfl, rfl⟩⟩
    · simp [Value.cells] at hcs
      obtain ⟨rfl, rfl, rfl⟩ := hcs
      exact ⟨zs, .inr ⟨_, rfl, hl, hm, by simpa using hz, hcell, hwz⟩⟩
  clear hA0 hval0
  refine (walk a0 len0 cap0 z0 a1 len1 cap1 z1 W w0 w1).mono fun e W' ⟨he, bel⟩ => ?_
  subst he
  exact ⟨_, rfl, _, _, _, [], _, [], hW', trodAll_mk1 (shut_bool Try.underlying4 _), (trodAll_cons_mk (Below.trod laidOut (by kernel_rfl) (of_decide_eq_true (by kernel_rfl)) k0 bel lt0) (trodAll_cons_mk (Below.trod laidOut (by kernel_rfl) (of_decide_eq_true (by kernel_rfl)) k1 bel lt1) trodAll_mk0)), rfl, bel.frame _, fun h => by cases h⟩

theorem closed : joinedFacts Try.prog 17 Try.f17 Rows.fnVarintConcatSpec Rows.fnVarintConcatRow = true := by
  unfold joinedFacts
  rw [mayEnter_ok, lifts_ok, make_ok]
  kernel_rfl

theorem over : Rows.fnVarintConcatRow.holds Try.pinned (OpenSpec.ofChange Rows.fnVarintConcatSpec) :=
  OpenClaim.holds_of_wide 17 Try.f17 rfl rfl rfl rfl rfl rfl rfl ⟨rfl, rfl, rfl, rfl, rfl⟩ rfl rfl rfl rfl rfl (by kernel_rfl) Try.func17 closed
    (of_decide_eq_true (by kernel_rfl)) (by unfold Func.isWrapper; first | (rw [if_pos (by decide +kernel)]; kernel_rfl) | (rw [if_neg (by decide +kernel)]; exact ⟨rfl, rfl⟩))
    (fun os started H enc _ => lifted os started H enc)

/-- ████ THE STATEMENT ████ -/
theorem proved : Rows.FnVarintConcatSaid := over
#print axioms proved
end Go.Proofs.Ytnmanfjhbppbdaa.fnVarintConcat
