/- Proved: the law FnDeriveFewer returns true for every input and leaves its arguments as they were: Fewer boxes derive no more. (P47) No condition. -/
import Derived.Test.YtamddfacmmjglaaRows
import Derived.WalkKit
import Derived.ProofKit
import Derived.OpenShut
import Derived.ShutString
import Derived.ChangeOld
import Derived.Below
import Derived.Test.YtamddfacmmjglaaHead
import Derived.Test.YtamddfacmmjglaaDLaw
namespace Go.Proofs.Ytamddfacmmjglaa.fnDeriveFewer
open Go.ChangeShapes Go.WideShapes Go.ChangeAt Go.RowKit
open Go.ChangeMaps (open_string shut_string)
set_option linter.unusedVariables false

theorem own : ownKnob Try.prog.godebug = none := by kernel_rfl
theorem laidOut : laidOutB Try.prog = true := by kernel_rfl

theorem walk (a0 : Option Addr) (len0 cap0 : Nat) (z0 : List Int) (a1 : Option Addr) (len1 cap1 : Nat) (z1 : List Int) (w : World) (w0 : IsRow .u8 w a0 len0 cap0 z0) (w1 : IsRow .u8 w a1 len1 cap1 z1) :
    Calls Try.prog 7 #[.slice a0 len0 cap0, .slice a1 len1 cap1] w fun e w' => e = .returned (.bool true) ∧ Below w.heap.size w w' := by
  have hc := codeArg_of w0
  have hc' := codeArg_of w1
  have hl := hc.1
  have hm := hc.2.1
  have hl' := hc'.1
  have hm' := hc'.2.1
  have HC := Lib.hid hc
  have HC' := Lib.hid hc'
  clear w0 w1 hc hc'
  by_cases h1 : len0 ≤ 1048576
  · by_cases h2 : len1 ≤ 1048576
    · have BB0 := Lib.hid (Below.refl w.heap.size w)
      go_enter Try.func7, Try.ntmps7
      go_wp2_with fail
      refine (drawDerive_any a0 len0 cap0 w HC.out).mono ?_
      rintro e v1 ⟨A_L, c_L, l, A_K, c_K, ks, rfl, hl, hs, hk, hO, hI, hB⟩
      have L1 := Lib.hid hO
      have K1 := Lib.hid hI
      have B1 := Lib.hid (drew2 BB0.out hB)
      clear hO hI hB BB0
      obtain ⟨q, HP⟩ : ∃ q, Hid (dout l ks = q) := ⟨_, rfl⟩
      have hq : q.length ≤ 20 := by rw [← HP.out]; exact dout_len _ _
      go_wp2_with fail
      with_reducible refine (ider_r L1.out K1.out (by omega) (by omega) hs.out HP.out).mono ?_
      rintro e v2 ⟨A_Q, c_Q, rfl, hO, hB⟩
      have L2 := Lib.hid (L1.out.below hB)
      have K2 := Lib.hid (K1.out.below hB)
      have Q2 := Lib.hid hO
      have B2 := Lib.hid (drew2 B1.out hB)
      clear hO hB L1 K1 B1
      go_wp2_with fail
      with_reducible refine (sder_r L2.out K2.out (by omega) (by omega) hs.out HP.out).mono ?_
      rintro e v3 ⟨A_S, c_S, rfl, hO, hB⟩
      have L3 := Lib.hid (L2.out.below hB)
      have K3 := Lib.hid (K2.out.below hB)
      have Q3 := Lib.hid (Q2.out.below hB)
      have S3 := Lib.hid hO
      have B3 := Lib.hid (drew2 B2.out hB)
      clear hO hB L2 K2 Q2 B2
      go_wp2_with fail
      with_reducible refine (dsame_r Q3.out S3.out (by omega) (decide_eq_true rfl)).mono ?_
      rintro e v4 ⟨rfl, hB⟩
      have L4 := Lib.hid (L3.out.below hB)
      have K4 := Lib.hid (K3.out.below hB)
      have Q4 := Lib.hid (Q3.out.below hB)
      have S4 := Lib.hid (S3.out.below hB)
      have B4 := Lib.hid (drew2 B3.out hB)
      clear hB L3 K3 Q3 S3 B3
      by_cases hl0 : 0 < l.length
      · have hz : ((l.length : Int) == 0) = false := by rw [beq_eq_false_iff_ne]; omega
        obtain ⟨k, hk0⟩ : ∃ k, len1 % l.length = k := ⟨_, rfl⟩
        have hkl : k < l.length := by rw [← hk0]; exact Nat.mod_lt _ hl0
        have t0 : ((len1 : Int)).tmod (l.length : Int) = (k : Int) := by rw [← hk0]; rfl
        have t1 : ((len1 : Int)) % (l.length : Int) = (k : Int) := by rw [← hk0]; rfl
        have s0 : IntKind.i64.wrap ((k : Int) + 1) = (k : Int) + 1 := IntWalk.i64_in ((k : Int) + 1) (by omega)
        have HK := Lib.hid hk0
        clear hk0
        obtain ⟨da, hda, hdal, ra, HDA⟩ := bpart_to L4.out.in_ c_L k (by omega) L4.out.cap
        obtain ⟨A2, db, hdb, hdbl, rb, HDB⟩ := bpart_of L4.out.in_ c_L (k + 1) (by omega) L4.out.cap
        rw [show ((k + 1 : Nat) : Int) = (k : Int) + 1 from rfl] at rb
        have SUB := Lib.hid (show ∀ b, b ∈ da ++ db → b ∈ l by
          intro b hb
          rw [List.mem_append, hda.out, hdb.out] at hb
          exact hb.elim List.mem_of_mem_take List.mem_of_mem_drop)
        obtain ⟨r, HR⟩ : ∃ r, Hid (dout (da ++ db) ks = r) := ⟨_, rfl⟩
        have hr : r.length ≤ 20 := by rw [← HR.out]; exact dout_len _ _
        obtain ⟨vb, HV⟩ : ∃ b, Hid (bvalid l = b) := ⟨_, rfl⟩
        go_wp2_with fail
        go_region_held3 (fun w' => v4.heap.size ≤ w'.heap.size) (first | go_keep | (exact KB3.size) | (exact KB2.size) | (exact KB.size)) ((first
          | (refine step_append_bs (by rfl) (.tmp 48) (.tmp 51) (by rfl) v4.heap.size _ 0 [] (by rfl) (RowBx.empty _ v4.heap.size (Below.refl v4.heap.size v4).drew.size) A_L c_L da (by rfl) (HDA.out.below ((Below.refl v4.heap.size v4).drew.alloc (Below.refl v4.heap.size v4).drew.size _)) (by simp only [List.length_nil]; omega) ((Below.refl v4.heap.size v4).drew.alloc (Below.refl v4.heap.size v4).drew.size _).size ?_; intro A_a c_a w_a q_a hqa hla hOa hBa; have KB := ((Below.refl v4.heap.size v4).drew.alloc (Below.refl v4.heap.size v4).drew.size _).trans hBa.out)
          | (refine step_append_bs (by rfl) (.tmp 52) (.tmp 56) (by rfl) v4.heap.size A_a c_a q_a (by rfl) (by first | exact hOa.out | exact hOa.out.below KB.size (Below.refl _ _).drew) A2 (c_L - (k + 1)) db (by rfl) (by first | exact HDB.out.below KB | exact HDB.out.below KB.drew) (by rw [hla.out, List.length_nil]; omega) (by first | exact KB.size | exact KB.drew.size) ?_; intro A_b c_b w_b q_b hqb hlb hOb hBb; have KB2 := (by first | exact KB.trans hBb.out | exact KB.drew.trans hBb.out))
          | (go_at_call 15; refine (iderw_r (q := r) (by first | exact hOb.out | exact hOb.out.below KB2.size (Below.refl _ _).drew) (K4.out.below (by first | exact KB2 | exact KB2.drew)) (by first | exact KB2.size | exact KB2.drew.size) (by rw [hlb.out, hla.out, List.length_nil]; omega) (by omega) (fun b hb => hs.out b (SUB.out b (by rw [hqb.out, hqa.out] at hb; exact hb))) (by rw [hqb.out, hqa.out]; exact HR.out)).mono ?_; rintro e v7 ⟨A_R, c_R, rfl, hO7, hB7⟩; have KB3 := (by first | exact KB2.trans (hB7.mono KB2.size) | exact KB2.drew.trans (hB7.mono KB2.drew.size)))))
        have R7 := Lib.hid hO7
        have L7 := Lib.hid (L4.out.below KB3)
        have Q7 := Lib.hid (Q4.out.below KB3)
        have B7 := Lib.hid (drew2 B4.out KB3)
        clear KB KB2 KB3 hBa hBb hB7 hOa hOb hO7
        go_wp2_with fail
        go_loop [11] (fun i => ∃ k : Nat, k ≤ r.length ∧ i = .int .i64 k) (fun i => r.length - (intOf i).toNat)
        case atStart => exact ⟨0, Nat.zero_le _, rfl⟩
        case round =>
          obtain ⟨j, hj0, rfl⟩ := hrel
          by_cases hlt : j < r.length
          · obtain ⟨b, hA, _, hbl, hc⟩ := R7.out.cell (by omega)
            subst hA
            have g1 := hc j hlt
            have HX := Lib.hid (fun (hv : vb = true) => (show r.getD j 0 ∈ q by
              rw [← HP.out]
              exact fewer_out (ls := da ++ db) (fun b hb => SUB.out b hb) (by rw [HV.out]; exact hv) (by rw [HR.out]; exact getD_in hlt)))
            clear hc
            generalize r.getD j 0 = x at g1 HX
            obtain ⟨u, hu⟩ : ∃ u, decide (x ∈ q) = u := ⟨_, rfl⟩
            have HU := Lib.hid hu
            clear hu
            go_wp2_with fail
            with_reducible refine (dhas_r Q7.out (by omega) HU.out).mono ?_
            rintro e v8 ⟨rfl, rfl⟩
            cases u with
            | true =>
              go_wp2_with fail
              go_round
              case rel => exact ⟨j + 1, by omega, by go_num⟩
              case measure => simp [intOf]; omega
            | false =>
              have HVF := Lib.hid (show bvalid l = false by
                rw [HV.out]
                cases vb with
                | false => rfl
                | true => exact absurd (HX.out rfl) (of_decide_eq_false HU.out))
              go_wp2_with fail
              with_reducible refine (sval_r L7.out (by omega) hs.out HVF.out).mono ?_
              rintro e v8 ⟨rfl, rfl⟩
              go_wp2_with fail
              go_round
              case rel => exact ⟨j + 1, by omega, by go_num⟩
              case measure => simp [intOf]; omega
          · go_wp2_with fail
            go_ret
            exact ⟨rfl, B7.out⟩
      · have hl1 : l.length = 0 := by omega
        have hl2 : ((l.length : Int) == 0) = true := by rw [hl1]; rfl
        clear hl1
        go_wp2_with fail
        with_reducible refine (dsame_r Q4.out S4.out (by omega) (decide_eq_true rfl)).mono ?_
        rintro e v5 ⟨rfl, hB⟩
        have B5 := Lib.hid (drew2 B4.out hB)
        clear hB
        go_wp2
        go_ret
        exact ⟨ret_bool (by first | rfl | (simp; done)), B5.out⟩
    · go_enter Try.func7, Try.ntmps7
      go_wp2
      go_ret
      exact ⟨rfl, Below.refl _ _⟩
  · go_enter Try.func7, Try.ntmps7
    go_wp2
    go_ret
    exact ⟨rfl, Below.refl _ _⟩

set_option maxRecDepth 100000 in
theorem lifted (os : Os) (started : os.Started) (H : Type) (enc : TypeId × Value → H) :
    ReturnsInHanded {} Try.checked os 7 .any (Rows.fnDeriveFewerSpec.pre6 enc Try.prog Try.f7 Rows.fnDeriveFewerRow.domain false) (Rows.fnDeriveFewerSpec.post enc Try.prog Try.f7 false true false false) := by
  refine returnsInHanded_of_change (C := Try.checked) own started (by kernel_rfl) Try.func7
    (ChangeSpec.witness6 (enc := enc) (C := Try.checked) false ⟨#[], #[.slice none 0 0, .slice none 0 0], []⟩ 8 (by kernel_rfl) (by kernel_rfl) (by kernel_rfl) (by kernel_rfl)) ?_
  intro W base args ds gs before hval0 hW hcnd _
  have hval : ∀ (j : Nat) t v, Try.f7.params[j]? = some t → args[j]? = some v → Value.okWide Try.prog W .any base t v := hval0
  have hW' := hW
  obtain ⟨p, q, hA0, hV, rfl, hfz, hnd⟩ := hW
  have hA : DataW.TrodAll enc Try.prog W 0 (fun _ => true) true Try.f7.params.toList args.toList ds p := hA0
  rw [Try.params7] at hA hval
  obtain ⟨v0, vs0, d0, ds0, p0, q0, hargs, rfl, rfl, h0, r0⟩ := trodAll_cons hA
  obtain ⟨v1, vs1, d1, ds1, p1, q1, rfl, rfl, rfl, h1, r1⟩ := trodAll_cons r0
  obtain ⟨rfl, rfl, rfl⟩ := trodAll_nil r1
  obtain rfl : args = #[v0, v1] := by cases args; simp_all
  obtain ⟨rfl, rfl⟩ := trodVars_none hV
  obtain ⟨a0, len0, cap0, rfl⟩ := okWide_slice Try.underlying29 (hval 0 29 v0 rfl rfl)
  have k0 := h0
  have lt0 : ∀ x ∈ p0, x.block < W.heap.size := by obtain ⟨m, hm⟩ := k0; exact DataW.trod_lt m _ _ _ hm
  obtain ⟨z0, w0⟩ : ∃ zs, IsRow .u8 W a0 len0 cap0 zs := by
    obtain ⟨fuel, hf⟩ := h0
    rcases open_ints Try.underlying29 Try.underlying5 (by kernel_rfl) hf with ⟨hcs, _⟩ | ⟨x, l, c, zs, hcs, _, hl, hm, hz, _, hcell, hwz⟩
    · simp [Value.cells] at hcs
      obtain ⟨rfl, rfl, rfl⟩ := hcs
      exact ⟨[], .inl ⟨rfl, rfl, rfl, rfl⟩⟩
    · simp [Value.cells] at hcs
      obtain ⟨rfl, rfl, rfl⟩ := hcs
      exact ⟨zs, .inr ⟨_, rfl, hl, hm, by simpa using hz, hcell, hwz⟩⟩
  obtain ⟨a1, len1, cap1, rfl⟩ := okWide_slice Try.underlying29 (hval 1 29 v1 rfl rfl)
  have k1 := h1
  have lt1 : ∀ x ∈ p1, x.block < W.heap.size := by obtain ⟨m, hm⟩ := k1; exact DataW.trod_lt m _ _ _ hm
  obtain ⟨z1, w1⟩ : ∃ zs, IsRow .u8 W a1 len1 cap1 zs := by
    obtain ⟨fuel, hf⟩ := h1
    rcases open_ints Try.underlying29 Try.underlying5 (by kernel_rfl) hf with ⟨hcs, _⟩ | ⟨x, l, c, zs, hcs, _, hl, hm, hz, _, hcell, hwz⟩
    · simp [Value.cells] at hcs
      obtain ⟨rfl, rfl, rfl⟩ := hcs
      exact ⟨[], .inl ⟨rfl, rfl, rfl, rfl⟩⟩
    · simp [Value.cells] at hcs
      obtain ⟨rfl, rfl, rfl⟩ := hcs
      exact ⟨zs, .inr ⟨_, rfl, hl, hm, by simpa using hz, hcell, hwz⟩⟩
  clear hA0 hval0
  refine (walk a0 len0 cap0 z0 a1 len1 cap1 z1 W w0 w1).mono fun e W' ⟨he, bel⟩ => ?_
  subst he
  exact ⟨_, rfl, _, _, _, [], _, [], hW', trodAll_mk1 (shut_bool Try.underlying4 _), (trodAll_cons_mk (Below.trod laidOut (by kernel_rfl) (of_decide_eq_true (by kernel_rfl)) k0 bel lt0) (trodAll_cons_mk (Below.trod laidOut (by kernel_rfl) (of_decide_eq_true (by kernel_rfl)) k1 bel lt1) trodAll_mk0)), rfl, bel.frame _, fun h => by cases h⟩

theorem closed : joinedFacts Try.prog 7 Try.f7 Rows.fnDeriveFewerSpec Rows.fnDeriveFewerRow = true := by
  unfold joinedFacts
  rw [mayEnter_ok, lifts_ok, make_ok]
  kernel_rfl

theorem over : Rows.fnDeriveFewerRow.holds Try.pinned (OpenSpec.ofChange Rows.fnDeriveFewerSpec) :=
  OpenClaim.holds_of_wide 7 Try.f7 rfl rfl rfl rfl rfl rfl rfl ⟨rfl, rfl, rfl, rfl, rfl⟩ rfl rfl rfl rfl rfl (by kernel_rfl) Try.func7 closed
    (of_decide_eq_true (by kernel_rfl)) (by unfold Func.isWrapper; first | (rw [if_pos (by decide +kernel)]; kernel_rfl) | (rw [if_neg (by decide +kernel)]; exact ⟨rfl, rfl⟩))
    (fun os started H enc _ => lifted os started H enc)

/-- ████ THE STATEMENT ████ -/
theorem proved : Rows.FnDeriveFewerSaid := over
#print axioms proved
end Go.Proofs.Ytamddfacmmjglaa.fnDeriveFewer
