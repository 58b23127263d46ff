/- Proved: the law FnVarintPrefix returns true for every input and leaves its arguments as they were: A part of an encoding is not an encoding. (P5) No condition. -/
import Derived.Test.YtnmanfjhbppbdaaRows
import Derived.WalkKit
import Derived.ProofKit
import Derived.OpenShut
import Derived.ShutString
import Derived.ChangeOld
import Derived.Below
import Derived.Test.YtnmanfjhbppbdaaHead
import Derived.Test.YtnmanfjhbppbdaaVLaw
namespace Go.Proofs.Ytnmanfjhbppbdaa.fnVarintPrefix
open Go.ChangeShapes Go.WideShapes Go.ChangeAt Go.RowKit
open Go.ChangeMaps (open_string shut_string)
set_option linter.unusedVariables false

theorem own : ownKnob Try.prog.godebug = none := by kernel_rfl
theorem laidOut : laidOutB Try.prog = true := by kernel_rfl

/-- A proper part of an encoding, from its start on, is none. -/
theorem part_bad (n : Int) (k : Nat) (h : k < (venc n).length) : fine ((venc n).take k) = false := by
  have hl := venc_length n
  rcases vlen_cases n with ⟨g1, e⟩ | ⟨g1, e⟩ | ⟨g1, g2, e⟩ | ⟨g1, g2, e⟩ | ⟨g1, g2, e⟩
  · omega
  · omega
  · have : k = 0 := by omega
    subst this; rfl
  · rcases Nat.eq_zero_or_pos k with h0 | h0
    · subst h0; rfl
    · have hk : k = 1 := by omega
      subst hk
      rw [venc_2 n g1 g2]
      have e1 : bt ([b8 (n / 256 + 64)]) 0 = n / 256 + 64 := by rw [bt_cons, b8_toNat]; omega
      refine dec_short _ (by simp [vb2]) ?_
      show 1 < (if bt [b8 (n / 256 + 64)] 0 < 64 then 1 else if bt [b8 (n / 256 + 64)] 0 < 128 then 2 else 4)
      rw [e1, if_neg (by omega)]; split <;> omega
  · rcases Nat.eq_zero_or_pos k with h0 | h0
    · subst h0; rfl
    · rw [venc_4 n g1 g2] at h ⊢
      obtain ⟨j, rfl⟩ : ∃ j, k = j + 1 := ⟨k - 1, by omega⟩
      have e0 : (vb4 n).take (j + 1) = b8 (n / 16777216 + 128) :: [b8 (n / 65536), b8 (n / 256), b8 n].take j := rfl
      have e1 : bt ((vb4 n).take (j + 1)) 0 = n / 16777216 + 128 := by rw [e0, bt_cons, b8_toNat]; omega
      refine dec_short _ (by rw [e0]; simp) ?_
      have e2 : (vb4 n).length = 4 := rfl
      rw [e1, if_neg (by omega), if_neg (by omega), List.length_take, e2]
      rw [e2] at h
      omega
theorem take_extract (t : ByteArray) (k : Nat) : (t.extract 0 k).data.toList = t.data.toList.take k := by
  simp only [ByteArray.data_extract, Array.toList_extract, List.extract_eq_take_drop, List.drop_zero, Nat.sub_zero]

theorem walk (a0 : Option Addr) (len0 cap0 : Nat) (z0 : List Int) (w : World) (w0 : IsRow .u8 w a0 len0 cap0 z0) :
    Calls Try.prog 13 #[.slice a0 len0 cap0] w fun e w' => e = .returned (.bool true) ∧ Below w.heap.size w w' := by
  have hc := codeArg_of w0
  have hl := hc.1
  have hm := hc.2.1
  have HC := Lib.hid hc
  clear w0 hc
  by_cases h1 : len0 ≤ 1048576
  · go_enter Try.func13, Try.ntmps13
    go_wp2_with fail
    refine (drawEnc_any a0 len0 cap0 w HC.out).mono ?_
    rintro e w1 ⟨n, rfl, hB⟩
    go_wp2_with (first | (go_at_call 26; refine (sencode_any _ _).mono ?_; rintro e w3 ⟨rfl, hB3⟩) | (go_at_call 27; refine (iencode_any _ _).mono ?_; rintro e w2 ⟨rfl, hB2⟩))
    have hBB := Lib.hid (drew2 hB (drew2 hB2 hB3))
    clear hB hB2 hB3
    have hP : ∀ k, k < (⟨(venc n).toArray⟩ : ByteArray).size → fine (((⟨(venc n).toArray⟩ : ByteArray).extract 0 k).data.toList) = false := by
      intro k hk
      rw [size_text] at hk
      rw [take_extract]
      exact part_bad n k hk
    have hv : (⟨(venc n).toArray⟩ : ByteArray).size ≤ 4 := by rw [size_text]; exact venc_len n
    have hP' := Lib.hid hP
    clear hP
    generalize (⟨(venc n).toArray⟩ : ByteArray) = s at hP' hv ⊢
    go_loop [6, 7] (fun i _ => ∃ k : Nat, k ≤ s.size ∧ i = .int .i64 k) (fun i _ => 5 - (intOf i).toNat)
    case atStart => exact ⟨0, Nat.zero_le _, rfl⟩
    case round =>
      obtain ⟨k, hk, rfl⟩ := hrel
      by_cases hlt : k < s.size
      · have hf := hP'.out k hlt
        have hz : (s.extract 0 k).size ≤ 9223372036854775807 := by rw [← size_list, take_extract, List.length_take, size_list]; omega
        have hdec := Lib.hid (idec_of (s.extract 0 k) w3 hz 0 0 false (dec_none _ hf).2 (by rw [(dec_none _ hf).1]; rfl) hf)
        clear hf hz
        go_wp2_with fail
        with_reducible refine hdec.out.mono ?_
        rintro e w4 ⟨rfl, rfl⟩
        go_wp2
        go_round
        case rel => exact ⟨k + 1, by omega, by go_num⟩
        case measure => simp [intOf]; omega
      · go_wp2
        go_ret
        exact ⟨rfl, hBB.out⟩
  · go_enter Try.func13, Try.ntmps13
    go_wp2
    go_ret
    exact ⟨rfl, Below.refl _ _⟩

set_option maxRecDepth 100000 in
theorem lifted (os : Os) (started : os.Started) (H : Type) (enc : TypeId × Value → H) :
    ReturnsInHanded {} Try.checked os 13 .any (Rows.fnVarintPrefixSpec.pre6 enc Try.prog Try.f13 Rows.fnVarintPrefixRow.domain false) (Rows.fnVarintPrefixSpec.post enc Try.prog Try.f13 false true false false) := by
  refine returnsInHanded_of_change (C := Try.checked) own started (by kernel_rfl) Try.func13
    (ChangeSpec.witness6 (enc := enc) (C := Try.checked) false ⟨#[], #[.slice none 0 0], []⟩ 8 (by kernel_rfl) (by kernel_rfl) (by kernel_rfl) (by kernel_rfl)) ?_
  intro W base args ds gs before hval0 hW hcnd _
  have hval : ∀ (j : Nat) t v, Try.f13.params[j]? = some t → args[j]? = some v → Value.okWide Try.prog W .any base t v := hval0
  have hW' := hW
  obtain ⟨p, q, hA0, hV, rfl, hfz, hnd⟩ := hW
  have hA : DataW.TrodAll enc Try.prog W 0 (fun _ => true) true Try.f13.params.toList args.toList ds p := hA0
  rw [Try.params13] at hA hval
  obtain ⟨v0, vs0, d0, ds0, p0, q0, hargs, rfl, rfl, h0, r0⟩ := trodAll_cons hA
  obtain ⟨rfl, rfl, rfl⟩ := trodAll_nil r0
  obtain rfl : args = #[v0] := by cases args; simp_all
  obtain ⟨rfl, rfl⟩ := trodVars_none hV
  obtain ⟨a0, len0, cap0, rfl⟩ := okWide_slice Try.underlying28 (hval 0 28 v0 rfl rfl)
  have k0 := h0
  have lt0 : ∀ x ∈ p0, x.block < W.heap.size := by obtain ⟨m, hm⟩ := k0; exact DataW.trod_lt m _ _ _ hm
  obtain ⟨z0, w0⟩ : ∃ zs, IsRow .u8 W a0 len0 cap0 zs := by
    obtain ⟨fuel, hf⟩ := h0
    rcases open_ints Try.underlying28 Try.underlying5 (by kernel_rfl) hf with ⟨hcs, _⟩ | ⟨x, l, c, zs, hcs, _, hl, hm, hz, _, hcell, hwz⟩
    · simp [Value.cells] at hcs
      obtain ⟨rfl, rfl, rfl⟩ := hcs
      exact ⟨[], .inl ⟨rfl, rfl, rfl, rfl⟩⟩
    · simp [Value.cells] at hcs
      obtain ⟨rfl, rfl, rfl⟩ := hcs
      exact ⟨zs, .inr ⟨_, rfl, hl, hm, by simpa using hz, hcell, hwz⟩⟩
  clear hA0 hval0
  refine (walk a0 len0 cap0 z0 W w0).mono fun e W' ⟨he, bel⟩ => ?_
  subst he
  exact ⟨_, rfl, _, _, _, [], _, [], hW', trodAll_mk1 (shut_bool Try.underlying4 _), (trodAll_cons_mk (Below.trod laidOut (by kernel_rfl) (of_decide_eq_true (by kernel_rfl)) k0 bel lt0) trodAll_mk0), rfl, bel.frame _, fun h => by cases h⟩

theorem closed : joinedFacts Try.prog 13 Try.f13 Rows.fnVarintPrefixSpec Rows.fnVarintPrefixRow = true := by
  unfold joinedFacts
  rw [mayEnter_ok, lifts_ok, make_ok]
  kernel_rfl

theorem over : Rows.fnVarintPrefixRow.holds Try.pinned (OpenSpec.ofChange Rows.fnVarintPrefixSpec) :=
  OpenClaim.holds_of_wide 13 Try.f13 rfl rfl rfl rfl rfl rfl rfl ⟨rfl, rfl, rfl, rfl, rfl⟩ rfl rfl rfl rfl rfl (by kernel_rfl) Try.func13 closed
    (of_decide_eq_true (by kernel_rfl)) (by unfold Func.isWrapper; first | (rw [if_pos (by decide +kernel)]; kernel_rfl) | (rw [if_neg (by decide +kernel)]; exact ⟨rfl, rfl⟩))
    (fun os started H enc _ => lifted os started H enc)

/-- ████ THE STATEMENT ████ -/
theorem proved : Rows.FnVarintPrefixSaid := over
#print axioms proved
end Go.Proofs.Ytnmanfjhbppbdaa.fnVarintPrefix
