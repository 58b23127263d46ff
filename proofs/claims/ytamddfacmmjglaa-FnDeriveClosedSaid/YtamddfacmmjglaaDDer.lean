/- The program's derivable atoms as the plain law's set: the contract of impl.derive. No condition but that boxes and atoms are valid. -/
import Derived.Test.YtamddfacmmjglaaDAtoms
namespace Go.Proofs.Ytamddfacmmjglaa
open Go.RowKit
set_option linter.unusedVariables false
theorem puts_le (xs : List Int) : ∀ m, m ≤ xs.foldl put m := by
  induction xs with
  | nil => intro m; exact Nat.le_refl _
  | cons x xs ih => intro m; exact Nat.le_trans (by unfold put; exact Nat.left_le_or) (ih _)
theorem step_le (m : Nat) (b : Bx) : m ≤ boxStep m b := by
  unfold boxStep; split
  · exact puts_le _ _
  · exact Nat.le_refl _
theorem round_le (bs : List Bx) : ∀ m, m ≤ round bs m := by
  induction bs with
  | nil => intro m; exact Nat.le_refl _
  | cons b bs ih => intro m; exact Nat.le_trans (step_le m b) (ih _)
theorem puts_drop {xs : List Int} {k : Nat} (h : k < xs.length) (m : Nat) : (xs.drop k).foldl put m = (xs.drop (k + 1)).foldl put (put m (xs.getD k 0)) := by
  rw [List.drop_eq_getElem_cons h, List.foldl_cons, List.getD_eq_getElem?_getD, List.getElem?_eq_getElem h]; rfl
theorem round_drop {bs : List Bx} {k : Nat} (h : k < bs.length) (m : Nat) : round (bs.drop k) m = round (bs.drop (k + 1)) (boxStep m (bs.getD k ⟨0, []⟩)) := by
  unfold round
  rw [List.drop_eq_getElem_cons h, List.foldl_cons, List.getD_eq_getElem?_getD, List.getElem?_eq_getElem h]; rfl
theorem or_wrap (m : Nat) (x : Int) (hm : m < 2097152) (h0 : 1 ≤ x) (h1 : x ≤ 20) : bits BinOp.or IntKind.i64 (m : Int) (wrap64 (2 ^ x.toNat)) = ((put m x : Nat) : Int) ∧ put m x < 2097152 := by
  have hp : 2 ^ x.toNat < 2 ^ 21 := Nat.pow_lt_pow_right (by decide) (by omega)
  have e : wrap64 ((2 : Int) ^ x.toNat) = 2 ^ x.toNat := by
    have h2 : ((2 : Int) ^ x.toNat) = ((2 ^ x.toNat : Nat) : Int) := by push_cast; rfl
    rw [h2]
    generalize 2 ^ x.toNat = p at hp
    unfold wrap64; omega
  rw [e]
  exact or_bit m x hm h0 h1
def natOf : Value → Nat
  | .int _ n => n.toNat
  | _ => 0
def flagOf : Value → Nat
  | .bool true => 1
  | _ => 0
theorem getD_mem' {xs : List Int} {k : Nat} (h : k < xs.length) : xs.getD k 0 ∈ xs := by rw [List.getD_eq_getElem?_getD, List.getElem?_eq_getElem h]; exact List.getElem_mem _
theorem bgetD_mem {xs : List Bx} {k : Nat} (h : k < xs.length) : xs.getD k ⟨0, []⟩ ∈ xs := by rw [List.getD_eq_getElem?_getD, List.getElem?_eq_getElem h]; exact List.getElem_mem _
set_option maxHeartbeats 3200000 in
theorem ider_any (B B' : Nat) (A A' : Option Addr) (bs : List Bx) (ks : List Int) (c c' : Nat) (w : World) (h : BxIn w B A bs) (h' : IntsIn w B' A' ks) (hBw : B ≤ w.heap.size) (hBw' : B' ≤ w.heap.size) (hb : bvalid bs = true) (hk : kvalid ks = true) :
    Calls Try.prog 31 #[.slice A bs.length c, .slice A' ks.length c', .int .i64 0] w fun e w' => e = .returned (.int .i64 (der bs ks : Nat)) ∧ Below w.heap.size w w' := by
  have H := Lib.hid h
  have H' := Lib.hid h'
  have KA := Lib.hid (fun k (hk' : k < ks.length) => kvalid_atom hk (getD_mem' hk'))
  have BA := Lib.hid (fun k (hk' : k < bs.length) => bvalid_box hb (bgetD_mem hk'))
  have lb : bs.length ≤ 10 := by unfold bvalid at hb; rw [Bool.and_eq_true, decide_eq_true_eq] at hb; exact hb.1
  have lk : ks.length ≤ 20 := by unfold kvalid at hk; rw [Bool.and_eq_true, decide_eq_true_eq] at hk; exact hk.1
  clear h h' hb hk
  go_enter Try.func31, Try.ntmps31
  go_wp2_with fail
  go_loop [7, 18] (fun m i => ∃ (k s : Nat), k ≤ ks.length ∧ i = .int .i64 k ∧ m = .int .i64 s ∧ s < 2097152 ∧ Hid (startOf ks = (ks.drop k).foldl put s)) (fun _ i => ks.length - (intOf i).toNat)
  case atStart => exact ⟨0, 0, Nat.zero_le _, rfl, rfl, by omega, rfl⟩
  case round =>
    obtain ⟨k, s, hk, rfl, rfl, hs, hd⟩ := hrel
    by_cases hlt : k < ks.length
    · obtain ⟨b, off, rfl, hbB, hc⟩ := H'.out (by omega)
      have g1 := hc k hlt
      have a1 := KA.out k hlt
      have S := Lib.hid (puts_drop hlt s)
      clear hc
      generalize ks.getD k 0 = x at g1 a1 S
      obtain ⟨a0, a1⟩ := a1
      have O := or_wrap s x hs a0 a1
      obtain ⟨O1, O2⟩ := O
      have D := Lib.hid (hd.out.trans S.out)
      go_wp2_with fail
      go_round
      case rel => exact ⟨k + 1, put s x, by omega, by go_num, by rw [← O1], O2, D.out⟩
      case measure => simp [intOf]; omega
    · have hk' : k = ks.length := by omega
      have ST := Lib.hid (show startOf ks = s by rw [hd.out, hk', List.drop_length]; rfl)
      clear hk' hd
      go_wp2_with fail
      go_loopw [7, 10] (fun m ch wr => ∃ (s : Nat) (f : Bool), m = .int .i64 s ∧ ch = .bool f ∧ s < 2097152 ∧ Hid (Sub (startOf ks) s ∧ ∀ c, Sub (startOf ks) c → Closed bs c → Sub s c) ∧ Hid (f = false → Closed bs s) ∧ Hid (Below w.heap.size w wr)) (fun m ch _ => 2 * (2097152 - natOf m) + flagOf ch)
      case atStart => exact ⟨s, true, rfl, rfl, hs, ⟨by rw [ST.out]; exact sub_refl _, fun c hc _ => by rw [← ST.out]; exact hc⟩, (fun h => by cases h), Below.refl _ _⟩
      case round =>
        clear ST
        obtain ⟨s0, f, rfl, rfl, hs0, hd, hcl, hB⟩ := hrel
        cases f with
        | true =>
          go_wp2_with fail
          go_loopw [7, 31] (fun m i wq => ∃ (k s : Nat), k ≤ bs.length ∧ i = .int .i64 k ∧ m = .int .i64 s ∧ s < 2097152 ∧ Hid (round bs s0 = round (bs.drop k) s) ∧ Hid (Below w.heap.size w wq)) (fun _ i _ => bs.length - (intOf i).toNat)
          case atStart => exact ⟨0, s0, Nat.zero_le _, rfl, rfl, hs0, rfl, hB.out⟩
          case round =>
            obtain ⟨k, s, hk, rfl, rfl, hs, hr, hB2⟩ := hrel
            by_cases hlt : k < bs.length
            · obtain ⟨b, off, rfl, hbB, hcc⟩ := (H.out.below (hB2.out.mono hBw)) (by omega)
              obtain ⟨Ai, ci, g1, g2, hI⟩ := hcc k hlt
              have ba := BA.out k hlt
              have S := Lib.hid (round_drop hlt s)
              clear hcc
              generalize bs.getD k ⟨0, []⟩ = x at g1 g2 hI ba S
              obtain ⟨key, ins⟩ := x
              simp only at g1 g2 hI ba
              obtain ⟨⟨k0, k1⟩, ⟨l0, l1⟩, hins⟩ := ba
              have INS := Lib.hid (fun j (hj : j < ins.length) => hins _ (getD_mem' hj))
              have II := Lib.hid hI
              clear hI hins
              have hbs : b < wr.heap.size := by have := hB2.out.size; omega
              have B4 := Lib.hid (hB2.out.alloc hB2.out.size (.cells #[.int .i64 key, .slice Ai ins.length ci] 37))
              have I4 := Lib.hid (II.out.below (((Below.refl B wr).alloc (Nat.le_trans hBw hB2.out.size) (.cells #[.int .i64 key, .slice Ai ins.length ci] 37))))
              obtain ⟨q1, hq1⟩ : ∃ q, s.testBit key.toNat = q := ⟨_, rfl⟩
              have Q1 := Lib.hid (show (isAtom key && s.testBit key.toNat) = q1 by rw [(isAtom_iff key).2 ⟨k0, k1⟩, hq1]; rfl)
              have Q2 := Lib.hid hq1
              clear hq1
              go_wp2_with fail
              refine (has_any s key _ q1 hs Q1.out).mono ?_
              rintro e w2 ⟨rfl, rfl⟩
              cases q1 with
              | false =>
                have E := Lib.hid (show round bs s0 = round (bs.drop (k + 1)) s by rw [hr.out, S.out]; unfold boxStep; rw [Q2.out]; rfl)
                go_wp2_with fail
                go_roundw
                case rel => exact ⟨k + 1, s, by omega, by go_num, rfl, hs, E.out, B4.out⟩
                case measure => simp [intOf]; omega
              | true =>
                have E := Lib.hid (show round bs s0 = round (bs.drop (k + 1)) (ins.foldl put s) by rw [hr.out, S.out]; unfold boxStep; rw [Q2.out]; rfl)
                go_wp2_with fail
                go_loop [7, 49] (fun m i => ∃ (j t : Nat), j ≤ ins.length ∧ i = .int .i64 j ∧ m = .int .i64 t ∧ t < 2097152 ∧ Hid (ins.foldl put s = (ins.drop j).foldl put t)) (fun _ i => ins.length - (intOf i).toNat)
                case atStart => exact ⟨0, s, Nat.zero_le _, rfl, rfl, hs, rfl⟩
                case round =>
                  obtain ⟨j, t, hj, rfl, rfl, ht, hd2⟩ := hrel
                  by_cases hlj : j < ins.length
                  · obtain ⟨bi, oi, hAi, _, hci⟩ := I4.out (by omega)
                    subst hAi
                    have g3 := hci j hlj
                    clear hci
                    have a1 := INS.out j hlj
                    have T := Lib.hid (puts_drop hlj t)
                    generalize ins.getD j 0 = y at g3 a1 T
                    obtain ⟨a0, a1⟩ := a1
                    have O := or_wrap t y ht a0 a1
                    obtain ⟨O1, O2⟩ := O
                    have D := Lib.hid (hd2.out.trans T.out)
                    go_wp2_with fail
                    go_round
                    case rel => exact ⟨j + 1, put t y, by omega, by go_num, by rw [← O1], O2, D.out⟩
                    case measure => simp [intOf]; omega
                  · have hj' : j = ins.length := by omega
                    have F := Lib.hid (show round bs s0 = round (bs.drop (k + 1)) t by rw [E.out, hd2.out, hj', List.drop_length]; rfl)
                    clear hj'
                    go_wp2_with fail
                    go_roundw
                    case rel => exact ⟨k + 1, t, by omega, by go_num, rfl, ht, F.out, B4.out⟩
                    case measure => simp [intOf]; omega
            · have hk' : k = bs.length := by omega
              have F := Lib.hid (show round bs s0 = s by rw [hr.out, hk', List.drop_length]; rfl)
              clear hk' hr
              obtain ⟨ch, hch⟩ : ∃ ch, ((s : Int) != (s0 : Int)) = ch := ⟨_, rfl⟩
              have LE := F.out ▸ round_le bs s0
              have SUB := Lib.hid (F.out ▸ round_sub bs s0)
              have LEAST := Lib.hid (fun c (hc : Sub s0 c) (hcc : Closed bs c) => F.out ▸ round_least bs hc hcc)
              have CL := Lib.hid (show ch = false → Closed bs s by
                rintro rfl
                rw [bne_eq_false_iff_eq] at hch
                have e : s = s0 := by omega
                have := F.out
                rw [e]; rw [e] at this
                exact round_closed this)
              have N := Lib.hid (show ch = true → s0 < s by
                rintro rfl
                rw [bne_iff_ne] at hch
                omega)
              go_wp2_with fail
              go_roundw
              case rel => exact ⟨s, ch, rfl, by rw [← hch], hs, ⟨fun i hi => SUB.out i (hd.out.1 i hi), fun c h1 h2 => LEAST.out c (hd.out.2 c h1 h2) h2⟩, CL.out, hB2.out⟩
              case measure =>
                have hN := N.out
                cases ch with
                | true =>
                  have h1 := hN rfl
                  simp only [natOf, flagOf, Int.toNat_natCast]
                  omega
                | false =>
                  simp only [natOf, flagOf, Int.toNat_natCast]
                  omega
        | false =>
          have D := Lib.hid (show s0 = der bs ks from der_is (hcl.out rfl) hd.out.1 hd.out.2)
          go_wp2_with fail
          go_ret
          exact ⟨by rw [← D.out]; rfl, hB.out⟩
end Go.Proofs.Ytamddfacmmjglaa
