/- Contracts of the expansion of packet numbers, the program's and the reference's. No condition beyond those in each theorem. -/
import Derived.Test.YtnjonjbjpjodbaaNWalks
namespace Go.Proofs.Ytnjonjbjpjodbaa
open Go.RowKit
theorem ret_int {a b : Int} (h : a = b) : Ending.returned (.int .i64 a) = .returned (.int .i64 b) := by rw [h]
theorem tmod_parts (x s : Int) (hs : 0 < s) : ∃ q r : Int, x.tmod s = r ∧ x = s * q + r ∧ -s < r ∧ r < s := by
  refine ⟨x.tdiv s, x.tmod s, rfl, (Int.mul_tdiv_add_tmod x s).symm, ?_, Int.tmod_lt_of_pos x hs⟩
  have h := Int.tmod_lt_of_pos (-x) hs
  rw [Int.neg_tmod] at h
  omega
theorem iexp_4 (g v : Int) (w : World) (h0 : -1 ≤ g) (h1 : g ≤ 999) (hv : 0 ≤ v) (hv' : v < 16) : Calls Try.prog 19 #[.int .i64 g, .int .i64 v, .int .i64 4] w fun e w' => e = .returned (.int .i64 (ncore g v 16)) ∧ w = w' := by
  obtain ⟨q, r, R, hx, hr0, hr1⟩ := tmod_parts (g + 1 + 8 - v) 16 (by omega)
  have X := Lib.hid hx
  clear hx
  go_enter Try.func19, Try.ntmps19
  go_wp2_with (first | (go_at_call 25; refine (win_yes _ _ _ _ (by omega)).mono ?_; rintro e w' ⟨rfl, rfl⟩) | (go_at_call 26; refine (are_yes _ _ (by omega)).mono ?_; rintro e w' ⟨rfl, rfl⟩))
  · have h : g + 1 + 8 - r % 16 < 0 := by assumption
    go_ret
    exact ⟨ret_int (by have hx := X.out; unfold ncore; rw [if_pos (by omega)]), rfl⟩
  · have h : 0 ≤ g + 1 + 8 - r % 16 := by assumption
    go_ret
    exact ⟨ret_int (by have hx := X.out; unfold ncore; rw [if_neg (by omega)]; omega), rfl⟩
theorem sexp_4 (g v : Int) (w : World) (h0 : -1 ≤ g) (h1 : g ≤ 999) (hv : 0 ≤ v) (hv' : v < 16) : Calls Try.prog 27 #[.int .i64 g, .int .i64 v, .int .i64 4] w fun e w' => e = .returned (.int .i64 (ncore g v 16)) ∧ w = w' := by
  have E := Lib.hid (ncore_16 g v h0 hv hv')
  go_enter Try.func27, Try.ntmps27
  by_cases c1 : g + 1 - (g + 1) % 16 + v ≤ g + 1 - 8
  · go_wp2_with (go_at_call 24; refine (size_of _ 16 _ rfl).mono ?_; rintro e w' ⟨rfl, rfl⟩)
    go_ret
    exact ⟨ret_int (by rw [E.out, if_pos c1]), rfl⟩
  · by_cases c2 : g + 1 + 8 < g + 1 - (g + 1) % 16 + v ∧ 16 ≤ g + 1 - (g + 1) % 16 + v
    · obtain ⟨c2, c3⟩ := c2
      go_wp2_with (go_at_call 24; refine (size_of _ 16 _ rfl).mono ?_; rintro e w' ⟨rfl, rfl⟩)
      go_ret
      exact ⟨ret_int (by rw [E.out, if_neg (by omega), if_pos ⟨c2, c3⟩]), rfl⟩
    · by_cases c3 : g + 1 + 8 < g + 1 - (g + 1) % 16 + v
      · have c4 : g + 1 - (g + 1) % 16 + v < 16 := by omega
        have C := Lib.hid c2
        clear c2
        go_wp2_with (go_at_call 24; refine (size_of _ 16 _ rfl).mono ?_; rintro e w' ⟨rfl, rfl⟩)
        go_ret
        exact ⟨ret_int (by rw [E.out, if_neg (by omega), if_neg C.out]), rfl⟩
      · have C := Lib.hid c2
        clear c2
        go_wp2_with (go_at_call 24; refine (size_of _ 16 _ rfl).mono ?_; rintro e w' ⟨rfl, rfl⟩)
        go_ret
        exact ⟨ret_int (by rw [E.out, if_neg (by omega), if_neg C.out]), rfl⟩
theorem iexp_8 (g v : Int) (w : World) (h0 : -1 ≤ g) (h1 : g ≤ 999) (hv : 0 ≤ v) (hv' : v < 256) : Calls Try.prog 19 #[.int .i64 g, .int .i64 v, .int .i64 8] w fun e w' => e = .returned (.int .i64 (ncore g v 256)) ∧ w = w' := by
  obtain ⟨q, r, R, hx, hr0, hr1⟩ := tmod_parts (g + 1 + 128 - v) 256 (by omega)
  have X := Lib.hid hx
  clear hx
  go_enter Try.func19, Try.ntmps19
  go_wp2_with (first | (go_at_call 25; refine (win_yes _ _ _ _ (by omega)).mono ?_; rintro e w' ⟨rfl, rfl⟩) | (go_at_call 26; refine (are_yes _ _ (by omega)).mono ?_; rintro e w' ⟨rfl, rfl⟩))
  · have h : g + 1 + 128 - r % 256 < 0 := by assumption
    go_ret
    exact ⟨ret_int (by have hx := X.out; unfold ncore; rw [if_pos (by omega)]), rfl⟩
  · have h : 0 ≤ g + 1 + 128 - r % 256 := by assumption
    go_ret
    exact ⟨ret_int (by have hx := X.out; unfold ncore; rw [if_neg (by omega)]; omega), rfl⟩
theorem sexp_8 (g v : Int) (w : World) (h0 : -1 ≤ g) (h1 : g ≤ 999) (hv : 0 ≤ v) (hv' : v < 256) : Calls Try.prog 27 #[.int .i64 g, .int .i64 v, .int .i64 8] w fun e w' => e = .returned (.int .i64 (ncore g v 256)) ∧ w = w' := by
  have E := Lib.hid (ncore_256 g v h0 hv hv')
  go_enter Try.func27, Try.ntmps27
  by_cases c1 : g + 1 - (g + 1) % 256 + v ≤ g + 1 - 128
  · go_wp2_with (go_at_call 24; refine (size_of _ 256 _ rfl).mono ?_; rintro e w' ⟨rfl, rfl⟩)
    go_ret
    exact ⟨ret_int (by rw [E.out, if_pos c1]), rfl⟩
  · by_cases c2 : g + 1 + 128 < g + 1 - (g + 1) % 256 + v ∧ 256 ≤ g + 1 - (g + 1) % 256 + v
    · obtain ⟨c2, c3⟩ := c2
      go_wp2_with (go_at_call 24; refine (size_of _ 256 _ rfl).mono ?_; rintro e w' ⟨rfl, rfl⟩)
      go_ret
      exact ⟨ret_int (by rw [E.out, if_neg (by omega), if_pos ⟨c2, c3⟩]), rfl⟩
    · by_cases c3 : g + 1 + 128 < g + 1 - (g + 1) % 256 + v
      · have c4 : g + 1 - (g + 1) % 256 + v < 256 := by omega
        have C := Lib.hid c2
        clear c2
        go_wp2_with (go_at_call 24; refine (size_of _ 256 _ rfl).mono ?_; rintro e w' ⟨rfl, rfl⟩)
        go_ret
        exact ⟨ret_int (by rw [E.out, if_neg (by omega), if_neg C.out]), rfl⟩
      · have C := Lib.hid c2
        clear c2
        go_wp2_with (go_at_call 24; refine (size_of _ 256 _ rfl).mono ?_; rintro e w' ⟨rfl, rfl⟩)
        go_ret
        exact ⟨ret_int (by rw [E.out, if_neg (by omega), if_neg C.out]), rfl⟩
theorem iexp_12 (g v : Int) (w : World) (h0 : -1 ≤ g) (h1 : g ≤ 999) (hv : 0 ≤ v) (hv' : v < 4096) : Calls Try.prog 19 #[.int .i64 g, .int .i64 v, .int .i64 12] w fun e w' => e = .returned (.int .i64 (ncore g v 4096)) ∧ w = w' := by
  obtain ⟨q, r, R, hx, hr0, hr1⟩ := tmod_parts (g + 1 + 2048 - v) 4096 (by omega)
  have X := Lib.hid hx
  clear hx
  go_enter Try.func19, Try.ntmps19
  go_wp2_with (first | (go_at_call 25; refine (win_yes _ _ _ _ (by omega)).mono ?_; rintro e w' ⟨rfl, rfl⟩) | (go_at_call 26; refine (are_yes _ _ (by omega)).mono ?_; rintro e w' ⟨rfl, rfl⟩))
  · have h : g + 1 + 2048 - r % 4096 < 0 := by assumption
    go_ret
    exact ⟨ret_int (by have hx := X.out; unfold ncore; rw [if_pos (by omega)]), rfl⟩
  · have h : 0 ≤ g + 1 + 2048 - r % 4096 := by assumption
    go_ret
    exact ⟨ret_int (by have hx := X.out; unfold ncore; rw [if_neg (by omega)]; omega), rfl⟩
theorem sexp_12 (g v : Int) (w : World) (h0 : -1 ≤ g) (h1 : g ≤ 999) (hv : 0 ≤ v) (hv' : v < 4096) : Calls Try.prog 27 #[.int .i64 g, .int .i64 v, .int .i64 12] w fun e w' => e = .returned (.int .i64 (ncore g v 4096)) ∧ w = w' := by
  have E := Lib.hid (ncore_4096 g v h0 hv hv')
  go_enter Try.func27, Try.ntmps27
  by_cases c1 : g + 1 - (g + 1) % 4096 + v ≤ g + 1 - 2048
  · go_wp2_with (go_at_call 24; refine (size_of _ 4096 _ rfl).mono ?_; rintro e w' ⟨rfl, rfl⟩)
    go_ret
    exact ⟨ret_int (by rw [E.out, if_pos c1]), rfl⟩
  · by_cases c2 : g + 1 + 2048 < g + 1 - (g + 1) % 4096 + v ∧ 4096 ≤ g + 1 - (g + 1) % 4096 + v
    · exfalso; omega
    · by_cases c3 : g + 1 + 2048 < g + 1 - (g + 1) % 4096 + v
      · have c4 : g + 1 - (g + 1) % 4096 + v < 4096 := by omega
        have C := Lib.hid c2
        clear c2
        go_wp2_with (go_at_call 24; refine (size_of _ 4096 _ rfl).mono ?_; rintro e w' ⟨rfl, rfl⟩)
        go_ret
        exact ⟨ret_int (by rw [E.out, if_neg (by omega), if_neg C.out]), rfl⟩
      · have C := Lib.hid c2
        clear c2
        go_wp2_with (go_at_call 24; refine (size_of _ 4096 _ rfl).mono ?_; rintro e w' ⟨rfl, rfl⟩)
        go_ret
        exact ⟨ret_int (by rw [E.out, if_neg (by omega), if_neg C.out]), rfl⟩
theorem iexp_any (g v b : Int) (w : World) : Calls Try.prog 19 #[.int .i64 g, .int .i64 v, .int .i64 b] w fun e w' => e = .returned (.int .i64 (nexp g v b)) ∧ w = w' := by
  by_cases hg : -1 ≤ g ∧ g ≤ 999
  · obtain ⟨h0, h1⟩ := hg
    rcases nsz_cases b with ⟨rfl, e⟩ | ⟨rfl, e⟩ | ⟨rfl, e⟩ | ⟨g1, g2, g3, e⟩
    · by_cases hv : 0 ≤ v ∧ v < 16
      · have E := nexp_ok g v 4 h0 h1 (by rw [e]; decide) hv.1 (by rw [e]; exact hv.2)
        rw [e] at E
        rw [E]
        exact iexp_4 g v w h0 h1 hv.1 hv.2
      · have E := Lib.hid (nexp_no g v 4 (by omega))
        have hv' : v < 0 ∨ 15 < v ∧ 15 < v := by omega
        have hv2 : v < 0 ∨ 15 < v := by omega
        clear hv hv'
        go_enter Try.func19, Try.ntmps19
        go_wp2_with fail
        refine (win_yes _ _ _ _ ⟨h0, h1⟩).mono ?_
        rintro e w' ⟨rfl, rfl⟩
        go_wp2_with fail
        refine (are_yes _ _ (by omega)).mono ?_
        rintro e w' ⟨rfl, rfl⟩
        go_wp2_with fail
        refine (win_no _ _ _ _ hv2).mono ?_
        rintro e w' ⟨rfl, rfl⟩
        go_wp2
        go_ret
        exact ⟨by rw [E.out]; rfl, rfl⟩
    · by_cases hv : 0 ≤ v ∧ v < 256
      · have E := nexp_ok g v 8 h0 h1 (by rw [e]; decide) hv.1 (by rw [e]; exact hv.2)
        rw [e] at E
        rw [E]
        exact iexp_8 g v w h0 h1 hv.1 hv.2
      · have E := Lib.hid (nexp_no g v 8 (by omega))
        have hv' : v < 0 ∨ 15 < v ∧ 255 < v := by omega
        have hv2 : v < 0 ∨ 255 < v := by omega
        clear hv hv'
        go_enter Try.func19, Try.ntmps19
        go_wp2_with fail
        refine (win_yes _ _ _ _ ⟨h0, h1⟩).mono ?_
        rintro e w' ⟨rfl, rfl⟩
        go_wp2_with fail
        refine (are_yes _ _ (by omega)).mono ?_
        rintro e w' ⟨rfl, rfl⟩
        go_wp2_with fail
        refine (win_no _ _ _ _ hv2).mono ?_
        rintro e w' ⟨rfl, rfl⟩
        go_wp2
        go_ret
        exact ⟨by rw [E.out]; rfl, rfl⟩
    · by_cases hv : 0 ≤ v ∧ v < 4096
      · have E := nexp_ok g v 12 h0 h1 (by rw [e]; decide) hv.1 (by rw [e]; exact hv.2)
        rw [e] at E
        rw [E]
        exact iexp_12 g v w h0 h1 hv.1 hv.2
      · have E := Lib.hid (nexp_no g v 12 (by omega))
        have hv' : v < 0 ∨ 15 < v ∧ 4095 < v := by omega
        have hv2 : v < 0 ∨ 4095 < v := by omega
        clear hv hv'
        go_enter Try.func19, Try.ntmps19
        go_wp2_with fail
        refine (win_yes _ _ _ _ ⟨h0, h1⟩).mono ?_
        rintro e w' ⟨rfl, rfl⟩
        go_wp2_with fail
        refine (are_yes _ _ (by omega)).mono ?_
        rintro e w' ⟨rfl, rfl⟩
        go_wp2_with fail
        refine (win_no _ _ _ _ hv2).mono ?_
        rintro e w' ⟨rfl, rfl⟩
        go_wp2
        go_ret
        exact ⟨by rw [E.out]; rfl, rfl⟩
    · have E := Lib.hid (nexp_no g v b (by omega))
      clear e
      go_enter Try.func19, Try.ntmps19
      go_wp2_with fail
      refine (win_yes _ _ _ _ ⟨h0, h1⟩).mono ?_
      rintro e w' ⟨rfl, rfl⟩
      go_wp2_with fail
      refine (are_no _ _ g1 g2 g3).mono ?_
      rintro e w' ⟨rfl, rfl⟩
      go_wp2
      go_ret
      exact ⟨by rw [E.out]; rfl, rfl⟩
  · have E := Lib.hid (nexp_no g v b (by omega))
    go_enter Try.func19, Try.ntmps19
    go_wp2_with fail
    refine (win_no _ _ _ _ (by omega)).mono ?_
    rintro e w' ⟨rfl, rfl⟩
    go_wp2
    go_ret
    exact ⟨by rw [E.out]; rfl, rfl⟩
theorem sexp_any (g v b : Int) (w : World) : Calls Try.prog 18 #[.int .i64 g, .int .i64 v, .int .i64 b] w fun e w' => e = .returned (.int .i64 (nexp g v b)) ∧ w = w' := by
  by_cases hg : -1 ≤ g ∧ g ≤ 999
  · obtain ⟨h0, h1⟩ := hg
    by_cases hv : 0 ≤ v ∧ v < nsz b
    · obtain ⟨hv, hv'⟩ := hv
      have hb : nsz b ≠ 0 := by omega
      have E := Lib.hid (nexp_ok g v b h0 h1 hb hv hv')
      have hE : Calls Try.prog 27 #[.int .i64 g, .int .i64 v, .int .i64 b] w fun e w' => e = .returned (.int .i64 (ncore g v (nsz b))) ∧ w = w' := by
        rcases nsz_cases b with ⟨rfl, e⟩ | ⟨rfl, e⟩ | ⟨rfl, e⟩ | ⟨g1, g2, g3, e⟩
        · rw [e] at hv' ⊢; exact sexp_4 g v w h0 h1 hv hv'
        · rw [e] at hv' ⊢; exact sexp_8 g v w h0 h1 hv hv'
        · rw [e] at hv' ⊢; exact sexp_12 g v w h0 h1 hv hv'
        · exact absurd e hb
      have hE' := Lib.hid hE
      have hs : v ≤ nsz b - 1 := by omega
      have hn : -4096 ≤ nsz b ∧ nsz b ≤ 4096 := by rcases nsz_cases b with ⟨_, e⟩ | ⟨_, e⟩ | ⟨_, e⟩ | ⟨_, _, _, e⟩ <;> omega
      clear hE hb
      go_enter Try.func18, Try.ntmps18
      go_wp2_with fail
      refine (in_yes _ _ _ _ ⟨h0, h1⟩).mono ?_
      rintro e w' ⟨rfl, rfl⟩
      go_wp2_with fail
      refine (size_any _ _).mono ?_
      rintro e w' ⟨rfl, rfl⟩
      go_wp2_with fail
      refine (in_yes _ _ _ _ ⟨hv, hs⟩).mono ?_
      rintro e w' ⟨rfl, rfl⟩
      go_wp2_with fail
      with_reducible refine hE'.out.mono ?_
      rintro e w' ⟨rfl, rfl⟩
      go_wp2
      go_ret
      exact ⟨by rw [E.out]; rfl, rfl⟩
    · have E := Lib.hid (nexp_no g v b (by omega))
      have hs : v < 0 ∨ nsz b - 1 < v := by omega
      have hn : -4096 ≤ nsz b ∧ nsz b ≤ 4096 := by rcases nsz_cases b with ⟨_, e⟩ | ⟨_, e⟩ | ⟨_, e⟩ | ⟨_, _, _, e⟩ <;> omega
      clear hv
      go_enter Try.func18, Try.ntmps18
      go_wp2_with fail
      refine (in_yes _ _ _ _ ⟨h0, h1⟩).mono ?_
      rintro e w' ⟨rfl, rfl⟩
      go_wp2_with fail
      refine (size_any _ _).mono ?_
      rintro e w' ⟨rfl, rfl⟩
      go_wp2_with fail
      refine (in_no _ _ _ _ hs).mono ?_
      rintro e w' ⟨rfl, rfl⟩
      go_wp2
      go_ret
      exact ⟨by rw [E.out]; rfl, rfl⟩
  · have E := Lib.hid (nexp_no g v b (by omega))
    go_enter Try.func18, Try.ntmps18
    go_wp2_with fail
    refine (in_no _ _ _ _ (by omega)).mono ?_
    rintro e w' ⟨rfl, rfl⟩
    go_wp2
    go_ret
    exact ⟨by rw [E.out]; rfl, rfl⟩
end Go.Proofs.Ytnjonjbjpjodbaa
