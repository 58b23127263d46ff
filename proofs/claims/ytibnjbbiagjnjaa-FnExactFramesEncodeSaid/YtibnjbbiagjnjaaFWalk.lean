/- Contracts of the validity of frames, the program's and the reference's. No condition beyond those in each theorem. -/
import Derived.Test.YtibnjbbiagjnjaaFMath
import Derived.Test.YtibnjbbiagjnjaaRngEq
import Derived.Test.YtibnjbbiagjnjaaIn
namespace Go.Proofs.Ytibnjbbiagjnjaa
open Go.RowKit
set_option linter.unusedVariables false
/-- A frame's value. -/
abbrev frv (k a b c : Int) (s : ByteArray) (A : Option Addr) (n cap : Nat) : Value := .agg #[.int .i64 k, .int .i64 a, .int .i64 b, .int .i64 c, .string s, .slice A n cap]
theorem flim_of {f : Fr} {x y z : Int} {b : Bool} (h : flim f x y z = b) : flim f x y z = b := h
set_option maxHeartbeats 800000 in
theorem limit_any (g : Nat) (k a b c x y z : Int) (s : ByteArray) (rv : Value) (w : World) (r : Bool)
    (h1 : w.cell? ⟨g, 1, none⟩ = some (.int .i64 a)) (h2 : w.cell? ⟨g, 2, none⟩ = some (.int .i64 b)) (h3 : w.cell? ⟨g, 3, none⟩ = some (.int .i64 c)) (hr : (inr a x && inr b y && inr c z) = r) :
    Calls Try.prog 41 #[.int .i64 x, .int .i64 y, .int .i64 z, .pointer (some ⟨g, 0, none⟩)] w fun e w' => e = .returned (.bool r) ∧ w = w' := by
  by_cases c1 : 0 ≤ a ∧ a ≤ x
  · have e1 : inr a x = true := (inr_iff a x).2 c1
    by_cases c2 : 0 ≤ b ∧ b ≤ y
    · have e2 : inr b y = true := (inr_iff b y).2 c2
      by_cases c3 : 0 ≤ c ∧ c ≤ z
      · have e3 : inr c z = true := (inr_iff c z).2 c3
        have R := Lib.hid (show true = r by rw [← hr, e1, e2, e3]; rfl)
        have C := Lib.hid (And.intro c1 (And.intro c2 c3))
        clear e1 e2 e3 c1 c2 c3 hr
        go_enter Try.func41, Try.ntmps41
        go_wp2_with fail
        refine (win_yes _ _ _ _ C.out.1).mono ?_
        rintro e w' ⟨rfl, rfl⟩
        go_wp2_with fail
        refine (win_yes _ _ _ _ C.out.2.1).mono ?_
        rintro e w' ⟨rfl, rfl⟩
        go_wp2_with fail
        refine (win_yes _ _ _ _ C.out.2.2).mono ?_
        rintro e w' ⟨rfl, rfl⟩
        go_wp2
        go_ret
        exact ⟨ret_bool R.out, rfl⟩
      · have e3 : inr c z = false := by rw [← Bool.not_eq_true, inr_iff]; exact c3
        have R := Lib.hid (show false = r by rw [← hr, e1, e2, e3]; rfl)
        have C := Lib.hid (And.intro c1 (And.intro c2 (show c < 0 ∨ z < c by omega)))
        clear e1 e2 e3 c1 c2 c3 hr
        go_enter Try.func41, Try.ntmps41
        go_wp2_with fail
        refine (win_yes _ _ _ _ C.out.1).mono ?_
        rintro e w' ⟨rfl, rfl⟩
        go_wp2_with fail
        refine (win_yes _ _ _ _ C.out.2.1).mono ?_
        rintro e w' ⟨rfl, rfl⟩
        go_wp2_with fail
        refine (win_no _ _ _ _ C.out.2.2).mono ?_
        rintro e w' ⟨rfl, rfl⟩
        go_wp2
        go_ret
        exact ⟨ret_bool R.out, rfl⟩
    · have e2 : inr b y = false := by rw [← Bool.not_eq_true, inr_iff]; exact c2
      have R := Lib.hid (show false = r by rw [← hr, e1, e2]; rfl)
      have C := Lib.hid (And.intro c1 (show b < 0 ∨ y < b by omega))
      clear e1 e2 c1 c2 hr
      go_enter Try.func41, Try.ntmps41
      go_wp2_with fail
      refine (win_yes _ _ _ _ C.out.1).mono ?_
      rintro e w' ⟨rfl, rfl⟩
      go_wp2_with fail
      refine (win_no _ _ _ _ C.out.2).mono ?_
      rintro e w' ⟨rfl, rfl⟩
      go_wp2
      go_ret
      exact ⟨ret_bool R.out, rfl⟩
  · have e1 : inr a x = false := by rw [← Bool.not_eq_true, inr_iff]; exact c1
    have R := Lib.hid (show false = r by rw [← hr, e1]; rfl)
    have C := Lib.hid (show a < 0 ∨ x < a by omega)
    clear e1 c1 hr
    go_enter Try.func41, Try.ntmps41
    go_wp2_with fail
    refine (win_no _ _ _ _ C.out).mono ?_
    rintro e w' ⟨rfl, rfl⟩
    go_wp2
    go_ret
    exact ⟨ret_bool R.out, rfl⟩
end Go.Proofs.Ytibnjbbiagjnjaa
