/- The plain law of truncated packet numbers. No program in sight. No condition beyond those in each theorem. -/
namespace Go.Proofs.Ytnjonjbjpjodbaa
def nsz (b : Int) : Int := if b = 4 then 16 else if b = 8 then 256 else if b = 12 then 4096 else 0
def nbits (full acked : Int) : Int :=
  if acked < -1 then 0 else if full ≤ acked then 0 else if 999 < full then 0 else if 2 * (full - acked) < 16 then 4 else if 2 * (full - acked) < 256 then 8 else 12
def ntrunc (full b : Int) : Int := if 0 ≤ full ∧ full ≤ 999 ∧ nsz b ≠ 0 then full % nsz b else -1
/-- The last number that is v modulo s and at most g + 1 + s / 2; v where that is negative. -/
def ncore (g v s : Int) : Int := if g + 1 + s / 2 - (g + 1 + s / 2 - v) % s < 0 then v else g + 1 + s / 2 - (g + 1 + s / 2 - v) % s
def nexp (g v b : Int) : Int := if -1 ≤ g ∧ g ≤ 999 ∧ nsz b ≠ 0 ∧ 0 ≤ v ∧ v < nsz b then ncore g v (nsz b) else -1

theorem nsz_cases (b : Int) : (b = 4 ∧ nsz b = 16) ∨ (b = 8 ∧ nsz b = 256) ∨ (b = 12 ∧ nsz b = 4096) ∨ (b ≠ 4 ∧ b ≠ 8 ∧ b ≠ 12 ∧ nsz b = 0) := by
  unfold nsz; (repeat' split) <;> omega
theorem nbits_cases (f a : Int) : (nbits f a = 0 ∧ (a < -1 ∨ f ≤ a ∨ 999 < f)) ∨
    (-1 ≤ a ∧ a < f ∧ f ≤ 999 ∧ ((nbits f a = 4 ∧ 2 * (f - a) < 16) ∨ (nbits f a = 8 ∧ 16 ≤ 2 * (f - a) ∧ 2 * (f - a) < 256) ∨ (nbits f a = 12 ∧ 256 ≤ 2 * (f - a)))) := by
  unfold nbits; (repeat' split) <;> omega
theorem ntrunc_ok (f b : Int) (h0 : 0 ≤ f) (h : f ≤ 999) (hb : nsz b ≠ 0) : ntrunc f b = f % nsz b := by unfold ntrunc; rw [if_pos ⟨h0, h, hb⟩]
theorem ntrunc_no (f b : Int) (h : f < 0 ∨ 999 < f ∨ nsz b = 0) : ntrunc f b = -1 := by unfold ntrunc; rw [if_neg]; omega
theorem nexp_ok (g v b : Int) (h0 : -1 ≤ g) (h : g ≤ 999) (hb : nsz b ≠ 0) (hv : 0 ≤ v) (hv' : v < nsz b) : nexp g v b = ncore g v (nsz b) := by unfold nexp; rw [if_pos ⟨h0, h, hb, hv, hv'⟩]
theorem nexp_no (g v b : Int) (h : g < -1 ∨ 999 < g ∨ nsz b = 0 ∨ v < 0 ∨ nsz b ≤ v) : nexp g v b = -1 := by unfold nexp; rw [if_neg]; omega
/-- The reference's road to the same number. -/
theorem ncore_16 (g v : Int) (h0 : -1 ≤ g) (hv : 0 ≤ v) (hv' : v < 16) : ncore g v 16 =
    if g + 1 - (g + 1) % 16 + v ≤ g + 1 - 8 then g + 1 - (g + 1) % 16 + v + 16 else if g + 1 + 8 < g + 1 - (g + 1) % 16 + v ∧ 16 ≤ g + 1 - (g + 1) % 16 + v then g + 1 - (g + 1) % 16 + v - 16 else g + 1 - (g + 1) % 16 + v := by
  unfold ncore; (repeat' split) <;> omega
theorem ncore_256 (g v : Int) (h0 : -1 ≤ g) (hv : 0 ≤ v) (hv' : v < 256) : ncore g v 256 =
    if g + 1 - (g + 1) % 256 + v ≤ g + 1 - 128 then g + 1 - (g + 1) % 256 + v + 256 else if g + 1 + 128 < g + 1 - (g + 1) % 256 + v ∧ 256 ≤ g + 1 - (g + 1) % 256 + v then g + 1 - (g + 1) % 256 + v - 256 else g + 1 - (g + 1) % 256 + v := by
  unfold ncore; (repeat' split) <;> omega
theorem ncore_4096 (g v : Int) (h0 : -1 ≤ g) (hv : 0 ≤ v) (hv' : v < 4096) : ncore g v 4096 =
    if g + 1 - (g + 1) % 4096 + v ≤ g + 1 - 2048 then g + 1 - (g + 1) % 4096 + v + 4096 else if g + 1 + 2048 < g + 1 - (g + 1) % 4096 + v ∧ 4096 ≤ g + 1 - (g + 1) % 4096 + v then g + 1 - (g + 1) % 4096 + v - 4096 else g + 1 - (g + 1) % 4096 + v := by
  unfold ncore; (repeat' split) <;> omega
end Go.Proofs.Ytnjonjbjpjodbaa
