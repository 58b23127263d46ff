/- The plain law of the integers' encoding: lengths, bytes, reading back. No program in sight. No condition. -/
namespace Go.Proofs.Ytibnjbbiagjnjaa

def vlen (n : Int) : Int := if n < 0 then 0 else if 1073741823 < n then 0 else if n < 64 then 1 else if n < 16384 then 2 else 4
def b8 (x : Int) : UInt8 := UInt8.ofNat (x % 256).toNat
/-- The bytes of n in 1, 2 or 4 places. -/
def vb1 (n : Int) : List UInt8 := [b8 n]
def vb2 (n : Int) : List UInt8 := [b8 (n / 256 + 64), b8 n]
def vb4 (n : Int) : List UInt8 := [b8 (n / 16777216 + 128), b8 (n / 65536), b8 (n / 256), b8 n]
/-- The shortest encoding, empty where there is none. -/
def venc (n : Int) : List UInt8 :=
  if n < 0 then [] else if 1073741823 < n then [] else if n < 64 then vb1 n else if n < 16384 then vb2 n else vb4 n
/-- What is read at the start of a text: the number, and how many bytes it takes (0: there is none). -/
def dsz (b : UInt8) : Nat := if b.toNat < 64 then 1 else if b.toNat < 128 then 2 else 4
def pre (l : List UInt8) : Nat → Int
  | 0 => 0
  | 1 => ((l.getD 0 0).toNat % 64 : Nat)
  | k + 2 => pre l (k + 1) * 256 + ((l.getD (k + 1) 0).toNat : Nat)
def fine (l : List UInt8) : Bool := match l with
  | [] => false
  | b :: r => decide (b.toNat < 192) && decide (dsz b ≤ r.length + 1)
def dsize (l : List UInt8) : Nat := if fine l then dsz (l.getD 0 0) else 0
def dnum (l : List UInt8) : Int := if fine l then pre l (dsize l) else 0

theorem b8_of (x : Int) (h0 : 0 ≤ x) (h : x < 256) : UInt8.ofNat x.toNat = b8 x := by unfold b8; rw [Int.emod_eq_of_lt h0 h]
theorem b8_mod (x : Int) : UInt8.ofNat (x % 256).toNat = b8 x := rfl
theorem b8_toNat (x : Int) : ((b8 x).toNat : Int) = x % 256 := by
  unfold b8
  rw [UInt8.toNat_ofNat']
  have := Int.emod_nonneg x (b := 256) (by omega)
  have := Int.emod_lt_of_pos x (b := 256) (by omega)
  omega
theorem b8_eq (x y : Int) (h : x % 256 = y % 256) : b8 x = b8 y := by unfold b8; rw [h]
theorem pre_succ (l : List UInt8) (k : Nat) (h : 1 ≤ k) : pre l (k + 1) = pre l k * 256 + ((l.getD k 0).toNat : Int) := by
  match k, h with
  | k + 1, _ => rfl
theorem pre_bd (l : List UInt8) : ∀ k, 1 ≤ k → k ≤ 4 → 0 ≤ pre l k ∧ pre l k < 1073741824
    ∧ (k = 1 → pre l k < 64) ∧ (k = 2 → pre l k < 16384) ∧ (k = 3 → pre l k < 4194304) := by
  intro k h1 h4
  have hb : ∀ i, 0 ≤ ((l.getD i 0).toNat : Int) ∧ ((l.getD i 0).toNat : Int) < 256 := fun i => by have := (l.getD i 0).toNat_lt; omega
  have e1 : 0 ≤ pre l 1 ∧ pre l 1 < 64 := by
    show 0 ≤ (((l.getD 0 0).toNat % 64 : Nat) : Int) ∧ (((l.getD 0 0).toNat % 64 : Nat) : Int) < 64; omega
  have e2 := pre_succ l 1 (by omega)
  have e3 := pre_succ l 2 (by omega)
  have e4 := pre_succ l 3 (by omega)
  have b1 := hb 1
  have b2 := hb 2
  have b3 := hb 3
  simp only [Nat.reduceAdd] at e2 e3 e4
  match k, h1, h4 with
  | 1, _, _ => omega
  | 2, _, _ => omega
  | 3, _, _ => omega
  | 4, _, _ => omega
theorem vlen_bd (n : Int) : 0 ≤ vlen n ∧ vlen n ≤ 4 ∧ vlen n ≠ 3 := by unfold vlen; (repeat' split) <;> omega
theorem venc_length (n : Int) : ((venc n).length : Int) = vlen n := by
  unfold venc vlen; (repeat' split) <;> rfl
theorem dsz_cases (b : UInt8) : dsz b = 1 ∨ dsz b = 2 ∨ dsz b = 4 := by unfold dsz; (repeat' split) <;> simp
theorem fine_head {l : List UInt8} (h : fine l = true) : ∃ b r, l = b :: r ∧ b.toNat < 192 ∧ dsz b ≤ r.length + 1 ∧ dsize l = dsz b := by
  match l, h with
  | b :: r, h =>
    have h' := h
    simp only [fine, Bool.and_eq_true, decide_eq_true_eq] at h
    exact ⟨b, r, rfl, h.1, h.2, by unfold dsize; rw [if_pos h']; rfl⟩
theorem dsize_cases (l : List UInt8) : dsize l = 0 ∨ dsize l = 1 ∨ dsize l = 2 ∨ dsize l = 4 := by
  unfold dsize; split
  · exact .inr (dsz_cases _)
  · exact .inl rfl
theorem dsize_le (l : List UInt8) : dsize l ≤ l.length := by
  unfold dsize
  split
  · rename_i h
    obtain ⟨b, r, rfl, _, h2, _⟩ := fine_head h
    simpa using h2
  · omega
theorem dsize_pos (l : List UInt8) : decide (0 < dsize l) = fine l := by
  unfold dsize
  cases fine l
  · rfl
  · have := dsz_cases (l.getD 0 0)
    rw [if_pos rfl, decide_eq_true_eq]; omega
theorem dnum_bd (l : List UInt8) : 0 ≤ dnum l ∧ dnum l < 1073741824 := by
  unfold dnum
  split
  · rcases dsize_cases l with h | h | h | h <;> rw [h]
    · exact ⟨Int.le_refl _, by show (0 : Int) < _; omega⟩
    · have := pre_bd l 1 (by omega) (by omega); omega
    · have := pre_bd l 2 (by omega) (by omega); omega
    · have := pre_bd l 4 (by omega) (by omega); omega
  · omega

/-! ### what is encoded is read back -/
theorem dsz_b8 (x : Int) (h0 : 0 ≤ x) (h : x < 192) : dsz (b8 x) = if x < 64 then 1 else if x < 128 then 2 else 4 := by
  have := b8_toNat x
  rw [Int.emod_eq_of_lt h0 (by omega)] at this
  unfold dsz
  (repeat' split) <;> omega
theorem read_venc (n : Int) (h0 : 0 ≤ n) (h : n ≤ 1073741823) (more : List UInt8) : dnum (venc n ++ more) = n ∧ (dsize (venc n ++ more) : Int) = vlen n ∧ fine (venc n ++ more) = true := by
  have key : ∀ (x : Int) (r : List UInt8), 0 ≤ x → x < 192 → (if x < 64 then 1 else if x < 128 then 2 else 4) ≤ r.length + 1 →
      fine (b8 x :: r) = true ∧ dsize (b8 x :: r) = if x < 64 then 1 else if x < 128 then 2 else 4 := by
    intro x r hx0 hx hl
    have e := b8_toNat x
    rw [Int.emod_eq_of_lt hx0 (by omega)] at e
    have hf : fine (b8 x :: r) = true := by
      simp only [fine, Bool.and_eq_true, decide_eq_true_eq]
      exact ⟨by omega, by rw [dsz_b8 x hx0 hx]; exact hl⟩
    exact ⟨hf, by unfold dsize; rw [if_pos hf]; exact dsz_b8 x hx0 hx⟩
  unfold venc vlen
  have a1 : ¬ n < 0 := by omega
  have a2 : ¬ 1073741823 < n := by omega
  rw [if_neg a1, if_neg a1, if_neg a2, if_neg a2]
  by_cases h1 : n < 64
  · rw [if_pos h1, if_pos h1]
    obtain ⟨f, s⟩ := key n more h0 (by omega) (by rw [if_pos h1]; omega)
    rw [if_pos h1] at s
    have e := b8_toNat n
    refine ⟨?_, by show (dsize (b8 n :: more) : Int) = 1; rw [s]; rfl, f⟩
    show dnum (b8 n :: more) = n
    unfold dnum; rw [if_pos f, s]
    show (((b8 n).toNat % 64 : Nat) : Int) = n
    omega
  · rw [if_neg h1, if_neg h1]
    by_cases h2 : n < 16384
    · rw [if_pos h2, if_pos h2]
      obtain ⟨f, s⟩ := key (n / 256 + 64) (b8 n :: more) (by omega) (by omega) (by rw [if_neg (by omega), if_pos (by omega)]; simp)
      rw [if_neg (by omega), if_pos (by omega)] at s
      have e := b8_toNat n
      have e1 := b8_toNat (n / 256 + 64)
      refine ⟨?_, by show (dsize (b8 (n / 256 + 64) :: b8 n :: more) : Int) = 2; rw [s]; rfl, f⟩
      show dnum (b8 (n / 256 + 64) :: b8 n :: more) = n
      unfold dnum; rw [if_pos f, s]
      show (((b8 (n / 256 + 64)).toNat % 64 : Nat) : Int) * 256 + ((b8 n).toNat : Int) = n
      omega
    · rw [if_neg h2, if_neg h2]
      obtain ⟨f, s⟩ := key (n / 16777216 + 128) (b8 (n / 65536) :: b8 (n / 256) :: b8 n :: more) (by omega) (by omega) (by rw [if_neg (by omega), if_neg (by omega)]; simp)
      rw [if_neg (by omega), if_neg (by omega)] at s
      have e := b8_toNat n
      have e1 := b8_toNat (n / 256)
      have e2 := b8_toNat (n / 65536)
      have e3 := b8_toNat (n / 16777216 + 128)
      refine ⟨?_, by show (dsize (b8 (n / 16777216 + 128) :: b8 (n / 65536) :: b8 (n / 256) :: b8 n :: more) : Int) = 4; rw [s]; rfl, f⟩
      show dnum (b8 (n / 16777216 + 128) :: b8 (n / 65536) :: b8 (n / 256) :: b8 n :: more) = n
      unfold dnum; rw [if_pos f, s]
      show (((((b8 (n / 16777216 + 128)).toNat % 64 : Nat) : Int) * 256 + ((b8 (n / 65536)).toNat : Int)) * 256 + ((b8 (n / 256)).toNat : Int)) * 256 + ((b8 n).toNat : Int) = n
      omega

/-! ### a text's bytes, and the ways of the decoder -/
def bt (l : List UInt8) (k : Nat) : Int := ((l.getD k 0).toNat : Int)
theorem bt_bd (l : List UInt8) (k : Nat) : 0 ≤ bt l k ∧ bt l k < 256 := by
  unfold bt; have := (l.getD k 0).toNat_lt; omega
theorem pre_one (l : List UInt8) : pre l 1 = bt l 0 % 64 := by
  show (((l.getD 0 0).toNat % 64 : Nat) : Int) = ((l.getD 0 0).toNat : Int) % 64; omega
theorem pre_next (l : List UInt8) (k : Nat) (h : 1 ≤ k) : pre l (k + 1) = pre l k * 256 + bt l k := pre_succ l k h
theorem dsz_bt (l : List UInt8) : dsz (l.getD 0 0) = if bt l 0 < 64 then 1 else if bt l 0 < 128 then 2 else 4 := by
  unfold dsz bt; (repeat' split) <;> omega
theorem bt_cons (b : UInt8) (r : List UInt8) : bt (b :: r) 0 = (b.toNat : Int) := rfl
theorem getD_cons (b : UInt8) (r : List UInt8) : (b :: r).getD 0 0 = b := rfl
theorem fine_cons (b : UInt8) (r : List UInt8) : fine (b :: r) = (decide (b.toNat < 192) && decide (dsz b ≤ r.length + 1)) := rfl
theorem dec_some (l : List UInt8) (z : Nat) (h0 : 0 < l.length) (h1 : bt l 0 < 192) (hz : (if bt l 0 < 64 then 1 else if bt l 0 < 128 then 2 else 4) = z) (hl : z ≤ l.length) :
    fine l = true ∧ dsize l = z ∧ dnum l = pre l z := by
  have e := dsz_bt l
  rw [hz] at e
  have hf : fine l = true := by
    cases l with
    | nil => exact absurd h0 (by simp)
    | cons b r =>
      rw [bt_cons] at h1
      rw [getD_cons] at e
      rw [fine_cons, Bool.and_eq_true, decide_eq_true_eq, decide_eq_true_eq, e]
      exact ⟨by omega, by simpa using hl⟩
  have hs : dsize l = z := by unfold dsize; rw [if_pos hf, e]
  exact ⟨hf, hs, by unfold dnum; rw [if_pos hf, hs]⟩
theorem dec_none (l : List UInt8) (h : fine l = false) : dsize l = 0 ∧ dnum l = 0 := by
  constructor
  · unfold dsize; rw [h]; rfl
  · unfold dnum; rw [h]; rfl
theorem dec_high (l : List UInt8) (h : 192 ≤ bt l 0) : fine l = false := by
  cases l with
  | nil => rfl
  | cons b r =>
    rw [bt_cons] at h
    rw [fine_cons, Bool.and_eq_false_iff, decide_eq_false_iff_not]
    exact .inl (by omega)
theorem dec_short (l : List UInt8) (h0 : 0 < l.length) (h : l.length < (if bt l 0 < 64 then 1 else if bt l 0 < 128 then 2 else 4)) : fine l = false := by
  have e := dsz_bt l
  rw [← e] at h
  cases l with
  | nil => rfl
  | cons b r =>
    rw [getD_cons] at h
    rw [fine_cons, Bool.and_eq_false_iff, decide_eq_false_iff_not, decide_eq_false_iff_not]
    exact .inr (by simp at h; omega)

/-- Is the text the shortest encoding of a number? -/
def minimal (l : List UInt8) : Bool := fine l && venc (dnum l) == l
theorem dnum_le (l : List UInt8) : 0 ≤ dnum l ∧ dnum l ≤ 1073741823 := by have := dnum_bd l; omega
theorem vlen_cases (n : Int) : (n < 0 ∧ vlen n = 0) ∨ (1073741823 < n ∧ vlen n = 0) ∨ (0 ≤ n ∧ n < 64 ∧ vlen n = 1) ∨ (64 ≤ n ∧ n < 16384 ∧ vlen n = 2) ∨ (16384 ≤ n ∧ n ≤ 1073741823 ∧ vlen n = 4) := by
  unfold vlen; (repeat' split) <;> omega
end Go.Proofs.Ytibnjbbiagjnjaa
