/- The plain law of adding to, removing from and joining sets of packet numbers as ranges. No program in sight. No condition beyond those in each theorem. -/
import Derived.Test.YtibnjbbiagjnjaaRMath
namespace Go.Proofs.Ytibnjbbiagjnjaa
theorem rhas_nil (x : Int) : rhas [] x = false := rfl
theorem rhas_cons (r : Int × Int) (rs : List (Int × Int)) (x : Int) : rhas (r :: rs) x = true ↔ (r.1 ≤ x ∧ x ≤ r.2) ∨ rhas rs x = true := by
  unfold rhas; rw [List.any_cons]; simp
theorem rhas_app (rs ts : List (Int × Int)) (x : Int) : rhas (rs ++ ts) x = (rhas rs x || rhas ts x) := by unfold rhas; rw [List.any_append]
theorem rv_cons (la : Int) (r : Int × Int) (rs : List (Int × Int)) : rv la (r :: rs) = true ↔ la + 2 ≤ r.1 ∧ r.1 ≤ r.2 ∧ r.2 ≤ 999 ∧ rv r.2 rs = true := by
  simp only [rv, Bool.and_eq_true, decide_eq_true_eq]; constructor
  · rintro ⟨⟨⟨h1, h2⟩, h3⟩, h4⟩; exact ⟨h1, h2, h3, h4⟩
  · rintro ⟨h1, h2, h3, h4⟩; exact ⟨⟨⟨h1, h2⟩, h3⟩, h4⟩
theorem rv_mono {rs : List (Int × Int)} {la lb : Int} (h : rv la rs = true) (hl : lb ≤ la) : rv lb rs = true := by
  cases rs with
  | nil => rfl
  | cons r rs => rw [rv_cons] at h ⊢; exact ⟨by omega, h.2⟩
theorem rv_has {rs : List (Int × Int)} : ∀ {la x : Int}, rv la rs = true → rhas rs x = true → la + 2 ≤ x ∧ x ≤ 999 := by
  induction rs with
  | nil => intro la x _ h; cases h
  | cons r rs ih =>
    intro la x h hx
    rw [rv_cons] at h
    rw [rhas_cons] at hx
    rcases hx with hx | hx
    · omega
    · have := ih h.2.2.2 hx; omega
/-- What is added takes in all ranges that it touches. -/
def rmerge : List (Int × Int) → Int → Int → List (Int × Int)
  | [], lo, hi => [(lo, hi)]
  | r :: rs, lo, hi => if r.1 ≤ hi + 1 then rmerge rs (min lo r.1) (max hi r.2) else (lo, hi) :: r :: rs
def radd : List (Int × Int) → Int → Int → List (Int × Int)
  | [], lo, hi => [(lo, hi)]
  | r :: rs, lo, hi => if r.2 + 1 < lo then r :: radd rs lo hi else rmerge (r :: rs) lo hi
def rrem : List (Int × Int) → Int → Int → List (Int × Int)
  | [], _, _ => []
  | r :: rs, lo, hi => (if r.1 < lo then [(r.1, min r.2 (lo - 1))] else []) ++ ((if hi < r.2 then [(max r.1 (hi + 1), r.2)] else []) ++ rrem rs lo hi)
def rjoin (xs ys : List (Int × Int)) : List (Int × Int) := ys.foldl (fun s r => radd s r.1 r.2) xs
theorem rmerge_rv (rs : List (Int × Int)) : ∀ b lo hi la : Int, rv b rs = true → la ≤ b → la + 2 ≤ lo → lo ≤ hi → hi ≤ 999 → rv la (rmerge rs lo hi) = true := by
  induction rs with
  | nil => intro b lo hi la _ _ h2 h3 h4; unfold rmerge; rw [rv_cons]; exact ⟨h2, h3, h4, rfl⟩
  | cons r rs ih =>
    intro b lo hi la h h1 h2 h3 h4
    have k := (rv_cons _ _ _).1 h
    unfold rmerge
    split
    · exact ih r.2 _ _ la k.2.2.2 (by omega) (by omega) (by omega) (by omega)
    · rw [rv_cons]
      exact ⟨h2, h3, h4, by rw [rv_cons]; exact ⟨by omega, k.2⟩⟩
theorem radd_rv (rs : List (Int × Int)) : ∀ lo hi la : Int, rv la rs = true → la + 2 ≤ lo → lo ≤ hi → hi ≤ 999 → rv la (radd rs lo hi) = true := by
  induction rs with
  | nil => intro lo hi la _ h2 h3 h4; unfold radd; rw [rv_cons]; exact ⟨h2, h3, h4, rfl⟩
  | cons r rs ih =>
    intro lo hi la h h2 h3 h4
    have k := (rv_cons _ _ _).1 h
    unfold radd
    split
    · rw [rv_cons]; exact ⟨k.1, k.2.1, k.2.2.1, ih lo hi r.2 k.2.2.2 (by omega) h3 h4⟩
    · exact rmerge_rv _ la _ _ la h (Int.le_refl _) h2 h3 h4
theorem rmerge_len (rs : List (Int × Int)) : ∀ lo hi : Int, (rmerge rs lo hi).length ≤ rs.length + 1 := by
  induction rs with
  | nil => intro lo hi; exact Nat.le_refl _
  | cons r rs ih =>
    intro lo hi
    unfold rmerge
    split
    · have := ih (min lo r.1) (max hi r.2); simp only [List.length_cons]; omega
    · simp
theorem radd_len (rs : List (Int × Int)) (lo hi : Int) : (radd rs lo hi).length ≤ rs.length + 1 := by
  induction rs with
  | nil => exact Nat.le_refl _
  | cons r rs ih =>
    unfold radd
    split
    · simp only [List.length_cons]; omega
    · exact rmerge_len _ _ _
theorem rmerge_has (rs : List (Int × Int)) : ∀ b lo hi x : Int, rv b rs = true → lo ≤ hi → (∀ r ∈ rs.head?, lo ≤ r.2 + 1) → (rhas (rmerge rs lo hi) x = true ↔ (lo ≤ x ∧ x ≤ hi) ∨ rhas rs x = true) := by
  induction rs with
  | nil => intro b lo hi x _ _ _; unfold rmerge; rw [rhas_cons]
  | cons r rs ih =>
    intro b lo hi x h h1 h2
    have k := (rv_cons _ _ _).1 h
    have g := h2 r rfl
    unfold rmerge
    split
    · rw [ih r.2 _ _ x k.2.2.2 (by omega) (by
        cases rs with
        | nil => intro s hs; cases hs
        | cons s rs =>
          intro s' hs
          have k2 := (rv_cons _ _ _).1 k.2.2.2
          simp only [List.head?_cons, Option.mem_def, Option.some.injEq] at hs
          subst hs
          omega), rhas_cons]
      by_cases hp : rhas rs x = true
      · simp [hp]
      · simp only [hp, or_false, Bool.false_eq_true]; omega
    · rw [rhas_cons]
theorem radd_has (rs : List (Int × Int)) : ∀ la lo hi x : Int, rv la rs = true → lo ≤ hi → (rhas (radd rs lo hi) x = true ↔ (lo ≤ x ∧ x ≤ hi) ∨ rhas rs x = true) := by
  induction rs with
  | nil => intro b lo hi x _ _; unfold radd; rw [rhas_cons]
  | cons r rs ih =>
    intro la lo hi x h h1
    have k := (rv_cons _ _ _).1 h
    unfold radd
    split
    · rw [rhas_cons, rhas_cons, ih r.2 lo hi x k.2.2.2 h1]
      by_cases hp : rhas rs x = true
      · simp [hp]
      · simp only [hp, or_false, Bool.false_eq_true]; omega
    · exact rmerge_has _ la _ _ x h h1 (fun s hs => by
        simp only [List.head?_cons, Option.mem_def, Option.some.injEq] at hs
        subst hs; omega)
theorem rrem_rv (rs : List (Int × Int)) : ∀ la lo hi : Int, rv la rs = true → lo ≤ hi → rv la (rrem rs lo hi) = true := by
  induction rs with
  | nil => intro _ _ _ _ _; rfl
  | cons r rs ih =>
    intro la lo hi h h1
    have k := (rv_cons _ _ _).1 h
    have g := ih r.2 lo hi k.2.2.2 h1
    unfold rrem
    split <;> split
    · simp only [List.cons_append, List.nil_append]
      rw [rv_cons, rv_cons]
      exact ⟨k.1, by simp only; omega, by simp only; omega, by simp only; omega, by simp only; omega, k.2.2.1, g⟩
    · simp only [List.cons_append, List.nil_append]
      rw [rv_cons]
      exact ⟨k.1, by simp only; omega, by simp only; omega, rv_mono g (by simp only; omega)⟩
    · simp only [List.cons_append, List.nil_append]
      rw [rv_cons]
      exact ⟨by simp only; omega, by simp only; omega, k.2.2.1, g⟩
    · simp only [List.nil_append]
      exact rv_mono g (by omega)
theorem rrem_has (rs : List (Int × Int)) : ∀ la lo hi x : Int, rv la rs = true → lo ≤ hi → (rhas (rrem rs lo hi) x = true ↔ rhas rs x = true ∧ (x < lo ∨ hi < x)) := by
  induction rs with
  | nil => intro la lo hi x _ _; unfold rrem; simp [rhas_nil]
  | cons r rs ih =>
    intro la lo hi x h h1
    have k := (rv_cons _ _ _).1 h
    have g := ih r.2 lo hi x k.2.2.2 h1
    have e : ∀ (c : Bool) (p : Int × Int), rhas (if c then [p] else []) x = true ↔ c = true ∧ p.1 ≤ x ∧ x ≤ p.2 := by
      intro c p; cases c
      · simp [rhas_nil]
      · simp only [if_pos]; rw [rhas_cons]; simp [rhas_nil]
    unfold rrem
    rw [rhas_app, rhas_app, Bool.or_eq_true, Bool.or_eq_true, rhas_cons, g]
    have e1 := e (decide (r.1 < lo)) (r.1, min r.2 (lo - 1))
    have e2 := e (decide (hi < r.2)) (max r.1 (hi + 1), r.2)
    simp only [decide_eq_true_eq] at e1 e2
    rw [e1, e2]
    by_cases hp : rhas rs x = true
    · have := rv_has k.2.2.2 hp
      simp only [hp, or_true, true_and]; omega
    · simp only [hp, or_false, Bool.false_eq_true, false_and]; omega
theorem rrem_above (rs : List (Int × Int)) : ∀ la lo hi : Int, rv la rs = true → lo ≤ hi → hi ≤ la → (rrem rs lo hi).length = rs.length := by
  induction rs with
  | nil => intro _ _ _ _ _ _; rfl
  | cons r rs ih =>
    intro la lo hi h h1 h2
    have k := (rv_cons _ _ _).1 h
    have g := ih r.2 lo hi k.2.2.2 h1 (by omega)
    unfold rrem
    rw [if_neg (by omega), if_pos (by omega)]
    simp [g]
theorem rrem_len (rs : List (Int × Int)) : ∀ la lo hi : Int, rv la rs = true → lo ≤ hi → (rrem rs lo hi).length ≤ rs.length + 1 := by
  induction rs with
  | nil => intro _ _ _ _ _; exact Nat.zero_le _
  | cons r rs ih =>
    intro la lo hi h h1
    have k := (rv_cons _ _ _).1 h
    have g := ih r.2 lo hi k.2.2.2 h1
    unfold rrem
    split <;> split
    · have := rrem_above rs r.2 lo hi k.2.2.2 h1 (by omega)
      simp [this]
    all_goals simp; omega
theorem rrem_len2 (rs : List (Int × Int)) (lo hi : Int) : (rrem rs lo hi).length ≤ 2 * rs.length := by
  induction rs with
  | nil => exact Nat.le_refl _
  | cons r rs ih =>
    unfold rrem
    split <;> split <;> simp <;> omega
/-- A set has one list of ranges. -/
theorem rcanon (xs : List (Int × Int)) : ∀ (ys : List (Int × Int)) (a b : Int), rv a xs = true → rv b ys = true → (∀ x, rhas xs x = rhas ys x) → xs = ys := by
  induction xs with
  | nil =>
    intro ys a b _ hy h
    cases ys with
    | nil => rfl
    | cons s ys =>
      have k := (rv_cons _ _ _).1 hy
      have h1 : rhas (s :: ys) s.1 = true := (rhas_cons _ _ _).2 (.inl ⟨Int.le_refl _, k.2.1⟩)
      rw [← h] at h1; cases h1
  | cons r rs ih =>
    intro ys a b hx hy h
    have k := (rv_cons _ _ _).1 hx
    cases ys with
    | nil =>
      have h1 : rhas (r :: rs) r.1 = true := (rhas_cons _ _ _).2 (.inl ⟨Int.le_refl _, k.2.1⟩)
      rw [h] at h1; cases h1
    | cons s ys =>
      have l := (rv_cons _ _ _).1 hy
      have low : ∀ (p : Int × Int) (ps : List (Int × Int)) (c x : Int), rv c (p :: ps) = true → rhas (p :: ps) x = true → p.1 ≤ x := by
        intro p ps c x hp hx'
        have kk := (rv_cons _ _ _).1 hp
        rcases (rhas_cons _ _ _).1 hx' with h1 | h1
        · omega
        · have := rv_has kk.2.2.2 h1; omega
      have e1 : r.1 = s.1 := by
        have h1 : rhas (r :: rs) r.1 = true := (rhas_cons _ _ _).2 (.inl ⟨Int.le_refl _, k.2.1⟩)
        have h2 : rhas (s :: ys) s.1 = true := (rhas_cons _ _ _).2 (.inl ⟨Int.le_refl _, l.2.1⟩)
        rw [h] at h1
        rw [← h] at h2
        have := low _ _ _ _ hy h1
        have := low _ _ _ _ hx h2
        omega
      have gap : ∀ (p : Int × Int) (ps : List (Int × Int)) (c : Int), rv c (p :: ps) = true → rhas (p :: ps) (p.2 + 1) = false := by
        intro p ps c hp
        have kk := (rv_cons _ _ _).1 hp
        rw [← Bool.not_eq_true]
        intro hh
        rcases (rhas_cons _ _ _).1 hh with h1 | h1
        · omega
        · have := rv_has kk.2.2.2 h1; omega
      have e2 : r.2 = s.2 := by
        have g1 := gap _ _ _ hx
        have g2 := gap _ _ _ hy
        rcases Int.lt_or_le r.2 s.2 with c | c
        · have : rhas (s :: ys) (r.2 + 1) = true := (rhas_cons _ _ _).2 (.inl ⟨by omega, by omega⟩)
          rw [← h, g1] at this; cases this
        · rcases Int.lt_or_le s.2 r.2 with c' | c'
          · have : rhas (r :: rs) (s.2 + 1) = true := (rhas_cons _ _ _).2 (.inl ⟨by omega, by omega⟩)
            rw [h, g2] at this; cases this
          · omega
      have e : r = s := Prod.ext e1 e2
      subst e
      rw [ih ys r.2 r.2 k.2.2.2 l.2.2.2 (fun x => ?_)]
      have hx' := h x
      have t := rhas_cons r rs x
      have u := rhas_cons r ys x
      rw [Bool.eq_iff_iff] at hx' ⊢
      rw [t, u] at hx'
      constructor
      · intro hh
        have b1 := rv_has k.2.2.2 hh
        rcases hx'.1 (.inr hh) with c | c
        · omega
        · exact c
      · intro hh
        have b1 := rv_has l.2.2.2 hh
        rcases hx'.2 (.inr hh) with c | c
        · omega
        · exact c
/-! ### joining two sets -/
theorem rjoin_rv (ys : List (Int × Int)) : ∀ (xs : List (Int × Int)) (b : Int), -2 ≤ b → rv (-2) xs = true → rv b ys = true → rv (-2) (rjoin xs ys) = true := by
  induction ys with
  | nil => intro xs b _ h _; exact h
  | cons r ys ih =>
    intro xs b hb h hy
    have k := (rv_cons _ _ _).1 hy
    exact ih (radd xs r.1 r.2) r.2 (by omega) (radd_rv xs _ _ _ h (by omega) k.2.1 k.2.2.1) k.2.2.2
theorem rjoin_has (ys : List (Int × Int)) : ∀ (xs : List (Int × Int)) (b x : Int), -2 ≤ b → rv (-2) xs = true → rv b ys = true → (rhas (rjoin xs ys) x = true ↔ rhas xs x = true ∨ rhas ys x = true) := by
  induction ys with
  | nil => intro xs b x _ h _; simp [rjoin, rhas_nil]
  | cons r ys ih =>
    intro xs b x hb h hy
    have k := (rv_cons _ _ _).1 hy
    have := ih (radd xs r.1 r.2) r.2 x (by omega) (radd_rv xs _ _ _ h (by omega) k.2.1 k.2.2.1) k.2.2.2
    have e : rjoin xs (r :: ys) = rjoin (radd xs r.1 r.2) ys := rfl
    rw [e, this, radd_has xs (-2) r.1 r.2 x h k.2.1, rhas_cons]
    constructor
    · rintro ((h1 | h1) | h1)
      · exact .inr (.inl h1)
      · exact .inl h1
      · exact .inr (.inr h1)
    · rintro (h1 | h1 | h1)
      · exact .inl (.inr h1)
      · exact .inl (.inl h1)
      · exact .inr h1
theorem rjoin_len (ys : List (Int × Int)) : ∀ xs : List (Int × Int), (rjoin xs ys).length ≤ xs.length + ys.length := by
  induction ys with
  | nil => intro xs; exact Nat.le_refl _
  | cons r ys ih =>
    intro xs
    have h1 := ih (radd xs r.1 r.2)
    have h2 := radd_len xs r.1 r.2
    have e : rjoin xs (r :: ys) = rjoin (radd xs r.1 r.2) ys := rfl
    rw [e, List.length_cons]; omega
/-! ### gaps -/
def rlast : (Int × Int) → List (Int × Int) → Int
  | r, [] => r.2
  | _, s :: rs => rlast s rs
theorem rlast_eq (rs : List (Int × Int)) : ∀ r, ((r :: rs).getD rs.length (0, 0)).2 = rlast r rs := by
  induction rs with
  | nil => intro r; rfl
  | cons s rs ih => intro r; exact ih s
theorem rlast_ge (rs : List (Int × Int)) : ∀ (r : Int × Int) (la : Int), rv la (r :: rs) = true → r.2 ≤ rlast r rs := by
  induction rs with
  | nil => intro r la _; exact Int.le_refl _
  | cons s rs ih =>
    intro r la h
    have k := (rv_cons _ _ _).1 h
    have k2 := (rv_cons _ _ _).1 k.2.2.2
    have := ih s r.2 k.2.2.2
    show r.2 ≤ rlast s rs
    omega
theorem rgaps_rv (rs : List (Int × Int)) : ∀ (r : Int × Int) (la : Int), rv la (r :: rs) = true → rv (r.2 - 1) (rgaps (r :: rs)) = true := by
  induction rs with
  | nil => intro r la _; rfl
  | cons s rs ih =>
    intro r la h
    have k := (rv_cons _ _ _).1 h
    have k2 := (rv_cons _ _ _).1 k.2.2.2
    have e : rgaps (r :: s :: rs) = (r.2 + 1, s.1 - 1) :: rgaps (s :: rs) := rfl
    rw [e, rv_cons]
    exact ⟨by simp only; omega, by simp only; omega, by simp only; omega, rv_mono (ih s r.2 k.2.2.2) (by simp only; omega)⟩
theorem rgaps_has (rs : List (Int × Int)) : ∀ (r : Int × Int) (la x : Int), rv la (r :: rs) = true → (rhas (rgaps (r :: rs)) x = true ↔ ¬ rhas (r :: rs) x = true ∧ r.1 < x ∧ x < rlast r rs) := by
  induction rs with
  | nil =>
    intro r la x h
    have e : rgaps [r] = [] := rfl
    rw [e, rhas_cons]; simp only [rhas_nil, rlast, Bool.false_eq_true, or_false, false_iff]; omega
  | cons s rs ih =>
    intro r la x h
    have k := (rv_cons _ _ _).1 h
    have k2 := (rv_cons _ _ _).1 k.2.2.2
    have e : rgaps (r :: s :: rs) = (r.2 + 1, s.1 - 1) :: rgaps (s :: rs) := rfl
    have e2 : rlast r (s :: rs) = rlast s rs := rfl
    have g := rlast_ge rs s r.2 k.2.2.2
    rw [e, e2, rhas_cons, ih s r.2 x k.2.2.2, rhas_cons r]
    by_cases hp : rhas (s :: rs) x = true
    · have hb : s.1 ≤ x := by
        rcases (rhas_cons _ _ _).1 hp with c | c
        · omega
        · have := rv_has k2.2.2.2 c; omega
      constructor
      · rintro (h1 | h1)
        · simp only at h1; omega
        · exact absurd hp h1.1
      · rintro ⟨h1, _⟩; exact absurd (.inr hp) h1
    · have hs : ¬ (s.1 ≤ x ∧ x ≤ s.2) := fun h' => hp ((rhas_cons _ _ _).2 (.inl h'))
      constructor
      · rintro (h1 | h1)
        · simp only at h1
          exact ⟨by rintro (h2 | h2); omega; exact hp h2, by omega, by omega⟩
        · exact ⟨by rintro (h2 | h2); omega; exact hp h2, by omega, by omega⟩
      · rintro ⟨h1, h2, h3⟩
        have h4 : ¬ (r.1 ≤ x ∧ x ≤ r.2) := fun h' => h1 (.inl h')
        by_cases h5 : x < s.1
        · exact .inl ⟨by simp only; omega, by simp only; omega⟩
        · exact .inr ⟨hp, by omega, h3⟩
theorem rfill (rs : List (Int × Int)) (r : Int × Int) (h : rv (-2) (r :: rs) = true) : rjoin (r :: rs) (rgaps (r :: rs)) = [(r.1, rlast r rs)] := by
  have k := (rv_cons _ _ _).1 h
  have g := rlast_ge rs r (-2) h
  have gv := rgaps_rv rs r (-2) h
  have m : rlast r rs ≤ 999 := by
    have : ∀ (ts : List (Int × Int)) (t : Int × Int) (la : Int), rv la (t :: ts) = true → rlast t ts ≤ 999 := by
      intro ts
      induction ts with
      | nil => intro t la h; exact ((rv_cons _ _ _).1 h).2.2.1
      | cons u ts ih => intro t la h; exact ih u t.2 ((rv_cons _ _ _).1 h).2.2.2
    exact this rs r (-2) h
  refine rcanon _ _ (-2) (-2) (rjoin_rv _ _ (r.2 - 1) (by omega) h gv) ((rv_cons _ _ _).2 ⟨by simp only; omega, by simp only; omega, by simp only; omega, rfl⟩) fun x => ?_
  rw [Bool.eq_iff_iff, rjoin_has _ _ (r.2 - 1) x (by omega) h gv, rgaps_has rs r (-2) x h, rhas_cons _ []]
  simp only [rhas_nil, Bool.false_eq_true, or_false]
  have up : ∀ (ts : List (Int × Int)) (t : Int × Int) (la : Int), rv la (t :: ts) = true → rhas (t :: ts) x = true → t.1 ≤ x ∧ x ≤ rlast t ts := by
    intro ts
    induction ts with
    | nil =>
      intro t la h hx
      rcases (rhas_cons _ _ _).1 hx with c | c
      · exact c
      · cases c
    | cons u ts ih =>
      intro t la h hx
      have kk := (rv_cons _ _ _).1 h
      have ku := (rv_cons _ _ _).1 kk.2.2.2
      have gg := rlast_ge ts u t.2 kk.2.2.2
      have e2 : rlast t (u :: ts) = rlast u ts := rfl
      rw [e2]
      rcases (rhas_cons _ _ _).1 hx with c | c
      · omega
      · have := ih u t.2 kk.2.2.2 c; omega
  have ends : ∀ (ts : List (Int × Int)) (t : Int × Int) (la : Int), rv la (t :: ts) = true → rhas (t :: ts) (rlast t ts) = true := by
    intro ts
    induction ts with
    | nil => intro t la h; have kk := (rv_cons _ _ _).1 h; exact (rhas_cons _ _ _).2 (.inl ⟨kk.2.1, Int.le_refl _⟩)
    | cons u ts ih => intro t la h; exact (rhas_cons _ _ _).2 (.inr (ih u t.2 ((rv_cons _ _ _).1 h).2.2.2))
  constructor
  · rintro (h1 | h1)
    · exact up rs r (-2) h h1
    · omega
  · intro h1
    by_cases hp : rhas (r :: rs) x = true
    · exact .inl hp
    · refine .inr ⟨hp, ?_, ?_⟩
      · have hne : x ≠ r.1 := fun e => hp (by rw [e]; exact (rhas_cons _ _ _).2 (.inl ⟨Int.le_refl _, k.2.1⟩))
        omega
      · have hne : x ≠ rlast r rs := fun e => hp (by rw [e]; exact ends rs r (-2) h)
        omega
/-! ### counting -/
theorem rmerge_stop {rs : List (Int × Int)} {b lo hi : Int} (h : rv b rs = true) (hb : hi ≤ b) : rmerge rs lo hi = (lo, hi) :: rs := by
  cases rs with
  | nil => rfl
  | cons r rs =>
    have k := (rv_cons _ _ _).1 h
    unfold rmerge; rw [if_neg (by omega)]
theorem rsum_cons (r : Int × Int) (rs : List (Int × Int)) : rsum (r :: rs) = r.2 - r.1 + 1 + rsum rs := rfl
theorem rsum_radd (rs : List (Int × Int)) : ∀ la n : Int, rv la rs = true → rsum (radd rs n n) = rsum rs + (if rhas rs n = true then 0 else 1) := by
  induction rs with
  | nil => intro la n _; unfold radd; rw [rsum_cons]; simp [rhas_nil, rsum]
  | cons r rs ih =>
    intro la n h
    have k := (rv_cons _ _ _).1 h
    unfold radd
    split
    · rename_i c
      rw [rsum_cons, rsum_cons, ih r.2 n k.2.2.2]
      have e : rhas (r :: rs) n = rhas rs n := by
        rw [Bool.eq_iff_iff, rhas_cons]
        exact ⟨fun h' => h'.resolve_left (by omega), .inr⟩
      rw [e]; omega
    · rename_i c
      unfold rmerge
      by_cases c1 : r.1 ≤ n + 1
      · rw [if_pos c1]
        by_cases c2 : n ≤ r.2
        · rw [rmerge_stop (b := r.2) k.2.2.2 (by omega), rsum_cons, rsum_cons]
          have e : rhas (r :: rs) n = decide (r.1 ≤ n) := by
            rw [Bool.eq_iff_iff, rhas_cons, decide_eq_true_eq]
            constructor
            · rintro (h' | h')
              · omega
              · have := rv_has k.2.2.2 h'; omega
            · intro h'; exact .inl ⟨h', c2⟩
          rw [e]
          by_cases c3 : r.1 ≤ n
          · rw [decide_eq_true c3, if_pos rfl]; simp only; omega
          · rw [decide_eq_false c3, if_neg (by decide)]; simp only; omega
        · have en : n = r.2 + 1 := by omega
          have e : rhas (r :: rs) n = false := by
            rw [← Bool.not_eq_true]
            intro h'
            rcases (rhas_cons _ _ _).1 h' with h' | h'
            · omega
            · have := rv_has k.2.2.2 h'; omega
          rw [e, if_neg (by decide)]
          cases rs with
          | nil => unfold rmerge; rw [rsum_cons, rsum_cons]; simp only; omega
          | cons s rs =>
            have k2 := (rv_cons _ _ _).1 k.2.2.2
            unfold rmerge
            by_cases c4 : s.1 ≤ max n r.2 + 1
            · rw [if_pos c4, rmerge_stop (b := s.2) k2.2.2.2 (by omega)]
              simp only [rsum_cons]; omega
            · rw [if_neg c4]; simp only [rsum_cons]; omega
      · rw [if_neg c1, rsum_cons]
        have e : rhas (r :: rs) n = false := by
          rw [← Bool.not_eq_true]
          intro h'
          rcases (rhas_cons _ _ _).1 h' with h' | h'
          · omega
          · have := rv_has k.2.2.2 h'; omega
        rw [e, if_neg (by decide)]; simp only; omega
end Go.Proofs.Ytibnjbbiagjnjaa
