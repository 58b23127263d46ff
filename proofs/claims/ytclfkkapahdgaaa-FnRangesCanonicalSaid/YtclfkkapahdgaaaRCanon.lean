/- The plain law of a set that is built up number by number, range by range. No program in sight. No condition beyond those in each theorem. -/
import Derived.Test.YtclfkkapahdgaaaRLaw
namespace Go.Proofs.Ytclfkkapahdgaaa
set_option linter.unusedVariables false
/-- Of each range: nothing yet, or what lies from a number on. -/
def sel : List Rg → List (Option Int) → List Rg
  | r :: rs, some a :: ss => (a, r.2) :: sel rs ss
  | _ :: rs, none :: ss => sel rs ss
  | _, _ => []
def SelOk (l : List Rg) (s : List (Option Int)) : Prop := s.length = l.length ∧ ∀ j a, j < l.length → s.getD j none = some a → (l.getD j (0, 0)).1 ≤ a ∧ a ≤ (l.getD j (0, 0)).2
theorem selOk_tail {r : Rg} {l : List Rg} {o : Option Int} {s : List (Option Int)} (h : SelOk (r :: l) (o :: s)) : SelOk l s :=
  ⟨by simpa using h.1, fun j a hj hs => by have := h.2 (j + 1) a (by simpa using hj) (by simpa using hs); simpa using this⟩
theorem sel_len (l : List Rg) : ∀ s, (sel l s).length ≤ l.length := by
  induction l with
  | nil => intro s; cases s <;> exact Nat.le_refl _
  | cons r l ih =>
    intro s
    cases s with
    | nil => exact Nat.zero_le _
    | cons o s =>
      have := ih s
      cases o <;> simp only [sel, List.length_cons] <;> omega
theorem sel_rv (l : List Rg) : ∀ (s : List (Option Int)) (la : Int), SelOk l s → rv la l = true → rv la (sel l s) = true := by
  induction l with
  | nil => intro s la _ _; cases s <;> rfl
  | cons r l ih =>
    intro s la hs h
    have k := (rv_cons _ _ _).1 h
    cases s with
    | nil => rfl
    | cons o s =>
      have g := ih s r.2 (selOk_tail hs) k.2.2.2
      cases o with
      | none => exact rv_mono g (by omega)
      | some a =>
        have h0 := hs.2 0 a (by simp) rfl
        simp only [List.getD_cons_zero] at h0
        show rv la ((a, r.2) :: sel l s) = true
        rw [rv_cons]
        exact ⟨by simp only; omega, by simp only; omega, k.2.2.1, g⟩
theorem rv_at {l : List Rg} : ∀ {la : Int} {k : Nat}, rv la l = true → k < l.length → la + 2 ≤ (l.getD k (0, 0)).1 ∧ (l.getD k (0, 0)).1 ≤ (l.getD k (0, 0)).2 ∧ (l.getD k (0, 0)).2 ≤ 999 := by
  induction l with
  | nil => intro la k _ hk; simp at hk
  | cons r l ih =>
    intro la k h hk
    have kk := (rv_cons _ _ _).1 h
    cases k with
    | zero => exact ⟨kk.1, kk.2.1, kk.2.2.1⟩
    | succ k =>
      have := ih kk.2.2.2 (show k < l.length by simpa using hk)
      simp only [List.getD_cons_succ]
      omega
theorem radd_before {t : List Rg} {b v : Int} (h : rv b t = true) (hv : v ≤ b) : radd t v v = (v, v) :: t := by
  cases t with
  | nil => rfl
  | cons p t =>
    have k := (rv_cons _ _ _).1 h
    unfold radd
    rw [if_neg (by omega)]
    exact rmerge_stop h hv
/-- One number more of the k-th range. -/
theorem add_sel (l : List Rg) : ∀ (s : List (Option Int)) (k : Nat) (la v : Int), rv la l = true → SelOk l s → k < l.length →
    (s.getD k none = none ∧ v = (l.getD k (0, 0)).2 ∨ s.getD k none = some (v + 1) ∧ (l.getD k (0, 0)).1 ≤ v) → radd (sel l s) v v = sel l (s.set k (some v)) := by
  induction l with
  | nil => intro s k la v _ _ hk; simp at hk
  | cons r l ih =>
    intro s k la v h hs hk hv
    have kk := (rv_cons _ _ _).1 h
    cases s with
    | nil => have := hs.1; simp at this
    | cons o s =>
      have g := sel_rv l s r.2 (selOk_tail hs) kk.2.2.2
      cases k with
      | zero =>
        simp only [List.getD_cons_zero] at hv
        rcases hv with ⟨rfl, rfl⟩ | ⟨rfl, h1⟩
        · show radd (sel l s) r.2 r.2 = (r.2, r.2) :: sel l s
          exact radd_before g (Int.le_refl _)
        · have h0 := hs.2 0 (v + 1) (by simp) rfl
          simp only [List.getD_cons_zero] at h0
          show radd ((v + 1, r.2) :: sel l s) v v = (v, r.2) :: sel l s
          unfold radd
          rw [if_neg (by simp only; omega)]
          unfold rmerge
          rw [if_pos (by simp only; omega)]
          have e1 : min v (v + 1) = v := by omega
          have e2 : max v r.2 = r.2 := by omega
          simp only [e1, e2]
          exact rmerge_stop g (Int.le_refl _)
      | succ k =>
        simp only [List.getD_cons_succ] at hv
        have hk' : k < l.length := by simpa using hk
        have i := ih s k r.2 v kk.2.2.2 (selOk_tail hs) hk' hv
        have a := rv_at kk.2.2.2 hk'
        cases o with
        | none => exact i
        | some b =>
          show radd ((b, r.2) :: sel l s) v v = (b, r.2) :: sel l (s.set k (some v))
          unfold radd
          rw [if_pos (by simp only; omega), i]
theorem selOk_set {l : List Rg} {s : List (Option Int)} (hs : SelOk l s) (k : Nat) (v : Int) (hk : k < l.length) (h0 : (l.getD k (0, 0)).1 ≤ v) (h1 : v ≤ (l.getD k (0, 0)).2) : SelOk l (s.set k (some v)) := by
  refine ⟨by rw [List.length_set]; exact hs.1, fun j a hj ha => ?_⟩
  by_cases e : j = k
  · subst e
    have : (s.set j (some v)).getD j none = some v := by
      rw [List.getD_eq_getElem?_getD, List.getElem?_set_self (by rw [hs.1]; exact hj)]; rfl
    rw [this] at ha
    injection ha with ha
    subst ha
    exact ⟨h0, h1⟩
  · have : (s.set k (some v)).getD j none = s.getD j none := by
      rw [List.getD_eq_getElem?_getD, List.getElem?_set_ne (fun h => e h.symm), List.getD_eq_getElem?_getD]
    rw [this] at ha
    exact hs.2 j a hj ha
theorem getD_set_self {s : List (Option Int)} {k : Nat} {v : Option Int} (hk : k < s.length) : (s.set k v).getD k none = v := by
  rw [List.getD_eq_getElem?_getD, List.getElem?_set_self hk]; rfl
theorem getD_set_ne {s : List (Option Int)} {k j : Nat} {v : Option Int} (h : j ≠ k) : (s.set k v).getD j none = s.getD j none := by
  rw [List.getD_eq_getElem?_getD, List.getElem?_set_ne (fun e => h e.symm), List.getD_eq_getElem?_getD]
theorem add_sel_of {l : List Rg} {s : List (Option Int)} {k : Nat} {v : Int} (hv : rvalid l = true) (hs : SelOk l s) (hk : k < l.length)
    (h : s.getD k none = none ∧ v = (l.getD k (0, 0)).2 ∨ s.getD k none = some (v + 1) ∧ (l.getD k (0, 0)).1 ≤ v) : addOf (sel l s) v v = (sel l (s.set k (some v)), true) := by
  have hr := rvalid_rv hv
  have hl := rvalid_len hv
  have a := rv_at hr hk
  have h01 : (l.getD k (0, 0)).1 ≤ v ∧ v ≤ (l.getD k (0, 0)).2 := by
    rcases h with ⟨_, h⟩ | ⟨h1, h2⟩
    · omega
    · have := hs.2 k _ hk h1; omega
  have l1 := sel_len l s
  have l2 := sel_len l (s.set k (some v))
  unfold addOf
  rw [rvalid_mk (by omega) (sel_rv l s (-2) hs hr), (span_iff v v).2 ⟨by omega, Int.le_refl _, by omega⟩, add_sel l s k (-2) v hr hs hk h]
  exact few_le (by omega)
theorem sel_none (l : List Rg) : sel l (List.replicate l.length none) = [] := by
  induction l with
  | nil => rfl
  | cons r l ih => exact ih
theorem sel_all (l : List Rg) : ∀ s : List (Option Int), s.length = l.length → (∀ j, j < l.length → s.getD j none = some (l.getD j (0, 0)).1) → sel l s = l := by
  induction l with
  | nil => intro s hs _; cases s with | nil => rfl | cons o s => simp at hs
  | cons r l ih =>
    intro s hs h
    cases s with
    | nil => simp at hs
    | cons o s =>
      have h0 := h 0 (by simp)
      simp only [List.getD_cons_zero] at h0
      subst h0
      show (r.1, r.2) :: sel l s = r :: l
      rw [ih s (by simpa using hs) (fun j hj => by have := h (j + 1) (by simpa using hj); simpa using this)]
/-! ### the order in which the ranges are taken -/
def perm (n m i : Nat) : Nat := if n % 7 = 0 then n - 1 - i else (i * 7 + m) % n
theorem perm_lt {n m i : Nat} (hi : i < n) : perm n m i < n := by
  unfold perm; split
  · omega
  · exact Nat.mod_lt _ (by omega)
def permI (n : Nat) : Bool := n % 7 == 0 || (List.range n).all fun m => (List.range n).all fun i => (List.range n).all fun j => (i * 7 + m) % n != (j * 7 + m) % n || i == j
def permS (n : Nat) : Bool := n % 7 == 0 || (List.range n).all fun m => (List.range n).all fun j => (List.range n).any fun i => (i * 7 + m) % n == j
theorem permI_all : (List.range 17).all permI = true := by decide +kernel
theorem permS_all : (List.range 17).all permS = true := by decide +kernel
theorem perm_inj0 (n : Nat) (hn : n < 17) (h7 : n % 7 ≠ 0) (m : Nat) (hm : m < n) (i : Nat) (hi : i < n) (j : Nat) (hj : j < n) (h : (i * 7 + m) % n = (j * 7 + m) % n) : i = j := by
  have h1 := List.all_eq_true.1 permI_all n (List.mem_range.2 hn)
  unfold permI at h1
  rw [Bool.or_eq_true, beq_iff_eq] at h1
  have h2 := h1.resolve_left h7
  have h3 := List.all_eq_true.1 (List.all_eq_true.1 (List.all_eq_true.1 h2 m (List.mem_range.2 hm)) i (List.mem_range.2 hi)) j (List.mem_range.2 hj)
  rw [Bool.or_eq_true, bne_iff_ne, beq_iff_eq] at h3
  exact h3.resolve_left fun e => e h
theorem perm_surj0 (n : Nat) (hn : n < 17) (h7 : n % 7 ≠ 0) (m : Nat) (hm : m < n) (j : Nat) (hj : j < n) : ∃ i, i < n ∧ (i * 7 + m) % n = j := by
  have h1 := List.all_eq_true.1 permS_all n (List.mem_range.2 hn)
  unfold permS at h1
  rw [Bool.or_eq_true, beq_iff_eq] at h1
  have h2 := h1.resolve_left h7
  have h3 := List.all_eq_true.1 (List.all_eq_true.1 h2 m (List.mem_range.2 hm)) j (List.mem_range.2 hj)
  obtain ⟨i, hi, he⟩ := List.any_eq_true.1 h3
  exact ⟨i, List.mem_range.1 hi, by simpa using he⟩
theorem perm_mod {n m i : Nat} : (i * 7 + m) % n = (i * 7 + m % n) % n := by simp
theorem perm_inj {n m i j : Nat} (hn : n ≤ 16) (hi : i < n) (hj : j < n) (h : perm n m i = perm n m j) : i = j := by
  unfold perm at h
  by_cases h7 : n % 7 = 0
  · rw [if_pos h7, if_pos h7] at h; omega
  · rw [if_neg h7, if_neg h7, perm_mod, perm_mod (i := j)] at h
    exact perm_inj0 n (by omega) h7 (m % n) (Nat.mod_lt _ (by omega)) i hi j hj h
theorem perm_surj {n m j : Nat} (hn : n ≤ 16) (hj : j < n) : ∃ i, i < n ∧ perm n m i = j := by
  unfold perm
  by_cases h7 : n % 7 = 0
  · exact ⟨n - 1 - j, by omega, by rw [if_pos h7]; omega⟩
  · obtain ⟨i, h1, h2⟩ := perm_surj0 n (by omega) h7 (m % n) (Nat.mod_lt _ (by omega)) j hj
    exact ⟨i, h1, by rw [if_neg h7, perm_mod]; exact h2⟩
/-- The first i ranges in that order are there whole, of the others nothing. -/
def Vis (l : List Rg) (m i : Nat) (s : List (Option Int)) : Prop :=
  SelOk l s ∧ (∀ i', i' < i → s.getD (perm l.length m i') none = some (l.getD (perm l.length m i') (0, 0)).1) ∧ (∀ j, j < l.length → (∀ i', i' < i → perm l.length m i' ≠ j) → s.getD j none = none)
theorem vis_start (l : List Rg) (m : Nat) : Vis l m 0 (List.replicate l.length none) := by
  have e : ∀ j, (List.replicate l.length (none : Option Int)).getD j none = none := fun j => by
    rw [List.getD_eq_getElem?_getD]
    cases h : (List.replicate l.length (none : Option Int))[j]? with
    | none => rfl
    | some x =>
      have := List.mem_of_getElem? h
      rw [List.mem_replicate] at this
      rw [this.2]; rfl
  exact ⟨⟨by simp, fun j a _ h => by rw [e j] at h; cases h⟩, fun i' h => by omega, fun j _ _ => e j⟩
theorem vis_now {l : List Rg} {m i : Nat} {s : List (Option Int)} (h : Vis l m i s) (hn : l.length ≤ 16) (hi : i < l.length) : s.getD (perm l.length m i) none = none :=
  h.2.2 _ (perm_lt hi) fun i' h' e => by have := perm_inj hn (by omega) hi e; omega
theorem vis_next {l : List Rg} {m i : Nat} {s s' : List (Option Int)} (h : Vis l m i s) (hi : i < l.length) (hs : SelOk l s') (h1 : s'.getD (perm l.length m i) none = some (l.getD (perm l.length m i) (0, 0)).1)
    (h2 : ∀ j, j ≠ perm l.length m i → s'.getD j none = s.getD j none) : Vis l m (i + 1) s' := by
  refine ⟨hs, fun i' hi' => ?_, fun j hj hne => ?_⟩
  · by_cases e : perm l.length m i' = perm l.length m i
    · rw [e]; exact h1
    · rw [h2 _ e]
      rcases Nat.lt_or_ge i' i with c | c
      · exact h.2.1 i' c
      · have : i' = i := by omega
        subst this; exact absurd rfl e
  · rw [h2 j (fun e => hne i (by omega) e.symm)]
    exact h.2.2 j hj fun i' h' => hne i' (by omega)
theorem vis_end {l : List Rg} {m : Nat} {s : List (Option Int)} (h : Vis l m l.length s) (hn : l.length ≤ 16) : sel l s = l :=
  sel_all l s h.1.1 fun j hj => by
    obtain ⟨i, h1, h2⟩ := perm_surj (m := m) hn hj
    have := h.2.1 i h1
    rw [h2] at this; exact this
end Go.Proofs.Ytclfkkapahdgaaa
