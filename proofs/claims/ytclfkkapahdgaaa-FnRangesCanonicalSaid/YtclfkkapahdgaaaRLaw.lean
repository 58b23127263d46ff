/- The plain laws of sets of ranges: what adding, removing, joining and the gaps give. No program in sight. No condition beyond those in each theorem. -/
import Derived.Test.YtclfkkapahdgaaaRRemAll
import Derived.Test.YtclfkkapahdgaaaRUnion
import Derived.Test.YtclfkkapahdgaaaRCount
namespace Go.Proofs.Ytclfkkapahdgaaa
set_option linter.unusedVariables false
theorem rvalid_mk {rs : List Rg} (h : rs.length ≤ 16) (hv : rv (-2) rs = true) : rvalid rs = true := by unfold rvalid; rw [hv, decide_eq_true h]; rfl
theorem few_yes_of {rs qs : List Rg} (h : few rs = (qs, true)) : qs = rs ∧ rs.length ≤ 16 := by
  unfold few at h
  split at h
  · injection h with h1 _; exact ⟨h1.symm, by assumption⟩
  · injection h with _ h2; cases h2
theorem addOf_yes {l qs : List Rg} {lo hi : Int} (h : addOf l lo hi = (qs, true)) : rvalid l = true ∧ span lo hi = true ∧ qs = radd l lo hi ∧ rvalid qs = true := by
  unfold addOf at h
  split at h
  · rename_i hc
    rw [Bool.and_eq_true] at hc
    obtain ⟨h1, h2⟩ := few_yes_of h
    have hs := (span_iff _ _).1 hc.2
    exact ⟨hc.1, hc.2, h1, by rw [h1]; exact rvalid_mk h2 (radd_rv l lo hi (-2) (rvalid_rv hc.1) (by omega) hs.2.1 hs.2.2)⟩
  · injection h with _ h2; cases h2
theorem remOf_yes {l qs : List Rg} {lo hi : Int} (h : remOf l lo hi = (qs, true)) : rvalid l = true ∧ span lo hi = true ∧ qs = rrem l lo hi ∧ rvalid qs = true := by
  unfold remOf at h
  split at h
  · rename_i hc
    rw [Bool.and_eq_true] at hc
    obtain ⟨h1, h2⟩ := few_yes_of h
    have hs := (span_iff _ _).1 hc.2
    exact ⟨hc.1, hc.2, h1, by rw [h1]; exact rvalid_mk h2 (rrem_rv l (-2) lo hi (rvalid_rv hc.1) hs.2.1)⟩
  · injection h with _ h2; cases h2
theorem unionOf_yes {l t qs : List Rg} (h : unionOf l t = (qs, true)) : rvalid l = true ∧ rvalid t = true ∧ qs = rjoin l t ∧ rvalid qs = true := by
  unfold unionOf at h
  split at h
  · rename_i hc
    rw [Bool.and_eq_true] at hc
    obtain ⟨h1, h2⟩ := few_yes_of h
    exact ⟨hc.1, hc.2, h1, by rw [h1]; exact rvalid_mk h2 (rjoin_rv t l (-2) (Int.le_refl _) (rvalid_rv hc.1) (rvalid_rv hc.2))⟩
  · injection h with _ h2; cases h2
theorem eq_of_iff {a b : Bool} (h : a = true ↔ b = true) : a = b := by rw [Bool.eq_iff_iff]; exact h
theorem add_has {l qs : List Rg} {lo hi : Int} (h : addOf l lo hi = (qs, true)) (i : Int) : rhas qs i = (rhas l i || (decide (lo ≤ i) && decide (i ≤ hi))) := by
  obtain ⟨h1, h2, h3, h4⟩ := addOf_yes h
  have hs := (span_iff _ _).1 h2
  refine eq_of_iff ?_
  rw [h3, radd_has l (-2) lo hi i (rvalid_rv h1) hs.2.1, Bool.or_eq_true, Bool.and_eq_true, decide_eq_true_eq, decide_eq_true_eq]
  exact Or.comm
theorem add_twice {l qs : List Rg} {lo hi : Int} (h : addOf l lo hi = (qs, true)) : addOf qs lo hi = (qs, true) := by
  obtain ⟨h1, h2, h3, h4⟩ := addOf_yes h
  have hs := (span_iff _ _).1 h2
  have e : radd qs lo hi = qs := rcanon _ _ (-2) (-2) (radd_rv qs lo hi (-2) (rvalid_rv h4) (by omega) hs.2.1 hs.2.2) (rvalid_rv h4) (fun i => by
    refine eq_of_iff ?_
    rw [radd_has qs (-2) lo hi i (rvalid_rv h4) hs.2.1]
    have := add_has h i
    rw [this, Bool.or_eq_true, Bool.and_eq_true, decide_eq_true_eq, decide_eq_true_eq]
    exact ⟨fun h' => h'.elim .inr id, .inr⟩)
  unfold addOf
  rw [h4, h2, e]
  exact few_le (rvalid_len h4)
theorem rem_has {l qs : List Rg} {lo hi : Int} (h : remOf l lo hi = (qs, true)) (i : Int) : rhas qs i = true ↔ rhas l i = true ∧ (i < lo ∨ hi < i) := by
  obtain ⟨h1, h2, h3, h4⟩ := remOf_yes h
  have hs := (span_iff _ _).1 h2
  rw [h3]; exact rrem_has l (-2) lo hi i (rvalid_rv h1) hs.2.1
theorem add_undo {l qs aa bb : List Rg} {lo hi : Int} (h : addOf l lo hi = (qs, true)) (ha : remOf qs lo hi = (aa, true)) (hb : remOf l lo hi = (bb, true)) : aa = bb := by
  have va := (remOf_yes ha).2.2.2
  have vb := (remOf_yes hb).2.2.2
  refine rcanon _ _ (-2) (-2) (rvalid_rv va) (rvalid_rv vb) fun i => eq_of_iff ?_
  rw [rem_has ha, rem_has hb, add_has h, Bool.or_eq_true, Bool.and_eq_true, decide_eq_true_eq, decide_eq_true_eq]
  constructor
  · rintro ⟨h1 | h1, h2⟩
    · exact ⟨h1, h2⟩
    · omega
  · rintro ⟨h1, h2⟩; exact ⟨.inl h1, h2⟩
theorem union_has {l t qs : List Rg} (h : unionOf l t = (qs, true)) (i : Int) : rhas qs i = (rhas l i || rhas t i) := by
  obtain ⟨h1, h2, h3, h4⟩ := unionOf_yes h
  refine eq_of_iff ?_
  rw [h3, rjoin_has t l (-2) i (Int.le_refl _) (rvalid_rv h1) (rvalid_rv h2), Bool.or_eq_true]
theorem union_is {l t qs : List Rg} (h1 : rvalid l = true) (h2 : rvalid t = true) (hq : rvalid qs = true) (h : ∀ i, rhas qs i = (rhas l i || rhas t i)) : unionOf l t = (qs, true) := by
  have e : rjoin l t = qs := rcanon _ _ (-2) (-2) (rjoin_rv t l (-2) (Int.le_refl _) (rvalid_rv h1) (rvalid_rv h2)) (rvalid_rv hq) fun i => eq_of_iff (by
    rw [rjoin_has t l (-2) i (Int.le_refl _) (rvalid_rv h1) (rvalid_rv h2), h i, Bool.or_eq_true])
  unfold unionOf
  rw [h1, h2, e]
  exact few_le (rvalid_len hq)
theorem union_order {l t qs : List Rg} (h : unionOf l t = (qs, true)) : unionOf t l = (qs, true) ∧ unionOf l l = (l, true) := by
  obtain ⟨h1, h2, h3, h4⟩ := unionOf_yes h
  exact ⟨union_is h2 h1 h4 (fun i => by rw [union_has h, Bool.or_comm]), union_is h1 h1 h1 (fun i => by rw [Bool.or_self])⟩
theorem gaps_valid {l : List Rg} (h : rvalid l = true) : gapsOf l = rgaps l ∧ rvalid (gapsOf l) = true := by
  have e : gapsOf l = rgaps l := by unfold gapsOf; rw [h]; rfl
  refine ⟨e, ?_⟩
  rw [e]
  have hl := rvalid_len h
  refine rvalid_mk (by rw [rgaps_length]; omega) ?_
  cases l with
  | nil => rfl
  | cons r rs =>
    have k := (rv_cons _ _ _).1 (rvalid_rv h)
    exact rv_mono (rgaps_rv rs r (-2) (rvalid_rv h)) (by omega)
theorem gaps_has {l : List Rg} (h : rvalid l = true) (h0 : 0 < l.length) (i : Int) : rhas (gapsOf l) i = (!(rhas l i) && decide ((l.getD 0 (0, 0)).1 < i) && decide (i < (l.getD (l.length - 1) (0, 0)).2)) := by
  rw [(gaps_valid h).1]
  cases l with
  | nil => simp at h0
  | cons r rs =>
    refine eq_of_iff ?_
    rw [rgaps_has rs r (-2) i (rvalid_rv h), Bool.and_eq_true, Bool.and_eq_true, decide_eq_true_eq, decide_eq_true_eq]
    have e : ((r :: rs).getD ((r :: rs).length - 1) (0, 0)).2 = rlast r rs := rlast_eq rs r
    rw [e, and_assoc]
    have e2 : ((r :: rs).getD 0 (0, 0)).1 = r.1 := rfl
    rw [e2]
    cases rhas (r :: rs) i <;> simp
theorem gaps_fill {l : List Rg} (h : rvalid l = true) (h0 : 0 < l.length) : unionOf l (gapsOf l) = ([((l.getD 0 (0, 0)).1, (l.getD (l.length - 1) (0, 0)).2)], true) := by
  cases l with
  | nil => simp at h0
  | cons r rs =>
    have e : ((r :: rs).getD ((r :: rs).length - 1) (0, 0)).2 = rlast r rs := rlast_eq rs r
    have e2 : ((r :: rs).getD 0 (0, 0)).1 = r.1 := rfl
    have g := gaps_valid h
    unfold unionOf
    rw [h, g.2, g.1, rfill rs r (rvalid_rv h), e, e2]
    rfl
theorem rcount_of {l : List Rg} (h : rvalid l = true) : rcount l = rsum l := by unfold rcount; rw [h]; rfl
theorem count_add {l qs : List Rg} {n : Int} (h : addOf l n n = (qs, true)) : rcount qs = rcount l + (if rhas l n = true then 0 else 1) := by
  obtain ⟨h1, h2, h3, h4⟩ := addOf_yes h
  rw [rcount_of h4, rcount_of h1, h3]
  exact rsum_radd l (-2) n (rvalid_rv h1)
theorem add_full {l qs : List Rg} {lo hi : Int} (hv : rvalid l = true) (hs : span lo hi = true) (h : addOf l lo hi = (qs, false)) : l.length = 16 := by
  unfold addOf at h
  rw [hv, hs] at h
  have h1 := radd_len l lo hi
  have h2 := rvalid_len hv
  rcases Nat.lt_or_ge 16 (radd l lo hi).length with c | c
  · omega
  · have h' : few (radd l lo hi) = (qs, false) := h
    rw [few_le c] at h'
    injection h' with _ h3; cases h3
theorem rem_full {l qs : List Rg} {lo hi : Int} (hv : rvalid l = true) (hs : span lo hi = true) (h : remOf l lo hi = (qs, false)) : l.length = 16 := by
  unfold remOf at h
  rw [hv, hs] at h
  have h1 := rrem_len l (-2) lo hi (rvalid_rv hv) ((span_iff _ _).1 hs).2.1
  have h2 := rvalid_len hv
  rcases Nat.lt_or_ge 16 (rrem l lo hi).length with c | c
  · omega
  · have h' : few (rrem l lo hi) = (qs, false) := h
    rw [few_le c] at h'
    injection h' with _ h3; cases h3
theorem add_not {l qs : List Rg} {lo hi : Int} {ok : Bool} (hn : (rvalid l && span lo hi) = false) (h : addOf l lo hi = (qs, ok)) : ok = false := by
  unfold addOf at h
  rw [hn] at h
  injection h with _ h2; exact h2.symm
theorem rem_not {l qs : List Rg} {lo hi : Int} {ok : Bool} (hn : (rvalid l && span lo hi) = false) (h : remOf l lo hi = (qs, ok)) : ok = false := by
  unfold remOf at h
  rw [hn] at h
  injection h with _ h2; exact h2.symm
/-! ### a set less one of its ranges -/
theorem rv_drop {rs : List Rg} : ∀ {la : Int} (k : Nat), rv la rs = true → rv la (rs.take k ++ rs.drop (k + 1)) = true := by
  induction rs with
  | nil => intro la k _; simp [rv]
  | cons r rs ih =>
    intro la k h
    have kk := (rv_cons _ _ _).1 h
    cases k with
    | zero =>
      show rv la (rs.drop 0) = true
      exact rv_mono kk.2.2.2 (by omega)
    | succ k =>
      show rv la (r :: (rs.take k ++ rs.drop (k + 1))) = true
      rw [rv_cons]
      exact ⟨kk.1, kk.2.1, kk.2.2.1, ih k kk.2.2.2⟩
theorem part_valid {l : List Rg} (h : rvalid l = true) (k : Nat) (hk : k < l.length) : rvalid (l.take k ++ l.drop (k + 1)) = true :=
  rvalid_mk (by have := rvalid_len h; simp; omega) (rv_drop k (rvalid_rv h))
theorem rv_twice {rs : List Rg} : ∀ {la : Int} (k : Nat), k < rs.length → rv la rs = true → rv la (rs.take (k + 1) ++ rs.drop k) = false := by
  induction rs with
  | nil => intro la k hk; simp at hk
  | cons r rs ih =>
    intro la k hk h
    have kk := (rv_cons _ _ _).1 h
    cases k with
    | zero =>
      show rv la (r :: r :: rs) = false
      rw [← Bool.not_eq_true, rv_cons, rv_cons]
      intro h'; omega
    | succ k =>
      show rv la (r :: (rs.take (k + 1) ++ rs.drop k)) = false
      have := ih (la := r.2) k (by simpa using hk) kk.2.2.2
      rw [← Bool.not_eq_true, rv_cons, this]
      intro h'; exact absurd h'.2.2.2 (by simp)
theorem part_twice {l : List Rg} (h : rvalid l = true) (k : Nat) (hk : k < l.length) : rvalid (l.take (k + 1) ++ l.drop k) = false := by
  unfold rvalid
  rw [rv_twice k hk (rvalid_rv h), Bool.and_false]
end Go.Proofs.Ytclfkkapahdgaaa
