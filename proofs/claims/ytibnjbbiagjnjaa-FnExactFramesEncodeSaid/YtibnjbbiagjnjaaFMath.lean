/- The plain law of frames: which are valid, how they are encoded, that different frames have different encodings. No condition beyond those in each theorem. -/
import Derived.Test.YtibnjbbiagjnjaaRMath
import Derived.Test.YtibnjbbiagjnjaaVJoin
namespace Go.Proofs.Ytibnjbbiagjnjaa
structure Fr where
  k : Int
  a : Int
  b : Int
  c : Int
  d : List UInt8
  rs : List (Int × Int)
/-- How many of the fields a, b, c a kind has. -/
def fmany (k : Int) : Nat := if k = 3 then 3 else if k = 4 ∨ k = 7 then 2 else if k = 0 ∨ k = 1 ∨ k = 9 then 0 else 1
def inr (x hi : Int) : Bool := decide (0 ≤ x) && decide (x ≤ hi)
def flim (f : Fr) (x y z : Int) : Bool := inr f.a x && inr f.b y && inr f.c z
def fkind (f : Fr) : Bool :=
  if f.k = 0 ∨ f.k = 1 ∨ f.k = 9 then flim f 0 0 0
  else if f.k = 2 then flim f 3 0 0 && (decide (0 < f.rs.length) && rvalid f.rs)
  else if f.k = 3 then flim f 2 (30 - f.d.length) 1
  else if f.k = 4 then flim f 2 30 0
  else if f.k = 5 ∨ f.k = 6 then flim f 9999 0 0
  else if f.k = 7 then flim f 15 9999 0
  else if f.k = 8 then flim f 15 0 0
  else if f.k = 10 then flim f 99 0 0
  else false
def fvalid (f : Fr) : Bool :=
  (decide (f.d.length ≤ 12) && (decide (f.d.length = 0) || (decide (f.k = 3) || decide (f.k = 9))) && (decide (f.rs.length = 0) || decide (f.k = 2))) && fkind f
def fdeltas : Int → List (Int × Int) → List Int
  | _, [] => []
  | la, r :: rs => (r.1 - la - 2) :: (r.2 - r.1) :: fdeltas r.2 rs
def ftail (f : Fr) : List Int := if f.k = 2 then (f.rs.length : Int) :: fdeltas (-2) f.rs else if f.k = 3 ∨ f.k = 9 then [(f.d.length : Int)] else []
def fnums (f : Fr) : List Int := f.k :: ([f.a, f.b, f.c].take (fmany f.k) ++ ftail f)
def fraw (f : Fr) : List UInt8 := vjoin (fnums f) ++ f.d
def fenc (f : Fr) : List UInt8 := if fvalid f then fraw f else []
theorem inr_iff (x hi : Int) : inr x hi = true ↔ 0 ≤ x ∧ x ≤ hi := by unfold inr; simp
theorem flim_iff (f : Fr) (x y z : Int) : flim f x y z = true ↔ (0 ≤ f.a ∧ f.a ≤ x) ∧ (0 ≤ f.b ∧ f.b ≤ y) ∧ (0 ≤ f.c ∧ f.c ≤ z) := by
  unfold flim; rw [Bool.and_eq_true, Bool.and_eq_true, inr_iff, inr_iff, inr_iff, and_assoc]
/-- What a valid frame is, kind by kind. -/
theorem fvalid_cases {f : Fr} (h : fvalid f = true) :
    f.d.length ≤ 12 ∧ (f.d = [] ∨ f.k = 3 ∨ f.k = 9) ∧ (f.rs = [] ∨ f.k = 2) ∧
    ((f.k = 0 ∨ f.k = 1 ∨ f.k = 9) ∧ f.a = 0 ∧ f.b = 0 ∧ f.c = 0 ∨
     f.k = 2 ∧ (0 ≤ f.a ∧ f.a ≤ 3) ∧ f.b = 0 ∧ f.c = 0 ∧ 0 < f.rs.length ∨
     f.k = 3 ∧ (0 ≤ f.a ∧ f.a ≤ 2) ∧ (0 ≤ f.b ∧ f.b ≤ 30) ∧ (0 ≤ f.c ∧ f.c ≤ 1) ∨
     f.k = 4 ∧ (0 ≤ f.a ∧ f.a ≤ 2) ∧ (0 ≤ f.b ∧ f.b ≤ 30) ∧ f.c = 0 ∨
     (f.k = 5 ∨ f.k = 6) ∧ (0 ≤ f.a ∧ f.a ≤ 9999) ∧ f.b = 0 ∧ f.c = 0 ∨
     f.k = 7 ∧ (0 ≤ f.a ∧ f.a ≤ 15) ∧ (0 ≤ f.b ∧ f.b ≤ 9999) ∧ f.c = 0 ∨
     f.k = 8 ∧ (0 ≤ f.a ∧ f.a ≤ 15) ∧ f.b = 0 ∧ f.c = 0 ∨
     f.k = 10 ∧ (0 ≤ f.a ∧ f.a ≤ 99) ∧ f.b = 0 ∧ f.c = 0) := by
  unfold fvalid at h
  simp only [Bool.and_eq_true, Bool.or_eq_true, decide_eq_true_eq] at h
  obtain ⟨⟨⟨h1, h2⟩, h3⟩, h4⟩ := h
  refine ⟨h1, h2.imp (fun e => List.length_eq_zero_iff.1 e) id, h3.imp (fun e => List.length_eq_zero_iff.1 e) id, ?_⟩
  unfold fkind at h4
  split at h4
  · rw [flim_iff] at h4; exact .inl ⟨by assumption, by omega, by omega, by omega⟩
  · refine .inr ?_
    split at h4
    · rw [Bool.and_eq_true, Bool.and_eq_true, flim_iff, decide_eq_true_eq] at h4; exact .inl ⟨by assumption, h4.1.1, by omega, by omega, h4.2.1⟩
    · refine .inr ?_
      split at h4
      · rw [flim_iff] at h4; exact .inl ⟨by assumption, by omega, by omega, by omega⟩
      · refine .inr ?_
        split at h4
        · rw [flim_iff] at h4; exact .inl ⟨by assumption, by omega, by omega, by omega⟩
        · refine .inr ?_
          split at h4
          · rw [flim_iff] at h4; exact .inl ⟨by assumption, by omega, by omega, by omega⟩
          · refine .inr ?_
            split at h4
            · rw [flim_iff] at h4; exact .inl ⟨by assumption, by omega, by omega, by omega⟩
            · refine .inr ?_
              split at h4
              · rw [flim_iff] at h4; exact .inl ⟨by assumption, by omega, by omega, by omega⟩
              · refine .inr ?_
                split at h4
                · rw [flim_iff] at h4; exact ⟨by assumption, by omega, by omega, by omega⟩
                · cases h4
theorem fvalid_ack {f : Fr} (h : fvalid f = true) (hk : f.k = 2) : 0 < f.rs.length ∧ rvalid f.rs = true ∧ (0 ≤ f.a ∧ f.a ≤ 3) := by
  unfold fvalid at h
  rw [Bool.and_eq_true] at h
  have h4 := h.2
  unfold fkind at h4
  rw [if_neg (by omega), if_pos hk, Bool.and_eq_true, Bool.and_eq_true, flim_iff, decide_eq_true_eq] at h4
  exact ⟨h4.2.1, h4.2.2, h4.1.1⟩
/-- The fields that a kind does not have are zero. -/
theorem fzero {f : Fr} (h : fvalid f = true) : (fmany f.k ≤ 2 → f.c = 0) ∧ (fmany f.k ≤ 1 → f.b = 0) ∧ (fmany f.k = 0 → f.a = 0) := by
  obtain ⟨_, _, _, h4⟩ := fvalid_cases h
  rcases h4 with ⟨h1 | h1 | h1, h2⟩ | ⟨h1, h2⟩ | ⟨h1, h2⟩ | ⟨h1, h2⟩ | ⟨h1 | h1, h2⟩ | ⟨h1, h2⟩ | ⟨h1, h2⟩ | ⟨h1, h2⟩ <;> rw [h1] <;> refine ⟨fun hm => ?_, fun hm => ?_, fun hm => ?_⟩ <;> first | omega | (exact absurd hm (by decide))
theorem isVar_of {x : Int} (h0 : 0 ≤ x) (h1 : x ≤ 9999) : isVar x = true := by unfold isVar; simp; omega
/-- What is encoded ahead is read back, and what lies behind it is the same. -/
theorem venc_cancel {x y : Int} {s t : List UInt8} (hx : isVar x = true) (hy : isVar y = true) (h : venc x ++ s = venc y ++ t) : x = y ∧ s = t := by
  unfold isVar at hx hy
  simp only [Bool.and_eq_true, decide_eq_true_eq] at hx hy
  have r1 := (read_venc x hx.1 hx.2 s).1
  have r2 := (read_venc y hy.1 hy.2 t).1
  rw [h, r2] at r1
  subst r1
  exact ⟨rfl, List.append_cancel_left h⟩
theorem vjoin_cons (x : Int) (xs : List Int) (s : List UInt8) : vjoin (x :: xs) ++ s = venc x ++ (vjoin xs ++ s) := by
  have e : vjoin (x :: xs) = venc x ++ vjoin xs := rfl
  rw [e, List.append_assoc]
theorem fdeltas_var (rs : List (Int × Int)) : ∀ la : Int, -2 ≤ la → rv la rs = true → (fdeltas la rs).all isVar = true := by
  induction rs with
  | nil => intro _ _ _; rfl
  | cons r rs ih =>
    intro la h0 h
    simp only [rv, Bool.and_eq_true, decide_eq_true_eq] at h
    obtain ⟨⟨⟨h1, h2⟩, h3⟩, h4⟩ := h
    simp only [fdeltas, List.all_cons, Bool.and_eq_true]
    exact ⟨isVar_of (by omega) (by omega), isVar_of (by omega) (by omega), ih r.2 (by omega) h4⟩
theorem fdeltas_length (rs : List (Int × Int)) : ∀ la : Int, (fdeltas la rs).length = 2 * rs.length := by
  induction rs with
  | nil => intro _; rfl
  | cons r rs ih => intro la; simp only [fdeltas, List.length_cons, ih r.2]; omega
theorem fdeltas_inj (rs : List (Int × Int)) : ∀ (ss : List (Int × Int)) (la : Int) (s t : List UInt8), -2 ≤ la → rv la rs = true → rv la ss = true → rs.length = ss.length →
    vjoin (fdeltas la rs) ++ s = vjoin (fdeltas la ss) ++ t → rs = ss ∧ s = t := by
  induction rs with
  | nil =>
    intro ss la s t _ _ _ hl h
    cases ss with
    | nil => exact ⟨rfl, h⟩
    | cons r ss => cases hl
  | cons r rs ih =>
    intro ss la s t h0 hr hs hl h
    cases ss with
    | nil => cases hl
    | cons q ss =>
      have v1 := fdeltas_var (r :: rs) la h0 hr
      have v2 := fdeltas_var (q :: ss) la h0 hs
      simp only [fdeltas, List.all_cons, Bool.and_eq_true] at v1 v2
      simp only [fdeltas, vjoin_cons] at h
      obtain ⟨e1, h⟩ := venc_cancel v1.1 v2.1 h
      obtain ⟨e2, h⟩ := venc_cancel v1.2.1 v2.2.1 h
      have e : r = q := Prod.ext (by omega) (by omega)
      subst e
      simp only [rv, Bool.and_eq_true, decide_eq_true_eq] at hr hs
      obtain ⟨e3, e4⟩ := ih ss r.2 s t (by omega) hr.2 hs.2 (by simpa using hl) h
      exact ⟨by rw [e3], e4⟩
theorem fnums_var {f : Fr} (h : fvalid f = true) : (fnums f).all isVar = true := by
  obtain ⟨h1, h2, h3, h4⟩ := fvalid_cases h
  unfold fnums
  have tl : (ftail f).all isVar = true := by
    unfold ftail
    split
    · rename_i e
      have hv : rvalid f.rs = true := (fvalid_ack h e).2.1
      have hl := rvalid_len hv
      rw [List.all_cons, Bool.and_eq_true]
      exact ⟨isVar_of (by omega) (by omega), fdeltas_var _ _ (by omega) (rvalid_rv hv)⟩
    · split
      · rw [List.all_cons, Bool.and_eq_true]; exact ⟨isVar_of (by omega) (by omega), rfl⟩
      · rfl
  have hd : ∀ n, ([f.a, f.b, f.c].take n).all isVar = true := by
    intro n
    rw [List.all_eq_true]
    intro x hx
    have hx := List.mem_of_mem_take hx
    simp only [List.mem_cons, List.not_mem_nil, or_false] at hx
    rcases hx with rfl | rfl | rfl <;> exact isVar_of (by omega) (by omega)
  rw [List.all_cons, List.all_append, hd, tl, Bool.and_eq_true]
  exact ⟨isVar_of (by omega) (by omega), rfl⟩
theorem fmany_le (k : Int) : fmany k ≤ 3 := by unfold fmany; (repeat' split) <;> omega
theorem fnums_len {f : Fr} (h : fvalid f = true) : (fnums f).length ≤ 40 := by
  obtain ⟨h1, h2, h3, h4⟩ := fvalid_cases h
  have tl : (ftail f).length ≤ 33 := by
    unfold ftail
    split
    · rename_i e
      have hv : rvalid f.rs = true := (fvalid_ack h e).2.1
      have hl := rvalid_len hv
      rw [List.length_cons, fdeltas_length]; omega
    · split <;> simp
  have := fmany_le f.k
  unfold fnums
  rw [List.length_cons, List.length_append, List.length_take]; omega
theorem fraw_len {f : Fr} (h : fvalid f = true) : (fraw f).length ≤ 172 := by
  have h1 := vjoin_len (fnums f)
  have h2 := fnums_len h
  have h3 := (fvalid_cases h).1
  unfold fraw
  rw [List.length_append]; omega
theorem fraw_ne (f : Fr) (h : fvalid f = true) : fraw f ≠ [] := by
  have hv := fnums_var h
  unfold fraw fnums at *
  rw [vjoin_cons]
  rw [List.all_cons, Bool.and_eq_true] at hv
  have := hv.1
  unfold isVar at this
  simp only [Bool.and_eq_true, decide_eq_true_eq] at this
  intro e
  have e1 := congrArg List.length e
  rw [List.length_append, List.length_nil] at e1
  have e2 := venc_length f.k
  have e3 : (venc f.k).length = 0 := by omega
  rw [e3] at e2
  rcases vlen_cases f.k with ⟨g1, r⟩ | ⟨g1, r⟩ | ⟨g1, g2, r⟩ | ⟨g1, g2, r⟩ | ⟨g1, g2, r⟩
  all_goals omega
theorem fraw_inj {f g : Fr} (hf : fvalid f = true) (hg : fvalid g = true) (h : fraw f = fraw g) : f = g := by
  have vf := fnums_var hf
  have vg := fnums_var hg
  obtain ⟨f1, f2, f3, f4⟩ := fvalid_cases hf
  obtain ⟨g1, g2, g3, g4⟩ := fvalid_cases hg
  obtain ⟨zf1, zf2, zf3⟩ := fzero hf
  obtain ⟨zg1, zg2, zg3⟩ := fzero hg
  obtain ⟨k, a, b, c, d, rs⟩ := f
  obtain ⟨k', a', b', c', d', rs'⟩ := g
  simp only at f1 f2 f3 f4 g1 g2 g3 g4 zf1 zf2 zf3 zg1 zg2 zg3
  unfold fraw fnums at h
  unfold fnums at vf vg
  simp only [vjoin_cons] at h
  rw [List.all_cons, Bool.and_eq_true] at vf vg
  obtain ⟨e, h⟩ := venc_cancel vf.1 vg.1 h
  subst e
  obtain ⟨_, vf⟩ := vf
  obtain ⟨_, vg⟩ := vg
  unfold ftail at h vf vg
  simp only at h vf vg
  have hk : k = 0 ∨ k = 1 ∨ k = 2 ∨ k = 3 ∨ k = 4 ∨ k = 5 ∨ k = 6 ∨ k = 7 ∨ k = 8 ∨ k = 9 ∨ k = 10 := by omega
  have nil1 : ∀ {xs : List UInt8}, xs = [] ∨ k = 3 ∨ k = 9 → k ≠ 3 → k ≠ 9 → xs = [] := fun h a b => by
    rcases h with h | h | h
    · exact h
    · exact absurd h a
    · exact absurd h b
  have nil2 : ∀ {xs : List (Int × Int)}, xs = [] ∨ k = 2 → k ≠ 2 → xs = [] := fun h a => h.resolve_right a
  have one : ∀ {x y : Int} {s t : List UInt8} {xs ys : List Int}, (x :: xs).all isVar = true → (y :: ys).all isVar = true → venc x ++ s = venc y ++ t → x = y ∧ s = t ∧ xs.all isVar = true ∧ ys.all isVar = true := by
    intro x y s t xs ys h1 h2 h3
    rw [List.all_cons, Bool.and_eq_true] at h1 h2
    obtain ⟨e1, e2⟩ := venc_cancel h1.1 h2.1 h3
    exact ⟨e1, e2, h1.2, h2.2⟩
  rcases hk with rfl | rfl | rfl | rfl | rfl | rfl | rfl | rfl | rfl | rfl | rfl
  · obtain rfl := nil1 f2 (by decide) (by decide)
    obtain rfl := nil1 g2 (by decide) (by decide)
    obtain rfl := nil2 f3 (by decide)
    obtain rfl := nil2 g3 (by decide)
    congr 1 <;> first | assumption | exact (zf1 (by simp [fmany])).trans (zg1 (by simp [fmany])).symm | exact (zf2 (by simp [fmany])).trans (zg2 (by simp [fmany])).symm | exact (zf3 (by simp [fmany])).trans (zg3 (by simp [fmany])).symm
  · obtain rfl := nil1 f2 (by decide) (by decide)
    obtain rfl := nil1 g2 (by decide) (by decide)
    obtain rfl := nil2 f3 (by decide)
    obtain rfl := nil2 g3 (by decide)
    congr 1 <;> first | assumption | exact (zf1 (by simp [fmany])).trans (zg1 (by simp [fmany])).symm | exact (zf2 (by simp [fmany])).trans (zg2 (by simp [fmany])).symm | exact (zf3 (by simp [fmany])).trans (zg3 (by simp [fmany])).symm
  · obtain rfl := nil1 f2 (by decide) (by decide)
    obtain rfl := nil1 g2 (by decide) (by decide)
    have h : vjoin (a :: (rs.length : Int) :: fdeltas (-2) rs) ++ [] = vjoin (a' :: (rs'.length : Int) :: fdeltas (-2) rs') ++ [] := h
    have vf' : (a :: (rs.length : Int) :: fdeltas (-2) rs).all isVar = true := vf
    have vg' : (a' :: (rs'.length : Int) :: fdeltas (-2) rs').all isVar = true := vg
    clear vf vg
    simp only [vjoin_cons] at h
    obtain ⟨e1, h, vf, vg⟩ := one vf' vg' h
    obtain ⟨e2, h, vf, vg⟩ := one vf vg h
    have hv : rvalid rs = true := (fvalid_ack hf rfl).2.1
    have hv' : rvalid rs' = true := (fvalid_ack hg rfl).2.1
    obtain ⟨e3, _⟩ := fdeltas_inj rs rs' (-2) _ _ (by omega) (rvalid_rv hv) (rvalid_rv hv') (by omega) h
    subst e3
    congr 1 <;> first | assumption | exact (zf1 (by simp [fmany])).trans (zg1 (by simp [fmany])).symm | exact (zf2 (by simp [fmany])).trans (zg2 (by simp [fmany])).symm | exact (zf3 (by simp [fmany])).trans (zg3 (by simp [fmany])).symm
  · obtain rfl := nil2 f3 (by decide)
    obtain rfl := nil2 g3 (by decide)
    have h : vjoin (a :: b :: c :: [(d.length : Int)]) ++ d = vjoin (a' :: b' :: c' :: [(d'.length : Int)]) ++ d' := h
    have vf' : (a :: b :: c :: [(d.length : Int)]).all isVar = true := vf
    have vg' : (a' :: b' :: c' :: [(d'.length : Int)]).all isVar = true := vg
    clear vf vg
    simp only [vjoin_cons] at h
    obtain ⟨e1, h, vf, vg⟩ := one vf' vg' h
    obtain ⟨e2, h, vf, vg⟩ := one vf vg h
    obtain ⟨e3, h, vf, vg⟩ := one vf vg h
    obtain ⟨e4, h, vf, vg⟩ := one vf vg h
    simp only [vjoin_nil, List.nil_append] at h
    subst h
    congr 1
  · obtain rfl := nil1 f2 (by decide) (by decide)
    obtain rfl := nil1 g2 (by decide) (by decide)
    obtain rfl := nil2 f3 (by decide)
    obtain rfl := nil2 g3 (by decide)
    have h : vjoin ([a, b]) ++ [] = vjoin ([a', b']) ++ [] := h
    have vf' : ([a, b]).all isVar = true := vf
    have vg' : ([a', b']).all isVar = true := vg
    clear vf vg
    simp only [vjoin_cons] at h
    obtain ⟨e1, h, vf, vg⟩ := one vf' vg' h
    obtain ⟨e2, h, vf, vg⟩ := one vf vg h
    congr 1; exact (zf1 (by simp [fmany])).trans (zg1 (by simp [fmany])).symm
  · obtain rfl := nil1 f2 (by decide) (by decide)
    obtain rfl := nil1 g2 (by decide) (by decide)
    obtain rfl := nil2 f3 (by decide)
    obtain rfl := nil2 g3 (by decide)
    have h : vjoin ([a]) ++ [] = vjoin ([a']) ++ [] := h
    have vf' : ([a]).all isVar = true := vf
    have vg' : ([a']).all isVar = true := vg
    clear vf vg
    simp only [vjoin_cons] at h
    obtain ⟨e1, h, vf, vg⟩ := one vf' vg' h
    congr 1 <;> first | assumption | exact (zf1 (by simp [fmany])).trans (zg1 (by simp [fmany])).symm | exact (zf2 (by simp [fmany])).trans (zg2 (by simp [fmany])).symm | exact (zf3 (by simp [fmany])).trans (zg3 (by simp [fmany])).symm
  · obtain rfl := nil1 f2 (by decide) (by decide)
    obtain rfl := nil1 g2 (by decide) (by decide)
    obtain rfl := nil2 f3 (by decide)
    obtain rfl := nil2 g3 (by decide)
    have h : vjoin ([a]) ++ [] = vjoin ([a']) ++ [] := h
    have vf' : ([a]).all isVar = true := vf
    have vg' : ([a']).all isVar = true := vg
    clear vf vg
    simp only [vjoin_cons] at h
    obtain ⟨e1, h, vf, vg⟩ := one vf' vg' h
    congr 1 <;> first | assumption | exact (zf1 (by simp [fmany])).trans (zg1 (by simp [fmany])).symm | exact (zf2 (by simp [fmany])).trans (zg2 (by simp [fmany])).symm | exact (zf3 (by simp [fmany])).trans (zg3 (by simp [fmany])).symm
  · obtain rfl := nil1 f2 (by decide) (by decide)
    obtain rfl := nil1 g2 (by decide) (by decide)
    obtain rfl := nil2 f3 (by decide)
    obtain rfl := nil2 g3 (by decide)
    have h : vjoin ([a, b]) ++ [] = vjoin ([a', b']) ++ [] := h
    have vf' : ([a, b]).all isVar = true := vf
    have vg' : ([a', b']).all isVar = true := vg
    clear vf vg
    simp only [vjoin_cons] at h
    obtain ⟨e1, h, vf, vg⟩ := one vf' vg' h
    obtain ⟨e2, h, vf, vg⟩ := one vf vg h
    congr 1; exact (zf1 (by simp [fmany])).trans (zg1 (by simp [fmany])).symm
  · obtain rfl := nil1 f2 (by decide) (by decide)
    obtain rfl := nil1 g2 (by decide) (by decide)
    obtain rfl := nil2 f3 (by decide)
    obtain rfl := nil2 g3 (by decide)
    have h : vjoin ([a]) ++ [] = vjoin ([a']) ++ [] := h
    have vf' : ([a]).all isVar = true := vf
    have vg' : ([a']).all isVar = true := vg
    clear vf vg
    simp only [vjoin_cons] at h
    obtain ⟨e1, h, vf, vg⟩ := one vf' vg' h
    congr 1 <;> first | assumption | exact (zf1 (by simp [fmany])).trans (zg1 (by simp [fmany])).symm | exact (zf2 (by simp [fmany])).trans (zg2 (by simp [fmany])).symm | exact (zf3 (by simp [fmany])).trans (zg3 (by simp [fmany])).symm
  · obtain rfl := nil2 f3 (by decide)
    obtain rfl := nil2 g3 (by decide)
    have h : vjoin ([(d.length : Int)]) ++ d = vjoin ([(d'.length : Int)]) ++ d' := h
    have vf' : ([(d.length : Int)]).all isVar = true := vf
    have vg' : ([(d'.length : Int)]).all isVar = true := vg
    clear vf vg
    simp only [vjoin_cons] at h
    obtain ⟨e1, h, vf, vg⟩ := one vf' vg' h
    simp only [vjoin_nil, List.nil_append] at h
    subst h
    congr 1 <;> first | assumption | exact (zf1 (by simp [fmany])).trans (zg1 (by simp [fmany])).symm | exact (zf2 (by simp [fmany])).trans (zg2 (by simp [fmany])).symm | exact (zf3 (by simp [fmany])).trans (zg3 (by simp [fmany])).symm
  · obtain rfl := nil1 f2 (by decide) (by decide)
    obtain rfl := nil1 g2 (by decide) (by decide)
    obtain rfl := nil2 f3 (by decide)
    obtain rfl := nil2 g3 (by decide)
    have h : vjoin ([a]) ++ [] = vjoin ([a']) ++ [] := h
    have vf' : ([a]).all isVar = true := vf
    have vg' : ([a']).all isVar = true := vg
    clear vf vg
    simp only [vjoin_cons] at h
    obtain ⟨e1, h, vf, vg⟩ := one vf' vg' h
    congr 1 <;> first | assumption | exact (zf1 (by simp [fmany])).trans (zg1 (by simp [fmany])).symm | exact (zf2 (by simp [fmany])).trans (zg2 (by simp [fmany])).symm | exact (zf3 (by simp [fmany])).trans (zg3 (by simp [fmany])).symm
theorem fenc_inj {f g : Fr} (h : fenc f = fenc g) (hf : fenc f ≠ []) : f = g := by
  have h1 : fvalid f = true := by
    cases e : fvalid f with
    | true => rfl
    | false => exact absurd (by unfold fenc; rw [e]; rfl) hf
  have h2 : fvalid g = true := by
    rw [h] at hf
    cases e : fvalid g with
    | true => rfl
    | false => exact absurd (by unfold fenc; rw [e]; rfl) hf
  unfold fenc at h
  rw [h1, h2] at h
  exact fraw_inj h1 h2 h
end Go.Proofs.Ytibnjbbiagjnjaa
