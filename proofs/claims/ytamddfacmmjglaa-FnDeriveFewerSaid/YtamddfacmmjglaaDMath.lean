/- The plain law of what can be derived from known atoms and sealed boxes. No program in sight. No condition beyond those in each theorem. -/
namespace Go.Proofs.Ytamddfacmmjglaa
set_option linter.unusedVariables false
structure Bx where
  key : Int
  ins : List Int
def isAtom (x : Int) : Bool := decide (1 ≤ x) && decide (x ≤ 20)
def boxOk (b : Bx) : Bool := isAtom b.key && (decide (1 ≤ b.ins.length) && decide (b.ins.length ≤ 4)) && b.ins.all isAtom
def bvalid (bs : List Bx) : Bool := decide (bs.length ≤ 10) && bs.all boxOk
def kvalid (ks : List Int) : Bool := decide (ks.length ≤ 20) && ks.all isAtom
def put (m : Nat) (x : Int) : Nat := m ||| 2 ^ x.toNat
def boxStep (m : Nat) (b : Bx) : Nat := if m.testBit b.key.toNat then b.ins.foldl put m else m
def round (bs : List Bx) (m : Nat) : Nat := bs.foldl boxStep m
def startOf (ks : List Int) : Nat := ks.foldl put 0
def iter (bs : List Bx) : Nat → Nat → Nat
  | 0, m => m
  | n + 1, m => round bs (iter bs n m)
def Sub (m c : Nat) : Prop := ∀ i, m.testBit i = true → c.testBit i = true
def Closed (bs : List Bx) (m : Nat) : Prop := ∀ b ∈ bs, m.testBit b.key.toNat = true → ∀ x ∈ b.ins, m.testBit x.toNat = true
theorem isAtom_iff (x : Int) : isAtom x = true ↔ 1 ≤ x ∧ x ≤ 20 := by unfold isAtom; simp
theorem put_bit (m : Nat) (x : Int) (i : Nat) : (put m x).testBit i = true ↔ m.testBit i = true ∨ x.toNat = i := by
  unfold put
  rw [Nat.testBit_or, Nat.testBit_two_pow, Bool.or_eq_true, decide_eq_true_eq]
theorem puts_bit (xs : List Int) : ∀ (m i : Nat), (xs.foldl put m).testBit i = true ↔ m.testBit i = true ∨ ∃ x ∈ xs, x.toNat = i := by
  induction xs with
  | nil => intro m i; simp
  | cons x xs ih =>
    intro m i
    rw [List.foldl_cons, ih, put_bit]
    simp only [List.mem_cons, exists_eq_or_imp, or_assoc]
theorem sub_refl (m : Nat) : Sub m m := fun _ h => h
theorem Sub.trans {a b c : Nat} (h : Sub a b) (k : Sub b c) : Sub a c := fun i x => k i (h i x)
theorem sub_anti {a b : Nat} (h : Sub a b) (k : Sub b a) : a = b := by
  apply Nat.eq_of_testBit_eq
  intro i
  rw [Bool.eq_iff_iff]
  exact ⟨h i, k i⟩
theorem puts_sub (xs : List Int) (m : Nat) : Sub m (xs.foldl put m) := fun i h => (puts_bit xs m i).2 (.inl h)
theorem step_sub (m : Nat) (b : Bx) : Sub m (boxStep m b) := by
  unfold boxStep; split
  · exact puts_sub _ _
  · exact sub_refl _
theorem round_sub (bs : List Bx) : ∀ m, Sub m (round bs m) := by
  induction bs with
  | nil => intro m; exact sub_refl _
  | cons b bs ih => intro m; exact (step_sub m b).trans (ih _)
theorem step_least {m c : Nat} {b : Bx} (h : Sub m c) (hc : c.testBit b.key.toNat = true → ∀ x ∈ b.ins, c.testBit x.toNat = true) : Sub (boxStep m b) c := by
  unfold boxStep; split
  · rename_i hk
    intro i hi
    rcases (puts_bit _ _ _).1 hi with h1 | ⟨x, hx, rfl⟩
    · exact h i h1
    · exact hc (h _ hk) x hx
  · exact h
theorem round_least (bs : List Bx) : ∀ {m c : Nat}, Sub m c → Closed bs c → Sub (round bs m) c := by
  induction bs with
  | nil => intro m c h _; exact h
  | cons b bs ih =>
    intro m c h hc
    exact ih (step_least h (hc b (List.mem_cons_self ..))) fun b' hb => hc b' (List.mem_cons_of_mem _ hb)
theorem iter_least {bs : List Bx} {m c : Nat} (h : Sub m c) (hc : Closed bs c) : ∀ n, Sub (iter bs n m) c
  | 0 => h
  | n + 1 => round_least bs (iter_least h hc n) hc
theorem iter_sub (bs : List Bx) (m : Nat) : ∀ n, Sub m (iter bs n m)
  | 0 => sub_refl _
  | n + 1 => (iter_sub bs m n).trans (round_sub bs _)
theorem round_takes (bs : List Bx) : ∀ (m : Nat) (b : Bx), b ∈ bs → m.testBit b.key.toNat = true → ∀ x ∈ b.ins, (round bs m).testBit x.toNat = true := by
  induction bs with
  | nil => intro m b h; cases h
  | cons c bs ih =>
    intro m b hb hk x hx
    rcases List.mem_cons.1 hb with rfl | hb
    · have h1 : (boxStep m b).testBit x.toNat = true := by
        unfold boxStep; rw [if_pos hk]
        exact (puts_bit _ _ _).2 (.inr ⟨x, hx, rfl⟩)
      exact round_sub bs _ _ h1
    · exact ih (boxStep m c) b hb (step_sub m c _ hk) x hx
theorem round_closed {bs : List Bx} {m : Nat} (h : round bs m = m) : Closed bs m := fun b hb hk x hx => by
  have := round_takes bs m b hb hk x hx
  rw [h] at this; exact this
theorem closed_round {bs : List Bx} {m : Nat} (h : Closed bs m) : round bs m = m := sub_anti (round_least bs (sub_refl m) h) (round_sub bs m)
/-- How many boxes are open. -/
def opened (bs : List Bx) (m : Nat) : Nat := (bs.filter fun b => m.testBit b.key.toNat).length
theorem opened_le (bs : List Bx) (m : Nat) : opened bs m ≤ bs.length := List.length_filter_le _ _
theorem opened_mono (bs : List Bx) {m c : Nat} (h : Sub m c) : opened bs m ≤ opened bs c := by
  induction bs with
  | nil => exact Nat.le_refl _
  | cons b bs ih =>
    unfold opened at ih ⊢
    simp only [List.filter_cons]
    by_cases h1 : m.testBit b.key.toNat = true
    · rw [if_pos h1, if_pos (h _ h1)]; simp only [List.length_cons]; omega
    · rw [if_neg h1]; split
      · simp only [List.length_cons]; omega
      · exact ih
theorem opened_lt (bs : List Bx) {m c : Nat} (h : Sub m c) (b : Bx) (hb : b ∈ bs) (h1 : ¬ m.testBit b.key.toNat = true) (h2 : c.testBit b.key.toNat = true) : opened bs m < opened bs c := by
  induction bs with
  | nil => cases hb
  | cons d bs ih =>
    have hm := opened_mono bs h
    unfold opened at ih hm ⊢
    simp only [List.filter_cons]
    rcases List.mem_cons.1 hb with rfl | hb
    · rw [if_neg h1, if_pos h2]; simp only [List.length_cons]; omega
    · have := ih hb
      by_cases h3 : m.testBit d.key.toNat = true
      · rw [if_pos h3, if_pos (h _ h3)]; simp only [List.length_cons]; omega
      · rw [if_neg h3]; split
        · simp only [List.length_cons]; omega
        · exact this
theorem closed_or_more {bs : List Bx} {m : Nat} : Closed bs (round bs m) ∨ opened bs m < opened bs (round bs m) := by
  by_cases h : ∀ b ∈ bs, (round bs m).testBit b.key.toNat = true → m.testBit b.key.toNat = true
  · exact .inl fun b hb hk x hx => round_takes bs m b hb (h b hb hk) x hx
  · refine .inr ?_
    simp only [Classical.not_forall] at h
    obtain ⟨b, hb, h1, h2⟩ := h
    exact opened_lt bs (round_sub bs m) b hb h2 h1
theorem iter_grows (bs : List Bx) (m : Nat) : ∀ n, Closed bs (iter bs n m) ∨ n ≤ opened bs (iter bs n m)
  | 0 => .inr (Nat.zero_le _)
  | n + 1 => by
    show Closed bs (round bs (iter bs n m)) ∨ n + 1 ≤ opened bs (round bs (iter bs n m))
    rcases iter_grows bs m n with h | h
    · rw [closed_round h]; exact .inl h
    · rcases closed_or_more (bs := bs) (m := iter bs n m) with h1 | h1
      · exact .inl h1
      · exact .inr (by omega)
theorem iter_closed (bs : List Bx) (m : Nat) : Closed bs (iter bs (bs.length + 1) m) := by
  rcases iter_grows bs m (bs.length + 1) with h | h
  · exact h
  · have := opened_le bs (iter bs (bs.length + 1) m); omega
/-- What can be derived. -/
def der (bs : List Bx) (ks : List Int) : Nat := iter bs (bs.length + 1) (startOf ks)
theorem der_closed (bs : List Bx) (ks : List Int) : Closed bs (der bs ks) := iter_closed _ _
theorem der_sub (bs : List Bx) (ks : List Int) : Sub (startOf ks) (der bs ks) := iter_sub _ _ _
theorem der_least {bs : List Bx} {ks : List Int} {c : Nat} (h : Sub (startOf ks) c) (hc : Closed bs c) : Sub (der bs ks) c := iter_least h hc _
theorem der_is {bs : List Bx} {ks : List Int} {r : Nat} (hc : Closed bs r) (h1 : Sub (startOf ks) r) (h2 : ∀ c, Sub (startOf ks) c → Closed bs c → Sub r c) : r = der bs ks :=
  sub_anti (h2 _ (der_sub bs ks) (der_closed bs ks)) (der_least h1 hc)
theorem start_bit (ks : List Int) (i : Nat) : (startOf ks).testBit i = true ↔ ∃ x ∈ ks, x.toNat = i := by
  unfold startOf; rw [puts_bit]; simp
/-- The atoms of a set, ascending. -/
def dlist (m : Nat) : List Int := ((List.range 20).map fun (i : Nat) => (i : Int) + 1).filter fun x => m.testBit x.toNat
theorem mem_dlist (m : Nat) (x : Int) : x ∈ dlist m ↔ (1 ≤ x ∧ x ≤ 20) ∧ m.testBit x.toNat = true := by
  unfold dlist
  rw [List.mem_filter, List.mem_map]
  constructor
  · rintro ⟨⟨i, hi, rfl⟩, h⟩
    have := List.mem_range.1 hi
    exact ⟨by omega, h⟩
  · rintro ⟨h1, h2⟩
    exact ⟨⟨(x - 1).toNat, List.mem_range.2 (by omega), by omega⟩, h2⟩
theorem dlist_len (m : Nat) : (dlist m).length ≤ 20 := by
  have := List.length_filter_le (fun x : Int => m.testBit x.toNat) ((List.range 20).map fun (i : Nat) => (i : Int) + 1)
  unfold dlist; simpa using this
def dout (bs : List Bx) (ks : List Int) : List Int := if bvalid bs && kvalid ks then dlist (der bs ks) else []
theorem kvalid_atom {ks : List Int} (h : kvalid ks = true) {x : Int} (hx : x ∈ ks) : 1 ≤ x ∧ x ≤ 20 := by
  unfold kvalid at h
  rw [Bool.and_eq_true, List.all_eq_true] at h
  exact (isAtom_iff x).1 (h.2 x hx)
theorem bvalid_box {bs : List Bx} (h : bvalid bs = true) {b : Bx} (hb : b ∈ bs) : (1 ≤ b.key ∧ b.key ≤ 20) ∧ (1 ≤ b.ins.length ∧ b.ins.length ≤ 4) ∧ ∀ x ∈ b.ins, 1 ≤ x ∧ x ≤ 20 := by
  unfold bvalid at h
  rw [Bool.and_eq_true, List.all_eq_true] at h
  have := h.2 b hb
  unfold boxOk at this
  rw [Bool.and_eq_true, Bool.and_eq_true, Bool.and_eq_true, decide_eq_true_eq, decide_eq_true_eq, List.all_eq_true] at this
  exact ⟨(isAtom_iff _).1 this.1.1, this.1.2, fun x hx => (isAtom_iff x).1 (this.2 x hx)⟩
theorem dout_some {bs : List Bx} {ks : List Int} (h : 0 < (dout bs ks).length) : bvalid bs = true ∧ kvalid ks = true ∧ dout bs ks = dlist (der bs ks) := by
  unfold dout at h ⊢
  split at h
  · rename_i hc
    have := Bool.and_eq_true _ _ ▸ hc
    exact ⟨(Bool.and_eq_true_iff.1 hc).1, (Bool.and_eq_true_iff.1 hc).2, by rw [if_pos hc]⟩
  · simp at h
/-! ### the laws -/
theorem known_out {bs : List Bx} {ks : List Int} (h : 0 < (dout bs ks).length) {x : Int} (hx : x ∈ ks) : x ∈ dout bs ks := by
  obtain ⟨h1, h2, h3⟩ := dout_some h
  rw [h3, mem_dlist]
  exact ⟨kvalid_atom h2 hx, der_sub _ _ _ ((start_bit _ _).2 ⟨x, hx, rfl⟩)⟩
theorem open_out {bs : List Bx} {ks : List Int} (h : 0 < (dout bs ks).length) {b : Bx} (hb : b ∈ bs) (hk : b.key ∈ dout bs ks) {x : Int} (hx : x ∈ b.ins) : x ∈ dout bs ks := by
  obtain ⟨h1, h2, h3⟩ := dout_some h
  rw [h3, mem_dlist] at hk ⊢
  exact ⟨(bvalid_box h1 hb).2.2 x hx, der_closed _ _ b hb hk.2 x hx⟩
theorem closed_keys {bs : List Bx} {ks : List Int} (h : 0 < (dout bs ks).length) (hk : ∀ b ∈ bs, ¬ b.key ∈ ks) {x : Int} (hx : x ∈ dout bs ks) : x ∈ ks := by
  obtain ⟨h1, h2, h3⟩ := dout_some h
  rw [h3, mem_dlist] at hx
  have hc : Closed bs (startOf ks) := fun b hb hkk => by
    obtain ⟨y, hy, he⟩ := (start_bit _ _).1 hkk
    have a1 := kvalid_atom h2 hy
    have a2 := (bvalid_box h1 hb).1
    have : y = b.key := by omega
    exact absurd (this ▸ hy) (hk b hb)
  obtain ⟨y, hy, he⟩ := (start_bit _ _).1 (der_least (sub_refl _) hc _ hx.2)
  have a1 := kvalid_atom h2 hy
  have : y = x := by omega
  exact this ▸ hy
theorem fewer_out {bs ls : List Bx} {ks : List Int} (hs : ∀ b ∈ ls, b ∈ bs) (hv : bvalid bs = true) {x : Int} (hx : x ∈ dout ls ks) : x ∈ dout bs ks := by
  obtain ⟨h1, h2, h3⟩ := dout_some (List.length_pos_of_mem hx)
  have e : dout bs ks = dlist (der bs ks) := by unfold dout; rw [hv, h2]; rfl
  rw [h3, mem_dlist] at hx
  rw [e, mem_dlist]
  exact ⟨hx.1, der_least (der_sub bs ks) (fun b hb => der_closed bs ks b (hs b hb)) _ hx.2⟩
theorem dlist_start {m : Nat} (h : ∀ i, m.testBit i = true → 1 ≤ i ∧ i ≤ 20) : startOf (dlist m) = m := by
  refine sub_anti (fun i hi => ?_) (fun i hi => ?_)
  · obtain ⟨x, hx, rfl⟩ := (start_bit _ _).1 hi
    exact ((mem_dlist _ _).1 hx).2
  · have := h i hi
    exact (start_bit _ _).2 ⟨(i : Int), (mem_dlist _ _).2 ⟨by omega, by simpa using hi⟩, by omega⟩
theorem der_atoms {bs : List Bx} {ks : List Int} (h1 : bvalid bs = true) (h2 : kvalid ks = true) : ∀ i, (der bs ks).testBit i = true → 1 ≤ i ∧ i ≤ 20 := by
  let c := startOf ((List.range 20).map fun (i : Nat) => (i : Int) + 1)
  have hb : ∀ i, c.testBit i = true ↔ 1 ≤ i ∧ i ≤ 20 := by
    intro i
    rw [start_bit]
    constructor
    · rintro ⟨x, hx, rfl⟩
      obtain ⟨j, hj, rfl⟩ := List.mem_map.1 hx
      have := List.mem_range.1 hj
      omega
    · intro h
      exact ⟨(i : Int), List.mem_map.2 ⟨i - 1, List.mem_range.2 (by omega), by omega⟩, by omega⟩
  intro i hi
  refine (hb i).1 (der_least (fun j hj => ?_) (fun b hb' _ x hx => ?_) i hi)
  · obtain ⟨x, hx, rfl⟩ := (start_bit _ _).1 hj
    have := kvalid_atom h2 hx
    exact (hb _).2 (by omega)
  · have := (bvalid_box h1 hb').2.2 x hx
    exact (hb _).2 (by omega)
theorem again_out {bs : List Bx} {ks : List Int} (h : 0 < (dout bs ks).length) : dout bs (dout bs ks) = dout bs ks := by
  obtain ⟨h1, h2, h3⟩ := dout_some h
  have hk : kvalid (dout bs ks) = true := by
    rw [h3]
    unfold kvalid
    rw [Bool.and_eq_true, decide_eq_true_eq, List.all_eq_true]
    exact ⟨dlist_len _, fun x hx => (isAtom_iff x).2 ((mem_dlist _ _).1 hx).1⟩
  have e : startOf (dout bs ks) = der bs ks := by rw [h3]; exact dlist_start (der_atoms h1 h2)
  have e2 : der bs (dout bs ks) = der bs ks := (der_is (r := der bs ks) (der_closed bs ks) (by rw [e]; exact sub_refl _) (fun c hc _ => by rw [e] at hc; exact hc)).symm
  have e3 : dout bs (dout bs ks) = dlist (der bs (dout bs ks)) := by
    show (if bvalid bs && kvalid (dout bs ks) then dlist (der bs (dout bs ks)) else []) = _
    rw [h1, hk]; rfl
  rw [e3, e2, h3]
theorem order_out {bs : List Bx} {ks : List Int} : dout bs.reverse ks = dout bs ks := by
  have e : bvalid bs.reverse = bvalid bs := by unfold bvalid; rw [List.length_reverse, List.all_reverse]
  have e2 : der bs.reverse ks = der bs ks := der_is (fun b hb => der_closed bs.reverse ks b (List.mem_reverse.2 hb)) (der_sub _ _) (fun c h1 h2 => der_least h1 (fun b hb => h2 b (List.mem_reverse.1 hb)))
  unfold dout
  rw [e, e2]
end Go.Proofs.Ytamddfacmmjglaa
