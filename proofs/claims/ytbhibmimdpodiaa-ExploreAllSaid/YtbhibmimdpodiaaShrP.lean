/- Plain lists: what is left without some entries, passes that take out what is not needed, and parts of a list. Plain lemmas, no condition. -/
import Derived.Test.YtbhibmimdpodiaaVoc
namespace Go.Proofs.Ytbhibmimdpodiaa
structure EntS where
  thr : Int
  beg : Bool
  op : Int
  key : Int
  val : Int
  hi : Int
  lim : Int
deriving DecidableEq

/-- A list without some: so many are left ahead, so many go. -/
def woL {α : Type} (l : List α) (f m : Nat) : List α := l.take f ++ l.drop (f + m)
def keepGo {α : Type} (f m : Int) : Nat → List α → List α
  | _, [] => []
  | i, x :: xs => if (i : Int) < f ∨ m ≤ (i : Int) - f then x :: keepGo f m (i + 1) xs else keepGo f m (i + 1) xs
theorem keepGo_eq {α : Type} {f m : Int} (hf : 0 ≤ f) : ∀ (l : List α) (i : Nat), keepGo f m i l = l.take (f.toNat - i) ++ l.drop ((f.toNat + m.toNat) - i)
  | [], i => by simp [keepGo]
  | x :: xs, i => by
    unfold keepGo
    rw [keepGo_eq hf xs (i + 1)]
    by_cases h1 : (i : Int) < f
    · rw [if_pos (.inl h1)]
      obtain ⟨a, ha⟩ : ∃ a, f.toNat - i = a + 1 := ⟨f.toNat - i - 1, by omega⟩
      obtain ⟨b, hb⟩ : ∃ b, f.toNat + m.toNat - i = b + 1 := ⟨f.toNat + m.toNat - i - 1, by omega⟩
      rw [ha, hb, show f.toNat - (i + 1) = a by omega, show f.toNat + m.toNat - (i + 1) = b by omega]
      rfl
    · by_cases h2 : m ≤ (i : Int) - f
      · rw [if_pos (.inr h2), show f.toNat - i = 0 by omega, show f.toNat + m.toNat - i = 0 by omega, show f.toNat - (i + 1) = 0 by omega, show f.toNat + m.toNat - (i + 1) = 0 by omega]
        rfl
      · rw [if_neg (by omega)]
        obtain ⟨b, hb⟩ : ∃ b, f.toNat + m.toNat - i = b + 1 := ⟨f.toNat + m.toNat - i - 1, by omega⟩
        rw [hb, show f.toNat - i = 0 by omega, show f.toNat - (i + 1) = 0 by omega, show f.toNat + m.toNat - (i + 1) = b by omega]
        rfl
/-- The bounds that the program takes. -/
def cutF (n : Nat) (f : Int) : Nat := (max 0 (min f n)).toNat
def cutM (n : Nat) (f m : Int) : Nat := (max 0 (min m (n - cutF n f))).toNat
theorem cutF_le (n : Nat) (f : Int) : cutF n f ≤ n := by unfold cutF; omega
theorem cutM_le (n : Nat) (f m : Int) : cutF n f + cutM n f m ≤ n := by have := cutF_le n f; unfold cutM; omega
theorem woL_keep {α : Type} (l : List α) (f m : Int) : woL l (cutF l.length f) (cutM l.length f m) = keepGo (if f < 0 then 0 else f) m 0 l := by
  have h0 : 0 ≤ (if f < 0 then 0 else f) := by split <;> omega
  rw [keepGo_eq h0, Nat.sub_zero, Nat.sub_zero]
  have hf : (if f < 0 then 0 else f).toNat = (max 0 f).toNat := by split <;> omega
  rw [hf]
  unfold woL
  have hle := cutF_le l.length f
  by_cases h : l.length ≤ (max 0 f).toNat
  · have e : cutF l.length f = l.length := by unfold cutF; omega
    rw [e, List.take_of_length_le (Nat.le_refl _), List.take_of_length_le h, List.drop_of_length_le (by omega), List.drop_of_length_le (by omega)]
  · have e : cutF l.length f = (max 0 f).toNat := by unfold cutF; omega
    rw [e]
    congr 1
    by_cases h2 : l.length ≤ (max 0 f).toNat + m.toNat
    · rw [List.drop_of_length_le h2, List.drop_of_length_le (by unfold cutM; omega)]
    · have : cutM l.length f m = m.toNat := by unfold cutM; omega
      rw [this]
theorem woL_len {α : Type} (l : List α) (f m : Nat) (h : f + m ≤ l.length) : (woL l f m).length = l.length - m := by
  simp [woL]; omega
theorem wo_le {α : Type} {l : List α} (f m : Nat) : (woL l f m).length ≤ l.length + l.length := by
  unfold woL
  simp
  omega
def cnt (t : Int) (l : List EntS) : Nat := l.countP (fun e => e.thr == t)
theorem cnt_le (t : Int) (l : List EntS) : cnt t l ≤ l.length := List.countP_le_length
def badB (n : Int × Int × Int) (l : List EntS) : Bool := decide (n.1 ≤ cnt 0 l) && decide (n.2.1 ≤ cnt 1 l) && decide (n.2.2 ≤ cnt 2 l)
/-- One pass, by what is left to do. -/
def passGo (b : List EntS → Bool) (size : Nat) : Nat → Nat → List EntS → Nat → Bool → List EntS × Nat × Bool
  | 0, _, l, k, any => (l, k, any)
  | f + 1, at_, l, k, any => if at_ < l.length then (if b (woL l (cutF l.length at_) (cutM l.length at_ size)) then passGo b size f at_ (woL l (cutF l.length at_) (cutM l.length at_ size)) (k + 1) true else passGo b size f (at_ + size) l (k + 1) any) else (l, k, any)
def pass (b : List EntS → Bool) (size : Nat) (l : List EntS) (k : Nat) : List EntS × Nat × Bool := passGo b size l.length 0 l k false
theorem passGo_end (b : List EntS → Bool) (size : Nat) {f at_ : Nat} {l : List EntS} {k : Nat} {any : Bool} (h : ¬ at_ < l.length) : passGo b size f at_ l k any = (l, k, any) := by
  cases f with
  | zero => rfl
  | succ f => simp only [passGo]; rw [if_neg h]
theorem wo_len {l : List EntS} {at_ size : Nat} (h : at_ < l.length) : (woL l (cutF l.length at_) (cutM l.length at_ size)).length = l.length - min size (l.length - at_) := by
  rw [woL_len _ _ _ (cutM_le _ _ _)]
  have : cutF l.length at_ = at_ := by unfold cutF; omega
  unfold cutM
  rw [this]
  omega
theorem passGo_yes (b : List EntS → Bool) (size : Nat) {f at_ : Nat} {l : List EntS} {k : Nat} {any : Bool} (hs : 0 < size) (h : at_ < l.length) (hf : l.length - at_ ≤ f) (hb : b (woL l (cutF l.length at_) (cutM l.length at_ size)) = true) :
    ∃ g, passGo b size f at_ l k any = passGo b size g at_ (woL l (cutF l.length at_) (cutM l.length at_ size)) (k + 1) true ∧ (woL l (cutF l.length at_) (cutM l.length at_ size)).length - at_ ≤ g ∧ g + 1 = f := by
  obtain ⟨g, rfl⟩ : ∃ g, f = g + 1 := ⟨f - 1, by omega⟩
  refine ⟨g, by simp only [passGo]; rw [if_pos h, if_pos hb], ?_, rfl⟩
  rw [wo_len h]
  omega
theorem passGo_no (b : List EntS → Bool) (size : Nat) {f at_ : Nat} {l : List EntS} {k : Nat} {any : Bool} (hs : 0 < size) (h : at_ < l.length) (hf : l.length - at_ ≤ f) (hb : b (woL l (cutF l.length at_) (cutM l.length at_ size)) = false) :
    ∃ g, passGo b size f at_ l k any = passGo b size g (at_ + size) l (k + 1) any ∧ l.length - (at_ + size) ≤ g ∧ g + 1 = f := by
  obtain ⟨g, rfl⟩ : ∃ g, f = g + 1 := ⟨f - 1, by omega⟩
  refine ⟨g, by simp only [passGo]; rw [if_pos h, hb]; rfl, by omega, rfl⟩
theorem passGo_len (b : List EntS → Bool) (size : Nat) : ∀ (f at_ : Nat) (l : List EntS) (k : Nat) (any : Bool), (passGo b size f at_ l k any).1.length ≤ l.length ∧ (passGo b size f at_ l k any).2.1 ≤ k + f
  | 0, _, l, k, _ => ⟨Nat.le_refl _, Nat.le_refl _⟩
  | f + 1, at_, l, k, any => by
    unfold passGo
    split
    · rename_i h
      split
      · have := passGo_len b size f at_ (woL l (cutF l.length at_) (cutM l.length at_ size)) (k + 1) true
        rw [wo_len h] at this
        exact ⟨by omega, by omega⟩
      · have := passGo_len b size f (at_ + size) l (k + 1) any
        exact ⟨by omega, by omega⟩
    · exact ⟨Nat.le_refl _, by show k ≤ _; omega⟩
theorem passGo_less (b : List EntS → Bool) (size : Nat) (hs : 0 < size) : ∀ (f at_ : Nat) (l : List EntS) (k : Nat), (passGo b size f at_ l k false).2.2 = true → (passGo b size f at_ l k false).1.length < l.length
  | 0, _, l, k, h => by simp [passGo] at h
  | f + 1, at_, l, k, h => by
    unfold passGo at h ⊢
    split
    · rename_i h1
      rw [if_pos h1] at h
      split
      · rename_i h2
        have := (passGo_len b size f at_ (woL l (cutF l.length at_) (cutM l.length at_ size)) (k + 1) true).1
        rw [wo_len h1] at this
        omega
      · rename_i h2
        rw [if_neg h2] at h
        exact passGo_less b size hs f (at_ + size) l (k + 1) h
    · rename_i h1
      rw [if_neg h1] at h
      cases h
/-- Passes of less and less at a time. -/
def sizesGo (b : List EntS → Bool) : Nat → Nat → List EntS → Nat → List EntS × Nat
  | 0, _, l, k => (l, k)
  | f + 1, size, l, k => if 1 < size then sizesGo b f (size / 2) (pass b size l k).1 (pass b size l k).2.1 else (l, k)
/-- Passes of one at a time, till nothing goes. -/
def onesGo (b : List EntS → Bool) : Nat → List EntS → Nat → List EntS × Nat
  | 0, l, k => (l, k)
  | f + 1, l, k => if (pass b 1 l k).2.2 = true then onesGo b f (pass b 1 l k).1 (pass b 1 l k).2.1 else ((pass b 1 l k).1, (pass b 1 l k).2.1)
theorem sizes_step (b : List EntS → Bool) {f size : Nat} {l : List EntS} {k : Nat} (h : 1 < size) (hf : size ≤ f) : sizesGo b f size l k = sizesGo b (f - 1) (size / 2) (pass b size l k).1 (pass b size l k).2.1 ∧ size / 2 ≤ f - 1 ∧ 0 < f := by
  obtain ⟨g, rfl⟩ : ∃ g, f = g + 1 := ⟨f - 1, by omega⟩
  exact ⟨by simp only [sizesGo, Nat.add_sub_cancel]; rw [if_pos h], by omega, by omega⟩
theorem sizes_end (b : List EntS → Bool) {f size : Nat} {l : List EntS} {k : Nat} (h : ¬ 1 < size) : sizesGo b f size l k = (l, k) := by
  cases f with
  | zero => rfl
  | succ f => simp only [sizesGo]; rw [if_neg h]
theorem pass_len (b : List EntS → Bool) (size : Nat) (l : List EntS) (k : Nat) : (pass b size l k).1.length ≤ l.length ∧ (pass b size l k).2.1 ≤ k + l.length := passGo_len b size l.length 0 l k false
theorem ones_yes (b : List EntS → Bool) {f : Nat} {l : List EntS} {k : Nat} (hf : l.length + 1 ≤ f) (h : (pass b 1 l k).2.2 = true) : onesGo b f l k = onesGo b (f - 1) (pass b 1 l k).1 (pass b 1 l k).2.1 ∧ (pass b 1 l k).1.length + 1 ≤ f - 1 ∧ 0 < f := by
  obtain ⟨g, rfl⟩ : ∃ g, f = g + 1 := ⟨f - 1, by omega⟩
  have := passGo_less b 1 (by omega) l.length 0 l k h
  exact ⟨by simp only [onesGo, Nat.add_sub_cancel]; rw [if_pos h], by unfold pass; omega, by omega⟩
theorem ones_no (b : List EntS → Bool) {f : Nat} {l : List EntS} {k : Nat} (hf : l.length + 1 ≤ f) (h : (pass b 1 l k).2.2 = false) : onesGo b f l k = ((pass b 1 l k).1, (pass b 1 l k).2.1) := by
  obtain ⟨g, rfl⟩ : ∃ g, f = g + 1 := ⟨f - 1, by omega⟩
  simp only [onesGo]
  rw [if_neg (by rw [h]; decide)]
def leastL (b : List EntS → Bool) (l : List EntS) : List EntS × Nat :=
  if b l = false then (l, 1) else if l.length = 0 then (l, 1) else onesGo b (l.length + 1) (sizesGo b (l.length / 2) (l.length / 2) l 1).1 (sizesGo b (l.length / 2) (l.length / 2) l 1).2
section
variable {α : Type} [BEq α] [LawfulBEq α]
/-- Front to back: what is left of a list when another one is gone through. -/
def eatL (a : List α) : List α → List α
  | [] => a
  | e :: b => eatL (if a.head? == some e then a.tail else a) b
omit [LawfulBEq α] in
theorem eatL_nil : ∀ b : List α, eatL [] b = []
  | [] => rfl
  | e :: b => by
    unfold eatL
    rw [if_neg (by simp)]
    exact eatL_nil b
theorem eatL_sub : ∀ (b a : List α), (eatL a b).isEmpty = a.isSublist b
  | [], a => by cases a <;> rfl
  | e :: b, [] => by rw [eatL_nil]; simp [List.isSublist]
  | e :: b, x :: a => by
    unfold eatL List.isSublist
    by_cases h : x = e
    · subst h
      simp
      exact eatL_sub b a
    · rw [if_neg (by simp; exact h), eatL_sub b (x :: a)]
      simp [h]
theorem sub_rev (a b : List α) : a.reverse.isSublist b.reverse = a.isSublist b := by
  rw [Bool.eq_iff_iff, List.isSublist_iff_sublist, List.isSublist_iff_sublist]
  exact List.reverse_sublist
theorem wo_sub (l : List α) (f m : Nat) : (woL l f m).isSublist l = true := by
  rw [List.isSublist_iff_sublist]
  unfold woL
  have h : (l.take f ++ l.drop (f + m)).Sublist (l.take f ++ l.drop f) := by
    refine List.Sublist.append (List.Sublist.refl _) ?_
    rw [← List.drop_drop]
    exact List.drop_sublist _ _
  rwa [List.take_append_drop] at h
/-- Back to front: at is where it goes on, how many of the other one are left. -/
def backL (a b : List α) : Bool := a.reverse.isSublist b.reverse
end
end Go.Proofs.Ytbhibmimdpodiaa
