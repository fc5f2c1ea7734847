/- Histories: how many are open; sums. Plain lemmas, no condition. -/
import Derived.Test.YtofmonknhiggaaaStP
namespace Go.Proofs.Ytofmonknhiggaaa

theorem take_snoc {l : List EvS} {j : Nat} (h : j < l.length) : l.take (j + 1) = l.take j ++ [l.getD j ev0] := by
  rw [List.take_succ_eq_append_getElem h, List.getD_eq_getElem?_getD, List.getElem?_eq_getElem h]
  rfl
theorem LastOk.all {l : List EvS} : ∀ n, n ≤ l.length → MayP l n → ∃ last, LastOk (l.take n) last
  | 0, _, _ => ⟨_, by rw [List.take_zero]; exact LastOk.start⟩
  | n + 1, hn, h => by
    obtain ⟨last, hl⟩ := LastOk.all n (by omega) (fun i hi => h i (by omega))
    have hm := h n (by omega)
    rw [take_snoc (by omega)]
    cases hb : (l.getD n ev0).back with
    | false =>
      obtain ⟨t, _, _, _, h2⟩ := hl.begin_ hm hb
      exact ⟨_, h2⟩
    | true =>
      obtain ⟨t, _, _, _, _, h2⟩ := hl.back_ hm hb
      exact ⟨_, h2⟩
def runC (l : List EvS) : Int := l.foldl (fun c e => if e.back = true then c - 1 else c + 1) 0
theorem runC_snoc (l : List EvS) (e : EvS) : runC (l ++ [e]) = if e.back = true then runC l - 1 else runC l + 1 := by
  unfold runC
  rw [List.foldl_append]
  rfl
def isOpen (o : OpS) : Bool := decide (o.to < 0)
theorem open_run {l : List EvS} : ∀ n, n ≤ l.length → MayP l n → ((opersR (l.take n) 0).countP isOpen : Int) = runC (l.take n)
  | 0, _, _ => by simp [opersR, runC]
  | n + 1, hn, h => by
    have ih := open_run n (by omega) (fun i hi => h i (by omega))
    obtain ⟨last, hl⟩ := LastOk.all n (by omega) (fun i hi => h i (by omega))
    have hm := h n (by omega)
    rw [take_snoc (by omega), runC_snoc]
    cases hb : (l.getD n ev0).back with
    | false =>
      obtain ⟨t, _, _, h1, _⟩ := hl.begin_ hm hb
      rw [h1, List.countP_append, if_neg (by simp)]
      have : isOpen (mkOp (l.getD n ev0) (l.take n).length none) = true := by simp [isOpen, mkOp]
      simp only [List.countP_cons, List.countP_nil, this, if_true]
      omega
    | true =>
      obtain ⟨t, ht, ht6, h1, h2, h3⟩ := hl.back_ hm hb
      have hm2 := hm
      simp only [mayE, Bool.and_eq_true, hb, ht] at hm2
      have hodd : cntT (t : Int) (l.take n) % 2 = 1 := by
        have := hm2.2
        rw [beq_iff_eq] at this
        have := this.symm
        rw [beq_iff_eq] at this
        exact this
      have h4 := ((hl.odd t ht6 hodd).2 _ h1).2 rfl
      simp only [opn, Bool.and_eq_true, decide_eq_true_eq] at h4
      rw [h2, if_pos rfl, List.countP_set h1]
      have e1 : isOpen (opersR (l.take n) 0)[last.getD t 0] = true := by
        have h5 := h4.1
        rw [List.getD_eq_getElem?_getD, List.getElem?_eq_getElem h1] at h5
        simpa [isOpen] using h5
      have e2 : isOpen (closeE (l.getD n ev0) (l.take n).length ((opersR (l.take n) 0).getD (last.getD t 0) op0)) = false := by
        unfold isOpen closeE
        exact decide_eq_false (by simp only []; omega)
      have e3 : 0 < (opersR (l.take n) 0).countP isOpen := List.countP_pos_iff.2 ⟨_, List.getElem_mem h1, e1⟩
      rw [if_pos e1, e2, if_neg (by simp)]
      omega
theorem nextBack_app (t : Int) (b : List EvS) : ∀ (a : List EvS) (i : Nat), nextBack t (a ++ b) i = match nextBack t a i with
    | some z => some z
    | none => nextBack t b (i + a.length)
  | [], i => by simp [nextBack]
  | x :: a, i => by
    show (if x.thr = t ∧ x.back = true then some (i, x) else nextBack t (a ++ b) (i + 1)) = match (if x.thr = t ∧ x.back = true then some (i, x) else nextBack t a (i + 1)) with
      | some z => some z
      | none => _
    by_cases h : x.thr = t ∧ x.back = true
    · rw [if_pos h, if_pos h]
    · rw [if_neg h, if_neg h, nextBack_app t b a (i + 1)]
      rw [show i + 1 + a.length = i + (x :: a).length by simp; omega]
theorem nextBack_le (t : Int) : ∀ (a : List EvS) (i k : Nat) (y : EvS), nextBack t a i = some (k, y) → i ≤ k ∧ k < i + a.length
  | [], i, k, y, h => by cases h
  | x :: a, i, k, y, h => by
    have h' : (if x.thr = t ∧ x.back = true then some (i, x) else nextBack t a (i + 1)) = some (k, y) := h
    by_cases hc : x.thr = t ∧ x.back = true
    · rw [if_pos hc] at h'
      injection h' with h'
      injection h' with h1 h2
      simp
      omega
    · rw [if_neg hc] at h'
      have := nextBack_le t a (i + 1) k y h'
      simp
      omega
theorem opersR_frm : ∀ (l : List EvS) (i : Nat), ∀ o ∈ opersR l i, (i : Int) ≤ o.frm
  | [], i, o, h => by cases h
  | x :: l, i, o, h => by
    have h' : o ∈ (if x.back = true then opersR l (i + 1) else mkOp x i (nextBack x.thr l (i + 1)) :: opersR l (i + 1)) := h
    by_cases hb : x.back = true
    · rw [if_pos hb] at h'
      have := opersR_frm l (i + 1) o h'
      omega
    · rw [if_neg hb] at h'
      rcases List.mem_cons.1 h' with rfl | h'
      · rw [mkOp_frm]
        omega
      · have := opersR_frm l (i + 1) o h'
        omega
def inAt (j : Nat) (o : OpS) : Bool := decide (o.frm ≤ (j : Int)) && (decide (o.to < 0) || decide ((j : Int) < o.to))
theorem inAt_open (b : List EvS) (j : Nat) : ∀ (a : List EvS) (i : Nat), i + a.length = j + 1 → (opersR (a ++ b) i).countP (inAt j) = (opersR a i).countP isOpen
  | [], i, h => by
    have hi : i = j + 1 := by simpa using h
    show (opersR b i).countP (inAt j) = 0
    rw [List.countP_eq_zero]
    intro o ho
    have := opersR_frm b i o ho
    have hn : ¬ o.frm ≤ (j : Int) := by omega
    simp [inAt, hn]
  | x :: a, i, h => by
    have h1 : i + 1 + a.length = j + 1 := by simp at h; omega
    have ih := inAt_open b j a (i + 1) h1
    show (if x.back = true then opersR (a ++ b) (i + 1) else mkOp x i (nextBack x.thr (a ++ b) (i + 1)) :: opersR (a ++ b) (i + 1)).countP (inAt j) = (if x.back = true then opersR a (i + 1) else mkOp x i (nextBack x.thr a (i + 1)) :: opersR a (i + 1)).countP isOpen
    by_cases hb : x.back = true
    · rw [if_pos hb, if_pos hb]
      exact ih
    · rw [if_neg hb, if_neg hb, List.countP_cons, List.countP_cons, ih]
      have hij : (i : Int) ≤ (j : Int) := by omega
      have e : inAt j (mkOp x i (nextBack x.thr (a ++ b) (i + 1))) = isOpen (mkOp x i (nextBack x.thr a (i + 1))) := by
        rw [nextBack_app]
        unfold inAt
        rw [mkOp_frm, decide_eq_true hij, Bool.true_and]
        cases hn : nextBack x.thr a (i + 1) with
        | some z =>
          obtain ⟨k, y⟩ := z
          have := nextBack_le _ _ _ _ _ hn
          have h5 : ¬ ((k : Nat) : Int) < 0 := by omega
          have h6 : ¬ (j : Int) < ((k : Nat) : Int) := by omega
          simp [mkOp, closeE, isOpen, h5, h6]
        | none =>
          cases hn2 : nextBack x.thr b (i + 1 + a.length) with
          | some z =>
            obtain ⟨k, y⟩ := z
            have := nextBack_le _ _ _ _ _ hn2
            have h6 : (j : Int) < ((k : Nat) : Int) := by omega
            simp [mkOp, closeE, isOpen, h6]
          | none => simp [mkOp, isOpen]
      rw [e]
theorem inAt_run {l : List EvS} {j : Nat} (hj : j < l.length) (h : MayP l l.length) : ((opersR l 0).countP (inAt j) : Int) = runC (l.take (j + 1)) := by
  rw [← open_run (j + 1) (by omega) (fun i hi => h i (by omega))]
  have := inAt_open (l.drop (j + 1)) j (l.take (j + 1)) 0 (by simp; omega)
  rw [List.take_append_drop] at this
  rw [this]
/-- A sum: fifteen opers, fifteen open ones, nine kinds, and three counts. -/
def bump (xs : List Int) (k : Nat) : List Int := xs.set k (xs.getD k 0 + 1)
def addS (xs : List Int) (o : OpS) : List Int :=
  let x1 := if 0 ≤ o.op ∧ o.op < 15 then bump xs o.op.toNat else xs
  let x2 := if (0 ≤ o.op ∧ o.op < 15) ∧ o.to < 0 then bump x1 (15 + o.op.toNat) else x1
  if o.to < 0 then x2 else
    let x3 := if 0 ≤ o.kind ∧ o.kind < 9 then bump x2 (30 + o.kind.toNat) else x2
    if o.kind = 3 then x3.set 40 (x3.getD 40 0 + (o.pn : Int)) else x3
def aheadP (a b : OpS) : Bool := decide (0 ≤ a.to) && decide (a.to < b.frm)
def overP (os : List OpS) (i : Nat) : Bool := (List.range os.length).any fun k => decide (k ≠ i) && (!aheadP (os.getD i op0) (os.getD k op0) && !aheadP (os.getD k op0) (os.getD i op0))
def zeroS : List Int := List.replicate 42 0
def sumTo (os : List OpS) : Nat → List Int
  | 0 => zeroS
  | k + 1 => if overP os k = true then bump (addS (sumTo os k) (os.getD k op0)) 39 else addS (sumTo os k) (os.getD k op0)
theorem bump_len (xs : List Int) (k : Nat) : (bump xs k).length = xs.length := by simp [bump]
theorem addS_len (xs : List Int) (o : OpS) : (addS xs o).length = xs.length := by
  unfold addS
  simp only []
  repeat' split
  all_goals simp [bump_len]
theorem sumTo_len (os : List OpS) : ∀ k, (sumTo os k).length = 42
  | 0 => by simp [sumTo, zeroS]
  | k + 1 => by
    unfold sumTo
    split
    · rw [bump_len, addS_len, sumTo_len os k]
    · rw [addS_len, sumTo_len os k]
def Low (b : Int) (xs : List Int) : Prop := ∀ k, 0 ≤ xs.getD k 0 ∧ xs.getD k 0 ≤ b
theorem Low.set_ {b c : Int} {xs : List Int} (h : Low b xs) (hbc : b ≤ c) {k : Nat} {v : Int} (h0 : 0 ≤ v) (h1 : v ≤ c) : Low c (xs.set k v) := fun j => by
  have hj := h j
  rw [List.getD_eq_getElem?_getD] at hj ⊢
  rw [List.getElem?_set]
  by_cases hjk : k = j
  · rw [if_pos hjk]
    split
    · exact ⟨h0, h1⟩
    · simp
      omega
  · rw [if_neg hjk]
    omega
theorem Low.bump_ {b c : Int} {xs : List Int} (h : Low b xs) (hbc : b + 1 ≤ c) (k : Nat) : Low c (bump xs k) := by
  have := h k
  exact h.set_ (by omega) (by omega) (by omega)
theorem Low.more {b c : Int} {xs : List Int} (h : Low b xs) (hbc : b ≤ c) : Low c xs := fun k => by
  have := h k
  omega
theorem Low.add_ {b : Int} {xs : List Int} (h : Low b xs) (o : OpS) (hp : o.pn ≤ 1500) : Low (b + 1503) (addS xs o) := by
  unfold addS
  simp only []
  have h1 : Low (b + 1) (if 0 ≤ o.op ∧ o.op < 15 then bump xs o.op.toNat else xs) := by
    split
    · exact h.bump_ (by omega) _
    · exact h.more (by omega)
  generalize (if 0 ≤ o.op ∧ o.op < 15 then bump xs o.op.toNat else xs) = x1 at *
  have h2 : Low (b + 2) (if (0 ≤ o.op ∧ o.op < 15) ∧ o.to < 0 then bump x1 (15 + o.op.toNat) else x1) := by
    split
    · exact h1.bump_ (by omega) _
    · exact h1.more (by omega)
  generalize (if (0 ≤ o.op ∧ o.op < 15) ∧ o.to < 0 then bump x1 (15 + o.op.toNat) else x1) = x2 at *
  split
  · exact h2.more (by omega)
  · have h3 : Low (b + 3) (if 0 ≤ o.kind ∧ o.kind < 9 then bump x2 (30 + o.kind.toNat) else x2) := by
      split
      · exact h2.bump_ (by omega) _
      · exact h2.more (by omega)
    generalize (if 0 ≤ o.kind ∧ o.kind < 9 then bump x2 (30 + o.kind.toNat) else x2) = x3 at *
    split
    · have := h3 40
      exact h3.set_ (by omega) (by omega) (by omega)
    · exact h3.more (by omega)
theorem Low.sum {os : List OpS} (hp : ∀ k, (os.getD k op0).pn ≤ 1500) : ∀ k : Nat, Low (1504 * (k : Int)) (sumTo os k)
  | 0 => fun k => by
    unfold sumTo zeroS
    rw [List.getD_eq_getElem?_getD, List.getElem?_replicate]
    split <;> simp
  | k + 1 => by
    have h := (Low.sum hp k).add_ (os.getD k op0) (hp k)
    unfold sumTo
    split
    · exact h.bump_ (by omega) _
    · exact h.more (by omega)
def mostTo (l : List EvS) : Nat → Int
  | 0 => 0
  | j + 1 => max (mostTo l j) (runC (l.take (j + 1)))
def mostR (os : List OpS) : Nat → Int
  | 0 => 0
  | j + 1 => if mostR os j < (os.countP (inAt j) : Int) then (os.countP (inAt j) : Int) else mostR os j
theorem most_same {l : List EvS} (h : MayP l l.length) : ∀ n, n ≤ l.length → mostR (opersR l 0) n = mostTo l n
  | 0, _ => rfl
  | n + 1, hn => by
    have ih := most_same h n (by omega)
    unfold mostR mostTo
    rw [ih, inAt_run (by omega) h]
    generalize mostTo l n = a
    generalize runC (l.take (n + 1)) = b
    by_cases hab : a < b
    · rw [if_pos hab]
      omega
    · rw [if_neg hab]
      omega
theorem mostR_nil : ∀ n, mostR [] n = 0
  | 0 => rfl
  | n + 1 => by
    unfold mostR
    rw [mostR_nil n]
    simp
end Go.Proofs.Ytofmonknhiggaaa
