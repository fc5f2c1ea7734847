/- The machine that New makes is at rest. Condition: the configuration may be. -/
import Derived.Test.YtlbhjahmgdghoaaRest17
namespace Go.Proofs.Ytlbhjahmgdghoaa
open Go.RowKit

theorem treeW_ne {c : ConfS} {ws : List Nat} {p : Nat} (h : ∀ n, 1 ≤ n → p ≠ ixN c n 2 ∧ p ≠ ixN c n 4 ∧ p ≠ ixN c n 5) : (treeW c ws 5).getD p 0 = ws.getD p 0 := by
  simp only [treeW, treeL, List.take_succ_cons, List.take_zero, List.foldl_cons, List.foldl_nil, putNode]
  have h1 := h 1 (by omega)
  have h2 := h 2 (by omega)
  have h3 := h 3 (by omega)
  have h4 := h 4 (by omega)
  have h5 := h 5 (by omega)
  rw [getD_set_ne h5.2.2.symm, getD_set_ne h5.2.1.symm, getD_set_ne h5.1.symm, getD_set_ne h4.2.2.symm, getD_set_ne h4.2.1.symm, getD_set_ne h4.1.symm, getD_set_ne h3.2.2.symm, getD_set_ne h3.2.1.symm, getD_set_ne h3.1.symm, getD_set_ne h2.2.2.symm, getD_set_ne h2.2.1.symm, getD_set_ne h2.1.symm, getD_set_ne h1.2.2.symm, getD_set_ne h1.2.1.symm, getD_set_ne h1.1.symm]
theorem treeW_small {c : ConfS} {ws : List Nat} (h : Small ws) : Small (treeW c ws 5) := by
  simp only [treeW, treeL, List.take_succ_cons, List.take_zero, List.foldl_cons, List.foldl_nil, putNode]
  repeat refine small_set ?_ (by decide +kernel)
  exact h
theorem linkW_ne {c : ConfS} {ws : List Nat} {p : Nat} (h : ∀ j, p ≠ ixN c (6 + j) 0) : ∀ k, (linkW c ws k).getD p 0 = ws.getD p 0
  | 0 => rfl
  | k + 1 => by
    rw [linkW_succ, getD_set_ne (fun e => h k e.symm)]
    exact linkW_ne h k
theorem linkW_small {c : ConfS} {ws : List Nat} (h : Small ws) : ∀ k, k ≤ 1000 → Small (linkW c ws k)
  | 0, _ => h
  | k + 1, hk => by
    rw [linkW_succ]
    exact small_set (linkW_small h k (by omega)) (by omega)
theorem linkW_at {c : ConfS} {ws : List Nat} (ho : c.Ok) (hl : ws.length = wordsN c) : ∀ (k j : Nat), (6 : Int) + k ≤ c.slots → (linkW c ws k).getD (ixN c (6 + j) 0) 0 = if j < k then 7 + j else ws.getD (ixN c (6 + j) 0) 0
  | 0, j, _ => rfl
  | k + 1, j, hk => by
    rw [linkW_succ]
    by_cases e : j = k
    · subst e
      rw [getD_set_eq (by rw [linkW_length, hl]; exact ixN_lt ho (by omega) (by omega) (by omega)), if_pos (by omega)]
    · rw [getD_set_ne (ixN_inj (by omega) (by omega) (by omega)), linkW_at ho hl k j (by omega)]
      by_cases h : j < k
      · rw [if_pos h, if_pos (by omega)]
      · rw [if_neg h, if_neg (by omega)]
theorem base_small (n m : Nat) : Small ((((List.replicate n 0).set 0 1).set 1 3).set 2 (headN 6 m)) := by
  refine small_set (small_set (small_set ?_ (by decide)) (by decide)) (headN_lt _ _ (by decide))
  intro g hg
  rw [List.eq_of_mem_replicate hg]
  decide
theorem base_far {n m p : Nat} (h : 3 ≤ p) : ((((List.replicate n 0).set 0 1).set 1 3).set 2 (headN 6 m)).getD p 0 = 0 := by
  rw [getD_set_ne (by omega), getD_set_ne (by omega), getD_set_ne (by omega), List.getD_eq_getElem?_getD, List.getElem?_replicate]
  split <;> rfl
theorem links_range {c : ConfS} {ws : List Nat} {m : Nat} (h : ∀ j, j ≤ m → ws.getD (ixN c (6 + j) 0) 0 = if j < m then 7 + j else 0) : ∀ (d j : Nat), j + d = m + 1 → Links c ws (if j ≤ m then 6 + j else 0) ((List.range' j d).map (6 + ·))
  | 0, j, hj => by
    rw [if_neg (by omega)]
    rfl
  | d + 1, j, hj => by
    rw [if_pos (by omega), List.range'_succ, List.map_cons]
    refine ⟨rfl, ?_⟩
    rw [h j (by omega)]
    have := links_range h d (j + 1) (by omega)
    by_cases e : j < m
    · rw [if_pos e]
      rw [if_pos (by omega)] at this
      rw [show 7 + j = 6 + (j + 1) by omega]
      exact this
    · rw [if_neg e]
      rw [if_neg (by omega)] at this
      exact this
theorem held_start (c : ConfS) : (gdK c 5).held = [5, 4, 3, 2, 1] := by
  show ((List.range 5).map (· + 1)).reverse = _
  decide
theorem start_rest17 {c : ConfS} (ho : c.Ok) : AtRest c (MS.start c (gdK c 5) c.thr.toNat) (L0 (c.slots.toNat - 5)) (List.replicate c.slots.toNat 0) [] 0 := by
  have hs1 := ho.s1
  have hs2 := ho.s2
  have hw0 : ∀ p, (∀ n, 1 ≤ n → p ≠ ixN c n 2 ∧ p ≠ ixN c n 4 ∧ p ≠ ixN c n 5) → (∀ j, p ≠ ixN c (6 + j) 0) → (words0 c).getD p 0 = ((((List.replicate (wordsN c) 0).set 0 1).set 1 3).set 2 (headN 6 0)).getD p 0 := fun p h1 h2 => by
    unfold words0
    rw [linkW_ne h2, treeW_ne h1]
  have hge := wordsN_ge ho
  have h2 : slotE ((words0 c).getD 2 0) = 6 := by
    rw [hw0 2 (fun n _ => ⟨ixN_two c n 2, ixN_two c n 4, ixN_two c n 5⟩) (fun j => ixN_two c _ 0), getD_set_eq (by simp; omega), slotE_head (by decide)]
  have hlk : ∀ j, j ≤ c.slots.toNat - 6 → (words0 c).getD (ixN c (6 + j) 0) 0 = if j < c.slots.toNat - 6 then 7 + j else 0 := fun j hj => by
    unfold words0
    rw [linkW_at ho (by rw [treeW_length]; simp) (c.slots.toNat - 6) j (by omega), treeW_ne (fun n hn => by unfold ixN; omega), base_far (by unfold ixN; omega)]
  refine ⟨ho, rfl, List.length_replicate .., start_rest, ⟨words0_length c, ?_, List.length_replicate .., rfl, fun s h1 h2 => ?_, fun g hg => ?_, ?_, ?_, fun s hs => ?_, ?_, fun s hs => ?_, fun s h1 h2 => ?_, rfl⟩, rfl, rfl, by show (0 : Int) ≤ 0; decide, by show (0 : Int) ≤ _; omega, by show (0 : Int) ≤ 0; decide, by show (0 : Int) ≤ _; omega, fun g hg => ?_, fun e he => (by cases he), List.nodup_nil⟩
  · exact linkW_small (treeW_small (base_small _ _)) _ (by omega)
  · show (words0 c).getD (ixN c s 1) 0 = _
    rw [hw0 _ (fun n hn => by unfold ixN; omega) (fun j => by unfold ixN; omega), base_far (by unfold ixN; omega), List.getD_eq_getElem?_getD, List.getElem?_replicate]
    split <;> rfl
  · rw [List.eq_of_mem_replicate hg]
    decide
  · show Links c (words0 c) (slotE ((words0 c).getD 2 0)) _
    rw [h2]
    have := links_range hlk (c.slots.toNat - 5) 0 (by omega)
    rw [if_pos (by omega)] at this
    unfold L0
    rw [List.range_eq_range']
    exact this
  · exact List.pairwise_map.2 (List.Pairwise.imp (fun {a b} (hab : a ≠ b) => by show 6 + a ≠ 6 + b; omega) List.nodup_range)
  · obtain ⟨k, hk, rfl⟩ := List.mem_map.1 hs
    have := List.mem_range.1 hk
    omega
  · rw [show (MS.start c (gdK c 5) c.thr.toNat).gd.held = [5, 4, 3, 2, 1] from held_start c]
    decide
  · rw [show (MS.start c (gdK c 5) c.thr.toNat).gd.held = [5, 4, 3, 2, 1] from held_start c] at hs
    simp only [List.mem_cons, List.not_mem_nil, or_false] at hs
    omega
  · rw [show (MS.start c (gdK c 5) c.thr.toNat).gd.held = [5, 4, 3, 2, 1] from held_start c]
    simp only [List.mem_cons, List.not_mem_nil, or_false]
    have e : s ∈ L0 (c.slots.toNat - 5) ↔ 6 ≤ s := by
      unfold L0
      rw [List.mem_map]
      constructor
      · rintro ⟨k, _, rfl⟩
        omega
      · intro h
        exact ⟨s - 6, List.mem_range.2 (by omega), by omega⟩
    rw [e]
    omega
  · rw [List.eq_of_mem_replicate hg]
    exact Nat.le_refl 0
end Go.Proofs.Ytlbhjahmgdghoaa
