/- Schedules: in order, by depth and by breadth, and one by its number. Plain lemmas, no condition. -/
import Derived.Test.YtbhibmimdpodiaaVoc
namespace Go.Proofs.Ytbhibmimdpodiaa

/-- How many turns may come, first, or behind one. -/
def chN (T M : Nat) (first : Bool) : Nat := (if first then T else T - 1) * M
/-- The turn that so many stand ahead of, behind a turn of a thread (below 0: first). -/
def turnP (M : Nat) (last : Int) (n : Nat) : Int × Int := (if 0 ≤ last ∧ last ≤ (n / M : Nat) then ((n / M : Nat) : Int) + 1 else ((n / M : Nat) : Int), ((n % M : Nat) : Int) + 1)
def optsP (T M : Nat) (last : Int) : List (Int × Int) := (List.range (chN T M (decide (last < 0)))).map (turnP M last)
/-- All schedules of so many turns, behind one of a thread, by depth. -/
def extP (T M : Nat) : Nat → Int → List (List (Int × Int))
  | 0, _ => [[]]
  | d + 1, last => (optsP T M last).flatMap fun t => (extP T M d t.1).map (t :: ·)
def lastP (last : Int) (p : List (Int × Int)) : Int := (p.getLast?.map (·.1)).getD last
theorem lastP_cons (last : Int) (t : Int × Int) (p : List (Int × Int)) : lastP last (t :: p) = lastP t.1 p := by
  unfold lastP
  cases p with
  | nil => rfl
  | cons q p =>
    rw [List.getLast?_cons_cons]
    cases h : (q :: p).getLast? with
    | none => simp at h
    | some z => rfl
theorem lastP_snoc (last : Int) (t : Int × Int) (p : List (Int × Int)) : lastP last (p ++ [t]) = t.1 := by
  unfold lastP
  simp
/-- The same by breadth. -/
theorem extP_back (T M : Nat) : ∀ (d : Nat) (last : Int), extP T M (d + 1) last = (extP T M d last).flatMap fun p => (optsP T M (lastP last p)).map fun q => p ++ [q]
  | 0, last => by
    simp [extP, lastP]
    rw [← List.flatMap_singleton' (optsP T M last), List.map_flatMap]
    simp
  | d + 1, last => by
    show ((optsP T M last).flatMap fun t => (extP T M (d + 1) t.1).map (t :: ·)) = ((optsP T M last).flatMap fun t => (extP T M d t.1).map (t :: ·)).flatMap _
    rw [List.flatMap_assoc]
    congr 1
    funext t
    rw [extP_back T M d t.1, List.map_flatMap, List.flatMap_map]
    congr 1
    funext p
    rw [lastP_cons, List.map_map]
    rfl
/-- How many. -/
def szP (T M : Nat) : Nat → Bool → Nat
  | 0, _ => 1
  | d + 1, first => chN T M first * szP T M d false
theorem turnP_nonneg (M : Nat) (last : Int) (n : Nat) : 0 ≤ (turnP M last n).1 := by 
  have : 0 ≤ ((n / M : Nat) : Int) := Int.natCast_nonneg _
  unfold turnP
  simp only
  split
  · omega
  · exact this
theorem flatMap_len {α β : Type} (f : α → List β) (c : Nat) : ∀ (l : List α), (∀ a ∈ l, (f a).length = c) → (l.flatMap f).length = l.length * c
  | [], _ => by simp
  | a :: l, h => by
    rw [List.flatMap_cons, List.length_append, h a (by simp), flatMap_len f c l (fun b hb => h b (by simp [hb])), List.length_cons, Nat.add_mul]
    omega
theorem flatMap_at {α β : Type} (f : α → List β) (c : Nat) : ∀ (l : List α) (n : Nat), (∀ a ∈ l, (f a).length = c) → 0 < c → (l.flatMap f)[n]? = (l[n / c]?).bind fun a => (f a)[n % c]?
  | [], n, _, _ => by simp
  | a :: l, n, h, hc => by
    rw [List.flatMap_cons]
    have ha := h a (by simp)
    by_cases hn : n < c
    · rw [List.getElem?_append_left (by omega), Nat.div_eq_of_lt hn, Nat.mod_eq_of_lt hn]
      rfl
    · rw [List.getElem?_append_right (by omega), ha, flatMap_at f c l (n - c) (fun b hb => h b (by simp [hb])) hc]
      have e1 : n / c = (n - c) / c + 1 := by rw [← Nat.add_div_right _ hc, Nat.sub_add_cancel (by omega)]
      have e2 : n % c = (n - c) % c := by rw [← Nat.add_mod_right (n - c) c, Nat.sub_add_cancel (by omega)]
      rw [e1, e2]
      rfl
theorem extP_len (T M : Nat) : ∀ (d : Nat) (last : Int), (extP T M d last).length = szP T M d (decide (last < 0))
  | 0, _ => rfl
  | d + 1, last => by
    show ((optsP T M last).flatMap fun t => (extP T M d t.1).map (t :: ·)).length = _
    rw [flatMap_len _ (szP T M d false)]
    · simp [optsP, szP]
    · intro t ht
      obtain ⟨n, _, rfl⟩ := List.mem_map.1 ht
      rw [List.length_map, extP_len T M d]
      have := turnP_nonneg M last n
      rw [decide_eq_false (by omega)]
/-- The schedule of a number, turn by turn. -/
def atP (T M : Nat) : Nat → Int → Nat → List (Int × Int)
  | 0, _, _ => []
  | d + 1, last, n => turnP M last (n / szP T M d false) :: atP T M d (turnP M last (n / szP T M d false)).1 (n % szP T M d false)
theorem extP_at (T M : Nat) : ∀ (d : Nat) (last : Int) (n : Nat), n < szP T M d (decide (last < 0)) → (extP T M d last)[n]? = some (atP T M d last n)
  | 0, last, n, h => by
    have : n = 0 := by simp [szP] at h; exact h
    subst this
    rfl
  | d + 1, last, n, h => by
    have hs : 0 < szP T M d false := by
      rcases Nat.eq_zero_or_pos (szP T M d false) with h0 | h0
      · simp [szP, h0] at h
      · exact h0
    show ((optsP T M last).flatMap fun t => (extP T M d t.1).map (t :: ·))[n]? = _
    rw [flatMap_at _ (szP T M d false) _ _ _ hs]
    · have hq : n / szP T M d false < chN T M (decide (last < 0)) := by
        rw [Nat.div_lt_iff_lt_mul hs]
        exact h
      unfold optsP
      rw [List.getElem?_map, List.getElem?_range hq]
      simp only [Option.map_some, Option.bind_some]
      rw [List.getElem?_map, extP_at T M d]
      · rfl
      · have := turnP_nonneg M last (n / szP T M d false)
        rw [decide_eq_false (by omega)]
        exact Nat.mod_lt _ hs
    · intro t ht
      obtain ⟨k, _, rfl⟩ := List.mem_map.1 ht
      rw [List.length_map, extP_len T M d]
      have := turnP_nonneg M last k
      rw [decide_eq_false (by omega)]
end Go.Proofs.Ytbhibmimdpodiaa
