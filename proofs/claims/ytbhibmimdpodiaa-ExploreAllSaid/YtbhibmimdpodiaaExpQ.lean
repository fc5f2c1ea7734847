/- Schedules by breadth, loop by loop. Plain lemmas, no condition. -/
import Derived.Test.YtbhibmimdpodiaaExpP
namespace Go.Proofs.Ytbhibmimdpodiaa

def cellR (M : Nat) (last : Int) (t : Nat) : List (Int × Int) := if (t : Int) = last then [] else (List.range M).map fun (n : Nat) => ((t : Int), (n : Int) + 1)
def optsR (T M : Nat) (last : Int) : List (Int × Int) := (List.range T).flatMap (cellR M last)
theorem range_mul {α : Type} (M : Nat) (f : Nat → α) : ∀ a : Nat, (List.range (a * M)).map f = (List.range a).flatMap fun t => (List.range M).map fun n => f (t * M + n)
  | 0 => by simp
  | a + 1 => by
    rw [Nat.add_mul, Nat.one_mul, List.range_add, List.map_append, range_mul M f a, List.range_succ, List.flatMap_append, List.map_map]
    simp
theorem skip_one {α : Type} (g : Nat → List α) (s : Nat) : ∀ T : Nat, s < T → (List.range (T - 1)).flatMap (fun t => g (if s ≤ t then t + 1 else t)) = (List.range T).flatMap (fun t => if t = s then [] else g t) := by
  intro T h
  obtain ⟨d, rfl⟩ : ∃ d, T = s + 1 + d := ⟨T - (s + 1), by omega⟩
  induction d with
  | zero =>
    rw [Nat.add_zero, Nat.add_sub_cancel, List.range_succ, List.flatMap_append]
    have : ∀ l : List Nat, (∀ t ∈ l, t < s) → l.flatMap (fun t => g (if s ≤ t then t + 1 else t)) = l.flatMap (fun t => if t = s then [] else g t) := by
      intro l hl
      induction l with
      | nil => rfl
      | cons t l ih =>
        have ht := hl t (by simp)
        rw [List.flatMap_cons, List.flatMap_cons, ih (fun x hx => hl x (by simp [hx])), if_neg (by omega), if_neg (by omega)]
    rw [this _ (fun t ht => List.mem_range.1 ht)]
    simp
  | succ d ih =>
    have e1 : s + 1 + (d + 1) - 1 = (s + 1 + d - 1) + 1 := by omega
    rw [e1, List.range_succ, List.flatMap_append, ih (by omega), show s + 1 + (d + 1) = (s + 1 + d) + 1 by omega, List.range_succ, List.flatMap_append]
    congr 1
    rw [List.flatMap_cons, List.flatMap_cons, List.flatMap_nil, List.flatMap_nil, if_pos (by omega), if_neg (by omega), show s + 1 + d - 1 + 1 = s + 1 + d by omega]
theorem optsP_eq {T M : Nat} {last : Int} (hM : 1 ≤ M) (h : last < T) : optsP T M last = optsR T M last := by
  unfold optsP chN
  by_cases h0 : last < 0
  · rw [decide_eq_true h0, if_pos rfl, range_mul]
    unfold optsR
    congr 1
    funext t
    unfold cellR
    rw [if_neg (by omega)]
    refine List.map_congr_left (fun n hn => ?_)
    have hn' := List.mem_range.1 hn
    unfold turnP
    rw [if_neg (by omega), show t * M + n = n + M * t by rw [Nat.mul_comm, Nat.add_comm], Nat.add_mul_div_left _ _ (by omega), Nat.add_mul_mod_self_left, Nat.div_eq_of_lt hn', Nat.mod_eq_of_lt hn', Nat.zero_add]
  · obtain ⟨s, rfl⟩ : ∃ s : Nat, last = (s : Int) := ⟨last.toNat, by omega⟩
    rw [decide_eq_false h0, if_neg (by decide), range_mul]
    have hs : s < T := by omega
    have := skip_one (fun t => (List.range M).map fun n => (((t : Nat) : Int), ((n : Nat) : Int) + 1)) s T hs
    unfold optsR
    have e : (fun t => if t = s then [] else (List.range M).map fun n => (((t : Nat) : Int), ((n : Nat) : Int) + 1)) = cellR M (s : Int) := by
      funext t
      unfold cellR
      by_cases hts : t = s
      · rw [if_pos hts, if_pos (by omega)]
      · rw [if_neg hts, if_neg (by omega)]
    rw [← e, ← this]
    congr 1
    funext t
    refine List.map_congr_left (fun n hn => ?_)
    have hn' := List.mem_range.1 hn
    unfold turnP
    rw [show t * M + n = n + M * t by rw [Nat.mul_comm, Nat.add_comm], Nat.add_mul_div_left _ _ (by omega), Nat.add_mul_mod_self_left, Nat.div_eq_of_lt hn', Nat.mod_eq_of_lt hn', Nat.zero_add]
    by_cases hst : s ≤ t
    · rw [if_pos hst, if_pos (by omega)]
      simp
    · rw [if_neg hst, if_neg (by omega)]
/-- All turns are of threads that are there. -/
theorem turnP_lt {T M n : Nat} {last : Int} (h1 : 1 ≤ T) (hn : n < chN T M (decide (last < 0))) : (turnP M last n).1 < T := by
  unfold chN at hn
  unfold turnP
  by_cases h0 : last < 0
  · rw [decide_eq_true h0, if_pos rfl] at hn
    have := Nat.div_lt_of_lt_mul (by rw [Nat.mul_comm] at hn; exact hn)
    rw [if_neg (by omega)]
    show ((n / M : Nat) : Int) < T
    omega
  · rw [decide_eq_false h0, if_neg (by decide)] at hn
    have := Nat.div_lt_of_lt_mul (by rw [Nat.mul_comm] at hn; exact hn)
    show (if 0 ≤ last ∧ last ≤ ((n / M : Nat) : Int) then ((n / M : Nat) : Int) + 1 else ((n / M : Nat) : Int)) < T
    generalize n / M = q at *
    split <;> omega
theorem extP_mem {T M : Nat} (h1 : 1 ≤ T) : ∀ (d : Nat) (last : Int) (p : List (Int × Int)), p ∈ extP T M d last → p.length = d ∧ ∀ q ∈ p, 0 ≤ q.1 ∧ q.1 < T
  | 0, last, p, h => by
    obtain rfl : p = [] := by simpa [extP] using h
    exact ⟨rfl, fun q hq => by simp at hq⟩
  | d + 1, last, p, h => by
    have h' : p ∈ ((optsP T M last).flatMap fun t => (extP T M d t.1).map (t :: ·)) := h
    obtain ⟨t, ht, hp⟩ := List.mem_flatMap.1 h'
    obtain ⟨p', hp', rfl⟩ := List.mem_map.1 hp
    obtain ⟨n, hn, rfl⟩ := List.mem_map.1 ht
    obtain ⟨hl, hq⟩ := extP_mem h1 d _ p' hp'
    refine ⟨by simp [hl], fun q hqm => ?_⟩
    rcases List.mem_cons.1 hqm with rfl | hqm
    · exact ⟨turnP_nonneg _ _ _, turnP_lt h1 (List.mem_range.1 hn)⟩
    · exact hq q hqm
def expandR (T M : Nat) (p : List (Int × Int)) : List (List (Int × Int)) := (optsR T M (lastP (-1) p)).map fun q => p ++ [q]
theorem extP_next {T M : Nat} (h1 : 1 ≤ T) (hM : 1 ≤ M) (i : Nat) : extP T M (i + 1) (-1) = (extP T M i (-1)).flatMap (expandR T M) := by
  rw [extP_back]
  have : ∀ l : List (List (Int × Int)), (∀ p ∈ l, lastP (-1) p < T) → (l.flatMap fun p => (optsP T M (lastP (-1) p)).map fun q => p ++ [q]) = l.flatMap (expandR T M) := by
    intro l hl
    induction l with
    | nil => rfl
    | cons p l ih =>
      rw [List.flatMap_cons, List.flatMap_cons, ih (fun x hx => hl x (by simp [hx])), optsP_eq hM (hl p (by simp))]
      rfl
  refine this _ (fun p hp => ?_)
  obtain ⟨_, hq⟩ := extP_mem h1 i (-1) p hp
  unfold lastP
  cases hg : p.getLast? with
  | none => simp; omega
  | some q => exact (hq q (List.mem_of_getLast? hg)).2
def restT (T M : Nat) (p : List (Int × Int)) (t : Nat) : List (List (Int × Int)) := ((List.range' t (T - t)).flatMap (cellR M (lastP (-1) p))).map fun q => p ++ [q]
def restN (M : Nat) (p : List (Int × Int)) (t n : Nat) : List (List (Int × Int)) := (List.range' n (M - n)).map fun (k : Nat) => p ++ [((t : Int), (k : Int) + 1)]
theorem expand_T (T M : Nat) (p : List (Int × Int)) : expandR T M p = restT T M p 0 := by
  unfold expandR restT optsR
  rw [List.range_eq_range', Nat.sub_zero]
theorem restT_end (T M : Nat) (p : List (Int × Int)) : restT T M p T = [] := by simp [restT]
theorem restN_end (M : Nat) (p : List (Int × Int)) (t : Nat) : restN M p t M = [] := by simp [restN]
theorem range'_step (a b : Nat) (h : a < b) : List.range' a (b - a) = a :: List.range' (a + 1) (b - (a + 1)) := by
  obtain ⟨c, hc⟩ : ∃ c, b - a = c + 1 := ⟨b - a - 1, by omega⟩
  rw [hc, List.range'_succ, show b - (a + 1) = c by omega]
theorem restT_skip {T M : Nat} {p : List (Int × Int)} {t : Nat} (h : t < T) (he : (t : Int) = lastP (-1) p) : restT T M p t = restT T M p (t + 1) := by
  unfold restT
  rw [range'_step t T h, List.flatMap_cons]
  unfold cellR
  rw [if_pos he]
  rfl
theorem restT_go {T M : Nat} {p : List (Int × Int)} {t : Nat} (h : t < T) (he : ¬ (t : Int) = lastP (-1) p) : restT T M p t = restN M p t 0 ++ restT T M p (t + 1) := by
  unfold restT restN
  rw [range'_step t T h, List.flatMap_cons, List.map_append]
  congr 1
  unfold cellR
  rw [if_neg he, List.map_map, List.range_eq_range', Nat.sub_zero]
  rfl
theorem restN_go {M : Nat} {p : List (Int × Int)} {t n : Nat} (h : n < M) : restN M p t n = (p ++ [((t : Int), (n : Int) + 1)]) :: restN M p t (n + 1) := by
  unfold restN
  rw [range'_step n M h]
  rfl
end Go.Proofs.Ytbhibmimdpodiaa
