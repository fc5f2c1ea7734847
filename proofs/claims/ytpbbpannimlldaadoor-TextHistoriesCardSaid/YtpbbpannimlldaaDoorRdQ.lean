/- Words of a text: plain lemmas; no program. -/
import Derived.Test.YtpbbpannimlldaaDoorRdP
import Derived.Lib.Split
import Derived.Lib.SplitLaws
import Derived.Lib.CountLaws
namespace Go.Proofs.YtpbbpannimlldaaDoor
open Go.RowKit

/-- What a byte parts. -/
def cutZ (c : UInt8) : List UInt8 → List (List UInt8)
  | [] => [[]]
  | b :: t => if b = c then [] :: cutZ c t else match cutZ c t with
    | h :: r => (b :: h) :: r
    | [] => [[b]]
theorem cutZ_ne (c : UInt8) (l : List UInt8) : cutZ c l ≠ [] := by
  cases l with
  | nil => simp [cutZ]
  | cons b t =>
    unfold cutZ
    split
    · simp
    · split <;> simp
theorem cutZ_hit (c : UInt8) (t : List UInt8) : cutZ c (c :: t) = [] :: cutZ c t := by
  conv => lhs; unfold cutZ
  rw [if_pos rfl]
theorem cutZ_miss {c b : UInt8} (h : b ≠ c) {t : List UInt8} {x : List UInt8} {r : List (List UInt8)} (e : cutZ c t = x :: r) : cutZ c (b :: t) = (b :: x) :: r := by
  conv => lhs; unfold cutZ
  rw [if_neg h, e]
theorem index_hit (c : UInt8) (t : List UInt8) : Lib.index (c :: t) [c] = 0 := by
  unfold Lib.index
  rw [if_pos (by simp [List.isPrefixOf])]
theorem index_miss {c b : UInt8} (h : b ≠ c) (t : List UInt8) : Lib.index (b :: t) [c] = if Lib.index t [c] == -1 then -1 else Lib.index t [c] + 1 := by
  conv => lhs; unfold Lib.index
  rw [if_neg (by simp [List.isPrefixOf]; exact fun e => h e.symm)]
theorem index_nil (c : UInt8) : Lib.index [] [c] = -1 := rfl
theorem index_ge : ∀ (l : List UInt8) (c : UInt8), Lib.index l [c] = -1 ∨ ∃ i : Nat, Lib.index l [c] = (i : Int)
  | [], c => .inl rfl
  | b :: t, c => by
    by_cases h : b = c
    · subst h
      exact .inr ⟨0, index_hit _ _⟩
    · rw [index_miss h]
      rcases index_ge t c with e | ⟨i, e⟩
      · exact .inl (by rw [e]; rfl)
      · refine .inr ⟨i + 1, ?_⟩
        rw [e, if_neg (by simp <;> omega)]
        omega
theorem split_one (c : UInt8) : ∀ (l : List UInt8) (k : Nat), l.count c ≤ k → Lib.splitK [c] 0 k l = cutZ c l
  | [], k, _ => by cases k <;> rfl
  | b :: t, k, hk => by
    by_cases h : b = c
    · subst h
      rw [List.count_cons_self] at hk
      obtain ⟨k, rfl⟩ : ∃ j, k = j + 1 := ⟨k - 1, by omega⟩
      rw [cutZ_hit, ← split_one b t k (by omega)]
      conv => lhs; unfold Lib.splitK
      rw [index_hit, if_neg (by decide)]
      rfl
    · rw [List.count_cons_of_ne h] at hk
      have ih := split_one c t k hk
      cases k with
      | zero =>
        have e : cutZ c t = t :: [] := ih.symm
        rw [cutZ_miss h e]
        rfl
      | succ k =>
        rcases index_ge t c with e | ⟨i, e⟩
        · have e2 : cutZ c t = t :: [] := by
            rw [← ih]
            conv => lhs; unfold Lib.splitK
            rw [e, if_pos (by decide)]
          rw [cutZ_miss h e2]
          conv => lhs; unfold Lib.splitK
          rw [index_miss h, e]
          rfl
        · have e2 : cutZ c t = t.take i :: Lib.splitK [c] 0 k (t.drop (i + 1)) := by
            rw [← ih]
            conv => lhs; unfold Lib.splitK
            rw [e, if_neg (by simp <;> omega)]
            rfl
          rw [cutZ_miss h e2]
          conv => lhs; unfold Lib.splitK
          rw [index_miss h, e, if_neg (by simp <;> omega), if_neg (by simp <;> omega)]
          rw [show ((i : Int) + 1).toNat = i + 1 by omega]
          rfl
theorem count_one (c : UInt8) : ∀ (l : List UInt8) (fuel : Nat), l.length < fuel → Lib.countFrom [c] fuel l = l.count c
  | [], fuel, h => by
    obtain ⟨f, rfl⟩ : ∃ j, fuel = j + 1 := ⟨fuel - 1, by omega⟩
    rfl
  | b :: t, fuel, h => by
    obtain ⟨f, rfl⟩ : ∃ j, fuel = j + 1 := ⟨fuel - 1, by omega⟩
    rw [List.length_cons] at h
    by_cases hb : b = c
    · subst hb
      rw [List.count_cons_self, ← count_one b t f (by omega)]
      conv => lhs; unfold Lib.countFrom
      rw [index_hit, if_neg (by decide)]
      show 1 + Lib.countFrom [b] f ((b :: t).drop 1) = _
      rw [List.drop_one, List.tail_cons]
      omega
    · rw [List.count_cons_of_ne hb, ← count_one c t (f + 1) (by omega)]
      unfold Lib.countFrom
      rcases index_ge t c with e | ⟨i, e⟩
      · rw [index_miss hb, e]
        rfl
      · rw [index_miss hb, e, if_neg (by simp <;> omega), if_neg (by simp <;> omega), if_neg (by simp <;> omega), show ((i : Int) + 1).toNat = i + 1 by omega]
        rfl
theorem words_eq (c : UInt8) (l : List UInt8) : (Lib.splitB ⟨#[c]⟩ 0 (Lib.countB ⟨l.toArray⟩ ⟨#[c]⟩) ⟨l.toArray⟩).map (·.data.toList) = cutZ c l := by
  rw [Lib.splitB_data]
  have h : Lib.countB ⟨l.toArray⟩ ⟨#[c]⟩ = l.count c := count_one c l (l.length + 1) (by omega)
  rw [h]
  exact split_one c l _ (Nat.le_refl _)
theorem cutZ_len (c : UInt8) : ∀ l : List UInt8, (cutZ c l).length ≤ l.length + 1 ∧ ∀ x ∈ cutZ c l, x.length ≤ l.length
  | [] => by simp [cutZ]
  | b :: t => by
    obtain ⟨h1, h2⟩ := cutZ_len c t
    by_cases h : b = c
    · subst h
      rw [cutZ_hit]
      refine ⟨by simp; omega, fun x hx => ?_⟩
      rcases List.mem_cons.1 hx with rfl | hx
      · simp
      · have := h2 x hx
        simp; omega
    · cases e : cutZ c t with
      | nil => exact absurd e (cutZ_ne c t)
      | cons x r =>
        rw [e] at h1 h2
        rw [cutZ_miss h e]
        refine ⟨by simp at h1 ⊢; omega, fun y hy => ?_⟩
        rcases List.mem_cons.1 hy with rfl | hy
        · have := h2 x (by simp)
          simp; omega
        · have := h2 y (by simp [hy])
          simp; omega
theorem cutZ_snoc (c b : UInt8) : ∀ l : List UInt8, ∃ a x, cutZ c l = a ++ [x] ∧ cutZ c (l ++ [b]) = if b = c then a ++ [x] ++ [[]] else a ++ [x ++ [b]]
  | [] => by
    refine ⟨[], [], rfl, ?_⟩
    by_cases h : b = c
    · subst h
      rw [if_pos rfl]
      exact cutZ_hit b []
    · rw [if_neg h]
      exact cutZ_miss h (t := []) rfl
  | d :: t => by
    obtain ⟨a, x, h1, h2⟩ := cutZ_snoc c b t
    by_cases hd : d = c
    · subst hd
      refine ⟨[] :: a, x, by rw [cutZ_hit, h1]; rfl, ?_⟩
      rw [List.cons_append, cutZ_hit, h2]
      split <;> rfl
    · cases a with
      | nil =>
        refine ⟨[], d :: x, cutZ_miss hd h1, ?_⟩
        rw [List.cons_append]
        by_cases hb : b = c
        · rw [if_pos hb] at h2 ⊢
          exact cutZ_miss hd h2
        · rw [if_neg hb] at h2 ⊢
          exact cutZ_miss hd h2
      | cons y a =>
        refine ⟨(d :: y) :: a, x, cutZ_miss hd h1, ?_⟩
        rw [List.cons_append]
        by_cases hb : b = c
        · rw [if_pos hb] at h2 ⊢
          exact cutZ_miss hd h2
        · rw [if_neg hb] at h2 ⊢
          exact cutZ_miss hd h2
/-- Cut at the first: what the library does, by parts. -/
theorem cut_parts (c : UInt8) : ∀ l : List UInt8, (Lib.index l [c] = -1 ∧ cutZ c l = [l]) ∨ (∃ i : Nat, Lib.index l [c] = (i : Int) ∧ cutZ c l = l.take i :: cutZ c (l.drop (i + 1)))
  | [] => .inl ⟨rfl, rfl⟩
  | b :: t => by
    by_cases h : b = c
    · subst h
      exact .inr ⟨0, index_hit _ _, cutZ_hit _ _⟩
    · rw [index_miss h]
      rcases cut_parts c t with ⟨e1, e2⟩ | ⟨i, e1, e2⟩
      · exact .inl ⟨by rw [e1]; rfl, cutZ_miss h e2⟩
      · refine .inr ⟨i + 1, ?_, ?_⟩
        · rw [e1, if_neg (by simp <;> omega)]
          omega
        · rw [cutZ_miss h e2]
          rfl
theorem cutZ_single {c : UInt8} {l x : List UInt8} (h : cutZ c l = [x]) : l = x := by
  rcases cut_parts c l with ⟨_, e⟩ | ⟨i, _, e⟩
  · rw [e] at h
    exact List.cons.inj h |>.1
  · rw [e] at h
    exact absurd (List.cons.inj h).2 (cutZ_ne c _)
theorem cutZ_mem {c : UInt8} {l : List UInt8} (h : 2 ≤ (cutZ c l).length) : c ∈ l := by
  rcases cut_parts c l with ⟨_, e⟩ | ⟨i, e1, e⟩
  · rw [e] at h
    simp at h
  · clear e h
    induction l generalizing i with
    | nil => rw [index_nil] at e1; omega
    | cons b t ih =>
      by_cases hb : b = c
      · subst hb; simp
      · rw [index_miss hb] at e1
        rcases index_ge t c with e | ⟨j, e⟩
        · rw [e] at e1
          simp at e1 <;> omega
        · exact List.mem_cons_of_mem _ (ih j e)
theorem parse_no {c : UInt8} {l : List UInt8} (h : c ∈ l) (hc : ¬ (48 ≤ c.toNat ∧ c.toNat ≤ 57)) (h45 : c.toNat ≠ 45) : parseZ l = none := parseZ_none (fun n h1 h2 => by
  rw [← h2] at h
  rcases itoa_cases n with ⟨u, _, e⟩ | ⟨u, _, _, e⟩
  · rw [e] at h
    exact hc (dec_digs u c h)
  · rw [e] at h
    rcases List.mem_cons.1 h with rfl | h
    · exact h45 (by decide)
    · exact hc (dec_digs u c h))
/-- A pair that is written. -/
def pairZ (s : List UInt8) : Option (Int × Int) := match cutZ 58 s with
  | [a, b] => match parseZ a, parseZ b with
    | some x, some y => some (x, y)
    | _, _ => none
  | _ => none
end Go.Proofs.YtpbbpannimlldaaDoor
