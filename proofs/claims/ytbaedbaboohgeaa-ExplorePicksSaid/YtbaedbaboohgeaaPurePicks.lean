/- The plain law of ExplorePicks: the picks of any turns are each thread, as often as it has steps (at most 1000, none below 1). No condition. -/
import Derived.Test.YtbaedbaboohgeaaPExplorePicksx3
namespace Go.Proofs.Ytbaedbaboohgeaa.Pure
open Go.RowKit Go.Proofs.Ytbaedbaboohgeaa.PExplorePicks Go.Proofs.YtbaedbaboohgeaaW.PrintWords Go.Proofs.YtbaedbaboohgeaaW.PrintLast Go.Proofs.YtbaedbaboohgeaaW.PrintMore

theorem lives_ok : deadwoodlaw36_lives.f 20 = some true := by kernel_rfl

def cnt (t : S27) : Nat := (max 0 (min 1000 t.f1)).toNat
def pk (t : S27) : List Int := List.replicate (cnt t) t.f0
theorem cnt_le (t : S27) : cnt t ≤ 1000 := by unfold cnt; omega
theorem pk_len (t : S27) : (pk t).length = cnt t := by simp [pk]

theorem wrap_small {i : Int} (h0 : -1000000000000 ≤ i) (h1 : i ≤ 1000000000000) : wrap64 i = i := by unfold wrap64; omega

theorem l1_rep (k : Nat) (x6 : List S27) (x7 x8 x15 a b : Int) : ∀ (d : Nat) (x3 : List Int) (x16 : Int), 0 ≤ x16 → x15 - x16 = d → x15 ≤ 1000 → x3.length + d < 17592186044416 →
    explore_Picks.l1 (k + d + 1) x3 x6 x7 x8 x15 x16 a b = explore_Picks.l0 k (x3 ++ List.replicate d a) x6 x7 (wrap64 (x8 + 1)) := by
  intro d
  induction d with
  | zero =>
    intro x3 x16 h0 hd h1 hl
    simp only [explore_Picks.l1]
    rw [if_neg (by omega)]
    simp
  | succ d ih =>
    intro x3 x16 h0 hd h1 hl
    obtain ⟨m, hm⟩ : ∃ m, m = k + d + 1 := ⟨_, rfl⟩
    rw [show k + (d + 1) + 1 = m + 1 by omega]
    simp only [explore_Picks.l1]
    rw [if_pos (by omega), if_pos (by omega), wrap_small (by omega) (by omega), hm, ih (x3 ++ [a]) (x16 + 1) (by omega) (by omega) h1 (by simp; omega)]
    rw [List.append_assoc]
    rfl

theorem l1_none (k : Nat) (x6 : List S27) (x3 : List Int) (x7 x8 x15 a b : Int) (h : x15 ≤ 0) :
    explore_Picks.l1 (k + 1) x3 x6 x7 x8 x15 0 a b = explore_Picks.l0 k x3 x6 x7 (wrap64 (x8 + 1)) := by
  simp only [explore_Picks.l1]
  rw [if_neg (by omega)]

theorem mxmn (x : Int) : mx 0 (mn 1000 x) = max 0 (min 1000 x) := by unfold mx mn; omega

theorem rd_at (l : List S27) (i : Nat) (h : i < l.length) : rd_T27 l (i : Int) = l[i] := by
  unfold rd_T27
  simp [List.getElem?_eq_getElem h]

theorem picks_l0 (l : List S27) (hl : l.length ≤ 40) : ∀ (d i : Nat) (acc : List Int), i + d = l.length → acc.length ≤ 1000 * i →
    ∃ k, explore_Picks.l0 k acc l (l.length : Int) (i : Int) = some (acc ++ (l.drop i).flatMap pk) := by
  intro d
  induction d with
  | zero =>
    intro i acc hi ha
    refine ⟨1, ?_⟩
    simp only [explore_Picks.l0]
    rw [if_neg (by omega), List.drop_of_length_le (by omega)]
    simp
  | succ d ih =>
    intro i acc hi ha
    have hlt : i < l.length := by omega
    have hc := cnt_le l[i]
    obtain ⟨k, hk⟩ := ih (i + 1) (acc ++ pk l[i]) (by omega) (by simp [pk_len]; omega)
    refine ⟨k + cnt l[i] + 1 + 1, ?_⟩
    have hE : (mx 0 (mn 1000 (rd_T27 l (i : Int)).f1)) = (cnt l[i] : Int) := by
      rw [mxmn, rd_at l i hlt]; unfold cnt; omega
    have h1 : explore_Picks.l0 (k + cnt l[i] + 1 + 1) acc l (l.length : Int) (i : Int) = explore_Picks.l1 (k + cnt l[i] + 1) acc l (l.length : Int) (i : Int) (mx 0 (mn 1000 (rd_T27 l (i : Int)).f1)) 0 (rd_T27 l (i : Int)).f0 (rd_T27 l (i : Int)).f1 := by
      conv => lhs; simp only [explore_Picks.l0]
      rw [if_pos (by omega), if_pos (by omega), if_pos (by omega)]
    rw [h1, hE, l1_rep k l _ _ _ _ _ (cnt l[i]) acc 0 (by omega) (by omega) (by omega) (by omega), wrap_small (by omega) (by omega), rd_at l i hlt]
    have h2 : ((i : Int) + 1) = ((i + 1 : Nat) : Int) := by omega
    rw [h2]
    have h3 : l.drop i = l[i] :: l.drop (i + 1) := List.drop_eq_getElem_cons hlt
    rw [h3, List.flatMap_cons, ← List.append_assoc]
    exact hk

theorem picks_f (l : List S27) (hl : l.length ≤ 40) : ∃ k, explore_Picks.f k l = some (l.flatMap pk) := by
  obtain ⟨k, hk⟩ := picks_l0 l hl l.length 0 [] (by omega) (by simp)
  exact ⟨k, by simpa [explore_Picks.f] using hk⟩

theorem rd_list (l : List Int) (i : Nat) (v : Int) (h : l[i]? = some v) : rd l (i : Int) = v := by
  unfold rd
  simp [h]

theorem law_l1 (l : List S27) (P : List Int) (i : Nat) (hi : i < l.length) (hP : P.length ≤ 40000) (n : Int) (hl : l.length ≤ 40) : ∀ (d : Nat) (k : Nat) (at_ : Nat) (q : Int), 0 ≤ q → n - q = d → n ≤ 1000 → at_ + d ≤ P.length → (∀ j, j < d → P[at_ + j]? = some (l[i]).f0) →
    deadwoodlaw36_ExplorePicks.l1 (k + d + 1) l P (at_ : Int) (i : Int) n q = deadwoodlaw36_ExplorePicks.l0 k l P ((at_ + d : Nat) : Int) (((i + 1 : Nat)) : Int) := by
  intro d
  induction d with
  | zero =>
    intro k at_ q h0 hd hn ha hj
    simp only [deadwoodlaw36_ExplorePicks.l1, Nat.add_zero]
    rw [if_neg (by omega), wrap_small (by omega) (by omega)]
    rfl
  | succ d ih =>
    intro k at_ q h0 hd hn ha hj
    obtain ⟨m, hm⟩ : ∃ m, m = k + d + 1 := ⟨_, rfl⟩
    rw [show k + (d + 1) + 1 = m + 1 by omega]
    have hr : rd P (at_ : Int) = (l[i]).f0 := rd_list P at_ _ (by simpa using hj 0 (by omega))
    conv => lhs; simp only [deadwoodlaw36_ExplorePicks.l1]
    rw [if_pos (by omega), if_neg (by omega), if_pos (by omega), if_pos (by omega), if_pos (by omega), if_pos (by omega), if_pos (by rw [hr, rd_at l i hi]), wrap_small (by omega) (by omega), wrap_small (by omega) (by omega)]
    have h2 : ((at_ : Int) + 1) = ((at_ + 1 : Nat) : Int) := by omega
    rw [hm, h2, ih k (at_ + 1) (q + 1) (by omega) (by omega) hn (by omega) (fun j hjd => by have := hj (j + 1) (by omega); rw [show at_ + 1 + j = at_ + (j + 1) by omega]; exact this)]
    rw [show at_ + 1 + d = at_ + (d + 1) by omega]

theorem law_l1_none (l : List S27) (P : List Int) (i : Nat) (n : Int) (k : Nat) (at_ : Int) (h : n ≤ 0) (hl : l.length ≤ 40) (hi : i < l.length) :
    deadwoodlaw36_ExplorePicks.l1 (k + 1) l P at_ (i : Int) n 0 = deadwoodlaw36_ExplorePicks.l0 k l P at_ (((i + 1 : Nat)) : Int) := by
  simp only [deadwoodlaw36_ExplorePicks.l1]
  rw [if_neg (by omega), wrap_small (by omega) (by omega)]
  rfl

theorem law_l0 (l : List S27) (hl : l.length ≤ 40) : ∀ (d i : Nat) (pre : List Int), i + d = l.length → pre.length ≤ 1000 * i →
    ∃ k, deadwoodlaw36_ExplorePicks.l0 k l (pre ++ (l.drop i).flatMap pk) (pre.length : Int) (i : Int) = some true := by
  intro d
  induction d with
  | zero =>
    intro i pre hi ha
    refine ⟨20 + 1, ?_⟩
    conv => lhs; simp only [deadwoodlaw36_ExplorePicks.l0]
    rw [if_neg (by omega), List.drop_of_length_le (by omega), if_pos (by simp), lives_ok]
    rfl
  | succ d ih =>
    intro i pre hi ha
    have hlt : i < l.length := by omega
    have hc := cnt_le l[i]
    have h3 : l.drop i = l[i] :: l.drop (i + 1) := List.drop_eq_getElem_cons hlt
    obtain ⟨k, hk⟩ := ih (i + 1) (pre ++ pk l[i]) (by omega) (by simp [pk_len]; omega)
    rw [h3, List.flatMap_cons, ← List.append_assoc]
    generalize hP : pre ++ pk l[i] ++ (l.drop (i + 1)).flatMap pk = P at hk
    have hPl : pre.length + cnt l[i] ≤ P.length := by rw [← hP]; simp [pk_len]
    have hP4 : P.length ≤ 40000 := by
      rw [← hP]
      have : ∀ m : List S27, (m.flatMap pk).length ≤ 1000 * m.length := by
        intro m
        induction m with
        | nil => simp
        | cons a m ihm =>
          have := cnt_le a
          simp only [List.flatMap_cons, List.length_append, pk_len, List.length_cons]
          omega
      have h5 := this (l.drop (i + 1))
      simp only [List.length_append, pk_len, List.length_drop] at h5 ⊢
      omega
    have hj : ∀ j, j < cnt l[i] → P[pre.length + j]? = some (l[i]).f0 := by
      intro j hjc
      rw [← hP, List.append_assoc, List.getElem?_append_right (by omega), List.getElem?_append_left (by rw [pk_len]; omega)]
      simp [pk, hjc]
    have hk' : deadwoodlaw36_ExplorePicks.l0 k l P ((pre.length + cnt l[i] : Nat) : Int) ((i + 1 : Nat) : Int) = some true := by
      have : (pre ++ pk l[i]).length = pre.length + cnt l[i] := by simp [pk_len]
      rw [this] at hk
      exact hk
    have hn : ∀ n : Int, n = (if (rd_T27 l (i : Int)).f1 > 1000 then 1000 else (rd_T27 l (i : Int)).f1) → ∃ k, deadwoodlaw36_ExplorePicks.l1 k l P (pre.length : Int) (i : Int) n 0 = some true := by
      intro n hn
      rw [rd_at l i hlt] at hn
      by_cases hp : n ≤ 0
      · refine ⟨k + 1, ?_⟩
        rw [law_l1_none l P i n k _ hp hl hlt]
        have : cnt l[i] = 0 := by unfold cnt; split at hn <;> omega
        rw [this] at hk'
        exact hk'
      · have : (cnt l[i] : Int) = n := by unfold cnt; split at hn <;> omega
        refine ⟨k + cnt l[i] + 1, ?_⟩
        rw [law_l1 l P i hlt hP4 n hl (cnt l[i]) k pre.length 0 (by omega) (by omega) (by omega) hPl hj]
        exact hk'
    by_cases hb : (rd_T27 l (i : Int)).f1 > 1000
    · obtain ⟨k2, h2⟩ := hn 1000 (by rw [if_pos hb])
      refine ⟨k2 + 1 + 1, ?_⟩
      conv => lhs; simp only [deadwoodlaw36_ExplorePicks.l0]
      rw [if_pos (by omega), if_pos (by omega), if_pos hb]
      simpa only [deadwoodlaw36_ExplorePicks.j1] using h2
    · obtain ⟨k2, h2⟩ := hn _ (by rw [if_neg hb])
      refine ⟨k2 + 1 + 1, ?_⟩
      conv => lhs; simp only [deadwoodlaw36_ExplorePicks.l0]
      rw [if_pos (by omega), if_pos (by omega), if_neg hb]
      simpa only [deadwoodlaw36_ExplorePicks.j1] using h2

theorem law_ok (l : List S27) : ∃ k, deadwoodlaw36_ExplorePicks.f k l = some true := by
  by_cases h : (l.length : Int) > 40
  · refine ⟨20, ?_⟩
    unfold deadwoodlaw36_ExplorePicks.f
    rw [if_pos h, lives_ok]
    rfl
  · obtain ⟨k1, h1⟩ := picks_f l (by omega)
    obtain ⟨k2, h2⟩ := law_l0 l (by omega) l.length 0 [] (by omega) (by simp)
    refine ⟨max k1 k2, ?_⟩
    unfold deadwoodlaw36_ExplorePicks.f
    rw [if_neg h]
    have e1 : explore_Picks.f (max k1 k2) l = some (l.flatMap pk) := at_rounds (g := fun k => explore_Picks.f k l) (fun k => explore_Picks.mono l k) (Nat.le_max_left _ _) h1
    have e2 : deadwoodlaw36_ExplorePicks.l0 (max k1 k2) l (l.flatMap pk) 0 0 = some true := at_rounds (g := fun k => deadwoodlaw36_ExplorePicks.l0 k l (l.flatMap pk) 0 0) (fun k => (deadwoodlaw36_ExplorePicks.mono_l k).1 _ _ _ _) (Nat.le_max_right _ _) (by simpa using h2)
    rw [e1]
    exact e2
end Go.Proofs.Ytbaedbaboohgeaa.Pure
