/- No two words have one name. Plain lemmas. Condition: at most 60 slots. -/
import Derived.Test.YtnhkjfknhponkaaDoorNm1
namespace Go.Proofs.YtnhkjfknhponkaaDoor
open Go.RowKit

def encN (l : List UInt8) : Nat := l.foldl (fun a b => a * 256 + b.toNat) 1
theorem encN_eq {a b : List UInt8} (h : a = b) : encN a = encN b := by rw [h]
def nodupB : List Nat → Bool
  | [] => true
  | x :: l => !(l.elem x) && nodupB l
def allP : List (Nat × Nat × Nat) := (List.range 3).map (fun i => (0, i, 0)) ++ (List.range 6).map (fun i => (1, i, 0)) ++ (List.range 6).map (fun i => (2, i, 0)) ++ (List.range 18).map (fun k => (3, k / 3, k % 3)) ++ (List.range 18).map (fun k => (4, k / 3, k % 3)) ++ (List.range 420).map (fun k => (5, 1 + k / 7, k % 7))
def codes : List Nat := allP.map fun x => encN (nameP x)
set_option maxRecDepth 100000 in
theorem codes_nodup : nodupB codes = true := by decide +kernel
theorem inj_nodupB {α : Type} (f : α → Nat) : ∀ l : List α, nodupB (l.map f) = true → ∀ x, x ∈ l → ∀ y, y ∈ l → f x = f y → x = y
  | [], _, x, hx, _, _, _ => by cases hx
  | a :: l, h, x, hx, y, hy, he => by
    have h1 : (!((l.map f).elem (f a)) && nodupB (l.map f)) = true := h
    rw [Bool.and_eq_true] at h1
    have hn : ¬ f a ∈ l.map f := by
      have := h1.1
      simpa using this
    rcases List.mem_cons.1 hx with ex | hx2
    · rcases List.mem_cons.1 hy with ey | hy2
      · rw [ex, ey]
      · exact absurd (by rw [← ex, he]; exact List.mem_map_of_mem hy2) hn
    · rcases List.mem_cons.1 hy with ey | hy2
      · exact absurd (by rw [← ey, ← he]; exact List.mem_map_of_mem hx2) hn
      · exact inj_nodupB f l h1.2 x hx2 y hy2 he
theorem name_inj {x y : Nat × Nat × Nat} (hx : x ∈ allP) (hy : y ∈ allP) (h : nameP x = nameP y) : x = y :=
  inj_nodupB (fun x => encN (nameP x)) allP codes_nodup x hx y hy (encN_eq h)
theorem what_mem (c : ConfS) (ho : c.Ok) (hs : c.slots ≤ 60) (a : Nat) (ha : a < nWords c) : whatS c a ∈ allP := by
  have h1 := ho.t1
  have h2 := ho.t2
  have h3 := ho.s1
  unfold nWords at ha
  unfold whatS allP
  simp only
  split
  · refine List.mem_append_left _ (List.mem_append_left _ (List.mem_append_left _ (List.mem_append_left _ (List.mem_append_left _ ?_))))
    exact List.mem_map.2 ⟨a, List.mem_range.2 (by omega), rfl⟩
  · split
    · refine List.mem_append_right _ ?_
      exact List.mem_map.2 ⟨a - (3 + 8 * c.thr.toNat), List.mem_range.2 (by omega), rfl⟩
    · split
      · refine List.mem_append_left _ (List.mem_append_right _ ?_)
        refine List.mem_map.2 ⟨(a - 3) / 8 * 3 + ((a - 3) % 8 - 5), List.mem_range.2 (by omega), ?_⟩
        refine Prod.ext rfl (Prod.ext ?_ ?_) <;> (dsimp only; omega)
      · split
        · refine List.mem_append_left _ (List.mem_append_left _ (List.mem_append_right _ ?_))
          refine List.mem_map.2 ⟨(a - 3) / 8 * 3 + ((a - 3) % 8 - 2), List.mem_range.2 (by omega), ?_⟩
          refine Prod.ext rfl (Prod.ext ?_ ?_) <;> (dsimp only; omega)
        · by_cases h0 : (a - 3) % 8 = 0
          · refine List.mem_append_left _ (List.mem_append_left _ (List.mem_append_left _ (List.mem_append_left _ (List.mem_append_right _ ?_))))
            refine List.mem_map.2 ⟨(a - 3) / 8, List.mem_range.2 (by omega), ?_⟩
            refine Prod.ext ?_ (Prod.ext rfl rfl)
            dsimp only
            omega
          · refine List.mem_append_left _ (List.mem_append_left _ (List.mem_append_left _ (List.mem_append_right _ ?_)))
            refine List.mem_map.2 ⟨(a - 3) / 8, List.mem_range.2 (by omega), ?_⟩
            refine Prod.ext ?_ (Prod.ext rfl rfl)
            dsimp only
            omega
/-- Where a place is. -/
def posS (c : ConfS) (x : Nat × Nat × Nat) : Nat := if x.1 = 0 then x.2.1 else if x.1 = 5 then 3 + 8 * c.thr.toNat + 7 * (x.2.1 - 1) + x.2.2 else if x.1 = 4 then 3 + 8 * x.2.1 + 5 + x.2.2 else if x.1 = 3 then 3 + 8 * x.2.1 + 2 + x.2.2 else 3 + 8 * x.2.1 + (x.1 - 1)
theorem pos_what (c : ConfS) (a : Nat) : posS c (whatS c a) = a := by
  unfold whatS
  simp only
  split
  · rfl
  · split
    · show 3 + 8 * c.thr.toNat + 7 * (1 + (a - (3 + 8 * c.thr.toNat)) / 7 - 1) + (a - (3 + 8 * c.thr.toNat)) % 7 = a
      omega
    · split
      · show 3 + 8 * ((a - 3) / 8) + 5 + ((a - 3) % 8 - 5) = a
        omega
      · split
        · show 3 + 8 * ((a - 3) / 8) + 2 + ((a - 3) % 8 - 2) = a
          omega
        · unfold posS
          dsimp only
          rw [if_neg (by omega), if_neg (by omega), if_neg (by omega), if_neg (by omega)]
          omega
/-- No two words have one name. -/
theorem names_one (c : ConfS) (ho : c.Ok) (hs : c.slots ≤ 60) (a b : Nat) (ha : a < nWords c) (hb : b < nWords c) (h : nameP (whatS c a) = nameP (whatS c b)) : a = b := by
  have := name_inj (what_mem c ho hs a ha) (what_mem c ho hs b hb) h
  rw [← pos_what c a, ← pos_what c b, this]
end Go.Proofs.YtnhkjfknhponkaaDoor
