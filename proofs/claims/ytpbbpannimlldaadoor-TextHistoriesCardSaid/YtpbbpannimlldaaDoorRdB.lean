/- The reference's reading of a call: places and what has them: plain lemmas. -/
import Derived.Test.YtpbbpannimlldaaDoorRdR
import Derived.Test.YtpbbpannimlldaaDoorTxH
namespace Go.Proofs.YtpbbpannimlldaaDoor
open Go.RowKit

def hasP (op : Int) : List (Bool × Nat) := [((hasL op).1, 1), ((hasL op).2.1, 2), ((hasL op).2.2.1, 3), ((hasL op).2.2.2, 4)]
def posF (op : Int) (i : Nat) : List Nat := ((hasP op).drop i).filterMap fun p => if p.1 then some p.2 else none
theorem posF_zero (op : Int) : posF op 0 = posC op := by
  unfold posF posC hasP hasL idxC
  by_cases h0 : op = 0
  · subst h0; rfl
  by_cases h1 : op = 1 ∨ op = 2 ∨ op = 7 ∨ op = 8 ∨ op = 11
  · have h3 : op ≠ 3 := by omega
    simp only [if_neg h0, if_pos h1, if_neg h3]
    rfl
  by_cases h3 : op = 3
  · subst h3; rfl
  by_cases h4 : op = 4 ∨ op = 9
  · have h5 : op = 3 ∨ op = 4 ∨ op = 9 := by omega
    simp only [if_neg h0, if_neg h1, if_neg h3, if_pos h4, if_pos h5]
    rfl
  · have h5 : ¬ (op = 3 ∨ op = 4 ∨ op = 9) := by omega
    simp only [if_neg h0, if_neg h1, if_neg h3, if_neg h4, if_neg h5]
    rfl
theorem posF_four (op : Int) : posF op 4 = [] := rfl
theorem posF_step (op : Int) {i : Nat} (h : i < 4) : posF op i = if ((hasP op).getD i (false, 0)).1 then (i + 1) :: posF op (i + 1) else posF op (i + 1) := by
  have hc : i = 0 ∨ i = 1 ∨ i = 2 ∨ i = 3 := by omega
  rcases hc with rfl | rfl | rfl | rfl
  · cases hb : (hasL op).1 <;> simp [posF, hasP, hb]
  · cases hb : (hasL op).2.1 <;> simp [posF, hasP, hb]
  · cases hb : (hasL op).2.2.1 <;> simp [posF, hasP, hb]
  · cases hb : (hasL op).2.2.2 <;> simp [posF, hasP, hb]
theorem wordB_nat {k : Nat} (h : k < 15) : wordB (k : Int) = wordL.getD k [] := (wordB_some h).1
theorem kindB_nat {k : Nat} (h : k < 9) : kindB (k : Int) = kindL.getD k [] := (kindB_some h).1
/-- The reference's search, k words on. -/
def LastR (L : List (List UInt8)) (s : List UInt8) (k : Nat) (v : Int) : Prop := (v = -1 ∧ ∀ j, j < k → L.getD j [] ≠ s) ∨ (∃ j : Nat, j < k ∧ L.getD j [] = s ∧ v = (j : Int))
theorem LastR.hit {L : List (List UInt8)} {s : List UInt8} {k : Nat} (h : L.getD k [] = s) : LastR L s (k + 1) (k : Nat) := .inr ⟨k, by omega, h, rfl⟩
theorem LastR.miss {L : List (List UInt8)} {s : List UInt8} {k : Nat} {v : Int} (hl : LastR L s k v) (h : L.getD k [] ≠ s) : LastR L s (k + 1) v := by
  rcases hl with ⟨rfl, hn⟩ | ⟨j, hj, he, rfl⟩
  · refine .inl ⟨rfl, fun j hj => ?_⟩
    by_cases hjk : j < k
    · exact hn j hjk
    · obtain rfl : j = k := by omega
      exact h
  · exact .inr ⟨j, by omega, he, rfl⟩
theorem LastR.end_ {L : List (List UInt8)} {s : List UInt8} {n : Nat} {v : Int} (hl : LastR L s n v) (h1 : ∀ i, i < n → ∀ j, j < n → L.getD i [] = L.getD j [] → i = j) : (v = -1 ∧ firstZ L s n = none) ∨ (∃ j : Nat, j < n ∧ v = (j : Int) ∧ firstZ L s n = some j) := by
  rcases hl with ⟨rfl, hn⟩ | ⟨j, hj, he, rfl⟩
  · exact .inl ⟨rfl, firstZ_none hn⟩
  · exact .inr ⟨j, hj, rfl, firstZ_some hj he (fun i hi e => by have := h1 i (by omega) j hj (e.trans he.symm); omega)⟩
end Go.Proofs.YtpbbpannimlldaaDoor
