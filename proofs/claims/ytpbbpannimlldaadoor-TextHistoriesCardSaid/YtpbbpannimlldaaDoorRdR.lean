/- Calls and answers that words are: plain lemmas; no program. -/
import Derived.Test.YtpbbpannimlldaaDoorRdQ
namespace Go.Proofs.YtpbbpannimlldaaDoor
open Go.RowKit

/-- The first of n words that a word is. -/
def firstZ (L : List (List UInt8)) (s : List UInt8) (n : Nat) : Option Nat := (List.range n).find? fun k => L.getD k [] == s
theorem firstZ_some {L : List (List UInt8)} {s : List UInt8} {n k : Nat} (hk : k < n) (h : L.getD k [] = s) (hn : ∀ j, j < k → L.getD j [] ≠ s) : firstZ L s n = some k := by
  unfold firstZ
  rw [List.find?_range_eq_some]
  exact ⟨by simpa using h, by simpa using hk, fun j hj => by simpa using hn j hj⟩
theorem firstZ_none {L : List (List UInt8)} {s : List UInt8} {n : Nat} (hn : ∀ j, j < n → L.getD j [] ≠ s) : firstZ L s n = none := by
  unfold firstZ
  rw [List.find?_eq_none]
  intro j hj
  simpa using hn j (by simpa using hj)
theorem wordL_one : ∀ i, i < 15 → ∀ j, j < 15 → wordL.getD i [] = wordL.getD j [] → i = j := by
  have : ∀ i j : Fin 15, wordL.getD i.val [] = wordL.getD j.val [] → i = j := by decide
  exact fun i hi j hj h => congrArg Fin.val (this ⟨i, hi⟩ ⟨j, hj⟩ h)
theorem kindL_one : ∀ i, i < 9 → ∀ j, j < 9 → kindL.getD i [] = kindL.getD j [] → i = j := by
  have : ∀ i j : Fin 9, kindL.getD i.val [] = kindL.getD j.val [] → i = j := by decide
  exact fun i hi j hj h => congrArg Fin.val (this ⟨i, hi⟩ ⟨j, hj⟩ h)
def opZ (s : List UInt8) : Option Nat := firstZ wordL s 15
def kdZ (s : List UInt8) : Option Nat := firstZ kindL s 9
/-- All numbers that words are. -/
def allZ : List (List UInt8) → Option (List Int)
  | [] => some []
  | s :: t => match parseZ s, allZ t with
    | some n, some l => some (n :: l)
    | _, _ => none
def posC (op : Int) : List Nat := idxC op ++ if op = 3 then [4] else []
def CallX.put (c : CallX) (i : Nat) (v : Int) : CallX := if i = 1 then { c with key := v } else if i = 2 then { c with val := v } else if i = 3 then { c with hi := v } else { c with lim := v }
def putAll (c : CallX) : List Nat → List Int → CallX
  | i :: is, v :: vs => putAll (c.put i v) is vs
  | _, _ => c
theorem allZ_len : ∀ {t : List (List UInt8)} {ns : List Int}, allZ t = some ns → ns.length = t.length
  | [], ns, h => by injection h with h; subst h; rfl
  | s :: t, ns, h => by
    unfold allZ at h
    split at h
    · rename_i n l _ h2
      injection h with h
      subst h
      rw [List.length_cons, List.length_cons, allZ_len h2]
    · cases h
theorem allZ_cons_some {s : List UInt8} {t : List (List UInt8)} {n : Int} (h : parseZ s = some n) : allZ (s :: t) = (allZ t).map (n :: ·) := by
  conv => lhs; unfold allZ
  rw [h]
  cases allZ t <;> rfl
theorem allZ_cons_none {s : List UInt8} {t : List (List UInt8)} (h : parseZ s = none) : allZ (s :: t) = none := by
  conv => lhs; unfold allZ
  rw [h]
/-- What is left to read: some places, some words. -/
def restC (c : CallX) (is : List Nat) (ws : List (List UInt8)) : Except Int CallX := match allZ ws with
  | some ns => if ns.length = is.length then .ok (putAll c is ns) else .error 4
  | none => .error 4
theorem restC_end (c : CallX) (ws : List (List UInt8)) : restC c [] ws = if ws = [] then .ok c else .error 4 := by
  unfold restC
  cases ws with
  | nil => rfl
  | cons s t =>
    rw [if_neg (by simp)]
    cases h : allZ (s :: t) with
    | none => rfl
    | some ns =>
      have := allZ_len h
      dsimp only
      rw [if_neg (by rw [this]; simp)]
theorem restC_none (c : CallX) (i : Nat) (is : List Nat) : restC c (i :: is) [] = .error 4 := rfl
theorem restC_bad (c : CallX) (i : Nat) (is : List Nat) {s : List UInt8} (t : List (List UInt8)) (h : parseZ s = none) : restC c (i :: is) (s :: t) = .error 4 := by
  unfold restC
  rw [allZ_cons_none h]
theorem restC_step (c : CallX) (i : Nat) (is : List Nat) {s : List UInt8} (t : List (List UInt8)) {n : Int} (h : parseZ s = some n) : restC c (i :: is) (s :: t) = restC (c.put i n) is t := by
  unfold restC
  rw [allZ_cons_some h]
  cases allZ t with
  | none => rfl
  | some ns =>
    simp only [Option.map_some, List.length_cons]
    by_cases hl : ns.length = is.length
    · rw [if_pos (by omega), if_pos hl]; rfl
    · rw [if_neg (by omega), if_neg hl]
/-- The call that words are, or why they are none. -/
def readC (ws : List (List UInt8)) : Except Int CallX := match ws with
  | [] => .error 4
  | s :: t => match opZ s with
    | none => .error 3
    | some op => restC ⟨op, 0, 0, 0, 0⟩ (posC op) t
theorem readC_some {s : List UInt8} {t : List (List UInt8)} {op : Nat} (h : opZ s = some op) : readC (s :: t) = restC ⟨op, 0, 0, 0, 0⟩ (posC op) t := by
  show (match opZ s with | none => _ | some op => _) = _
  rw [h]
theorem readC_none {s : List UInt8} {t : List (List UInt8)} (h : opZ s = none) : readC (s :: t) = .error 3 := by
  show (match opZ s with | none => _ | some op => _) = _
  rw [h]
end Go.Proofs.YtpbbpannimlldaaDoor
