/- Answers that words are: plain lemmas; no program. -/
import Derived.Test.YtpbbpannimlldaaDoorRdR
namespace Go.Proofs.YtpbbpannimlldaaDoor
open Go.RowKit

/-- All pairs that words are. -/
def prsZ : List (List UInt8) → Option (List (Int × Int))
  | [] => some []
  | s :: t => match pairZ s, prsZ t with
    | some p, some l => some (p :: l)
    | _, _ => none
theorem prsZ_cons_some {s : List UInt8} {t : List (List UInt8)} {p : Int × Int} (h : pairZ s = some p) : prsZ (s :: t) = (prsZ t).map (p :: ·) := by
  conv => lhs; unfold prsZ
  rw [h]
  cases prsZ t <;> rfl
theorem prsZ_cons_none {s : List UInt8} {t : List (List UInt8)} (h : pairZ s = none) : prsZ (s :: t) = none := by
  conv => lhs; unfold prsZ
  rw [h]
/-- The answer that words are, or why they are none. -/
def readA (ws : List (List UInt8)) : Except Int AnsX := match ws with
  | [] => .error 4
  | s :: t => match kdZ s with
    | none => .error 3
    | some k => if k = 1 then (match allZ t with | some [x, y] => .ok ⟨1, x, y, 0, [], none, 0⟩ | _ => .error 4)
      else if k = 2 then (match allZ t with | some [x] => .ok ⟨2, 0, 0, x, [], none, 0⟩ | _ => .error 4)
      else if k = 3 then (match prsZ t with | some ps => .ok ⟨3, 0, 0, 0, ps, none, 0⟩ | none => .error 4)
      else if t = [] then .ok ⟨(k : Nat), 0, 0, 0, [], none, 0⟩ else .error 4
theorem readA_none {s : List UInt8} {t : List (List UInt8)} (h : kdZ s = none) : readA (s :: t) = .error 3 := by
  show (match kdZ s with | none => _ | some k => _) = _
  rw [h]
theorem readA_one {s : List UInt8} {t : List (List UInt8)} (h : kdZ s = some 1) : readA (s :: t) = match allZ t with | some [x, y] => .ok ⟨1, x, y, 0, [], none, 0⟩ | _ => .error 4 := by
  show (match kdZ s with | none => _ | some k => _) = _
  rw [h]
  rfl
theorem readA_two {s : List UInt8} {t : List (List UInt8)} (h : kdZ s = some 2) : readA (s :: t) = match allZ t with | some [x] => .ok ⟨2, 0, 0, x, [], none, 0⟩ | _ => .error 4 := by
  show (match kdZ s with | none => _ | some k => _) = _
  rw [h]
  rfl
theorem readA_three {s : List UInt8} {t : List (List UInt8)} (h : kdZ s = some 3) : readA (s :: t) = match prsZ t with | some ps => .ok ⟨3, 0, 0, 0, ps, none, 0⟩ | none => .error 4 := by
  show (match kdZ s with | none => _ | some k => _) = _
  rw [h]
  rfl
theorem readA_else {s : List UInt8} {t : List (List UInt8)} {k : Nat} (h : kdZ s = some k) (h1 : k ≠ 1) (h2 : k ≠ 2) (h3 : k ≠ 3) : readA (s :: t) = if t = [] then .ok ⟨(k : Nat), 0, 0, 0, [], none, 0⟩ else .error 4 := by
  show (match kdZ s with | none => _ | some k => _) = _
  rw [h]
  show (if k = 1 then _ else _) = _
  rw [if_neg h1, if_neg h2, if_neg h3]
theorem one_nil : (match allZ [] with | some [x, y] => (.ok ⟨1, x, y, 0, [], none, 0⟩ : Except Int AnsX) | _ => .error 4) = .error 4 := rfl
theorem two_nil : (match allZ [] with | some [x] => (.ok ⟨2, 0, 0, x, [], none, 0⟩ : Except Int AnsX) | _ => .error 4) = .error 4 := rfl
theorem one_bad {s : List UInt8} (t : List (List UInt8)) (h : parseZ s = none) : (match allZ (s :: t) with | some [x, y] => (.ok ⟨1, x, y, 0, [], none, 0⟩ : Except Int AnsX) | _ => .error 4) = .error 4 := by
  rw [allZ_cons_none h]
theorem two_bad {s : List UInt8} (t : List (List UInt8)) (h : parseZ s = none) : (match allZ (s :: t) with | some [x] => (.ok ⟨2, 0, 0, x, [], none, 0⟩ : Except Int AnsX) | _ => .error 4) = .error 4 := by
  rw [allZ_cons_none h]
theorem two_end {s : List UInt8} (t : List (List UInt8)) {n : Int} (h : parseZ s = some n) : (match allZ (s :: t) with | some [x] => (.ok ⟨2, 0, 0, x, [], none, 0⟩ : Except Int AnsX) | _ => .error 4) = if t = [] then .ok ⟨2, 0, 0, n, [], none, 0⟩ else .error 4 := by
  rw [allZ_cons_some h]
  cases t with
  | nil => rfl
  | cons s2 t2 =>
    rw [if_neg (by simp)]
    cases ha : allZ (s2 :: t2) with
    | none => rfl
    | some l =>
      have := allZ_len ha
      cases l with
      | nil => simp at this
      | cons a l => rfl
theorem one_one {s : List UInt8} {n : Int} (h : parseZ s = some n) : (match allZ [s] with | some [x, y] => (.ok ⟨1, x, y, 0, [], none, 0⟩ : Except Int AnsX) | _ => .error 4) = .error 4 := by
  rw [allZ_cons_some h]
  rfl
theorem one_bad2 {s s2 : List UInt8} (t : List (List UInt8)) {n : Int} (h : parseZ s = some n) (h2 : parseZ s2 = none) : (match allZ (s :: s2 :: t) with | some [x, y] => (.ok ⟨1, x, y, 0, [], none, 0⟩ : Except Int AnsX) | _ => .error 4) = .error 4 := by
  rw [allZ_cons_some h, allZ_cons_none h2]
  rfl
theorem one_end {s s2 : List UInt8} (t : List (List UInt8)) {n m : Int} (h : parseZ s = some n) (h2 : parseZ s2 = some m) : (match allZ (s :: s2 :: t) with | some [x, y] => (.ok ⟨1, x, y, 0, [], none, 0⟩ : Except Int AnsX) | _ => .error 4) = if t = [] then .ok ⟨1, n, m, 0, [], none, 0⟩ else .error 4 := by
  rw [allZ_cons_some h, allZ_cons_some h2]
  cases t with
  | nil => rfl
  | cons s3 t3 =>
    rw [if_neg (by simp)]
    cases ha : allZ (s3 :: t3) with
    | none => rfl
    | some l =>
      have := allZ_len ha
      cases l with
      | nil => simp at this
      | cons a l => rfl
/-- What is left to read of pairs. -/
def restP (ps : List (Int × Int)) (ws : List (List UInt8)) : Except Int AnsX := match prsZ ws with
  | some l => .ok ⟨3, 0, 0, 0, ps ++ l, none, 0⟩
  | none => .error 4
theorem restP_end (ps : List (Int × Int)) : restP ps [] = .ok ⟨3, 0, 0, 0, ps, none, 0⟩ := by
  show Except.ok _ = _
  rw [List.append_nil]
theorem restP_bad (ps : List (Int × Int)) {s : List UInt8} (t : List (List UInt8)) (h : pairZ s = none) : restP ps (s :: t) = .error 4 := by
  unfold restP
  rw [prsZ_cons_none h]
theorem restP_step (ps : List (Int × Int)) {s : List UInt8} (t : List (List UInt8)) {p : Int × Int} (h : pairZ s = some p) : restP ps (s :: t) = restP (ps ++ [p]) t := by
  unfold restP
  rw [prsZ_cons_some h]
  cases prsZ t with
  | none => rfl
  | some l =>
    show Except.ok _ = Except.ok _
    rw [List.append_assoc]
    rfl
theorem readA_rest {s : List UInt8} {t : List (List UInt8)} (h : kdZ s = some 3) : readA (s :: t) = restP [] t := by
  rw [readA_three h]
  unfold restP
  cases prsZ t <;> rfl
end Go.Proofs.YtpbbpannimlldaaDoor
