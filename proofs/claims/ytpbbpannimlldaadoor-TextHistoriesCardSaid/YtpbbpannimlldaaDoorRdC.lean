/- The reference's reading of an answer: numbers gathered: plain lemmas. -/
import Derived.Test.YtpbbpannimlldaaDoorRdA
import Derived.Test.YtpbbpannimlldaaDoorRdB
namespace Go.Proofs.YtpbbpannimlldaaDoor
open Go.RowKit

def partsZ (k : Nat) (s : List UInt8) : List (List UInt8) := if k = 3 then cutZ 58 s else [s]
/-- All numbers of all words. -/
def gatZ (k : Nat) : List (List UInt8) → Option (List Int)
  | [] => some []
  | s :: t => if k = 3 ∧ (cutZ 58 s).length ≠ 2 then none else match allZ (partsZ k s), gatZ k t with
    | some a, some b => some (a ++ b)
    | _, _ => none
theorem gatZ_cons (k : Nat) (s : List UInt8) (t : List (List UInt8)) : gatZ k (s :: t) = if k = 3 ∧ (cutZ 58 s).length ≠ 2 then none else match allZ (partsZ k s), gatZ k t with | some a, some b => some (a ++ b) | _, _ => none := by
  conv => lhs; unfold gatZ
theorem gatZ_one {k : Nat} (h : k ≠ 3) (s : List UInt8) (t : List (List UInt8)) : gatZ k (s :: t) = match allZ [s], gatZ k t with | some a, some b => some (a ++ b) | _, _ => none := by
  rw [gatZ_cons, if_neg (fun e => h e.1)]
  unfold partsZ
  rw [if_neg h]
theorem gatZ_plain {k : Nat} (h : k ≠ 3) : ∀ t : List (List UInt8), gatZ k t = allZ t
  | [] => rfl
  | s :: t => by
    rw [gatZ_cons, if_neg (fun e => h e.1), gatZ_plain h t]
    unfold partsZ
    rw [if_neg h]
    cases hp : parseZ s with
    | none => rw [allZ_cons_none hp, allZ_cons_none hp]
    | some n =>
      rw [allZ_cons_some hp, allZ_cons_some hp]
      cases allZ t <;> rfl
def flatP (ps : List (Int × Int)) : List Int := ps.flatMap fun p => [p.1, p.2]
theorem gatZ_pairs : ∀ t : List (List UInt8), gatZ 3 t = (prsZ t).map flatP
  | [] => rfl
  | s :: t => by
    rw [gatZ_cons, gatZ_pairs t]
    by_cases hl : (cutZ 58 s).length = 2
    · rw [if_neg (fun e => e.2 hl)]
      unfold partsZ
      rw [if_pos rfl]
      match hc : cutZ 58 s, hl with
      | [a, b], _ =>
        have hpz : pairZ s = match parseZ a, parseZ b with | some x, some y => some (x, y) | _, _ => none := by
          unfold pairZ
          rw [hc]
          cases ha : parseZ a <;> cases hb : parseZ b <;> simp [ha, hb]
        cases ha : parseZ a with
        | none =>
          rw [ha] at hpz
          rw [allZ_cons_none ha, prsZ_cons_none hpz]
          rfl
        | some x =>
          cases hb : parseZ b with
          | none =>
            rw [ha, hb] at hpz
            rw [allZ_cons_some ha, allZ_cons_none hb, prsZ_cons_none hpz]
            rfl
          | some y =>
            rw [ha, hb] at hpz
            rw [allZ_cons_some ha, allZ_cons_some hb, prsZ_cons_some hpz]
            cases prsZ t <;> rfl
    · rw [if_pos ⟨rfl, hl⟩]
      have hpz : pairZ s = none := by
        unfold pairZ
        split
        · rename_i a b e
          rw [e] at hl
          exact absurd rfl hl
        · rfl
      rw [prsZ_cons_none hpz]
      rfl
def wantZ (k : Nat) : Nat := if k = 1 then 2 else if k = 2 then 1 else 0
/-- The answer of a kind whose numbers were gathered. -/
def ansK (k : Nat) (ns : List Int) : AnsX := if k = 1 then ⟨1, ns.getD 0 0, ns.getD 1 0, 0, [], none, 0⟩ else if k = 2 then ⟨2, 0, 0, ns.getD 0 0, [], none, 0⟩ else ⟨(k : Nat), 0, 0, 0, [], none, 0⟩
theorem readA_gat {s : List UInt8} {t : List (List UInt8)} {k : Nat} (h : kdZ s = some k) (h3 : k ≠ 3) : readA (s :: t) = if t.length ≠ wantZ k then .error 4 else match gatZ k t with | some ns => .ok (ansK k ns) | none => .error 4 := by
  rw [gatZ_plain h3]
  by_cases h1 : k = 1
  · subst h1
    rw [readA_one h, show wantZ 1 = 2 from rfl]
    cases ha : allZ t with
    | none =>
      show Except.error 4 = _
      split <;> rfl
    | some ns =>
      have hl := allZ_len ha
      by_cases h2 : t.length = 2
      · rw [if_neg (fun e => e h2)]
        match ns, (by omega : ns.length = 2) with
        | [x, y], _ => rfl
      · rw [if_pos h2]
        match ns with
        | [] => rfl
        | [x] => rfl
        | [x, y] => exact absurd hl.symm h2
        | x :: y :: z :: r => rfl
  by_cases h2 : k = 2
  · subst h2
    rw [readA_two h, show wantZ 2 = 1 from rfl]
    cases ha : allZ t with
    | none =>
      show Except.error 4 = _
      split <;> rfl
    | some ns =>
      have hl := allZ_len ha
      by_cases h2 : t.length = 1
      · rw [if_neg (fun e => e h2)]
        match ns, (by omega : ns.length = 1) with
        | [x], _ => rfl
      · rw [if_pos h2]
        match ns with
        | [] => rfl
        | [x] => exact absurd hl.symm h2
        | x :: y :: r => rfl
  rw [readA_else h h1 h2 h3]
  have hw : wantZ k = 0 := by unfold wantZ; rw [if_neg h1, if_neg h2]
  rw [hw]
  cases t with
  | nil =>
    rw [if_pos rfl, if_neg (by simp)]
    show _ = Except.ok (ansK k [])
    unfold ansK
    rw [if_neg h1, if_neg h2]
  | cons s2 t2 => rw [if_neg (by simp), if_pos (by simp)]
theorem readA_gat3 {s : List UInt8} {t : List (List UInt8)} (h : kdZ s = some 3) : (∃ ps, prsZ t = some ps ∧ gatZ 3 t = some (flatP ps) ∧ readA (s :: t) = .ok ⟨3, 0, 0, 0, ps, none, 0⟩) ∨ (gatZ 3 t = none ∧ readA (s :: t) = .error 4) := by
  rw [readA_three h, gatZ_pairs]
  cases hp : prsZ t with
  | none => exact .inr ⟨rfl, rfl⟩
  | some ps => exact .inl ⟨ps, rfl, rfl, rfl⟩
theorem flatP_len (ps : List (Int × Int)) : (flatP ps).length = 2 * ps.length := by
  induction ps with
  | nil => rfl
  | cons p ps ih => unfold flatP at *; rw [List.flatMap_cons, List.length_append, ih]; simp; omega
theorem flatP_at (ps : List (Int × Int)) : ∀ m, m < ps.length → (flatP ps).getD (2 * m) 0 = (ps.getD m (0, 0)).1 ∧ (flatP ps).getD (2 * m + 1) 0 = (ps.getD m (0, 0)).2 := by
  induction ps with
  | nil => intro m h; simp at h
  | cons p ps ih =>
    intro m h
    cases m with
    | zero => exact ⟨rfl, rfl⟩
    | succ m =>
      have := ih m (by simpa using h)
      exact this
end Go.Proofs.YtpbbpannimlldaaDoor
