/- A run of a thread alone, as that thread sees it. Plain lemmas. -/
import Derived.Test.YtlbhjahmgdghoaaW0
namespace Go.Proofs.Ytlbhjahmgdghoaa
open Go.RowKit

def psGo (step : PS → PS) (n : Nat) : Nat → Nat → PS → PS × Nat × Bool
  | 0, i, q => (q, i, false)
  | f + 1, i, q => if (q.stepped (step q)).th.frs.length ≤ n then (q.stepped (step q), i + 1, true) else psGo step n f (i + 1) (q.stepped (step q))
structure RoomP (s q : PS) : Prop where
  s0 : 0 ≤ s.steps
  s1 : s.steps ≤ 4611686018427387904
  a1 : s.mem.acc ≤ 4611686018427387904
  a2 : q.mem.acc ≤ 4611686018427387999
  st : q.steps = s.steps
def RunsP (n : Nat) (ok : PS → Prop) (step : PS → PS) : Nat → PS → Prop
  | 0, _ => False
  | f + 1, q => n < q.th.frs.length ∧ ok q ∧ RoomP q (step q) ∧ ((q.stepped (step q)).th.frs.length ≤ n ∨ RunsP n ok step f (q.stepped (step q)))
theorem part_join {s : MS} {k : Nat} {q : PS} (h : k < s.ths.length) : (s.join k q).ths[k]? = some q.th := List.getElem?_set_self h
theorem join_join {s : MS} {k : Nat} {q q' : PS} : (s.join k q).join k q' = s.join k q' := by
  show ({ conf := _, mem := _, gd := _, ths := (s.ths.set k q.th).set k q'.th, steps := _, fault := _ } : MS) = _
  rw [List.set_set]
  rfl
theorem aloneGo_ps (step : PS → PS) (k n : Nat) : ∀ (f i : Nat) (s : MS) (q : PS), k < s.ths.length → aloneGo step k n f i (s.join k q) = (s.join k (psGo step n f i q).1, (psGo step n f i q).2)
  | 0, i, s, q, _ => rfl
  | f + 1, i, s, q, h => by
    have h1 : (s.join k q).ths[k]? = some q.th := part_join h
    have h2 : (s.join k q).run1 k step = s.join k (q.stepped (step q)) := by
      rw [run1_of h1]
      exact join_join
    have h3 : (s.join k (q.stepped (step q))).depth k = (q.stepped (step q)).th.frs.length := depth_of (part_join h)
    unfold aloneGo psGo
    rw [h2, h3]
    split
    · rfl
    · exact aloneGo_ps step k n f (i + 1) s _ h
def RunsAt (k n : Nat) (ok : PS → Prop) (step : PS → PS) (s : MS) : Prop := ∃ f t, s.ths[k]? = some t ∧ RunsP n ok step f (s.part t)
theorem drives_runs (k n : Nat) (ok : PS → Prop) (step : PS → PS) : Drives (RunsAt k n ok step) k n ok step := by
  intro s ⟨f, t, ht, h⟩
  cases f with
  | zero => exact h.elim
  | succ f =>
    obtain ⟨h1, h2, h3, h4⟩ := h
    refine ⟨t, ht, h1, h2, ⟨h3.s0, h3.s1, h3.a1, h3.a2, h3.st⟩, fun hn => ⟨f, _, ran_at ht, ?_⟩⟩
    exact h4.resolve_left (by show ¬ (step (s.part t)).th.frs.length ≤ n; omega)
theorem call_join {s : MS} {k : Nat} {t : ThS} {fn : Int} {l : List Nat} (h : s.ths[k]? = some t) : s.call k fn l = s.join k { (s.part t) with th := t.pushed fn l } := by
  unfold MS.call
  rw [h]
theorem runsAt_call {s : MS} {k : Nat} {t : ThS} {fn : Int} {l : List Nat} {n f : Nat} {ok : PS → Prop} {step : PS → PS} (h : s.ths[k]? = some t) (hr : RunsP n ok step f { (s.part t) with th := t.pushed fn l }) : RunsAt k n ok step (s.call k fn l) := by
  rw [call_join h]
  exact ⟨f, _, part_join (List.getElem?_eq_some_iff.1 h).1, hr⟩
theorem aloneGo_call {s : MS} {k : Nat} {t : ThS} {fn : Int} {l : List Nat} {n f i : Nat} {step : PS → PS} (h : s.ths[k]? = some t) :
    aloneGo step k n f i (s.call k fn l) = (s.join k (psGo step n f i { (s.part t) with th := t.pushed fn l }).1, (psGo step n f i { (s.part t) with th := t.pushed fn l }).2) := by
  rw [call_join h]
  exact aloneGo_ps step k n f i s _ (List.getElem?_eq_some_iff.1 h).1

/-- A thread within just one frame. -/
def onePS (c : ConfS) (ws : List Nat) (acc : Int) (gd : GuardS) (ret : List Nat) (ses : SesS) (row : List (Int × Int)) (stk : List Nat) (st : Int) (f : FrS) : PS := ⟨c, ⟨ws, acc, false⟩, gd, ⟨ret, ses, [f], row, stk⟩, st, false⟩
def donePS (c : ConfS) (ws : List Nat) (acc : Int) (gd : GuardS) (ret : List Nat) (ses : SesS) (row : List (Int × Int)) (stk : List Nat) (st : Int) : PS := ⟨c, ⟨ws, acc, false⟩, gd, ⟨ret, ses, [], row, stk⟩, st, false⟩
section
variable {c : ConfS} {ws : List Nat} {acc : Int} {gd : GuardS} {ret : List Nat} {ses : SesS} {row : List (Int × Int)} {stk : List Nat} {st : Int} {f : FrS}
theorem one_top : (onePS c ws acc gd ret ses row stk st f).th.top = f := rfl
theorem one_rd {a : Nat} (h : a < ws.length) : (onePS c ws acc gd ret ses row stk st f).mem.rd (a : Nat) = ws.getD a 0 := by
  show (if inR ws.length [(a : Int)] = true then ws.getD (a : Int).toNat 0 else 0) = _
  rw [if_pos (by rw [inR_one]; simp; omega)]
  rfl
theorem fault_one (a : Int) : decide (1 < a + 1 - a) = false := by simp; omega
theorem fault_zero (a : Int) : decide (1 < a - a) = false := by simp
theorem inR_nat {n a : Nat} (h : a < n) : inR n [(a : Int)] = true := by rw [inR_one]; simp; omega
end
end Go.Proofs.Ytlbhjahmgdghoaa
