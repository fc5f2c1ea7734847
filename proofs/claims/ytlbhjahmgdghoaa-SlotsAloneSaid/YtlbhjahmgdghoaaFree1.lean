/- The steps of Take and Give, of a thread alone, spelt out. Plain lemmas. -/
import Derived.Test.YtlbhjahmgdghoaaPsGo
namespace Go.Proofs.Ytlbhjahmgdghoaa
open Go.RowKit

theorem rd_nat {ws : List Nat} {acc : Int} {fl : Bool} {a : Nat} (h : a < ws.length) : (⟨ws, acc, fl⟩ : MemS).rd (a : Nat) = ws.getD a 0 := by
  show (if inR ws.length [(a : Int)] = true then ws.getD (a : Int).toNat 0 else 0) = _
  rw [if_pos (inR_nat h)]
  rfl
theorem rd_two {ws : List Nat} {acc : Int} {fl : Bool} (h : 2 < ws.length) : (⟨ws, acc, fl⟩ : MemS).rd 2 = ws.getD 2 0 := rd_nat h
theorem inR_two {n : Nat} (h : 2 < n) : inR n [2] = true := inR_nat (a := 2) h
theorem nodeI_nat {c : ConfS} {s f : Nat} (h1 : 1 ≤ s) (h2 : (s : Int) ≤ c.slots) : nodeI c s f = (ixN c s f : Nat) := if_pos ⟨h1, h2⟩
theorem reg_set {fn pc : Int} {r : List Nat} {k v : Nat} (h : k < r.length) : (⟨fn, pc, r.set k v⟩ : FrS).reg k = v := by
  show (r.set k v).getD k 0 = v
  simp [h]
theorem reg_set_ne {fn pc pc' : Int} {r : List Nat} {k j v : Nat} (h : j ≠ k) : (⟨fn, pc, r.set k v⟩ : FrS).reg j = (⟨fn, pc', r⟩ : FrS).reg j := by
  show (r.set k v).getD j 0 = r.getD j 0
  rw [List.getD_eq_getElem?_getD, List.getD_eq_getElem?_getD, List.getElem?_set_ne (fun e => h e.symm)]
section
variable {c : ConfS} {ws : List Nat} {acc : Int} {gd : GuardS} {ret : List Nat} {ses : SesS} {row : List (Int × Int)} {stk : List Nat} {st : Int} {r : List Nat}
theorem takeP_0 (h2 : 2 < ws.length) : PS.slots (onePS c ws acc gd ret ses row stk st ⟨1, 0, r⟩) = onePS c ws (acc + 1) gd ret ses row stk st ⟨1, 1, r.set 1 (ws.getD 2 0)⟩ := by
  unfold PS.slots
  rw [if_pos (by rfl)]
  unfold PS.take
  rw [if_pos (by rfl)]
  have e : (onePS c ws acc gd ret ses row stk st ⟨1, 0, r⟩).mem.rd 2 = ws.getD 2 0 := rd_two h2
  unfold PS.head PS.touch
  rw [e]
  show ({ conf := c, mem := ⟨ws, acc + 1, false || !inR ws.length [2]⟩, gd := gd, th := ⟨ret, ses, [⟨1, 1, r.set 1 (ws.getD 2 0)⟩], row, stk⟩, steps := st, fault := false } : PS) = _
  rw [inR_two h2]
  rfl
theorem takeP_1_none (hs : slotE ((⟨1, 1, r⟩ : FrS).reg 1) = 0) : PS.slots (onePS c ws acc gd ret ses row stk st ⟨1, 1, r⟩) = donePS c ws acc gd (padTo 12 [0]) ses row stk st := by
  unfold PS.slots
  rw [if_pos (by rfl)]
  unfold PS.take
  rw [if_neg (by show ¬ (1 : Int) = 0; decide), if_pos (by rfl), if_pos (by exact hs)]
  rfl
theorem takeP_1 {s : Nat} (hs : slotE ((⟨1, 1, r⟩ : FrS).reg 1) = s) (h1 : 1 ≤ s) (h2 : (s : Int) ≤ c.slots) (h3 : ixN c s 0 < ws.length) :
    PS.slots (onePS c ws acc gd ret ses row stk st ⟨1, 1, r⟩) = onePS c ws (acc + 1) gd ret ses row stk st ⟨1, 2, r.set 2 (ws.getD (ixN c s 0) 0)⟩ := by
  unfold PS.slots
  rw [if_pos (by rfl)]
  unfold PS.take
  have e0 : (onePS c ws acc gd ret ses row stk st ⟨1, 1, r⟩).takeSlot = s := hs
  have e1 : (onePS c ws acc gd ret ses row stk st ⟨1, 1, r⟩).at_ 0 = (ixN c s 0 : Nat) := by
    unfold PS.at_
    rw [e0]
    exact nodeI_nat h1 h2
  have e2 : (onePS c ws acc gd ret ses row stk st ⟨1, 1, r⟩).mem.rd (ixN c s 0 : Nat) = ws.getD (ixN c s 0) 0 := rd_nat h3
  rw [if_neg (by show ¬ (1 : Int) = 0; decide), if_pos (by rfl), if_neg (by rw [e0]; omega), e1, e2]
  show ({ conf := c, mem := ⟨ws, acc + 1, false || !inR ws.length [((ixN c s 0 : Nat) : Int)]⟩, gd := gd, th := ⟨ret, ses, [⟨1, 2, r.set 2 (ws.getD (ixN c s 0) 0)⟩], row, stk⟩, steps := st, fault := false } : PS) = _
  rw [inR_nat h3]
  rfl
theorem swings_of {fn pc : Int} {h : Nat} (h2 : 2 < ws.length) (hr : (⟨fn, pc, r⟩ : FrS).reg 1 = h) (hh : ws.getD 2 0 = h) : (onePS c ws acc gd ret ses row stk st ⟨fn, pc, r⟩).swings = true := by
  show (inR ws.length [2] && ((⟨ws, acc, false⟩ : MemS).rd 2 == (⟨fn, pc, r⟩ : FrS).reg 1)) = true
  rw [inR_two h2, rd_two h2, hr, hh]
  simp
theorem swung_of {fn pc : Int} {h : Nat} (h2 : 2 < ws.length) (hr : (⟨fn, pc, r⟩ : FrS).reg 1 = h) (hh : ws.getD 2 0 = h) (x : Nat) : (onePS c ws acc gd ret ses row stk st ⟨fn, pc, r⟩).swung x = onePS c (ws.set 2 (chgN h x)) (acc + 1) gd ret ses row stk st ⟨fn, pc, r⟩ := by
  have e : (⟨ws, acc, false⟩ : MemS).casB 2 h = true := by
    show (inR ws.length [2] && ((⟨ws, acc, false⟩ : MemS).rd 2 == h)) = true
    rw [inR_two h2, rd_two h2, hh]
    simp
  unfold PS.swung
  show ({ conf := c, mem := (⟨ws, acc, false⟩ : MemS).casS 2 ((⟨fn, pc, r⟩ : FrS).reg 1) (chgN ((⟨fn, pc, r⟩ : FrS).reg 1) x), gd := gd, th := _, steps := st, fault := false } : PS) = _
  rw [hr]
  unfold MemS.casS
  rw [if_pos e]
  rfl
theorem takeP_2 {h nxt s : Nat} (h2 : 2 < ws.length) (hr1 : (⟨1, 2, r⟩ : FrS).reg 1 = h) (hr2 : (⟨1, 2, r⟩ : FrS).reg 2 = nxt) (hh : ws.getD 2 0 = h) (hs : slotE h = s) :
    PS.slots (onePS c ws acc gd ret ses row stk st ⟨1, 2, r⟩) = onePS c (ws.set 2 (chgN h nxt)) (acc + 1) (gd.takeS s) ret ses row stk st ⟨1, 3, r⟩ := by
  unfold PS.slots
  rw [if_pos (by rfl)]
  unfold PS.take
  rw [if_neg (by show ¬ (2 : Int) = 0; decide), if_neg (by show ¬ (2 : Int) = 1; decide), if_pos (by rfl), if_pos (swings_of h2 hr1 hh)]
  have e : (onePS c ws acc gd ret ses row stk st ⟨1, 2, r⟩).takeSlot = s := by
    show slotE ((⟨1, 2, r⟩ : FrS).reg 1) = s
    rw [hr1, hs]
  rw [e]
  have e2 : (onePS c ws acc gd ret ses row stk st ⟨1, 2, r⟩).setPc 0 = onePS c ws acc gd ret ses row stk st ⟨1, 0, r⟩ := rfl
  have e3 : (onePS c ws acc gd ret ses row stk st ⟨1, 2, r⟩).th.top.reg 2 = nxt := hr2
  rw [e2, e3, swung_of (fn := 1) (pc := 0) h2 hr1 hh]
  rfl
theorem takeP_3 {s : Nat} (hs : slotE ((⟨1, 3, r⟩ : FrS).reg 1) = s) (h1 : 1 ≤ s) (h2 : (s : Int) ≤ c.slots) (h3 : ixN c s 1 < ws.length) :
    PS.slots (onePS c ws acc gd ret ses row stk st ⟨1, 3, r⟩) = donePS c ws (acc + 1) gd (padTo 12 [mkE s (ws.getD (ixN c s 1) 0)]) ses row stk st := by
  unfold PS.slots
  rw [if_pos (by rfl)]
  unfold PS.take
  have e0 : (onePS c ws acc gd ret ses row stk st ⟨1, 3, r⟩).takeSlot = s := hs
  have e1 : (onePS c ws acc gd ret ses row stk st ⟨1, 3, r⟩).at_ 1 = (ixN c s 1 : Nat) := by
    unfold PS.at_
    rw [e0]
    exact nodeI_nat h1 h2
  have e2 : (onePS c ws acc gd ret ses row stk st ⟨1, 3, r⟩).mem.rd (ixN c s 1 : Nat) = ws.getD (ixN c s 1) 0 := rd_nat h3
  rw [if_neg (by show ¬ (3 : Int) = 0; decide), if_neg (by show ¬ (3 : Int) = 1; decide), if_neg (by show ¬ (3 : Int) = 2; decide), e0, e1, e2]
  show ({ conf := c, mem := ⟨ws, acc + 1, false || !inR ws.length [((ixN c s 1 : Nat) : Int)]⟩, gd := gd, th := _, steps := st, fault := false } : PS) = _
  rw [inR_nat h3]
  rfl
theorem stored_nat {a v : Nat} (h : a < ws.length) : (⟨ws, acc, false⟩ : MemS).stored (a : Nat) v = ⟨ws.set a v, acc + 1, false⟩ := by
  unfold MemS.stored
  rw [if_pos (inR_nat h)]
  rfl
theorem give_at {fn pc : Int} {e s f : Nat} (hr : (⟨fn, pc, r⟩ : FrS).reg 0 = e) (hs : slotE e = s) (h1 : 1 ≤ s) (h2 : (s : Int) ≤ c.slots) : (onePS c ws acc gd ret ses row stk st ⟨fn, pc, r⟩).giveAt f = (ixN c s f : Nat) := by
  unfold PS.giveAt
  have e0 : (onePS c ws acc gd ret ses row stk st ⟨fn, pc, r⟩).giveEdge = e := hr
  rw [e0, hs]
  exact nodeI_nat h1 h2
theorem give_0p {e s : Nat} (hr : (⟨2, 0, r⟩ : FrS).reg 0 = e) (hs : slotE e = s) (h1 : 1 ≤ s) (h2 : (s : Int) ≤ c.slots) (h3 : ixN c s 1 < ws.length) :
    PS.slots (onePS c ws acc gd ret ses row stk st ⟨2, 0, r⟩) = onePS c (ws.set (ixN c s 1) (genE (mkE 0 (genE e + 1)))) (acc + 1) (gd.dropS e) ret ses row stk st ⟨2, 3, r⟩ := by
  unfold PS.slots
  rw [if_neg (by show ¬ (2 : Int) = 1; decide), if_pos (by rfl)]
  unfold PS.give
  rw [if_pos (by rfl), give_at hr hs h1 h2]
  have e0 : (onePS c ws acc gd ret ses row stk st ⟨2, 0, r⟩).giveEdge = e := hr
  rw [e0]
  unfold PS.store
  have e3 : (onePS c ws acc gd ret ses row stk st ⟨2, 0, r⟩).mem.stored (ixN c s 1 : Nat) (genE (mkE 0 (genE e + 1))) = _ := stored_nat h3
  rw [e3]
  rfl
theorem give_3p (h2 : 2 < ws.length) : PS.slots (onePS c ws acc gd ret ses row stk st ⟨2, 3, r⟩) = onePS c ws (acc + 1) gd ret ses row stk st ⟨2, 1, r.set 1 (ws.getD 2 0)⟩ := by
  unfold PS.slots
  rw [if_neg (by show ¬ (2 : Int) = 1; decide), if_pos (by rfl)]
  unfold PS.give
  rw [if_neg (by show ¬ (3 : Int) = 0; decide), if_pos (by rfl)]
  have e : (onePS c ws acc gd ret ses row stk st ⟨2, 3, r⟩).mem.rd 2 = ws.getD 2 0 := rd_two h2
  unfold PS.head PS.touch
  rw [e]
  show ({ conf := c, mem := ⟨ws, acc + 1, false || !inR ws.length [2]⟩, gd := gd, th := ⟨ret, ses, [⟨2, 1, r.set 1 (ws.getD 2 0)⟩], row, stk⟩, steps := st, fault := false } : PS) = _
  rw [inR_two h2]
  rfl
theorem give_1p {e s h : Nat} (hr : (⟨2, 1, r⟩ : FrS).reg 0 = e) (hr1 : (⟨2, 1, r⟩ : FrS).reg 1 = h) (hs : slotE e = s) (h1 : 1 ≤ s) (h2 : (s : Int) ≤ c.slots) (h3 : ixN c s 0 < ws.length) :
    PS.slots (onePS c ws acc gd ret ses row stk st ⟨2, 1, r⟩) = onePS c (ws.set (ixN c s 0) (slotE h)) (acc + 1) gd ret ses row stk st ⟨2, 2, r⟩ := by
  unfold PS.slots
  rw [if_neg (by show ¬ (2 : Int) = 1; decide), if_pos (by rfl)]
  unfold PS.give
  rw [if_neg (by show ¬ (1 : Int) = 0; decide), if_neg (by show ¬ (1 : Int) = 3; decide), if_pos (by rfl), give_at hr hs h1 h2]
  have e0 : (onePS c ws acc gd ret ses row stk st ⟨2, 1, r⟩).takeSlot = slotE h := by
    show slotE ((⟨2, 1, r⟩ : FrS).reg 1) = _
    rw [hr1]
  rw [e0]
  unfold PS.store
  have e3 : (onePS c ws acc gd ret ses row stk st ⟨2, 1, r⟩).mem.stored (ixN c s 0 : Nat) (slotE h) = _ := stored_nat h3
  rw [e3]
  rfl
theorem give_2p {e h : Nat} (h2 : 2 < ws.length) (hr : (⟨2, 2, r⟩ : FrS).reg 0 = e) (hr1 : (⟨2, 2, r⟩ : FrS).reg 1 = h) (hh : ws.getD 2 0 = h) :
    PS.slots (onePS c ws acc gd ret ses row stk st ⟨2, 2, r⟩) = donePS c (ws.set 2 (chgN h (slotE e))) (acc + 1) gd (padTo 12 []) ses row stk st := by
  unfold PS.slots
  rw [if_neg (by show ¬ (2 : Int) = 1; decide), if_pos (by rfl)]
  unfold PS.give
  rw [if_neg (by show ¬ (2 : Int) = 0; decide), if_neg (by show ¬ (2 : Int) = 3; decide), if_neg (by show ¬ (2 : Int) = 1; decide), if_pos (swings_of h2 hr1 hh)]
  have e0 : (onePS c ws acc gd ret ses row stk st ⟨2, 2, r⟩).giveEdge = e := hr
  have e2 : (onePS c ws acc gd ret ses row stk st ⟨2, 2, r⟩).setPc 3 = onePS c ws acc gd ret ses row stk st ⟨2, 3, r⟩ := rfl
  rw [e0, e2, swung_of (fn := 2) (pc := 3) h2 hr1 hh]
  rfl
theorem stepped_one {q : PS} {ws' : List Nat} {gd' : GuardS} {f f' : FrS} (h : PS.slots (onePS c ws acc gd ret ses row stk st f) = onePS c ws' (acc + 1) gd' ret ses row stk st f') (hq : q = onePS c ws acc gd ret ses row stk st f) :
    q.stepped (PS.slots q) = onePS c ws' (acc + 1) gd' ret ses row stk (st + 1) f' := by
  subst hq
  rw [h]
  show ({ conf := c, mem := ⟨ws', acc + 1, false⟩, gd := gd', th := _, steps := st + 1, fault := false || decide (1 < acc + 1 - acc) } : PS) = _
  rw [fault_one]
  rfl
theorem stepped_done {q : PS} {ws' ret' : List Nat} {gd' : GuardS} {f : FrS} (h : PS.slots (onePS c ws acc gd ret ses row stk st f) = donePS c ws' (acc + 1) gd' ret' ses row stk st) (hq : q = onePS c ws acc gd ret ses row stk st f) :
    q.stepped (PS.slots q) = donePS c ws' (acc + 1) gd' ret' ses row stk (st + 1) := by
  subst hq
  rw [h]
  show ({ conf := c, mem := ⟨ws', acc + 1, false⟩, gd := gd', th := _, steps := st + 1, fault := false || decide (1 < acc + 1 - acc) } : PS) = _
  rw [fault_one]
  rfl
theorem stepped_none {q : PS} {ws' ret' : List Nat} {gd' : GuardS} {f : FrS} (h : PS.slots (onePS c ws acc gd ret ses row stk st f) = donePS c ws' acc gd' ret' ses row stk st) (hq : q = onePS c ws acc gd ret ses row stk st f) :
    q.stepped (PS.slots q) = donePS c ws' acc gd' ret' ses row stk (st + 1) := by
  subst hq
  rw [h]
  show ({ conf := c, mem := ⟨ws', acc, false⟩, gd := gd', th := _, steps := st + 1, fault := false || decide (1 < acc - acc) } : PS) = _
  rw [fault_zero]
  rfl
end
end Go.Proofs.Ytlbhjahmgdghoaa
