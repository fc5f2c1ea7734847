/- Enter, Leave, Advance of a thread alone: each step spelt out. Plain lemmas. -/
import Derived.Test.YtlbhjahmgdghoaaEpDo
namespace Go.Proofs.Ytlbhjahmgdghoaa
open Go.RowKit

def EndsG (ok : PS → Prop) (step : PS → PS) (n : Nat) (q q' : PS) : Prop := RunsP 0 ok step n q ∧ ∀ f i, psGo step 0 (f + n) i q = (q', i + n, true)
theorem endsG_one {ok : PS → Prop} {step : PS → PS} {n : Nat} {q q1 q' : PS} (hd : 0 < q.th.frs.length) (hok : ok q) (hroom : RoomP q (step q)) (hs : q.stepped (step q) = q1) (h1 : 0 < q1.th.frs.length) (hn : EndsG ok step n q1 q') : EndsG ok step (n + 1) q q' := by
  refine ⟨⟨hd, hok, hroom, .inr (by rw [hs]; exact hn.1)⟩, fun g i => ?_⟩
  show psGo step 0 ((g + n) + 1) i q = _
  unfold psGo
  rw [hs, if_neg (by omega), hn.2 g (i + 1)]
  congr 2
  omega
theorem endsG_done {ok : PS → Prop} {step : PS → PS} {q q1 : PS} (hd : 0 < q.th.frs.length) (hok : ok q) (hroom : RoomP q (step q)) (hs : q.stepped (step q) = q1) (h1 : q1.th.frs.length = 0) : EndsG ok step 1 q q1 := by
  refine ⟨⟨hd, hok, hroom, .inl (by rw [hs]; omega)⟩, fun g i => ?_⟩
  show psGo step 0 (g + 1) i q = _
  unfold psGo
  rw [hs, if_pos (by omega)]
theorem e_rd {ws : List Nat} {acc : Int} {fl : Bool} {a : Nat} (h : a < ws.length) : (⟨ws, acc, fl⟩ : MemS).rd (a : Nat) = ws.getD a 0 := by
  show (if inR ws.length [(a : Int)] = true then ws.getD (a : Int).toNat 0 else 0) = _
  rw [if_pos (inR_nat h)]
  rfl
theorem e_rd1 {ws : List Nat} {acc : Int} {fl : Bool} (h : 1 < ws.length) : (⟨ws, acc, fl⟩ : MemS).rd 1 = ws.getD 1 0 := e_rd h
theorem e_inR1 {n : Nat} (h : 1 < n) : inR n [1] = true := inR_nat (a := 1) h
theorem actI_nat (k : Nat) : actI k = ((3 + 8 * k : Nat) : Int) := by unfold actI; omega
theorem act_lt {c : ConfS} (ho : c.Ok) {k : Nat} (hk : (k : Int) < c.thr) : 3 + 8 * k < wordsN c := by
  unfold wordsN
  have := ho.s1
  omega
theorem rd_small {ws : List Nat} {acc : Int} {fl : Bool} (h : Small ws) (a : Int) : (⟨ws, acc, fl⟩ : MemS).rd a < 2 ^ 64 := by
  show (if inR ws.length [a] = true then ws.getD a.toNat 0 else 0) < _
  split
  · exact small_get h _
  · decide
section
variable {c : ConfS} {ws ws' : List Nat} {acc acc' : Int} {gd : GuardS} {ret ret' : List Nat} {ses : SesS} {row : List (Int × Int)} {stk : List Nat} {st : Int} {r : List Nat} {k : Nat} {f : FrS}
theorem stepped_oneG {q : PS} (hq : q.mem.acc = acc) (ha : acc' ≤ acc + 1) : q.stepped (onePS c ws' acc' gd ret ses row stk st f) = onePS c ws' acc' gd ret ses row stk (st + 1) f := by
  show ({ conf := c, mem := ⟨ws', acc', false⟩, gd := gd, th := _, steps := st + 1, fault := false || decide (1 < acc' - q.mem.acc) } : PS) = _
  rw [hq, decide_eq_false (by omega)]
  rfl
theorem stepped_doneG {q : PS} (hq : q.mem.acc = acc) (ha : acc' ≤ acc + 1) : q.stepped (donePS c ws' acc' gd ret ses row stk st) = donePS c ws' acc' gd ret ses row stk (st + 1) := by
  show ({ conf := c, mem := ⟨ws', acc', false⟩, gd := gd, th := _, steps := st + 1, fault := false || decide (1 < acc' - q.mem.acc) } : PS) = _
  rw [hq, decide_eq_false (by omega)]
  rfl
theorem epE : (onePS c ws acc gd ret ses row stk st ⟨10, f.pc, r⟩).epoch k = (onePS c ws acc gd ret ses row stk st ⟨10, f.pc, r⟩).enter k := by unfold PS.epoch; rw [if_pos (by rfl)]
theorem now_one {fn pc pc' : Int} (h1 : 1 < ws.length) : (((onePS c ws acc gd ret ses row stk st ⟨fn, pc, r⟩).touch 1).setReg 0 ((onePS c ws acc gd ret ses row stk st ⟨fn, pc, r⟩).mem.rd 1)).setPc pc' = onePS c ws (acc + 1) gd ret ses row stk st ⟨fn, pc', r.set 0 (ws.getD 1 0)⟩ := by
  have e : (onePS c ws acc gd ret ses row stk st ⟨fn, pc, r⟩).mem.rd 1 = ws.getD 1 0 := e_rd1 h1
  rw [e]
  show ({ conf := c, mem := ⟨ws, acc + 1, false || !inR ws.length [1]⟩, gd := gd, th := ⟨ret, ses, [⟨fn, pc', r.set 0 (ws.getD 1 0)⟩], row, stk⟩, steps := st, fault := false } : PS) = _
  rw [e_inR1 h1]
  rfl
theorem enterP_p (hp : ses.pinned = true) : (onePS c ws acc gd ret ses row stk st ⟨10, 0, r⟩).epoch k = donePS c ws acc gd (padTo 12 []) ses row stk st := by
  unfold PS.epoch
  rw [if_pos (by rfl)]
  unfold PS.enter
  rw [if_pos (by rfl), if_pos (by exact hp)]
  rfl
theorem enterP_0 (hp : ses.pinned = false) (h1 : 1 < ws.length) : (onePS c ws acc gd ret ses row stk st ⟨10, 0, r⟩).epoch k = onePS c ws (acc + 1) gd ret ses row stk st ⟨10, 1, r.set 0 (ws.getD 1 0)⟩ := by
  unfold PS.epoch
  rw [if_pos (by rfl)]
  unfold PS.enter
  rw [if_pos (by rfl), if_neg (by show ¬ ses.pinned = true; rw [hp]; decide)]
  exact now_one h1
theorem e_stored {a v : Nat} (h : a < ws.length) : (⟨ws, acc, false⟩ : MemS).stored (a : Nat) v = ⟨ws.set a v, acc + 1, false⟩ := by
  unfold MemS.stored
  rw [if_pos (inR_nat h)]
  rfl
theorem store_one {fn pc : Int} {v : Nat} (h1 : 3 + 8 * k < ws.length) : (onePS c ws acc gd ret ses row stk st ⟨fn, pc, r⟩).store (actI k) v = onePS c (ws.set (3 + 8 * k) v) (acc + 1) gd ret ses row stk st ⟨fn, pc, r⟩ := by
  unfold PS.store
  rw [actI_nat]
  have e3 : (onePS c ws acc gd ret ses row stk st ⟨fn, pc, r⟩).mem.stored ((3 + 8 * k : Nat) : Int) v = _ := e_stored h1
  rw [e3]
  rfl
theorem enterP_1 {e : Nat} (hr : (⟨10, 1, r⟩ : FrS).reg 0 = e) (h1 : 3 + 8 * k < ws.length) : (onePS c ws acc gd ret ses row stk st ⟨10, 1, r⟩).epoch k = onePS c (ws.set (3 + 8 * k) (actN e)) (acc + 1) gd ret ses row stk st ⟨10, 2, r⟩ := by
  unfold PS.epoch
  rw [if_pos (by rfl)]
  unfold PS.enter
  rw [if_neg (by show ¬ (1 : Int) = 0; decide), if_pos (by rfl)]
  have e0 : (onePS c ws acc gd ret ses row stk st ⟨10, 1, r⟩).th.top.reg 0 = e := hr
  rw [e0, store_one h1]
  rfl
theorem enterP_2 (h1 : 1 < ws.length) : (onePS c ws acc gd ret ses row stk st ⟨10, 2, r⟩).epoch k = donePS c ws (acc + 1) gd (padTo 12 []) { ses with past := ws.getD 1 0 - 1 } row stk st := by
  unfold PS.epoch
  rw [if_pos (by rfl)]
  unfold PS.enter
  rw [if_neg (by show ¬ (2 : Int) = 0; decide), if_neg (by show ¬ (2 : Int) = 1; decide)]
  have e : (onePS c ws acc gd ret ses row stk st ⟨10, 2, r⟩).mem.rd 1 = ws.getD 1 0 := e_rd1 h1
  rw [e]
  show ({ conf := c, mem := ⟨ws, acc + 1, false || !inR ws.length [1]⟩, gd := gd, th := _, steps := st, fault := false } : PS) = _
  rw [e_inR1 h1]
  rfl
theorem leaveP_p (hp : ses.pinned = true) : (onePS c ws acc gd ret ses row stk st ⟨11, 0, r⟩).epoch k = donePS c ws acc gd (padTo 12 []) ses row stk st := by
  unfold PS.epoch
  rw [if_neg (by show ¬ (11 : Int) = 10; decide), if_pos (by rfl)]
  unfold PS.leave
  rw [if_pos (by exact hp)]
  rfl
theorem leaveP_0 (hp : ses.pinned = false) (h1 : 3 + 8 * k < ws.length) : (onePS c ws acc gd ret ses row stk st ⟨11, 0, r⟩).epoch k = donePS c (ws.set (3 + 8 * k) 0) (acc + 1) gd (padTo 12 []) ses row stk st := by
  unfold PS.epoch
  rw [if_neg (by show ¬ (11 : Int) = 10; decide), if_pos (by rfl)]
  unfold PS.leave
  rw [if_neg (by show ¬ ses.pinned = true; rw [hp]; decide), store_one h1]
  rfl
theorem advP_0 (h1 : 1 < ws.length) : (onePS c ws acc gd ret ses row stk st ⟨12, 0, r⟩).epoch k = onePS c ws (acc + 1) gd ret ses row stk st ⟨12, 1, r.set 0 (ws.getD 1 0)⟩ := by
  unfold PS.epoch
  rw [if_neg (by show ¬ (12 : Int) = 10; decide), if_neg (by show ¬ (12 : Int) = 11; decide)]
  unfold PS.advance
  rw [if_pos (by rfl)]
  exact now_one h1
theorem adv_rd {j : Nat} (h1 : 3 + 8 * j < ws.length) : (onePS c ws acc gd ret ses row stk st ⟨12, 1, r⟩).mem.rd (actI j) = ws.getD (3 + 8 * j) 0 := by
  rw [actI_nat]
  exact e_rd h1
theorem advP_lag {e j : Nat} (hr0 : (⟨12, 1, r⟩ : FrS).reg 0 = e) (hr1 : (⟨12, 1, r⟩ : FrS).reg 1 = j) (h1 : 3 + 8 * j < ws.length) (hl : lagsN (ws.getD (3 + 8 * j) 0) e = true) : (onePS c ws acc gd ret ses row stk st ⟨12, 1, r⟩).epoch k = donePS c ws (acc + 1) gd (padTo 12 [0]) ses row stk st := by
  unfold PS.epoch
  rw [if_neg (by show ¬ (12 : Int) = 10; decide), if_neg (by show ¬ (12 : Int) = 11; decide)]
  unfold PS.advance
  have e0 : (onePS c ws acc gd ret ses row stk st ⟨12, 1, r⟩).th.top.reg 0 = e := hr0
  have e1 : (onePS c ws acc gd ret ses row stk st ⟨12, 1, r⟩).th.top.reg 1 = j := hr1
  rw [if_neg (by show ¬ (1 : Int) = 0; decide), if_pos (by rfl), e0, e1, adv_rd h1, if_pos hl, actI_nat]
  show ({ conf := c, mem := ⟨ws, acc + 1, false || !inR ws.length [((3 + 8 * j : Nat) : Int)]⟩, gd := gd, th := _, steps := st, fault := false } : PS) = _
  rw [inR_nat h1]
  rfl
theorem advP_on {e j : Nat} (hr0 : (⟨12, 1, r⟩ : FrS).reg 0 = e) (hr1 : (⟨12, 1, r⟩ : FrS).reg 1 = j) (h1 : 3 + 8 * j < ws.length) (hl : lagsN (ws.getD (3 + 8 * j) 0) e = false) : (onePS c ws acc gd ret ses row stk st ⟨12, 1, r⟩).epoch k = onePS c ws (acc + 1) gd ret ses row stk st ⟨12, if ((j + 1 : Nat) : Int) = c.thr then 2 else 1, r.set 1 (j + 1)⟩ := by
  unfold PS.epoch
  rw [if_neg (by show ¬ (12 : Int) = 10; decide), if_neg (by show ¬ (12 : Int) = 11; decide)]
  unfold PS.advance
  have e0 : (onePS c ws acc gd ret ses row stk st ⟨12, 1, r⟩).th.top.reg 0 = e := hr0
  have e1 : (onePS c ws acc gd ret ses row stk st ⟨12, 1, r⟩).th.top.reg 1 = j := hr1
  have ec : (onePS c ws acc gd ret ses row stk st ⟨12, 1, r⟩).conf = c := rfl
  rw [if_neg (by show ¬ (1 : Int) = 0; decide), if_pos (by rfl), e0, e1, adv_rd h1, if_neg (by rw [hl]; decide), actI_nat, ec]
  by_cases h2 : ((j + 1 : Nat) : Int) = c.thr
  · rw [if_pos h2, if_pos h2]
    show ({ conf := c, mem := ⟨ws, acc + 1, false || !inR ws.length [((3 + 8 * j : Nat) : Int)]⟩, gd := gd, th := ⟨ret, ses, [⟨12, 2, r.set 1 (j + 1)⟩], row, stk⟩, steps := st, fault := false } : PS) = _
    rw [inR_nat h1]
    rfl
  · rw [if_neg h2, if_neg h2]
    show ({ conf := c, mem := ⟨ws, acc + 1, false || !inR ws.length [((3 + 8 * j : Nat) : Int)]⟩, gd := gd, th := ⟨ret, ses, [⟨12, 1, r.set 1 (j + 1)⟩], row, stk⟩, steps := st, fault := false } : PS) = _
    rw [inR_nat h1]
    rfl
theorem advP_2 {e : Nat} (hr0 : (⟨12, 2, r⟩ : FrS).reg 0 = e) (h1 : 1 < ws.length) (he : ws.getD 1 0 = e) : (onePS c ws acc gd ret ses row stk st ⟨12, 2, r⟩).epoch k = donePS c (ws.set 1 (inc64 e)) (acc + 1) gd (padTo 12 [1]) ses row stk st := by
  unfold PS.epoch
  rw [if_neg (by show ¬ (12 : Int) = 10; decide), if_neg (by show ¬ (12 : Int) = 11; decide)]
  unfold PS.advance
  have e0 : (onePS c ws acc gd ret ses row stk st ⟨12, 2, r⟩).th.top.reg 0 = e := hr0
  have eb : (⟨ws, acc, false⟩ : MemS).casB 1 e = true := by
    show (inR ws.length [1] && ((⟨ws, acc, false⟩ : MemS).rd 1 == e)) = true
    rw [e_inR1 h1, e_rd1 h1, he]
    simp
  rw [if_neg (by show ¬ (2 : Int) = 0; decide), if_neg (by show ¬ (2 : Int) = 1; decide), e0]
  show PS.back ({ conf := c, mem := (⟨ws, acc, false⟩ : MemS).casS 1 e (inc64 e), gd := gd, th := _, steps := st, fault := false } : PS) [if (⟨ws, acc, false⟩ : MemS).casB 1 e = true then 1 else 0] = _
  unfold MemS.casS
  rw [if_pos eb, if_pos eb]
  rfl
end
end Go.Proofs.Ytlbhjahmgdghoaa
