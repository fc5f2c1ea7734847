/- The steps of Take and Give, of a thread alone, spelt out. Plain lemmas. The free list at rest, and what Take and Give, alone, make of it. Plain lemmas. Take and Give, alone, from rest to rest. Plain lemmas. -/
import Derived.Test.YtlbhjahmgdghoaaW0
import Derived.Test.YtlbhjahmgdghoaaRef17C
namespace Go.Proofs.Ytlbhjahmgdghoaa
open Go.RowKit

theorem rd_nat {ws : List Nat} {acc : Int} {fl : Bool} {a : Nat} (h : a < ws.length) : (⟨ws, acc, fl⟩ : MemS).rd (a : Nat) = ws.getD a 0 := by
  show (if inR ws.length [(a : Int)] = true then ws.getD (a : Int).toNat 0 else 0) = _
  rw [if_pos (inR_nat h)]
  rfl
theorem rd_two {ws : List Nat} {acc : Int} {fl : Bool} (h : 2 < ws.length) : (⟨ws, acc, fl⟩ : MemS).rd 2 = ws.getD 2 0 := rd_nat h
theorem inR_two {n : Nat} (h : 2 < n) : inR n [2] = true := inR_nat (a := 2) h
theorem nodeI_nat {c : ConfS} {s f : Nat} (h1 : 1 ≤ s) (h2 : (s : Int) ≤ c.slots) : nodeI c s f = (ixN c s f : Nat) := if_pos ⟨h1, h2⟩
theorem reg_set {fn pc : Int} {r : List Nat} {k v : Nat} (h : k < r.length) : (⟨fn, pc, r.set k v⟩ : FrS).reg k = v := by
  show (r.set k v).getD k 0 = v
  simp [h]
theorem reg_set_ne {fn pc pc' : Int} {r : List Nat} {k j v : Nat} (h : j ≠ k) : (⟨fn, pc, r.set k v⟩ : FrS).reg j = (⟨fn, pc', r⟩ : FrS).reg j := by
  show (r.set k v).getD j 0 = r.getD j 0
  rw [List.getD_eq_getElem?_getD, List.getD_eq_getElem?_getD, List.getElem?_set_ne (fun e => h e.symm)]
section
variable {c : ConfS} {ws : List Nat} {acc : Int} {gd : GuardS} {ret : List Nat} {ses : SesS} {row : List (Int × Int)} {stk : List Nat} {st : Int} {r : List Nat}
theorem takeP_0 (h2 : 2 < ws.length) : PS.slots (onePS c ws acc gd ret ses row stk st ⟨1, 0, r⟩) = onePS c ws (acc + 1) gd ret ses row stk st ⟨1, 1, r.set 1 (ws.getD 2 0)⟩ := by
  unfold PS.slots
  rw [if_pos (by rfl)]
  unfold PS.take
  rw [if_pos (by rfl)]
  have e : (onePS c ws acc gd ret ses row stk st ⟨1, 0, r⟩).mem.rd 2 = ws.getD 2 0 := rd_two h2
  unfold PS.head PS.touch
  rw [e]
  show ({ conf := c, mem := ⟨ws, acc + 1, false || !inR ws.length [2]⟩, gd := gd, th := ⟨ret, ses, [⟨1, 1, r.set 1 (ws.getD 2 0)⟩], row, stk⟩, steps := st, fault := false } : PS) = _
  rw [inR_two h2]
  rfl
theorem takeP_1_none (hs : slotE ((⟨1, 1, r⟩ : FrS).reg 1) = 0) : PS.slots (onePS c ws acc gd ret ses row stk st ⟨1, 1, r⟩) = donePS c ws acc gd (padTo 12 [0]) ses row stk st := by
  unfold PS.slots
  rw [if_pos (by rfl)]
  unfold PS.take
  rw [if_neg (by show ¬ (1 : Int) = 0; decide), if_pos (by rfl), if_pos (by exact hs)]
  rfl
theorem takeP_1 {s : Nat} (hs : slotE ((⟨1, 1, r⟩ : FrS).reg 1) = s) (h1 : 1 ≤ s) (h2 : (s : Int) ≤ c.slots) (h3 : ixN c s 0 < ws.length) :
    PS.slots (onePS c ws acc gd ret ses row stk st ⟨1, 1, r⟩) = onePS c ws (acc + 1) gd ret ses row stk st ⟨1, 2, r.set 2 (ws.getD (ixN c s 0) 0)⟩ := by
  unfold PS.slots
  rw [if_pos (by rfl)]
  unfold PS.take
  have e0 : (onePS c ws acc gd ret ses row stk st ⟨1, 1, r⟩).takeSlot = s := hs
  have e1 : (onePS c ws acc gd ret ses row stk st ⟨1, 1, r⟩).at_ 0 = (ixN c s 0 : Nat) := by
    unfold PS.at_
    rw [e0]
    exact nodeI_nat h1 h2
  have e2 : (onePS c ws acc gd ret ses row stk st ⟨1, 1, r⟩).mem.rd (ixN c s 0 : Nat) = ws.getD (ixN c s 0) 0 := rd_nat h3
  rw [if_neg (by show ¬ (1 : Int) = 0; decide), if_pos (by rfl), if_neg (by rw [e0]; omega), e1, e2]
  show ({ conf := c, mem := ⟨ws, acc + 1, false || !inR ws.length [((ixN c s 0 : Nat) : Int)]⟩, gd := gd, th := ⟨ret, ses, [⟨1, 2, r.set 2 (ws.getD (ixN c s 0) 0)⟩], row, stk⟩, steps := st, fault := false } : PS) = _
  rw [inR_nat h3]
  rfl
theorem swings_of {fn pc : Int} {h : Nat} (h2 : 2 < ws.length) (hr : (⟨fn, pc, r⟩ : FrS).reg 1 = h) (hh : ws.getD 2 0 = h) : (onePS c ws acc gd ret ses row stk st ⟨fn, pc, r⟩).swings = true := by
  show (inR ws.length [2] && ((⟨ws, acc, false⟩ : MemS).rd 2 == (⟨fn, pc, r⟩ : FrS).reg 1)) = true
  rw [inR_two h2, rd_two h2, hr, hh]
  simp
theorem swung_of {fn pc : Int} {h : Nat} (h2 : 2 < ws.length) (hr : (⟨fn, pc, r⟩ : FrS).reg 1 = h) (hh : ws.getD 2 0 = h) (x : Nat) : (onePS c ws acc gd ret ses row stk st ⟨fn, pc, r⟩).swung x = onePS c (ws.set 2 (chgN h x)) (acc + 1) gd ret ses row stk st ⟨fn, pc, r⟩ := by
  have e : (⟨ws, acc, false⟩ : MemS).casB 2 h = true := by
    show (inR ws.length [2] && ((⟨ws, acc, false⟩ : MemS).rd 2 == h)) = true
    rw [inR_two h2, rd_two h2, hh]
    simp
  unfold PS.swung
  show ({ conf := c, mem := (⟨ws, acc, false⟩ : MemS).casS 2 ((⟨fn, pc, r⟩ : FrS).reg 1) (chgN ((⟨fn, pc, r⟩ : FrS).reg 1) x), gd := gd, th := _, steps := st, fault := false } : PS) = _
  rw [hr]
  unfold MemS.casS
  rw [if_pos e]
  rfl
theorem takeP_2 {h nxt s : Nat} (h2 : 2 < ws.length) (hr1 : (⟨1, 2, r⟩ : FrS).reg 1 = h) (hr2 : (⟨1, 2, r⟩ : FrS).reg 2 = nxt) (hh : ws.getD 2 0 = h) (hs : slotE h = s) (hlt : nxt < 4096) :
    PS.slots (onePS c ws acc gd ret ses row stk st ⟨1, 2, r⟩) = onePS c (ws.set 2 (chgN h nxt)) (acc + 1) (gd.takeS s) ret ses row stk st ⟨1, 3, r⟩ := by
  unfold PS.slots
  rw [if_pos (by rfl)]
  unfold PS.take
  rw [if_neg (by show ¬ (2 : Int) = 0; decide), if_neg (by show ¬ (2 : Int) = 1; decide), if_pos (by rfl), if_pos (swings_of h2 hr1 hh)]
  have e : (onePS c ws acc gd ret ses row stk st ⟨1, 2, r⟩).takeSlot = s := by
    show slotE ((⟨1, 2, r⟩ : FrS).reg 1) = s
    rw [hr1, hs]
  rw [e]
  have e2 : (onePS c ws acc gd ret ses row stk st ⟨1, 2, r⟩).setPc 0 = onePS c ws acc gd ret ses row stk st ⟨1, 0, r⟩ := rfl
  have e3 : (onePS c ws acc gd ret ses row stk st ⟨1, 2, r⟩).th.top.reg 2 = nxt := hr2
  rw [e2, e3, clipN_of hlt, swung_of (fn := 1) (pc := 0) h2 hr1 hh]
  rfl
theorem takeP_3 {s : Nat} (hs : slotE ((⟨1, 3, r⟩ : FrS).reg 1) = s) (h1 : 1 ≤ s) (h2 : (s : Int) ≤ c.slots) (h3 : ixN c s 1 < ws.length) :
    PS.slots (onePS c ws acc gd ret ses row stk st ⟨1, 3, r⟩) = donePS c ws (acc + 1) gd (padTo 12 [mkE s (ws.getD (ixN c s 1) 0)]) ses row stk st := by
  unfold PS.slots
  rw [if_pos (by rfl)]
  unfold PS.take
  have e0 : (onePS c ws acc gd ret ses row stk st ⟨1, 3, r⟩).takeSlot = s := hs
  have e1 : (onePS c ws acc gd ret ses row stk st ⟨1, 3, r⟩).at_ 1 = (ixN c s 1 : Nat) := by
    unfold PS.at_
    rw [e0]
    exact nodeI_nat h1 h2
  have e2 : (onePS c ws acc gd ret ses row stk st ⟨1, 3, r⟩).mem.rd (ixN c s 1 : Nat) = ws.getD (ixN c s 1) 0 := rd_nat h3
  rw [if_neg (by show ¬ (3 : Int) = 0; decide), if_neg (by show ¬ (3 : Int) = 1; decide), if_neg (by show ¬ (3 : Int) = 2; decide), e0, e1, e2]
  show ({ conf := c, mem := ⟨ws, acc + 1, false || !inR ws.length [((ixN c s 1 : Nat) : Int)]⟩, gd := gd, th := _, steps := st, fault := false } : PS) = _
  rw [inR_nat h3]
  rfl
theorem stored_nat {a v : Nat} (h : a < ws.length) : (⟨ws, acc, false⟩ : MemS).stored (a : Nat) v = ⟨ws.set a v, acc + 1, false⟩ := by
  unfold MemS.stored
  rw [if_pos (inR_nat h)]
  rfl
theorem give_at {fn pc : Int} {e s f : Nat} (hr : (⟨fn, pc, r⟩ : FrS).reg 0 = e) (hs : slotE e = s) (h1 : 1 ≤ s) (h2 : (s : Int) ≤ c.slots) : (onePS c ws acc gd ret ses row stk st ⟨fn, pc, r⟩).giveAt f = (ixN c s f : Nat) := by
  unfold PS.giveAt
  have e0 : (onePS c ws acc gd ret ses row stk st ⟨fn, pc, r⟩).giveEdge = e := hr
  rw [e0, hs]
  exact nodeI_nat h1 h2
theorem give_0p {e s : Nat} (hr : (⟨2, 0, r⟩ : FrS).reg 0 = e) (hs : slotE e = s) (h1 : 1 ≤ s) (h2 : (s : Int) ≤ c.slots) (h3 : ixN c s 1 < ws.length) :
    PS.slots (onePS c ws acc gd ret ses row stk st ⟨2, 0, r⟩) = onePS c (ws.set (ixN c s 1) (genE (mkE 0 (genE e + 1)))) (acc + 1) (gd.dropS e) ret ses row stk st ⟨2, 3, r⟩ := by
  unfold PS.slots
  rw [if_neg (by show ¬ (2 : Int) = 1; decide), if_pos (by rfl)]
  unfold PS.give
  rw [if_pos (by rfl), give_at hr hs h1 h2]
  have e0 : (onePS c ws acc gd ret ses row stk st ⟨2, 0, r⟩).giveEdge = e := hr
  rw [e0]
  unfold PS.store
  have e3 : (onePS c ws acc gd ret ses row stk st ⟨2, 0, r⟩).mem.stored (ixN c s 1 : Nat) (genE (mkE 0 (genE e + 1))) = _ := stored_nat h3
  rw [e3]
  rfl
theorem give_3p (h2 : 2 < ws.length) : PS.slots (onePS c ws acc gd ret ses row stk st ⟨2, 3, r⟩) = onePS c ws (acc + 1) gd ret ses row stk st ⟨2, 1, r.set 1 (ws.getD 2 0)⟩ := by
  unfold PS.slots
  rw [if_neg (by show ¬ (2 : Int) = 1; decide), if_pos (by rfl)]
  unfold PS.give
  rw [if_neg (by show ¬ (3 : Int) = 0; decide), if_pos (by rfl)]
  have e : (onePS c ws acc gd ret ses row stk st ⟨2, 3, r⟩).mem.rd 2 = ws.getD 2 0 := rd_two h2
  unfold PS.head PS.touch
  rw [e]
  show ({ conf := c, mem := ⟨ws, acc + 1, false || !inR ws.length [2]⟩, gd := gd, th := ⟨ret, ses, [⟨2, 1, r.set 1 (ws.getD 2 0)⟩], row, stk⟩, steps := st, fault := false } : PS) = _
  rw [inR_two h2]
  rfl
theorem give_1p {e s h : Nat} (hr : (⟨2, 1, r⟩ : FrS).reg 0 = e) (hr1 : (⟨2, 1, r⟩ : FrS).reg 1 = h) (hs : slotE e = s) (h1 : 1 ≤ s) (h2 : (s : Int) ≤ c.slots) (h3 : ixN c s 0 < ws.length) :
    PS.slots (onePS c ws acc gd ret ses row stk st ⟨2, 1, r⟩) = onePS c (ws.set (ixN c s 0) (slotE h)) (acc + 1) gd ret ses row stk st ⟨2, 2, r⟩ := by
  unfold PS.slots
  rw [if_neg (by show ¬ (2 : Int) = 1; decide), if_pos (by rfl)]
  unfold PS.give
  rw [if_neg (by show ¬ (1 : Int) = 0; decide), if_neg (by show ¬ (1 : Int) = 3; decide), if_pos (by rfl), give_at hr hs h1 h2]
  have e0 : (onePS c ws acc gd ret ses row stk st ⟨2, 1, r⟩).takeSlot = slotE h := by
    show slotE ((⟨2, 1, r⟩ : FrS).reg 1) = _
    rw [hr1]
  rw [e0]
  unfold PS.store
  have e3 : (onePS c ws acc gd ret ses row stk st ⟨2, 1, r⟩).mem.stored (ixN c s 0 : Nat) (slotE h) = _ := stored_nat h3
  rw [e3]
  rfl
theorem give_2p {e h : Nat} (h2 : 2 < ws.length) (hr : (⟨2, 2, r⟩ : FrS).reg 0 = e) (hr1 : (⟨2, 2, r⟩ : FrS).reg 1 = h) (hh : ws.getD 2 0 = h) :
    PS.slots (onePS c ws acc gd ret ses row stk st ⟨2, 2, r⟩) = donePS c (ws.set 2 (chgN h (slotE e))) (acc + 1) gd (padTo 12 []) ses row stk st := by
  unfold PS.slots
  rw [if_neg (by show ¬ (2 : Int) = 1; decide), if_pos (by rfl)]
  unfold PS.give
  rw [if_neg (by show ¬ (2 : Int) = 0; decide), if_neg (by show ¬ (2 : Int) = 3; decide), if_neg (by show ¬ (2 : Int) = 1; decide), if_pos (swings_of h2 hr1 hh)]
  have e0 : (onePS c ws acc gd ret ses row stk st ⟨2, 2, r⟩).giveEdge = e := hr
  have e2 : (onePS c ws acc gd ret ses row stk st ⟨2, 2, r⟩).setPc 3 = onePS c ws acc gd ret ses row stk st ⟨2, 3, r⟩ := rfl
  rw [e0, e2, swung_of (fn := 2) (pc := 3) h2 hr1 hh]
  rfl
theorem stepped_one {q : PS} {ws' : List Nat} {gd' : GuardS} {f f' : FrS} (h : PS.slots (onePS c ws acc gd ret ses row stk st f) = onePS c ws' (acc + 1) gd' ret ses row stk st f') (hq : q = onePS c ws acc gd ret ses row stk st f) :
    q.stepped (PS.slots q) = onePS c ws' (acc + 1) gd' ret ses row stk (st + 1) f' := by
  subst hq
  rw [h]
  show ({ conf := c, mem := ⟨ws', acc + 1, false⟩, gd := gd', th := _, steps := st + 1, fault := false || decide (1 < acc + 1 - acc) } : PS) = _
  rw [fault_one]
  rfl
theorem stepped_done {q : PS} {ws' ret' : List Nat} {gd' : GuardS} {f : FrS} (h : PS.slots (onePS c ws acc gd ret ses row stk st f) = donePS c ws' (acc + 1) gd' ret' ses row stk st) (hq : q = onePS c ws acc gd ret ses row stk st f) :
    q.stepped (PS.slots q) = donePS c ws' (acc + 1) gd' ret' ses row stk (st + 1) := by
  subst hq
  rw [h]
  show ({ conf := c, mem := ⟨ws', acc + 1, false⟩, gd := gd', th := _, steps := st + 1, fault := false || decide (1 < acc + 1 - acc) } : PS) = _
  rw [fault_one]
  rfl
theorem stepped_none {q : PS} {ws' ret' : List Nat} {gd' : GuardS} {f : FrS} (h : PS.slots (onePS c ws acc gd ret ses row stk st f) = donePS c ws' acc gd' ret' ses row stk st) (hq : q = onePS c ws acc gd ret ses row stk st f) :
    q.stepped (PS.slots q) = donePS c ws' acc gd' ret' ses row stk (st + 1) := by
  subst hq
  rw [h]
  show ({ conf := c, mem := ⟨ws', acc, false⟩, gd := gd', th := _, steps := st + 1, fault := false || decide (1 < acc - acc) } : PS) = _
  rw [fault_zero]
  rfl
end
theorem slotE_mkE {s g : Nat} (h : s < 4096) : slotE (mkE s g) = s := by
  unfold slotE mkE fld setF
  simp only [Nat.reducePow, Nat.reduceAdd, Nat.div_one, Nat.pow_zero]
  omega
theorem genE_mkE {s g : Nat} (h : s < 4096) (hg : g < 2 ^ 50) : genE (mkE s g) = g := by
  unfold genE mkE fld setF
  simp only [Nat.reducePow, Nat.reduceAdd] at hg ⊢
  omega
theorem nodeE_mkE {s g : Nat} (h : s < 4096) : nodeE (mkE s g) = mkE s g := by
  unfold nodeE mkE fld setF
  simp only [Nat.reducePow, Nat.reduceAdd, Nat.div_one, Nat.pow_zero]
  omega
theorem slotE_head {s m : Nat} (h : s < 4096) : slotE (headN s m) = s := by
  unfold slotE headN fld setF
  simp only [Nat.reducePow, Nat.reduceAdd, Nat.div_one, Nat.pow_zero]
  omega
theorem slotE_chg {s h0 : Nat} (h : s < 4096) : slotE (chgN h0 s) = s := slotE_head h
theorem chg_lt {s h0 : Nat} (h : s < 4096) : chgN h0 s < 2 ^ 64 := headN_lt _ _ h
theorem gen_next {s g : Nat} (h : s < 4096) (hg : g + 1 < 2 ^ 50) : genE (mkE 0 (genE (mkE s g) + 1)) = g + 1 := by
  rw [genE_mkE h (by omega), genE_mkE (by omega) hg]

def Links (c : ConfS) (ws : List Nat) : Nat → List Nat → Prop
  | s, [] => s = 0
  | s, a :: l => s = a ∧ Links c ws (ws.getD (ixN c a 0) 0) l
structure Free (c : ConfS) (ws : List Nat) (gd : GuardS) (L G : List Nat) : Prop where
  len : ws.length = wordsN c
  sm : Small ws
  glen : G.length = c.slots.toNat
  gq : gd.gens = 0 :: G
  gw : ∀ s : Nat, 1 ≤ s → (s : Int) ≤ c.slots → ws.getD (ixN c s 1) 0 = G.getD (s - 1) 0
  gb : ∀ g, g ∈ G → g < 2 ^ 49
  chain : Links c ws (slotE (ws.getD 2 0)) L
  nd : L.Nodup
  rng : ∀ s, s ∈ L → 1 ≤ s ∧ (s : Int) ≤ c.slots
  hnd : gd.held.Nodup
  hrng : ∀ s, s ∈ gd.held → 1 ≤ s ∧ (s : Int) ≤ c.slots
  part : ∀ s : Nat, 1 ≤ s → (s : Int) ≤ c.slots → (s ∈ gd.held ↔ s ∉ L)
  slips : gd.slips = 0
theorem links_set {c : ConfS} {ws : List Nat} {p v : Nat} : ∀ (l : List Nat) (s : Nat), (∀ a, a ∈ l → p ≠ ixN c a 0) → Links c ws s l → Links c (ws.set p v) s l
  | [], _, _, h => h
  | a :: l, s, hn, h => by
    refine ⟨h.1, ?_⟩
    rw [getD_set_ne (hn a (by simp))]
    exact links_set l _ (fun b hb => hn b (by simp [hb])) h.2
theorem links_lt {c : ConfS} {ws : List Nat} {s : Nat} {l : List Nat} (h : Links c ws s l) (hr : ∀ a, a ∈ l → 1 ≤ a ∧ (a : Int) ≤ c.slots) (ho : c.Ok) : s < 4096 := by
  cases l with
  | nil => have : s = 0 := h; omega
  | cons a l =>
    have := h.1
    have := (hr a (by simp)).2
    have := ho.s2
    omega
section
variable {c : ConfS} {ws : List Nat} {gd : GuardS} {L G : List Nat}
theorem Free.two (h : Free c ws gd L G) (ho : c.Ok) : 2 < ws.length := by
  have := h.len
  have := wordsN_ge ho
  omega
theorem Free.glt (h : Free c ws gd L G) (k : Nat) : G.getD k 0 < 2 ^ 49 := by
  rw [List.getD_eq_getElem?_getD]
  cases hx : G[k]? with
  | none => simp
  | some x => exact h.gb x (List.mem_of_getElem? hx)
theorem Free.gensD (h : Free c ws gd L G) {a : Nat} (ha : 1 ≤ a) : gd.gens.getD a 0 = G.getD (a - 1) 0 := by
  rw [h.gq]
  obtain ⟨b, rfl⟩ : ∃ b, a = b + 1 := ⟨a - 1, by omega⟩
  simp
theorem Free.few (h : Free c ws gd L G) (ho : c.Ok) : L.length ≤ 251 := by
  refine nodup_few 251 L h.nd (fun k hk => ?_)
  have := (h.rng k hk).2
  have := ho.s2
  omega
theorem Free.takes {a : Nat} (h : Free c ws gd (a :: L) G) (ho : c.Ok) : Free c (ws.set 2 (chgN (ws.getD 2 0) (ws.getD (ixN c a 0) 0))) (gd.takeS a) L G ∧ gd.takeS a = { gd with held := a :: gd.held } := by
  have hra := h.rng a (by simp)
  have hnd := List.nodup_cons.1 h.nd
  have hah : a ∉ gd.held := fun hm => ((h.part a hra.1 hra.2).1 hm) (by simp)
  have hgl : gd.gens.length = c.slots.toNat + 1 := by rw [h.gq]; simp [h.glen]
  have e : gd.takeS a = { gd with held := a :: gd.held } := by
    unfold GuardS.takeS
    rw [if_pos ⟨hra.1, by have := hra.2; omega, hah⟩]
  have hlt : ws.getD (ixN c a 0) 0 < 4096 := links_lt h.chain.2 (fun b hb => h.rng b (by simp [hb])) ho
  refine ⟨?_, e⟩
  rw [e]
  refine ⟨by simpa using h.len, small_set h.sm (chg_lt hlt), h.glen, h.gq, fun s h1 h2 => ?_, h.gb, ?_, hnd.2, fun s hs => h.rng s (by simp [hs]), ?_, fun s hs => ?_, fun s h1 h2 => ?_, h.slips⟩
  · rw [getD_set_ne (ixN_two c s 1)]
    exact h.gw s h1 h2
  · rw [getD_set_eq (h.two ho), slotE_chg hlt]
    exact links_set _ _ (fun b _ => ixN_two c b 0) h.chain.2
  · exact List.nodup_cons.2 ⟨hah, h.hnd⟩
  · rcases List.mem_cons.1 hs with rfl | hs
    · exact hra
    · exact h.hrng s hs
  · have := h.part s h1 h2
    constructor
    · intro hs hl
      rcases List.mem_cons.1 hs with rfl | hs
      · exact hnd.1 hl
      · exact (this.1 hs) (by simp [hl])
    · intro hl
      by_cases e2 : s = a
      · simp [e2]
      · exact List.mem_cons_of_mem _ (this.2 (fun hm => (List.mem_cons.1 hm).elim e2 hl))
theorem Free.gives (h : Free c ws gd L G) (ho : c.Ok) {a g : Nat} (ha : a ∈ gd.held) (hg : G.getD (a - 1) 0 = g) (hb : g + 1 < 2 ^ 49) :
    Free c (((ws.set (ixN c a 1) (g + 1)).set (ixN c a 0) (slotE (ws.getD 2 0))).set 2 (chgN (ws.getD 2 0) a)) (gd.dropS (mkE a g)) (a :: L) (G.set (a - 1) (g + 1)) ∧ gd.dropS (mkE a g) = { gd with held := gd.held.erase a, gens := 0 :: G.set (a - 1) (g + 1) } := by
  have hra := h.hrng a ha
  have hs2 := ho.s2
  have hlt : a < 4096 := by omega
  have hgl : gd.gens.length = c.slots.toNat + 1 := by rw [h.gq]; simp [h.glen]
  have hld : gd.leads (mkE a g) = true := by
    unfold GuardS.leads GuardS.edge
    rw [slotE_mkE hlt, if_pos ⟨hra.1, by omega⟩, h.gensD hra.1, hg]
    simp [ha]
  have hin : inc64 g = g + 1 := by
    unfold inc64
    exact Nat.mod_eq_of_lt (by omega)
  have e : gd.dropS (mkE a g) = { gd with held := gd.held.erase a, gens := 0 :: G.set (a - 1) (g + 1) } := by
    unfold GuardS.dropS
    rw [if_pos hld, slotE_mkE hlt, h.gensD hra.1, hg, hin, h.gq]
    obtain ⟨b, rfl⟩ : ∃ b, a = b + 1 := ⟨a - 1, by omega⟩
    simp
  have hal : a ∉ L := (h.part a hra.1 hra.2).1 ha
  have hs0 : slotE (ws.getD 2 0) < 4096 := slotE_lt _
  have hi1 : ixN c a 1 < ws.length := by rw [h.len]; exact ixN_lt ho hra.1 hra.2 (by omega)
  have hi0 : ixN c a 0 < ws.length := by rw [h.len]; exact ixN_lt ho hra.1 hra.2 (by omega)
  refine ⟨?_, e⟩
  rw [e]
  refine ⟨by simpa using h.len, small_set (small_set (small_set h.sm (by omega)) (by omega)) (chg_lt hlt), by simpa using h.glen, rfl, fun s h1 h2 => ?_, fun x hx => ?_, ?_, List.nodup_cons.2 ⟨hal, h.nd⟩, fun s hs => ?_, h.hnd.erase a, fun s hs => h.hrng s (List.mem_of_mem_erase hs), fun s h1 h2 => ?_, h.slips⟩
  · rw [getD_set_ne (ixN_two c s 1), getD_set_ne ixN_01]
    by_cases e2 : s = a
    · subst e2
      rw [getD_set_eq hi1, getD_set_eq (by rw [h.glen]; omega)]
    · rw [getD_set_ne (ixN_inj1 hra.1 h1 (fun e3 => e2 e3.symm)), getD_set_ne (by omega)]
      exact h.gw s h1 h2
  · exact (List.mem_or_eq_of_mem_set hx).elim (h.gb x) (fun e => by omega)
  · rw [getD_set_eq (by simpa using h.two ho), slotE_chg hlt]
    refine ⟨rfl, ?_⟩
    rw [getD_set_ne (ixN_two c a 0), getD_set_eq (by simpa using hi0)]
    refine links_set _ _ (fun b _ => ixN_two c b 0) (links_set _ _ (fun b hb => ixN_inj hra.1 (h.rng b hb).1 (fun e3 => hal (e3 ▸ hb))) (links_set _ _ (fun b _ => ixN_01.symm) h.chain))
  · rcases List.mem_cons.1 hs with rfl | hs
    · exact hra
    · exact h.rng s hs
  · have := h.part s h1 h2
    show s ∈ gd.held.erase a ↔ _
    rw [h.hnd.mem_erase_iff]
    constructor
    · rintro ⟨hs, hm⟩ hl
      rcases List.mem_cons.1 hl with e2 | hl
      · exact hs e2
      · exact this.1 hm hl
    · intro hl
      exact ⟨fun e2 => hl (by simp [e2]), this.2 (fun hm => hl (by simp [hm]))⟩
theorem chainGo_links : ∀ (l : List Nat) (f s : Nat) (acc : List Nat), Links c ws s l → (∀ a, a ∈ l → 1 ≤ a ∧ (a : Int) ≤ c.slots) → c.Ok → acc.length + l.length ≤ c.slots.toNat → l.length < f → chainGo c ws f s acc = (acc ++ l, true)
  | [], f, s, acc, h, _, _, _, hf => by
    obtain ⟨f, rfl⟩ : ∃ g, f = g + 1 := ⟨f - 1, by simp at hf; omega⟩
    have : s = 0 := h
    unfold chainGo
    rw [if_pos this]
    simp
  | a :: l, f, s, acc, h, hr, ho, hl, hf => by
    simp only [List.length_cons] at hl hf
    obtain ⟨f, rfl⟩ : ∃ g, f = g + 1 := ⟨f - 1, by omega⟩
    have hra := hr a (by simp)
    have hs : s = a := h.1
    have hn : linkAt c ws s < 4096 := by rw [hs]; exact links_lt h.2 (fun b hb => hr b (by simp [hb])) ho
    unfold chainGo
    rw [if_neg (by omega), if_neg (by have := hra.2; omega), if_neg (by omega), chainGo_links l f _ (acc ++ [s]) (by rw [hs]; exact h.2) (fun b hb => hr b (by simp [hb])) ho (by simp; omega) (by omega), hs]
    simp
theorem Free.chained (h : Free c ws gd L G) (ho : c.Ok) : chainOf c ws = (L, true) := by
  have hl : L.length ≤ c.slots.toNat := by
    have h2 : (L.map (· - 1)).Nodup := by
      refine List.pairwise_map.2 (List.Pairwise.imp_of_mem ?_ h.nd)
      intro a b ha hb hab
      have := (h.rng a ha).1
      have := (h.rng b hb).1
      show a - 1 ≠ b - 1
      have : a ≠ b := hab
      omega
    have := nodup_few c.slots.toNat (L.map (· - 1)) h2 (fun k hk => by
      obtain ⟨a, ha, rfl⟩ := List.mem_map.1 hk
      have := h.rng a ha
      omega)
    simpa using this
  unfold chainOf
  rw [chainGo_links L _ _ [] (by have := h.chain; unfold slotE fld at this; simpa using this) h.rng ho (by simp; exact hl) (by omega)]
  simp
end
def EndsP (n : Nat) (q q' : PS) : Prop := RunsP 0 SlotsOk PS.slots n q ∧ ∀ f i, psGo PS.slots 0 (f + n) i q = (q', i + n, true)
section
variable {c : ConfS} {ws ws' : List Nat} {acc : Int} {gd gd' : GuardS} {ret ret' : List Nat} {ses : SesS} {row : List (Int × Int)} {stk : List Nat} {st : Int} {f f' : FrS}
theorem ok_one (ha : acc ≤ 100000) (hr : Small f.r) (hsl : gd.slips = 0) (hg : Small gd.gens) : SlotsOk (onePS c ws acc gd ret ses row stk st f) := by
  refine ⟨⟨?_, ?_, fun k => ?_, ?_⟩, hg⟩
  · show acc ≤ 4611686018427387904
    omega
  · show 0 < 1
    decide
  · exact small_get hr k
  · show gd.slips ≤ 4611686018427387904
    omega
theorem ends_one {q' : PS} {n : Nat} (hok : SlotsOk (onePS c ws acc gd ret ses row stk st f)) (ha : acc ≤ 100000) (h0 : 0 ≤ st) (h1 : st ≤ 100000)
    (h : PS.slots (onePS c ws acc gd ret ses row stk st f) = onePS c ws' (acc + 1) gd' ret ses row stk st f') (hn : EndsP n (onePS c ws' (acc + 1) gd' ret ses row stk (st + 1) f') q') :
    EndsP (n + 1) (onePS c ws acc gd ret ses row stk st f) q' := by
  have hs := stepped_one h rfl
  refine ⟨⟨?_, hok, ?_, .inr ?_⟩, fun g i => ?_⟩
  · show 0 < 1
    decide
  · refine ⟨h0, ?_, ?_, ?_, ?_⟩
    · show st ≤ 4611686018427387904
      omega
    · show acc ≤ 4611686018427387904
      omega
    · rw [h]
      show acc + 1 ≤ 4611686018427387999
      omega
    · rw [h]
      rfl
  · rw [hs]
    exact hn.1
  · show psGo PS.slots 0 ((g + n) + 1) i _ = _
    unfold psGo
    rw [hs, if_neg (by show ¬ 1 ≤ 0; decide), hn.2 g (i + 1)]
    congr 2
    omega
theorem ends_done (hok : SlotsOk (onePS c ws acc gd ret ses row stk st f)) (ha : acc ≤ 100000) (h0 : 0 ≤ st) (h1 : st ≤ 100000)
    (h : PS.slots (onePS c ws acc gd ret ses row stk st f) = donePS c ws' (acc + 1) gd' ret' ses row stk st) :
    EndsP 1 (onePS c ws acc gd ret ses row stk st f) (donePS c ws' (acc + 1) gd' ret' ses row stk (st + 1)) := by
  have hs := stepped_done h rfl
  refine ⟨⟨?_, hok, ?_, .inl ?_⟩, fun g i => ?_⟩
  · show 0 < 1
    decide
  · refine ⟨h0, ?_, ?_, ?_, ?_⟩
    · show st ≤ 4611686018427387904
      omega
    · show acc ≤ 4611686018427387904
      omega
    · rw [h]
      show acc + 1 ≤ 4611686018427387999
      omega
    · rw [h]
      rfl
  · rw [hs]
    exact Nat.le_refl 0
  · show psGo PS.slots 0 (g + 1) i _ = _
    unfold psGo
    rw [hs, if_pos (by exact Nat.le_refl 0)]
theorem ends_none (hok : SlotsOk (onePS c ws acc gd ret ses row stk st f)) (ha : acc ≤ 100000) (h0 : 0 ≤ st) (h1 : st ≤ 100000)
    (h : PS.slots (onePS c ws acc gd ret ses row stk st f) = donePS c ws' acc gd' ret' ses row stk st) :
    EndsP 1 (onePS c ws acc gd ret ses row stk st f) (donePS c ws' acc gd' ret' ses row stk (st + 1)) := by
  have hs := stepped_none h rfl
  refine ⟨⟨?_, hok, ?_, .inl ?_⟩, fun g i => ?_⟩
  · show 0 < 1
    decide
  · refine ⟨h0, ?_, ?_, ?_, ?_⟩
    · show st ≤ 4611686018427387904
      omega
    · show acc ≤ 4611686018427387904
      omega
    · rw [h]
      show acc ≤ 4611686018427387999
      omega
    · rw [h]
      rfl
  · rw [hs]
    exact Nat.le_refl 0
  · show psGo PS.slots 0 (g + 1) i _ = _
    unfold psGo
    rw [hs, if_pos (by exact Nat.le_refl 0)]
end
theorem small_pad {n : Nat} {l : List Nat} (h : Small l) : Small (padTo n l) := fun g hg => by
  unfold padTo at hg
  rcases List.mem_append.1 hg with hg | hg
  · exact h g hg
  · rw [List.eq_of_mem_replicate hg]; decide
section
variable {c : ConfS} {ws : List Nat} {acc : Int} {gd : GuardS} {L G : List Nat} {ret : List Nat} {ses : SesS} {row : List (Int × Int)} {stk : List Nat} {st : Int}
theorem Free.gsmall (h : Free c ws gd L G) : Small gd.gens := by
  rw [h.gq]
  intro g hg
  rcases List.mem_cons.1 hg with rfl | hg
  · decide
  · have := h.gb g hg
    omega
theorem ends_take {a : Nat} (h : Free c ws gd (a :: L) G) (ho : c.Ok) (ha0 : acc ≤ 90000) (hs0 : 0 ≤ st) (hs1 : st ≤ 90000) :
    EndsP 4 (onePS c ws acc gd ret ses row stk st (FrS.made 1 [])) (donePS c (ws.set 2 (chgN (ws.getD 2 0) (ws.getD (ixN c a 0) 0))) (acc + 1 + 1 + 1 + 1) (gd.takeS a) (padTo 12 [mkE a (G.getD (a - 1) 0)]) ses row stk (st + 1 + 1 + 1 + 1)) := by
  have h2 := h.two ho
  have hra := h.rng a (by simp)
  have hsl : slotE (ws.getD 2 0) = a := h.chain.1
  have hnx : ws.getD (ixN c a 0) 0 < 4096 := links_lt h.chain.2 (fun b hb => h.rng b (by simp [hb])) ho
  have hi0 : ixN c a 0 < ws.length := by rw [h.len]; exact ixN_lt ho hra.1 hra.2 (by omega)
  have hi1 : ixN c a 1 < ws.length := by rw [h.len]; exact ixN_lt ho hra.1 hra.2 (by omega)
  have hh : ws.getD 2 0 < 2 ^ 64 := small_get h.sm 2
  have hr0 : Small (padTo 24 []) := small_pad (by intro g hg; cases hg)
  have hl0 : (padTo 24 []).length = 24 := by simp [padTo]
  obtain ⟨ht, hte⟩ := h.takes ho
  have hg3 := ht.gsmall
  have hg0 := h.gsmall
  generalize hH : ws.getD 2 0 = H at *
  generalize hN : ws.getD (ixN c a 0) 0 = N at *
  show EndsP 4 (onePS c ws acc gd ret ses row stk st ⟨1, 0, padTo 24 []⟩) _
  generalize padTo 24 [] = r at *
  have hr1 : Small (r.set 1 H) := small_set hr0 hh
  have hr2 : Small ((r.set 1 H).set 2 N) := small_set hr1 (by omega)
  have e1 : (⟨1, 1, r.set 1 H⟩ : FrS).reg 1 = H := reg_set (by omega)
  have e2 : (⟨1, 2, (r.set 1 H).set 2 N⟩ : FrS).reg 2 = N := reg_set (by simp; omega)
  have e3 : (⟨1, 2, (r.set 1 H).set 2 N⟩ : FrS).reg 1 = H := (reg_set_ne (pc' := 1) (by decide)).trans e1
  have e4 : (⟨1, 3, (r.set 1 H).set 2 N⟩ : FrS).reg 1 = H := e3
  have t0 := takeP_0 (c := c) (acc := acc) (gd := gd) (ret := ret) (ses := ses) (row := row) (stk := stk) (st := st) (r := r) h2
  rw [hH] at t0
  have t1 := takeP_1 (c := c) (acc := acc + 1) (gd := gd) (ret := ret) (ses := ses) (row := row) (stk := stk) (st := st + 1) (r := r.set 1 H) (by rw [e1]; exact hsl) hra.1 hra.2 hi0
  rw [hN] at t1
  have t2 := takeP_2 (c := c) (acc := acc + 1 + 1) (gd := gd) (ret := ret) (ses := ses) (row := row) (stk := stk) (st := st + 1 + 1) h2 e3 e2 hH hsl hnx
  have t3 := takeP_3 (c := c) (ws := ws.set 2 (chgN H N)) (acc := acc + 1 + 1 + 1) (gd := gd.takeS a) (ret := ret) (ses := ses) (row := row) (stk := stk) (st := st + 1 + 1 + 1) (r := (r.set 1 H).set 2 N) (by rw [e4]; exact hsl) hra.1 hra.2 (by simpa using hi1)
  rw [getD_set_ne (ixN_two c a 1), h.gw a hra.1 hra.2] at t3
  refine ends_one (ok_one (by omega) hr0 h.slips hg0) (by omega) (by omega) (by omega) t0 ?_
  refine ends_one (ok_one (by omega) hr1 h.slips hg0) (by omega) (by omega) (by omega) t1 ?_
  refine ends_one (ok_one (by omega) hr2 h.slips hg0) (by omega) (by omega) (by omega) t2 ?_
  exact ends_done (ok_one (by omega) hr2 ht.slips hg3) (by omega) (by omega) (by omega) t3
theorem ends_take0 (h : Free c ws gd [] G) (ho : c.Ok) (ha0 : acc ≤ 90000) (hs0 : 0 ≤ st) (hs1 : st ≤ 90000) :
    EndsP 2 (onePS c ws acc gd ret ses row stk st (FrS.made 1 [])) (donePS c ws (acc + 1) gd (padTo 12 [0]) ses row stk (st + 1 + 1)) := by
  have h2 := h.two ho
  have hsl : slotE (ws.getD 2 0) = 0 := h.chain
  have hh : ws.getD 2 0 < 2 ^ 64 := small_get h.sm 2
  have hr0 : Small (padTo 24 []) := small_pad (by intro g hg; cases hg)
  have hl0 : (padTo 24 []).length = 24 := by simp [padTo]
  have hg0 := h.gsmall
  generalize hH : ws.getD 2 0 = H at *
  show EndsP 2 (onePS c ws acc gd ret ses row stk st ⟨1, 0, padTo 24 []⟩) _
  generalize padTo 24 [] = r at *
  have hr1 : Small (r.set 1 H) := small_set hr0 hh
  have e1 : (⟨1, 1, r.set 1 H⟩ : FrS).reg 1 = H := reg_set (by omega)
  have t0 := takeP_0 (c := c) (acc := acc) (gd := gd) (ret := ret) (ses := ses) (row := row) (stk := stk) (st := st) (r := r) h2
  rw [hH] at t0
  have t1 := takeP_1_none (c := c) (ws := ws) (acc := acc + 1) (gd := gd) (ret := ret) (ses := ses) (row := row) (stk := stk) (st := st + 1) (r := r.set 1 H) (by rw [e1]; exact hsl)
  refine ends_one (ok_one (by omega) hr0 h.slips hg0) (by omega) (by omega) (by omega) t0 ?_
  exact ends_none (ok_one (by omega) hr1 h.slips hg0) (by omega) (by omega) (by omega) t1
theorem ends_give {a g : Nat} (h : Free c ws gd L G) (ho : c.Ok) (ha : a ∈ gd.held) (hg : G.getD (a - 1) 0 = g) (hb : g + 1 < 2 ^ 49) (ha0 : acc ≤ 90000) (hs0 : 0 ≤ st) (hs1 : st ≤ 90000) :
    EndsP 4 (onePS c ws acc gd ret ses row stk st (FrS.made 2 [mkE a g])) (donePS c (((ws.set (ixN c a 1) (g + 1)).set (ixN c a 0) (slotE (ws.getD 2 0))).set 2 (chgN (ws.getD 2 0) a)) (acc + 1 + 1 + 1 + 1) (gd.dropS (mkE a g)) (padTo 12 []) ses row stk (st + 1 + 1 + 1 + 1)) := by
  have h2 := h.two ho
  have hra := h.hrng a ha
  have hlt : a < 4096 := by have := ho.s2; omega
  have hi0 : ixN c a 0 < ws.length := by rw [h.len]; exact ixN_lt ho hra.1 hra.2 (by omega)
  have hi1 : ixN c a 1 < ws.length := by rw [h.len]; exact ixN_lt ho hra.1 hra.2 (by omega)
  have hh : ws.getD 2 0 < 2 ^ 64 := small_get h.sm 2
  have hr0 : Small (padTo 24 [mkE a g]) := small_pad (by intro x hx; rw [List.mem_singleton.1 hx]; exact mkE_lt a g hlt)
  have hl0 : (padTo 24 [mkE a g]).length = 24 := by simp [padTo]
  have he0 : (padTo 24 [mkE a g]).getD 0 0 = mkE a g := by simp [padTo]
  obtain ⟨ht, hte⟩ := h.gives ho ha hg hb
  have hg3 := ht.gsmall
  have hg0 := h.gsmall
  generalize hH : ws.getD 2 0 = H at *
  show EndsP 4 (onePS c ws acc gd ret ses row stk st ⟨2, 0, padTo 24 [mkE a g]⟩) _
  generalize padTo 24 [mkE a g] = r at *
  have hr1 : Small (r.set 1 H) := small_set hr0 hh
  have e0 : (⟨2, 0, r⟩ : FrS).reg 0 = mkE a g := he0
  have e1 : (⟨2, 1, r.set 1 H⟩ : FrS).reg 1 = H := reg_set (by omega)
  have e2 : (⟨2, 1, r.set 1 H⟩ : FrS).reg 0 = mkE a g := (reg_set_ne (pc' := 0) (by decide)).trans e0
  have e3 : (⟨2, 2, r.set 1 H⟩ : FrS).reg 1 = H := e1
  have e4 : (⟨2, 2, r.set 1 H⟩ : FrS).reg 0 = mkE a g := e2
  have hs : slotE (mkE a g) = a := slotE_mkE hlt
  have t0 := give_0p (c := c) (acc := acc) (gd := gd) (ret := ret) (ses := ses) (row := row) (stk := stk) (st := st) e0 hs hra.1 hra.2 hi1
  rw [gen_next hlt (by omega)] at t0
  have hH1 : (ws.set (ixN c a 1) (g + 1)).getD 2 0 = H := by rw [getD_set_ne (ixN_two c a 1).symm]; exact hH
  have hH2 : ((ws.set (ixN c a 1) (g + 1)).set (ixN c a 0) (slotE H)).getD 2 0 = H := by rw [getD_set_ne (ixN_two c a 0).symm]; exact hH1
  have t1 := give_3p (c := c) (ws := ws.set (ixN c a 1) (g + 1)) (acc := acc + 1) (gd := gd.dropS (mkE a g)) (ret := ret) (ses := ses) (row := row) (stk := stk) (st := st + 1) (r := r) (by simpa using h2)
  rw [hH1] at t1
  have t2 := give_1p (c := c) (ws := ws.set (ixN c a 1) (g + 1)) (acc := acc + 1 + 1) (gd := gd.dropS (mkE a g)) (ret := ret) (ses := ses) (row := row) (stk := stk) (st := st + 1 + 1) e2 e1 hs hra.1 hra.2 (by simpa using hi0)
  have t3 := give_2p (c := c) (ws := (ws.set (ixN c a 1) (g + 1)).set (ixN c a 0) (slotE H)) (acc := acc + 1 + 1 + 1) (gd := gd.dropS (mkE a g)) (ret := ret) (ses := ses) (row := row) (stk := stk) (st := st + 1 + 1 + 1) (by simpa using h2) e4 e3 hH2
  rw [hs] at t3
  have hgs : (gd.dropS (mkE a g)).slips = 0 := ht.slips
  refine ends_one (ok_one (by omega) hr0 h.slips hg0) (by omega) (by omega) (by omega) t0 ?_
  refine ends_one (ok_one (by omega) hr0 hgs hg3) (by omega) (by omega) (by omega) t1 ?_
  refine ends_one (ok_one (by omega) hr1 hgs hg3) (by omega) (by omega) (by omega) t2 ?_
  exact ends_done (ok_one (by omega) hr1 hgs hg3) (by omega) (by omega) (by omega) t3
end
end Go.Proofs.Ytlbhjahmgdghoaa
