/- Enter, Leave, Advance of a thread alone, from rest to rest. Plain lemmas. -/
import Derived.Test.YtlbhjahmgdghoaaEpP1
namespace Go.Proofs.Ytlbhjahmgdghoaa
open Go.RowKit

theorem reg_setE {fn pc : Int} {r : List Nat} {k v : Nat} (h : k < r.length) : (⟨fn, pc, r.set k v⟩ : FrS).reg k = v := by
  show (r.set k v).getD k 0 = v
  simp [h]
theorem reg_setE_ne {fn pc pc' : Int} {r : List Nat} {k j v : Nat} (h : j ≠ k) : (⟨fn, pc, r.set k v⟩ : FrS).reg j = (⟨fn, pc', r⟩ : FrS).reg j := by
  show (r.set k v).getD j 0 = r.getD j 0
  rw [List.getD_eq_getElem?_getD, List.getD_eq_getElem?_getD, List.getElem?_set_ne (fun e => h e.symm)]
theorem smallSet {ws : List Nat} {p v : Nat} (h : Small ws) (hv : v < 2 ^ 64) : Small (ws.set p v) := fun g hg => (List.mem_or_eq_of_mem_set hg).elim (h g) (fun e => by omega)
theorem small_padE {n : Nat} {l : List Nat} (h : Small l) : Small (padTo n l) := fun g hg => by
  unfold padTo at hg
  rcases List.mem_append.1 hg with hg | hg
  · exact h g hg
  · rw [List.eq_of_mem_replicate hg]; decide
theorem getD_setE_ne {ws : List Nat} {p q v : Nat} (h : p ≠ q) : (ws.set p v).getD q 0 = ws.getD q 0 := by
  rw [List.getD_eq_getElem?_getD, List.getD_eq_getElem?_getD, List.getElem?_set_ne h]
theorem getD_setE {ws : List Nat} {p v : Nat} (h : p < ws.length) : (ws.set p v).getD p 0 = v := by
  rw [List.getD_eq_getElem?_getD, List.getElem?_set_self h]
  rfl
section
variable {c : ConfS} {ws ws' : List Nat} {acc acc' : Int} {gd : GuardS} {ret ret' : List Nat} {ses ses' : SesS} {row : List (Int × Int)} {stk : List Nat} {st : Int} {k : Nat} {f f' : FrS}
theorem ok_ep (ha : acc ≤ 100000) (hr : Small f.r) (hsl : gd.slips = 0) (hw : Small ws) (hfn : f.fn = 10 ∨ f.fn = 11 ∨ f.fn = 12) (h1 : f.fn = 12 → f.pc = 1 → ((f.reg 1 : Nat) : Int) < c.thr) : EpOk (onePS c ws acc gd ret ses row stk st f) := by
  refine ⟨⟨?_, ?_, fun k => ?_, ?_⟩, fun a => rd_small hw a, hfn, h1⟩
  · show acc ≤ 4611686018427387904
    omega
  · show 0 < 1
    decide
  · exact small_get hr k
  · show gd.slips ≤ 4611686018427387904
    omega
theorem epE_one {q' : PS} {n : Nat} (hok : EpOk (onePS c ws acc gd ret ses row stk st f)) (ha : acc ≤ 100000) (h0 : 0 ≤ st) (h1 : st ≤ 100000) (hac : acc' ≤ acc + 1)
    (h : (onePS c ws acc gd ret ses row stk st f).epoch k = onePS c ws' acc' gd ret ses row stk st f') (hn : EndsG EpOk (PS.epoch k) n (onePS c ws' acc' gd ret ses row stk (st + 1) f') q') :
    EndsG EpOk (PS.epoch k) (n + 1) (onePS c ws acc gd ret ses row stk st f) q' := by
  refine endsG_one (q1 := onePS c ws' acc' gd ret ses row stk (st + 1) f') (by show 0 < 1; decide) hok ⟨h0, ?_, ?_, ?_, ?_⟩ ?_ (by show 0 < 1; decide) hn
  · show st ≤ 4611686018427387904
    omega
  · show acc ≤ 4611686018427387904
    omega
  · rw [h]
    show acc' ≤ 4611686018427387999
    omega
  · rw [h]
    rfl
  · rw [h]
    exact stepped_oneG rfl hac
theorem epE_done (hok : EpOk (onePS c ws acc gd ret ses row stk st f)) (ha : acc ≤ 100000) (h0 : 0 ≤ st) (h1 : st ≤ 100000) (hac : acc' ≤ acc + 1)
    (h : (onePS c ws acc gd ret ses row stk st f).epoch k = donePS c ws' acc' gd ret' ses' row stk st) :
    EndsG EpOk (PS.epoch k) 1 (onePS c ws acc gd ret ses row stk st f) (donePS c ws' acc' gd ret' ses' row stk (st + 1)) := by
  refine endsG_done (by show 0 < 1; decide) hok ⟨h0, ?_, ?_, ?_, ?_⟩ ?_ rfl
  · show st ≤ 4611686018427387904
    omega
  · show acc ≤ 4611686018427387904
    omega
  · rw [h]
    show acc' ≤ 4611686018427387999
    omega
  · rw [h]
    rfl
  · rw [h]
    exact stepped_doneG rfl hac
end
/-- What the runs ask of words and guard. -/
structure EpW (c : ConfS) (ws : List Nat) (gd : GuardS) : Prop where
  ok : c.Ok
  len : ws.length = wordsN c
  sm : Small ws
  slips : gd.slips = 0
theorem EpW.one {c : ConfS} {ws : List Nat} {gd : GuardS} (h : EpW c ws gd) : 1 < ws.length := by
  rw [h.len]
  have := wordsN_ge h.ok
  omega
theorem EpW.act {c : ConfS} {ws : List Nat} {gd : GuardS} (h : EpW c ws gd) {k : Nat} (hk : (k : Int) < c.thr) : 3 + 8 * k < ws.length := by
  rw [h.len]
  exact act_lt h.ok hk
section
variable {c : ConfS} {ws : List Nat} {acc : Int} {gd : GuardS} {ret : List Nat} {ses : SesS} {row : List (Int × Int)} {stk : List Nat} {st : Int} {k : Nat}
theorem made_small (fn : Int) : Small (FrS.made fn []).r := small_padE (by intro g hg; cases hg)
theorem made_len (fn : Int) : (FrS.made fn []).r.length = 24 := by simp [FrS.made, padTo]
theorem made_reg1 (fn : Int) : (FrS.made fn []).reg 1 = 0 := by
  show (List.replicate 24 0).getD 1 0 = 0
  decide
theorem ends_enter_p (h : EpW c ws gd) (hp : ses.pinned = true) (ha : acc ≤ 90000) (h0 : 0 ≤ st) (h1 : st ≤ 90000) :
    EndsG EpOk (PS.epoch k) 1 (onePS c ws acc gd ret ses row stk st (FrS.made 10 [])) (donePS c ws acc gd (padTo 12 []) ses row stk (st + 1)) :=
  epE_done (ok_ep (by omega) (made_small _) h.slips h.sm (.inl rfl) (fun e => by simp [FrS.made] at e)) (by omega) (by omega) (by omega) (by omega) (enterP_p hp)
set_option maxRecDepth 100000 in
theorem ends_enter (h : EpW c ws gd) (hk : (k : Int) < c.thr) (hp : ses.pinned = false) {e : Nat} (he : ws.getD 1 0 = e) (ha : acc ≤ 90000) (h0 : 0 ≤ st) (h1 : st ≤ 90000) :
    EndsG EpOk (PS.epoch k) 3 (onePS c ws acc gd ret ses row stk st (FrS.made 10 [])) (donePS c (ws.set (3 + 8 * k) (actN e)) (acc + 1 + 1 + 1) gd (padTo 12 []) { ses with past := e - 1 } row stk (st + 1 + 1 + 1)) := by
  have hl := made_len 10
  have hs := made_small 10
  show EndsG EpOk (PS.epoch k) 3 (onePS c ws acc gd ret ses row stk st ⟨10, 0, (FrS.made 10 []).r⟩) _
  generalize (FrS.made 10 []).r = r at *
  have hes : e < 2 ^ 64 := by rw [← he]; exact small_get h.sm 1
  have hw2 : EpW c (ws.set (3 + 8 * k) (actN e)) gd := ⟨h.ok, by simpa using h.len, smallSet h.sm (actN_lt e), h.slips⟩
  have hr1 : Small (r.set 0 e) := smallSet hs hes
  have t0 := enterP_0 (c := c) (acc := acc) (gd := gd) (ret := ret) (row := row) (stk := stk) (st := st) (r := r) (k := k) hp h.one
  rw [he] at t0
  have t1 := enterP_1 (c := c) (acc := acc + 1) (gd := gd) (ret := ret) (ses := ses) (row := row) (stk := stk) (st := st + 1) (r := r.set 0 e) (k := k) (reg_setE (by omega)) (h.act hk)
  have t2 := enterP_2 (c := c) (acc := acc + 1 + 1) (gd := gd) (ret := ret) (ses := ses) (row := row) (stk := stk) (st := st + 1 + 1) (r := r.set 0 e) (k := k) hw2.one
  rw [getD_setE_ne (by omega), he] at t2
  refine epE_one (ok_ep (by omega) hs h.slips h.sm (.inl rfl) (fun e => by simp at e)) (by omega) (by omega) (by omega) (by omega) t0 ?_
  refine epE_one (ok_ep (by omega) hr1 h.slips h.sm (.inl rfl) (fun e => by simp at e)) (by omega) (by omega) (by omega) (by omega) t1 ?_
  exact epE_done (ok_ep (by omega) hr1 h.slips hw2.sm (.inl rfl) (fun e => by simp at e)) (by omega) (by omega) (by omega) (by omega) t2
theorem ends_leave_p (h : EpW c ws gd) (hp : ses.pinned = true) (ha : acc ≤ 90000) (h0 : 0 ≤ st) (h1 : st ≤ 90000) :
    EndsG EpOk (PS.epoch k) 1 (onePS c ws acc gd ret ses row stk st (FrS.made 11 [])) (donePS c ws acc gd (padTo 12 []) ses row stk (st + 1)) :=
  epE_done (ok_ep (by omega) (made_small _) h.slips h.sm (.inr (.inl rfl)) (fun e => by simp [FrS.made] at e)) (by omega) (by omega) (by omega) (by omega) (leaveP_p hp)
theorem ends_leave (h : EpW c ws gd) (hk : (k : Int) < c.thr) (hp : ses.pinned = false) (ha : acc ≤ 90000) (h0 : 0 ≤ st) (h1 : st ≤ 90000) :
    EndsG EpOk (PS.epoch k) 1 (onePS c ws acc gd ret ses row stk st (FrS.made 11 [])) (donePS c (ws.set (3 + 8 * k) 0) (acc + 1) gd (padTo 12 []) ses row stk (st + 1)) :=
  epE_done (ok_ep (by omega) (made_small _) h.slips h.sm (.inr (.inl rfl)) (fun e => by simp [FrS.made] at e)) (by omega) (by omega) (by omega) (by omega) (leaveP_0 hp (h.act hk))
set_option maxRecDepth 100000 in
theorem adv_go (h : EpW c ws gd) {e : Nat} (he : ws.getD 1 0 = e) : ∀ (d j : Nat) (r : List Nat) (acc acc' st st' : Int), ((j + (d + 1) : Nat) : Int) = c.thr → (∀ t : Nat, j ≤ t → (t : Int) < c.thr → lagsN (ws.getD (3 + 8 * t) 0) e = false) →
    r.length = 24 → Small r → (⟨12, 1, r⟩ : FrS).reg 0 = e → (⟨12, 1, r⟩ : FrS).reg 1 = j → acc ≤ 90000 - d → 0 ≤ st → st ≤ 90000 - d → acc' = acc + (d + 2 : Nat) → st' = st + (d + 2 : Nat) →
    EndsG EpOk (PS.epoch k) (d + 2) (onePS c ws acc gd ret ses row stk st ⟨12, 1, r⟩) (donePS c (ws.set 1 (inc64 e)) acc' gd (padTo 12 [1]) ses row stk st')
 := by
  intro d
  induction d with
  | zero =>
    intro j r acc acc' st st' hj hl hrl hrs hr0 hr1 ha h0 h1 ha' hs'
    have hj1 : ((j : Nat) : Int) < c.thr := by omega
    have t1 := advP_on (c := c) (acc := acc) (gd := gd) (ret := ret) (ses := ses) (row := row) (stk := stk) (st := st) (r := r) (k := k) hr0 hr1 (h.act hj1) (hl j (Nat.le_refl _) hj1)
    rw [if_pos (by omega)] at t1
    have e0 : (⟨12, 2, r.set 1 (j + 1)⟩ : FrS).reg 0 = e := (reg_setE_ne (pc' := 1) (by decide)).trans hr0
    have t2 := advP_2 (c := c) (acc := acc + 1) (gd := gd) (ret := ret) (ses := ses) (row := row) (stk := stk) (st := st + 1) (r := r.set 1 (j + 1)) (k := k) e0 h.one he
    have ht2 := h.ok.t2
    refine epE_one (ok_ep (by omega) hrs h.slips h.sm (.inr (.inr rfl)) (fun _ _ => by rw [hr1]; exact hj1)) (by omega) (by omega) (by omega) (by omega) t1 ?_
    have := epE_done (ok_ep (c := c) (ret := ret) (ses := ses) (row := row) (stk := stk) (st := st + 1) (gd := gd) (acc := acc + 1) (by omega) (smallSet hrs (by omega) : Small (r.set 1 (j + 1))) h.slips h.sm (.inr (.inr rfl)) (fun _ e => by simp at e)) (by omega) (by omega) (by omega) (by omega) t2
    rw [show acc' = acc + 1 + 1 by omega, show st' = st + 1 + 1 by omega]
    exact this
  | succ d ih =>
    intro j r acc acc' st st' hj hl hrl hrs hr0 hr1 ha h0 h1 ha' hs'
    have hj1 : ((j : Nat) : Int) < c.thr := by omega
    have ht2 := h.ok.t2
    have t1 := advP_on (c := c) (acc := acc) (gd := gd) (ret := ret) (ses := ses) (row := row) (stk := stk) (st := st) (r := r) (k := k) hr0 hr1 (h.act hj1) (hl j (Nat.le_refl _) hj1)
    rw [if_neg (by omega)] at t1
    refine epE_one (ok_ep (by omega) hrs h.slips h.sm (.inr (.inr rfl)) (fun _ _ => by rw [hr1]; exact hj1)) (by omega) (by omega) (by omega) (by omega) t1 ?_
    exact ih (j + 1) (r.set 1 (j + 1)) (acc + 1) acc' (st + 1) st' (by omega) (fun t h1 h2 => hl t (by omega) h2) (by simpa using hrl) (smallSet hrs (by omega)) ((reg_setE_ne (pc' := 1) (by decide)).trans hr0) (reg_setE (by omega)) (by omega) (by omega) (by omega) (by omega) (by omega)
theorem adv_lag (h : EpW c ws gd) {e : Nat} : ∀ (d j : Nat) (r : List Nat) (acc st : Int), ((j + (d + 1) : Nat) : Int) = c.thr → (∃ t : Nat, j ≤ t ∧ (t : Int) < c.thr ∧ lagsN (ws.getD (3 + 8 * t) 0) e = true) →
    r.length = 24 → Small r → (⟨12, 1, r⟩ : FrS).reg 0 = e → (⟨12, 1, r⟩ : FrS).reg 1 = j → acc ≤ 90000 - d → 0 ≤ st → st ≤ 90000 - d →
    ∃ m acc' st', m ≤ d + 1 ∧ acc ≤ acc' ∧ acc' ≤ acc + (d + 1 : Nat) ∧ st ≤ st' ∧ st' ≤ st + (d + 1 : Nat) ∧ EndsG EpOk (PS.epoch k) m (onePS c ws acc gd ret ses row stk st ⟨12, 1, r⟩) (donePS c ws acc' gd (padTo 12 [0]) ses row stk st') := by
  intro d
  induction d with
  | zero =>
    intro j r acc st hj hl hrl hrs hr0 hr1 ha h0 h1
    have hj1 : ((j : Nat) : Int) < c.thr := by omega
    obtain ⟨t, ht1, ht3, ht4⟩ := hl
    obtain rfl : t = j := by omega
    have t1 := advP_lag (c := c) (acc := acc) (gd := gd) (ret := ret) (ses := ses) (row := row) (stk := stk) (st := st) (r := r) (k := k) hr0 hr1 (h.act hj1) ht4
    exact ⟨1, acc + 1, st + 1, by omega, by omega, by omega, by omega, by omega, epE_done (ok_ep (by omega) hrs h.slips h.sm (.inr (.inr rfl)) (fun _ _ => by rw [hr1]; exact hj1)) (by omega) (by omega) (by omega) (by omega) t1⟩
  | succ d ih =>
    intro j r acc st hj hl hrl hrs hr0 hr1 ha h0 h1
    have hj1 : ((j : Nat) : Int) < c.thr := by omega
    have ht2 := h.ok.t2
    cases hlj : lagsN (ws.getD (3 + 8 * j) 0) e with
    | true =>
      have t1 := advP_lag (c := c) (acc := acc) (gd := gd) (ret := ret) (ses := ses) (row := row) (stk := stk) (st := st) (r := r) (k := k) hr0 hr1 (h.act hj1) hlj
      exact ⟨1, acc + 1, st + 1, by omega, by omega, by omega, by omega, by omega, epE_done (ok_ep (by omega) hrs h.slips h.sm (.inr (.inr rfl)) (fun _ _ => by rw [hr1]; exact hj1)) (by omega) (by omega) (by omega) (by omega) t1⟩
    | false =>
      obtain ⟨t, ht1, ht3, ht4⟩ := hl
      have hne : t ≠ j := fun e2 => by rw [e2, hlj] at ht4; cases ht4
      have t1 := advP_on (c := c) (acc := acc) (gd := gd) (ret := ret) (ses := ses) (row := row) (stk := stk) (st := st) (r := r) (k := k) hr0 hr1 (h.act hj1) hlj
      rw [if_neg (by omega)] at t1
      obtain ⟨m, acc', st', q1, q2, q3, q4, q5, q6⟩ := ih (j + 1) (r.set 1 (j + 1)) (acc + 1) (st + 1) (by omega) ⟨t, by omega, ht3, ht4⟩ (by simpa using hrl) (smallSet hrs (by omega)) ((reg_setE_ne (pc' := 1) (by decide)).trans hr0) (reg_setE (by omega)) (by omega) (by omega) (by omega)
      exact ⟨m + 1, acc', st', by omega, by omega, by omega, by omega, by omega, epE_one (ok_ep (by omega) hrs h.slips h.sm (.inr (.inr rfl)) (fun _ _ => by rw [hr1]; exact hj1)) (by omega) (by omega) (by omega) (by omega) t1 q6⟩
end
end Go.Proofs.Ytlbhjahmgdghoaa
