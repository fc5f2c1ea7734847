/- A machine at rest, its epoch and announcements, and the laws' Alone of epoch's routines upon it. Conditions: few deeds were done. -/
import Derived.Test.YtlbhjahmgdghoaaEpP2
namespace Go.Proofs.Ytlbhjahmgdghoaa
open Go.RowKit

structure EpRest (c : ConfS) (s : MS) (e : Nat) (act past : List Nat) (n : Nat) : Prop where
  w : EpW c s.mem.ws s.gd
  conf : s.conf = c
  thl : s.ths.length = c.thr.toNat
  idle : ∀ t, t ∈ s.ths → t.frs = []
  f1 : s.fault = false
  f2 : s.mem.fault = false
  a0 : 0 ≤ s.mem.acc
  a1 : s.mem.acc ≤ 10 * n
  s0 : 0 ≤ s.steps
  s1 : s.steps ≤ 10 * n
  ep : s.mem.ws.getD 1 0 = e
  eb : e ≤ n + 3
  actL : act.length = c.thr.toNat
  actI : ∀ t : Nat, (t : Int) < c.thr → s.mem.ws.getD (3 + 8 * t) 0 = act.getD t 0
  pastL : past.length = c.thr.toNat
  pastI : ∀ (t : Nat) (th : ThS), s.ths[t]? = some th → th.ses.past = past.getD t 0
def OneE (s : MS) (c : ConfS) (t : ThS) (fn : Int) : PS := onePS c s.mem.ws s.mem.acc s.gd t.ret t.ses t.row t.stk s.steps (FrS.made fn [])
theorem epoch_conf (k : Nat) (s : PS) : (s.epoch k).conf = s.conf := by
  unfold PS.epoch PS.enter PS.leave PS.advance
  repeat' split
  all_goals rfl
theorem drives_ep (k n : Nat) : Drives (fun s => RunsAt k n EpOk (PS.epoch k) s ∧ ThrOk s) k n EpOk (PS.epoch k) := by
  intro s ⟨h, hM⟩
  obtain ⟨t, h1, h2, h3, h4, h5⟩ := drives_runs k n EpOk (PS.epoch k) s h
  refine ⟨t, h1, h2, h3, h4, fun hn => ⟨h5 hn, ?_⟩⟩
  have h6 : s.ths.length = s.conf.thr.toNat := hM
  show (s.ths.set k _).length = ((PS.epoch k (s.part t)).conf).thr.toNat
  rw [List.length_set, epoch_conf]
  exact h6
section
variable {c : ConfS} {s : MS} {e n k : Nat} {act past : List Nat} {t : ThS}
theorem one_ofE (h : EpRest c s e act past n) (ht : t ∈ s.ths) (fn : Int) : ({ (s.part t) with th := t.pushed fn [] } : PS) = OneE s c t fn := by
  have h1 := h.conf
  have h2 := h.f1
  have h3 := h.f2
  have h4 := h.idle t ht
  clear h
  obtain ⟨conf, ⟨ws, acc, mf⟩, gd, ths, st, f⟩ := s
  obtain ⟨ret, ses, frs, row, stk⟩ := t
  simp only at h1 h2 h3 h4
  subst h1 h2 h3 h4
  rfl
theorem ep_alone {w : World} {i : MI} (hm : MachAt w i s) (h : EpRest c s e act past n) (ht : s.ths[k]? = some t) {fn : Int} {m : Nat} {q : PS} (he : EndsG EpOk (PS.epoch k) m (OneE s c t fn) q) (most : Nat) (h1 : m ≤ most) (h2 : most ≤ 100000) :
    Calls Try.prog 20 #[.pointer (some ⟨i.m, 0, none⟩), .int .i64 (k : Nat), fnV 37, .int .i64 (most : Nat), .int .i64 fn, .slice none 0 0] w fun r w' => r = .returned (.tuple #[.int .i64 (m : Nat), .bool true]) ∧ ∃ i', MachAt w' i' (s.join k q) ∧ Goes w w' i i' := by
  have e1 := one_ofE h (List.mem_of_getElem? ht) fn
  have hfl : t.frs.length = 0 := by rw [h.idle t (List.mem_of_getElem? ht)]; rfl
  have hth : ThrOk s := by show s.ths.length = s.conf.thr.toNat; rw [h.conf]; exact h.thl
  have hth2 : ThrOk (s.call k fn []) := by
    rw [call_join ht]
    show (s.ths.set k _).length = s.conf.thr.toNat
    rw [List.length_set]
    exact hth
  have hp : RunsAt k 0 EpOk (PS.epoch k) (s.call k fn []) := runsAt_call ht (f := m) (by rw [e1]; exact he.1)
  have hg : aloneGo (PS.epoch k) k 0 most 0 (s.call k fn []) = (s.join k q, m, true) := by
    rw [aloneGo_call ht, e1]
    have := he.2 (most - m) 0
    rw [Nat.sub_add_cancel h1, Nat.zero_add] at this
    rw [this]
  have := alone_at (epoch_do k) enter_epoch (fun s => RunsAt k 0 EpOk (PS.epoch k) s ∧ ThrOk s) (fun _ h => h.2) w i s hm t ht (by omega) most h2 fn (.slice none 0 0) [] (.inl ⟨rfl, rfl⟩) (by simp) ⟨hp, hth2⟩ (by rw [hfl]; exact drives_ep k 0)
  rw [hfl, hg] at this
  exact this
/-- A machine at rest, a thread's return behind it. -/
theorem rest_nextE {ws' : List Nat} {acc' st' : Int} {ret : List Nat} {ses : SesS} {e' : Nat} {act' past' : List Nat} (h : EpRest c s e act past n) (hw : EpW c ws' s.gd) (ha0 : 0 ≤ acc') (ha1 : acc' ≤ s.mem.acc + 10) (hs0 : 0 ≤ st') (hs1 : st' ≤ s.steps + 10)
    (he : ws'.getD 1 0 = e') (heb : e' ≤ n + 1 + 3) (hal : act'.length = c.thr.toNat) (hai : ∀ t : Nat, (t : Int) < c.thr → ws'.getD (3 + 8 * t) 0 = act'.getD t 0) (hpl : past'.length = c.thr.toNat) (hp : ∀ (j : Nat) (th : ThS), (s.ths.set k ⟨ret, ses, [], t.row, t.stk⟩)[j]? = some th → th.ses.past = past'.getD j 0) :
    EpRest c (s.join k (donePS c ws' acc' s.gd ret ses t.row t.stk st')) e' act' past' (n + 1) := by
  have h1 := h.a1
  have h2 := h.s1
  refine ⟨hw, rfl, ?_, ?_, rfl, rfl, ha0, ?_, hs0, ?_, he, heb, hal, hai, hpl, hp⟩
  · show (s.ths.set k _).length = _
    rw [List.length_set]
    exact h.thl
  · intro t' ht'
    rcases List.mem_or_eq_of_mem_set (show t' ∈ s.ths.set k _ from ht') with h3 | h3
    · exact h.idle t' h3
    · rw [h3]
      rfl
  · show acc' ≤ _
    omega
  · show st' ≤ _
    omega
theorem past_same {ret : List Nat} {ses : SesS} (h : EpRest c s e act past n) (ht : s.ths[k]? = some t) (hs : ses.past = t.ses.past) : ∀ (j : Nat) (th : ThS), (s.ths.set k ⟨ret, ses, [], t.row, t.stk⟩)[j]? = some th → th.ses.past = past.getD j 0 := fun j th hj => by
  by_cases e1 : k = j
  · subst e1
    rw [List.getElem?_set_self (List.getElem?_eq_some_iff.1 ht).1] at hj
    injection hj with hj
    rw [← hj]
    show ses.past = _
    rw [hs]
    exact h.pastI k t ht
  · rw [List.getElem?_set_ne e1] at hj
    exact h.pastI j th hj
theorem act_get {x : Nat} {ws : List Nat} (h : EpRest c s e act past n) (hws : s.mem.ws = ws) (hk : (k : Int) < c.thr) : ∀ t : Nat, (t : Int) < c.thr → (ws.set (3 + 8 * k) x).getD (3 + 8 * t) 0 = (act.set k x).getD t 0 := fun t ht => by
  subst hws
  by_cases e1 : k = t
  · subst e1
    rw [getD_setE (h.w.act hk), getD_setE (by rw [h.actL]; omega)]
  · rw [getD_setE_ne (by omega), getD_setE_ne e1]
    exact h.actI t ht
def lagAny (c : ConfS) (e : Nat) (act : List Nat) : Bool := (List.range c.thr.toNat).any fun t => lagsN (act.getD t 0) e
theorem lag_true (h : lagAny c e act = true) : ∃ t : Nat, (t : Int) < c.thr ∧ lagsN (act.getD t 0) e = true := by
  unfold lagAny at h
  rw [List.any_eq_true] at h
  obtain ⟨t, ht, h⟩ := h
  exact ⟨t, by have := List.mem_range.1 ht; omega, h⟩
theorem lag_false (h : lagAny c e act = false) (t : Nat) (ht : (t : Int) < c.thr) : lagsN (act.getD t 0) e = false := by
  unfold lagAny at h
  rw [List.any_eq_false] at h
  simpa using h t (List.mem_range.2 (by omega))
/-- Enter. -/
theorem rest_enter (h : EpRest c s e act past n) (ht : s.ths[k]? = some t) (hn : n ≤ 5000) (hp : t.ses.pinned = false) :
    ∃ q, EndsG EpOk (PS.epoch k) 3 (OneE s c t 10) q ∧ EpRest c (s.join k q) e (act.set k (actN e)) (past.set k (e - 1)) (n + 1) ∧ ((s.join k q).ths[k]? = some ⟨padTo 12 [], { t.ses with past := e - 1 }, [], t.row, t.stk⟩) := by
  have hkl := (List.getElem?_eq_some_iff.1 ht).1
  have hk : (k : Int) < c.thr := by have := h.thl; omega
  have h1 := h.a1
  have h2 := h.s1
  have h3 := h.a0
  have h4 := h.s0
  have hends := ends_enter (k := k) (acc := s.mem.acc) (ret := t.ret) (ses := t.ses) (row := t.row) (stk := t.stk) (st := s.steps) h.w hk hp h.ep (by omega) h4 (by omega)
  refine ⟨_, hends, ?_, part_join hkl⟩
  refine rest_nextE h ⟨h.w.ok, by simpa using h.w.len, smallSet h.w.sm (actN_lt e), h.w.slips⟩ (by omega) (by omega) (by omega) (by omega) (by rw [getD_setE_ne (by omega)]; exact h.ep) (by have := h.eb; omega) (by simpa using h.actL) (act_get h rfl hk) (by simpa using h.pastL) (fun j th hj => ?_)
  by_cases e1 : k = j
  · subst e1
    rw [List.getElem?_set_self hkl] at hj
    injection hj with hj
    rw [← hj]
    show e - 1 = _
    rw [getD_setE (by rw [h.pastL]; omega)]
  · rw [List.getElem?_set_ne e1] at hj
    rw [getD_setE_ne e1]
    exact h.pastI j th hj
theorem rest_enter_p (h : EpRest c s e act past n) (ht : s.ths[k]? = some t) (hn : n ≤ 5000) (hp : t.ses.pinned = true) :
    ∃ q, EndsG EpOk (PS.epoch k) 1 (OneE s c t 10) q ∧ EpRest c (s.join k q) e act past (n + 1) ∧ ((s.join k q).ths[k]? = some ⟨padTo 12 [], t.ses, [], t.row, t.stk⟩) := by
  have hkl := (List.getElem?_eq_some_iff.1 ht).1
  have h1 := h.a1
  have h2 := h.s1
  have h3 := h.a0
  have h4 := h.s0
  have hends := ends_enter_p (k := k) (acc := s.mem.acc) (ret := t.ret) (ses := t.ses) (row := t.row) (stk := t.stk) (st := s.steps) h.w hp (by omega) h4 (by omega)
  exact ⟨_, hends, rest_nextE h h.w (by omega) (by omega) (by omega) (by omega) h.ep (by have := h.eb; omega) h.actL h.actI h.pastL (past_same h ht rfl), part_join hkl⟩
theorem rest_leave_p (h : EpRest c s e act past n) (ht : s.ths[k]? = some t) (hn : n ≤ 5000) (hp : t.ses.pinned = true) :
    ∃ q, EndsG EpOk (PS.epoch k) 1 (OneE s c t 11) q ∧ EpRest c (s.join k q) e act past (n + 1) ∧ ((s.join k q).ths[k]? = some ⟨padTo 12 [], t.ses, [], t.row, t.stk⟩) := by
  have hkl := (List.getElem?_eq_some_iff.1 ht).1
  have h1 := h.a1
  have h2 := h.s1
  have h3 := h.a0
  have h4 := h.s0
  have hends := ends_leave_p (k := k) (acc := s.mem.acc) (ret := t.ret) (ses := t.ses) (row := t.row) (stk := t.stk) (st := s.steps) h.w hp (by omega) h4 (by omega)
  exact ⟨_, hends, rest_nextE h h.w (by omega) (by omega) (by omega) (by omega) h.ep (by have := h.eb; omega) h.actL h.actI h.pastL (past_same h ht rfl), part_join hkl⟩
theorem rest_leave (h : EpRest c s e act past n) (ht : s.ths[k]? = some t) (hn : n ≤ 5000) (hp : t.ses.pinned = false) :
    ∃ q, EndsG EpOk (PS.epoch k) 1 (OneE s c t 11) q ∧ EpRest c (s.join k q) e (act.set k 0) past (n + 1) ∧ ((s.join k q).ths[k]? = some ⟨padTo 12 [], t.ses, [], t.row, t.stk⟩) := by
  have hkl := (List.getElem?_eq_some_iff.1 ht).1
  have hk : (k : Int) < c.thr := by have := h.thl; omega
  have h1 := h.a1
  have h2 := h.s1
  have h3 := h.a0
  have h4 := h.s0
  have hends := ends_leave (k := k) (acc := s.mem.acc) (ret := t.ret) (ses := t.ses) (row := t.row) (stk := t.stk) (st := s.steps) h.w hk hp (by omega) h4 (by omega)
  exact ⟨_, hends, rest_nextE h ⟨h.w.ok, by simpa using h.w.len, smallSet h.w.sm (by decide), h.w.slips⟩ (by omega) (by omega) (by omega) (by omega) (by rw [getD_setE_ne (by omega)]; exact h.ep) (by have := h.eb; omega) (by simpa using h.actL) (act_get h rfl hk) h.pastL (past_same h ht rfl), part_join hkl⟩
theorem adv_start (h : EpRest c s e act past n) {m : Nat} {q : PS} (hn : n ≤ 5000) (hr : ∀ r : List Nat, r.length = 24 → Small r → (⟨12, 1, r⟩ : FrS).reg 0 = e → (⟨12, 1, r⟩ : FrS).reg 1 = 0 → EndsG EpOk (PS.epoch k) m (onePS c s.mem.ws (s.mem.acc + 1) s.gd t.ret t.ses t.row t.stk (s.steps + 1) ⟨12, 1, r⟩) q) :
    EndsG EpOk (PS.epoch k) (m + 1) (OneE s c t 12) q := by
  have hl := made_len 12
  have hs := made_small 12
  have hr1 := made_reg1 12
  have h1 := h.a1
  have h2 := h.s1
  have h4 := h.s0
  show EndsG EpOk (PS.epoch k) (m + 1) (onePS c s.mem.ws s.mem.acc s.gd t.ret t.ses t.row t.stk s.steps ⟨12, 0, (FrS.made 12 []).r⟩) _
  have hr1' : (⟨12, 0, (FrS.made 12 []).r⟩ : FrS).reg 1 = 0 := hr1
  clear hr1
  generalize (FrS.made 12 []).r = r at *
  have hes : e < 2 ^ 64 := by rw [← h.ep]; exact small_get h.w.sm 1
  have t0 := advP_0 (c := c) (acc := s.mem.acc) (gd := s.gd) (ret := t.ret) (ses := t.ses) (row := t.row) (stk := t.stk) (st := s.steps) (r := r) (k := k) h.w.one
  rw [h.ep] at t0
  exact epE_one (ok_ep (by omega) hs h.w.slips h.w.sm (.inr (.inr rfl)) (fun _ e => by simp at e)) (by omega) (by omega) (by omega) (by omega) t0 (hr (r.set 0 e) (by simpa using hl) (smallSet hs hes) (reg_setE (by omega)) ((reg_setE_ne (pc' := 0) (by decide)).trans hr1'))
theorem rest_advance (h : EpRest c s e act past n) (ht : s.ths[k]? = some t) (hn : n ≤ 5000) (hl : lagAny c e act = false) :
    ∃ q, EndsG EpOk (PS.epoch k) (c.thr.toNat + 2) (OneE s c t 12) q ∧ EpRest c (s.join k q) (e + 1) act past (n + 1) ∧ ((s.join k q).ths[k]? = some ⟨padTo 12 [1], t.ses, [], t.row, t.stk⟩) := by
  have hkl := (List.getElem?_eq_some_iff.1 ht).1
  have hk : (k : Int) < c.thr := by have := h.thl; omega
  have ht1 := h.w.ok.t1
  have ht2 := h.w.ok.t2
  have h1 := h.a1
  have h2 := h.s1
  have h3 := h.a0
  have h4 := h.s0
  have heb := h.eb
  have hinc : inc64 e = e + 1 := Nat.mod_eq_of_lt (by omega)
  obtain ⟨d, hd⟩ : ∃ d : Nat, c.thr = ((0 + (d + 1) : Nat) : Int) := ⟨c.thr.toNat - 1, by omega⟩
  have hends := adv_start (k := k) (t := t) h hn (fun r q1 q2 q3 q4 => adv_go (k := k) (ret := t.ret) (ses := t.ses) (row := t.row) (stk := t.stk) h.w h.ep d 0 r (s.mem.acc + 1) (s.mem.acc + 1 + (d + 2 : Nat)) (s.steps + 1) (s.steps + 1 + (d + 2 : Nat)) hd.symm (fun x _ hx => by rw [h.actI x hx]; exact lag_false hl x hx) q1 q2 q3 q4 (by omega) (by omega) (by omega) rfl rfl)
  rw [show d + 2 + 1 = c.thr.toNat + 2 by omega, hinc] at hends
  refine ⟨_, hends, rest_nextE h ⟨h.w.ok, by simpa using h.w.len, smallSet h.w.sm (by omega), h.w.slips⟩ (by omega) (by omega) (by omega) (by omega) (getD_setE h.w.one) (by omega) h.actL (fun x hx => by rw [getD_setE_ne (by omega)]; exact h.actI x hx) h.pastL (past_same h ht rfl), part_join hkl⟩
theorem rest_advance0 (h : EpRest c s e act past n) (ht : s.ths[k]? = some t) (hn : n ≤ 5000) (hl : lagAny c e act = true) :
    ∃ m q, m ≤ c.thr.toNat + 1 ∧ EndsG EpOk (PS.epoch k) m (OneE s c t 12) q ∧ EpRest c (s.join k q) e act past (n + 1) ∧ ((s.join k q).ths[k]? = some ⟨padTo 12 [0], t.ses, [], t.row, t.stk⟩) := by
  have hkl := (List.getElem?_eq_some_iff.1 ht).1
  have ht1 := h.w.ok.t1
  have ht2 := h.w.ok.t2
  have h1 := h.a1
  have h2 := h.s1
  have h3 := h.a0
  have h4 := h.s0
  obtain ⟨d, hd⟩ : ∃ d : Nat, c.thr = ((0 + (d + 1) : Nat) : Int) := ⟨c.thr.toNat - 1, by omega⟩
  obtain ⟨x, hx, hlx⟩ := lag_true hl
  have hl2 : ∃ y : Nat, 0 ≤ y ∧ (y : Int) < c.thr ∧ lagsN (s.mem.ws.getD (3 + 8 * y) 0) e = true := ⟨x, by omega, hx, by rw [h.actI x hx]; exact hlx⟩
  have hl0 := made_len 12
  have hs := made_small 12
  have hr1 := made_reg1 12
  have hr1' : (⟨12, 0, (FrS.made 12 []).r⟩ : FrS).reg 1 = 0 := hr1
  have hes : e < 2 ^ 64 := by rw [← h.ep]; exact small_get h.w.sm 1
  have hsm2 : Small ((FrS.made 12 []).r.set 0 e) := smallSet hs hes
  obtain ⟨m, acc', st', q1, q2, q3, q4, q5, q6⟩ := adv_lag (k := k) (ret := t.ret) (ses := t.ses) (row := t.row) (stk := t.stk) h.w d 0 ((FrS.made 12 []).r.set 0 e) (s.mem.acc + 1) (s.steps + 1) hd.symm hl2 (by simpa using hl0) hsm2 (reg_setE (by omega)) ((reg_setE_ne (pc' := 0) (by decide)).trans hr1') (by omega) (by omega) (by omega)
  have t0 := advP_0 (c := c) (acc := s.mem.acc) (gd := s.gd) (ret := t.ret) (ses := t.ses) (row := t.row) (stk := t.stk) (st := s.steps) (r := (FrS.made 12 []).r) (k := k) h.w.one
  rw [h.ep] at t0
  have hends := epE_one (f := ⟨12, 0, (FrS.made 12 []).r⟩) (ok_ep (by omega) hs h.w.slips h.w.sm (.inr (.inr rfl)) (fun _ e => by simp at e)) (by omega) (by omega) (by omega) (by omega) t0 q6
  exact ⟨m + 1, _, by omega, hends, rest_nextE h h.w (by omega) (by omega) (by omega) (by omega) h.ep (by have := h.eb; omega) h.actL h.actI h.pastL (past_same h ht rfl), part_join hkl⟩
end
end Go.Proofs.Ytlbhjahmgdghoaa
