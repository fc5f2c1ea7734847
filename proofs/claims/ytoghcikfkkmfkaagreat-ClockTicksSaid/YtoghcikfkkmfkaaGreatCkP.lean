/- ClockTicks: what holds between any two steps, and what one step of any thread leaves. Plain lemmas. Condition: few steps were done. -/
import Derived.Test.YtoghcikfkkmfkaaGreatCk2
import Derived.Test.YtoghcikfkkmfkaaGreatCrd
namespace Go.Proofs.YtoghcikfkkmfkaaGreat
open Go.RowKit

section
variable {c : ConfS} {ws : List Nat} {acc : Int} {gd : GuardS} {ret : List Nat} {ses : SesS} {row : List (Int × Int)} {stk : List Nat} {st : Int} {r : List Nat}
theorem k_rd0 {ws : List Nat} {acc : Int} {fl : Bool} (h : 0 < ws.length) : (⟨ws, acc, fl⟩ : MemS).rd 0 = ws.getD 0 0 := by
  show (if inR ws.length [((0 : Nat) : Int)] = true then ws.getD (0 : Int).toNat 0 else 0) = _
  rw [if_pos (inR_nat h)]
  rfl
theorem k_inR0 {n : Nat} (h : 0 < n) : inR n [0] = true := inR_nat (a := 0) h
/-- It reads the clock: it is at its end. -/
theorem tickP_0a (h0 : 0 < ws.length) (hs : c.stamps ≤ ((ws.getD 0 0 : Nat) : Int)) : (onePS c ws acc gd ret ses row stk st ⟨60, 0, r⟩).tick = donePS c ws (acc + 1) gd (padTo 12 [0]) ses row stk st := by
  unfold PS.tick
  rw [if_pos (show (onePS c ws acc gd ret ses row stk st ⟨60, 0, r⟩).th.top.pc = 0 from rfl)]
  have e : (onePS c ws acc gd ret ses row stk st ⟨60, 0, r⟩).mem.rd 0 = ws.getD 0 0 := k_rd0 h0
  rw [e, if_pos (show (onePS c ws acc gd ret ses row stk st ⟨60, 0, r⟩).conf.stamps ≤ ((ws.getD 0 0 : Nat) : Int) from hs)]
  show ({ conf := c, mem := ⟨ws, acc + 1, false || !inR ws.length [0]⟩, gd := gd, th := _, steps := st, fault := false } : PS) = _
  rw [k_inR0 h0]
  rfl
theorem tickP_0b (h0 : 0 < ws.length) (hs : ¬ c.stamps ≤ ((ws.getD 0 0 : Nat) : Int)) : (onePS c ws acc gd ret ses row stk st ⟨60, 0, r⟩).tick = onePS c ws (acc + 1) gd ret ses row stk st ⟨60, 1, r.set 0 (ws.getD 0 0)⟩ := by
  unfold PS.tick
  rw [if_pos (show (onePS c ws acc gd ret ses row stk st ⟨60, 0, r⟩).th.top.pc = 0 from rfl)]
  have e : (onePS c ws acc gd ret ses row stk st ⟨60, 0, r⟩).mem.rd 0 = ws.getD 0 0 := k_rd0 h0
  rw [e, if_neg (show ¬ (onePS c ws acc gd ret ses row stk st ⟨60, 0, r⟩).conf.stamps ≤ ((ws.getD 0 0 : Nat) : Int) from hs)]
  show ({ conf := c, mem := ⟨ws, acc + 1, false || !inR ws.length [0]⟩, gd := gd, th := _, steps := st, fault := false } : PS) = _
  rw [k_inR0 h0]
  rfl
/-- It sets the clock on. -/
theorem tickP_1y {v : Nat} (h0 : 0 < ws.length) (hv : (⟨60, 1, r⟩ : FrS).reg 0 = v) (he : ws.getD 0 0 = v) : (onePS c ws acc gd ret ses row stk st ⟨60, 1, r⟩).tick = donePS c (ws.set 0 (inc64 v)) (acc + 1) gd (padTo 12 [v]) { ses with v := v } row stk st := by
  unfold PS.tick
  have e0 : (onePS c ws acc gd ret ses row stk st ⟨60, 1, r⟩).th.top.reg 0 = v := hv
  have eb : (⟨ws, acc, false⟩ : MemS).casB 0 v = true := by
    show (inR ws.length [0] && ((⟨ws, acc, false⟩ : MemS).rd 0 == v)) = true
    rw [k_inR0 h0, k_rd0 h0, he]
    simp
  have ec : (⟨ws, acc, false⟩ : MemS).casS 0 v (inc64 v) = ⟨ws.set 0 (inc64 v), acc + 1, false⟩ := by
    unfold MemS.casS
    rw [if_pos eb]
    rfl
  rw [if_neg (by show ¬ (1 : Int) = 0; decide), e0, if_pos (show (onePS c ws acc gd ret ses row stk st ⟨60, 1, r⟩).mem.casB 0 v = true from eb), show (onePS c ws acc gd ret ses row stk st ⟨60, 1, r⟩).mem.casS 0 v (inc64 v) = ⟨ws.set 0 (inc64 v), acc + 1, false⟩ from ec]
  rfl
theorem tickP_1n {v : Nat} (h0 : 0 < ws.length) (hv : (⟨60, 1, r⟩ : FrS).reg 0 = v) (he : ws.getD 0 0 ≠ v) : (onePS c ws acc gd ret ses row stk st ⟨60, 1, r⟩).tick = onePS c ws (acc + 1) gd ret ses row stk st ⟨60, 0, r⟩ := by
  unfold PS.tick
  have e0 : (onePS c ws acc gd ret ses row stk st ⟨60, 1, r⟩).th.top.reg 0 = v := hv
  have eb : (⟨ws, acc, false⟩ : MemS).casB 0 v = false := by
    show (inR ws.length [0] && ((⟨ws, acc, false⟩ : MemS).rd 0 == v)) = false
    rw [k_inR0 h0, k_rd0 h0]
    simpa using he
  have ec : (⟨ws, acc, false⟩ : MemS).casS 0 v (inc64 v) = ⟨ws, acc + 1, false⟩ := by
    unfold MemS.casS
    rw [if_neg (by rw [eb]; decide)]
    show (⟨ws, acc + 1, false || !inR ws.length [0]⟩ : MemS) = _
    rw [k_inR0 h0]
    rfl
  rw [if_neg (by show ¬ (1 : Int) = 0; decide), e0, if_neg (show ¬ (onePS c ws acc gd ret ses row stk st ⟨60, 1, r⟩).mem.casB 0 v = true by rw [show (onePS c ws acc gd ret ses row stk st ⟨60, 1, r⟩).mem.casB 0 v = false from eb]; decide), show (onePS c ws acc gd ret ses row stk st ⟨60, 1, r⟩).mem.casS 0 v (inc64 v) = ⟨ws, acc + 1, false⟩ from ec]
  rfl
end
/-- A thread within Tick, or within nothing. -/
inductive FrK (c : ConfS) (K : Nat) : FrS → Prop
  | p0 (r : List Nat) : Small r → r.length = 24 → FrK c K ⟨60, 0, r⟩
  | p1 (r : List Nat) : Small r → r.length = 24 → 1 ≤ (⟨60, 1, r⟩ : FrS).reg 0 → (⟨60, 1, r⟩ : FrS).reg 0 ≤ K → (((⟨60, 1, r⟩ : FrS).reg 0 : Nat) : Int) < c.stamps → FrK c K ⟨60, 1, r⟩
def ThK (c : ConfS) (K : Nat) (t : ThS) : Prop := t.frs = [] ∨ ∃ f, t.frs = [f] ∧ FrK c K f
theorem ThK.up {c : ConfS} {K K' : Nat} {t : ThS} (h : ThK c K t) (hk : K ≤ K') : ThK c K' t := by
  rcases h with h | ⟨f, h1, h2⟩
  · exact .inl h
  · refine .inr ⟨f, h1, ?_⟩
    cases h2 with
    | p0 r a b => exact .p0 r a b
    | p1 r a b d e g => exact .p1 r a b d (by omega) g
/-- How many steps are left, alone. -/
def rankF (K : Nat) (f : FrS) : Nat := if f.pc = 0 then 2 else if f.reg 0 = K then 1 else 3
def rankT (K : Nat) (t : ThS) : Nat := match t.frs with | [] => 0 | f :: _ => rankF K f
theorem rankT_le (K : Nat) (t : ThS) : rankT K t ≤ 3 := by
  unfold rankT
  split
  · omega
  · unfold rankF
    split
    · omega
    · split <;> omega
structure CrK (c : ConfS) (s : MS) (K n : Nat) : Prop where
  ok : c.Ok
  len : s.mem.ws.length = wordsN c
  slips : s.gd.slips = 0
  conf : s.conf = c
  thl : s.ths.length = c.thr.toNat
  f1 : s.fault = false
  f2 : s.mem.fault = false
  a0 : 0 ≤ s.mem.acc
  a1 : s.mem.acc ≤ 10 * n
  s0 : 0 ≤ s.steps
  s1 : s.steps ≤ 10 * n
  ck : s.mem.ws.getD 0 0 = K
  k1 : 1 ≤ K
  kn : K ≤ n + 1
  ks : (K : Int) ≤ c.stamps
  th : ∀ (t : Nat) (th : ThS), s.ths[t]? = some th → ThK c K th
section
variable {c : ConfS} {s : MS} {K n k : Nat} {th : ThS} {f : FrS}
theorem CrK.w0 (h : CrK c s K n) : 0 < s.mem.ws.length := by
  rw [h.len]
  have := wordsN_ge h.ok
  omega
theorem CrK.w3 (h : CrK c s K n) : 60 ≤ s.mem.ws.length := by
  rw [h.len]
  exact wordsN_ge h.ok
theorem CrK.part_one (h : CrK c s K n) (hf : th.frs = [f]) : s.part th = onePS c s.mem.ws s.mem.acc s.gd th.ret th.ses th.row th.stk s.steps f := by
  have h1 := h.conf
  have h2 := h.f1
  have h3 := h.f2
  clear h
  obtain ⟨conf, ⟨ws, acc, mf⟩, gd, ths, st, fl⟩ := s
  obtain ⟨ret, ses, frs, row, stk⟩ := th
  simp only at h1 h2 h3 hf
  subst h1 h2 h3 hf
  rfl
theorem CrK.next {ws' : List Nat} {acc' : Int} {th2 : ThS} {K' : Nat} (h : CrK c s K n) (ht : s.ths[k]? = some th)
    (hq : (s.part th).tick = (⟨c, ⟨ws', acc', false⟩, s.gd, th2, s.steps, false⟩ : PS)) (ha0 : s.mem.acc ≤ acc') (ha1 : acc' ≤ s.mem.acc + 1) (hl : ws'.length = s.mem.ws.length) (hc : ws'.getD 0 0 = K') (hk0 : K ≤ K') (hk1 : K' ≤ K + 1) (hks : (K' : Int) ≤ c.stamps) (hk : ThK c K' th2) :
    CrK c (s.ran k th PS.tick) K' (n + 1) ∧ s.left th PS.tick = decide (0 < th2.frs.length) ∧ (s.ran k th PS.tick).ths[k]? = some th2 := by
  have hkl := (List.getElem?_eq_some_iff.1 ht).1
  have hst : (s.part th).stepped (s.part th).tick = (⟨c, ⟨ws', acc', false⟩, s.gd, th2, s.steps + 1, false⟩ : PS) := by
    rw [hq]
    show ({ conf := c, mem := ⟨ws', acc', false⟩, gd := s.gd, th := th2, steps := s.steps + 1, fault := false || decide (1 < acc' - s.mem.acc) } : PS) = _
    rw [decide_eq_false (by omega)]
    rfl
  have hran : s.ran k th PS.tick = s.join k (⟨c, ⟨ws', acc', false⟩, s.gd, th2, s.steps + 1, false⟩ : PS) := by unfold MS.ran; rw [hst]
  have hlf : s.left th PS.tick = decide (0 < th2.frs.length) := by unfold MS.left; rw [hq]
  have h1 := h.a0
  have h2 := h.a1
  have h3 := h.s0
  have h4 := h.s1
  have h5 := h.kn
  have h6 := h.k1
  rw [hran]
  refine ⟨⟨h.ok, by show ws'.length = _; rw [hl]; exact h.len, h.slips, rfl, ?_, rfl, rfl, by show 0 ≤ acc'; omega, by show acc' ≤ _; omega, by show 0 ≤ s.steps + 1; omega, by show s.steps + 1 ≤ _; omega, hc, by omega, by omega, hks, ?_⟩, hlf, part_join hkl⟩
  · show (s.ths.set k _).length = _
    rw [List.length_set]
    exact h.thl
  · intro t t2 hj
    have hj' : (s.ths.set k th2)[t]? = some t2 := hj
    by_cases e1 : k = t
    · subst e1
      rw [List.getElem?_set_self hkl] at hj'
      injection hj' with hj'
      rw [← hj']
      exact hk
    · rw [List.getElem?_set_ne e1] at hj'
      exact (h.th t t2 hj').up hk0
/-- What one step leaves. -/
inductive OutK (c : ConfS) (s' : MS) (t2 : ThS) (left : Bool) (K rank n : Nat) : Prop
  | on : left = true → CrK c s' K (n + 1) → (∃ f, t2.frs = [f]) → rankT K t2 < rank → OutK c s' t2 left K rank n
  | none : left = false → CrK c s' K (n + 1) → t2.frs = [] → t2.ret.getD 0 0 = 0 → c.stamps ≤ (K : Int) → OutK c s' t2 left K rank n
  | told : left = false → CrK c s' (K + 1) (n + 1) → t2.frs = [] → t2.ret.getD 0 0 = K → t2.ses.v = K → OutK c s' t2 left K rank n
theorem ck_ok (h : CrK c s K n) (hn : n ≤ 4000) (hf : th.frs = [f]) (hs : Small f.r) (hfn : f.fn = 60) : CkOk (s.part th) := by
  have ha := h.a1
  have hsl := h.slips
  rw [h.part_one hf]
  refine ⟨⟨?_, ?_, fun k => ?_, ?_⟩, hfn⟩
  · show s.mem.acc ≤ 4611686018427387904
    omega
  · show 0 < 1
    decide
  · exact small_get hs k
  · show s.gd.slips ≤ 4611686018427387904
    omega
theorem CrK.room {ws' : List Nat} {acc' : Int} {th2 : ThS} (h : CrK c s K n) (hn : n ≤ 4000) (hq : (s.part th).tick = (⟨c, ⟨ws', acc', false⟩, s.gd, th2, s.steps, false⟩ : PS)) (ha1 : acc' ≤ s.mem.acc + 1) : Room s (s.part th).tick := by
  have h1 := h.a1
  have h2 := h.s1
  have h3 := h.s0
  rw [hq]
  exact ⟨h3, by omega, by omega, by show acc' ≤ _; omega, rfl⟩
theorem ck_step (h : CrK c s K n) (hn : n ≤ 4000) (ht : s.ths[k]? = some th) (hf : th.frs = [f]) :
    CkOk (s.part th) ∧ Room s (s.part th).tick ∧ ∃ t2, (s.ran k th PS.tick).ths[k]? = some t2 ∧ OutK c (s.ran k th PS.tick) t2 (s.left th PS.tick) K (rankT K th) n := by
  have hw := h.w0
  have hck := h.ck
  have hpo := h.part_one hf
  have hkn := h.kn
  have hk1 := h.k1
  have hks := h.ks
  have hsm0 : K < 2 ^ 64 := by omega
  obtain ⟨f', hf', hfr⟩ : ∃ f', th.frs = [f'] ∧ FrK c K f' := by
    rcases h.th k th ht with h1 | h1
    · rw [hf] at h1; cases h1
    · exact h1
  obtain rfl : f = f' := by rw [hf] at hf'; simpa using hf'
  have hrk : rankT K th = rankF K f := by unfold rankT; rw [hf]
  rw [hrk]
  clear hf' hrk
  cases hfr with
  | p0 r hsm hrl =>
    have hok := ck_ok h hn hf hsm rfl
    by_cases hs : c.stamps ≤ ((K : Nat) : Int)
    · have q : (s.part th).tick = (⟨c, ⟨s.mem.ws, s.mem.acc + 1, false⟩, s.gd, ⟨padTo 12 [0], th.ses, [], th.row, th.stk⟩, s.steps, false⟩ : PS) := by
        rw [hpo, tickP_0a hw (by rw [hck]; exact hs)]
        rfl
      obtain ⟨a1, a2, a3⟩ := h.next ht q (by omega) (by omega) rfl hck (Nat.le_refl _) (by omega) hks (.inl rfl)
      exact ⟨hok, h.room hn q (by omega), _, a3, .none a2 a1 rfl rfl hs⟩
    · have q : (s.part th).tick = (⟨c, ⟨s.mem.ws, s.mem.acc + 1, false⟩, s.gd, ⟨th.ret, th.ses, [⟨60, 1, r.set 0 K⟩], th.row, th.stk⟩, s.steps, false⟩ : PS) := by
        rw [hpo, tickP_0b hw (by rw [hck]; exact hs), hck]
        rfl
      have hrg : (⟨60, 1, r.set 0 K⟩ : FrS).reg 0 = K := by
        show (r.set 0 K).getD 0 0 = K
        rw [List.getD_eq_getElem?_getD, List.getElem?_set_self (by omega)]
        rfl
      obtain ⟨a1, a2, a3⟩ := h.next ht q (by omega) (by omega) rfl hck (Nat.le_refl _) (by omega) hks (.inr ⟨_, rfl, .p1 _ (small_set hsm hsm0) (by simpa using hrl) (by rw [hrg]; exact hk1) (by rw [hrg]; exact Nat.le_refl _) (by rw [hrg]; omega)⟩)
      refine ⟨hok, h.room hn q (by omega), _, a3, .on a2 a1 ⟨_, rfl⟩ ?_⟩
      show rankF K ⟨60, 1, r.set 0 K⟩ < rankF K ⟨60, 0, r⟩
      unfold rankF
      rw [if_neg (by show ¬ (1 : Int) = 0; decide), if_pos hrg, if_pos (by rfl)]
      decide
  | p1 r hsm hrl h1 h2 h3 =>
    have hok := ck_ok h hn hf hsm rfl
    by_cases he : (⟨60, 1, r⟩ : FrS).reg 0 = K
    · have hinc : inc64 K = K + 1 := Nat.mod_eq_of_lt (by omega)
      have q : (s.part th).tick = (⟨c, ⟨s.mem.ws.set 0 (K + 1), s.mem.acc + 1, false⟩, s.gd, ⟨padTo 12 [K], { th.ses with v := K }, [], th.row, th.stk⟩, s.steps, false⟩ : PS) := by
        rw [hpo, tickP_1y hw he hck, hinc]
        rfl
      obtain ⟨a1, a2, a3⟩ := h.next (K' := K + 1) ht q (by omega) (by omega) (by simp) (by rw [List.getD_eq_getElem?_getD, List.getElem?_set_self hw]; rfl) (by omega) (Nat.le_refl _) (by rw [he] at h3; omega) (.inl rfl)
      exact ⟨hok, h.room hn q (by omega), _, a3, .told a2 a1 rfl rfl rfl⟩
    · have q : (s.part th).tick = (⟨c, ⟨s.mem.ws, s.mem.acc + 1, false⟩, s.gd, ⟨th.ret, th.ses, [⟨60, 0, r⟩], th.row, th.stk⟩, s.steps, false⟩ : PS) := by
        rw [hpo, tickP_1n hw rfl (by rw [hck]; exact fun e => he e.symm)]
        rfl
      obtain ⟨a1, a2, a3⟩ := h.next ht q (by omega) (by omega) rfl hck (Nat.le_refl _) (by omega) hks (.inr ⟨_, rfl, .p0 _ hsm hrl⟩)
      refine ⟨hok, h.room hn q (by omega), _, a3, .on a2 a1 ⟨_, rfl⟩ ?_⟩
      show rankF K ⟨60, 0, r⟩ < rankF K ⟨60, 1, r⟩
      unfold rankF
      rw [if_pos (by rfl), if_neg (by show ¬ (1 : Int) = 0; decide), if_neg he]
      decide
/-- A thread within nothing begins. -/
theorem ck_call (h : CrK c s K n) (ht : s.ths[k]? = some th) (hf : th.frs = []) :
    CrK c (s.call k 60 []) K n ∧ (s.call k 60 []).ths[k]? = some (th.pushed 60 []) ∧ (th.pushed 60 []).frs = [FrS.made 60 []] := by
  have hkl := (List.getElem?_eq_some_iff.1 ht).1
  have hfrs : (th.pushed 60 []).frs = [FrS.made 60 []] := by
    show th.frs ++ [FrS.made 60 []] = _
    rw [hf]
    rfl
  rw [call_join ht]
  refine ⟨⟨h.ok, h.len, h.slips, h.conf, ?_, h.f1, h.f2, h.a0, h.a1, h.s0, h.s1, h.ck, h.k1, h.kn, h.ks, ?_⟩, part_join hkl, hfrs⟩
  · show (s.ths.set k _).length = _
    rw [List.length_set]
    exact h.thl
  · intro t t2 hj
    have hj' : (s.ths.set k (th.pushed 60 []))[t]? = some t2 := hj
    by_cases e1 : k = t
    · subst e1
      rw [List.getElem?_set_self hkl] at hj'
      injection hj' with hj'
      rw [← hj']
      refine .inr ⟨_, hfrs, .p0 _ (fun g hg => ?_) (by simp [padTo])⟩
      rw [show padTo 24 [] = List.replicate 24 0 from rfl] at hg
      rw [List.eq_of_mem_replicate hg]
      decide
    · rw [List.getElem?_set_ne e1] at hj'
      exact h.th t t2 hj'
theorem ck_start (ho : c.Ok) : CrK c (MS.start c (gdK c 5) c.thr.toNat) 1 0 := by
  have hp := ho.p1
  have hge := wordsN_ge ho
  refine ⟨ho, words0_length c, rfl, rfl, List.length_replicate .., rfl, rfl, by show (0 : Int) ≤ 0; decide, by show (0 : Int) ≤ _; omega, by show (0 : Int) ≤ 0; decide, by show (0 : Int) ≤ _; omega, ?_, by decide, by decide, by omega, fun t th hth => ?_⟩
  · show (words0 c).getD 0 0 = 1
    unfold words0
    rw [linkW_ne (fun j => by unfold ixN; omega), treeW_ne (fun n hn => by unfold ixN; omega), getD_set_ne (by omega), getD_set_ne (by omega), getD_set_eq (by simp; omega)]
  · have := List.eq_of_mem_replicate (List.mem_of_getElem? (show (List.replicate c.thr.toNat ThS.zero)[t]? = some th from hth))
    rw [this]
    exact .inl rfl
end
/-- What was told. -/
structure Told (L : List Nat) (K : Nat) : Prop where
  nd : L.Nodup
  lo : ∀ v ∈ L, 1 ≤ v ∧ v < K
  len : L.length + 1 = K
theorem Told.add {L : List Nat} {K : Nat} (h : Told L K) : Told (L ++ [K]) (K + 1) := by
  refine ⟨?_, fun v hv => ?_, by simp; exact h.len⟩
  · rw [List.nodup_append]
    refine ⟨h.nd, by simp, fun a ha b hb => ?_⟩
    rw [List.mem_singleton.1 hb]
    have := (h.lo a ha).2
    omega
  · rcases List.mem_append.1 hv with hv | hv
    · have := h.lo v hv
      omega
    · rw [List.mem_singleton.1 hv]
      have := h.len
      omega
theorem told_start : Told [] 1 := ⟨List.nodup_nil, (fun v hv => by cases hv), rfl⟩
/-- fresh, as it is reckoned. -/
def freshB (L : List Nat) (v now : Nat) (stamps : Int) : Bool := if v = 0 then decide (stamps ≤ (now : Int)) else !L.contains v && decide (v < now)
theorem Told.fresh {L : List Nat} {K : Nat} {st : Int} (h : Told L K) : freshB L K (K + 1) st = true := by
  have h1 := h.len
  have h2 : ¬ K ∈ L := fun hm => by have := (h.lo K hm).2; omega
  unfold freshB
  rw [if_neg (by omega)]
  simp [h2]
theorem fresh_none {L : List Nat} {K : Nat} {st : Int} (h : st ≤ (K : Int)) : freshB L 0 K st = true := by
  unfold freshB
  rw [if_pos rfl, decide_eq_true h]
end Go.Proofs.YtoghcikfkkmfkaaGreat
