/- EpochCrowd: one step of any thread; a call; the start. Plain lemmas. Condition: few steps were done. -/
import Derived.Test.YtlbhjahmgdghoaaEcP
namespace Go.Proofs.Ytlbhjahmgdghoaa
open Go.RowKit

section
variable {c : ConfS} {s : MS} {e n k : Nat} {act : List Nat} {ab : List (Bool × Nat)} {ins : List Bool} {th : ThS} {f : FrS}
theorem ep_of {p q r : PS} (h : p = q) (h2 : q.epoch k = r) : p.epoch k = r := by rw [h]; exact h2
theorem CrE.hk (h : CrE c s e act ab ins n) (ht : s.ths[k]? = some th) : (k : Int) < c.thr := by
  have := (List.getElem?_eq_some_iff.1 ht).1
  have := h.thl
  omega
theorem CrE.room {ws' : List Nat} {acc' : Int} {th2 : ThS} (h : CrE c s e act ab ins n) (hn : n ≤ 4000) (hq : (s.part th).epoch k = (⟨c, ⟨ws', acc', false⟩, s.gd, th2, s.steps, false⟩ : PS)) (ha1 : acc' ≤ s.mem.acc + 1) : Room s ((s.part th).epoch k) := by
  have h1 := h.a1
  have h2 := h.s1
  have h3 := h.s0
  rw [hq]
  exact ⟨h3, by omega, by omega, by show acc' ≤ _; omega, rfl⟩
/-- A step that leaves the words, the epoch and what the law knows. -/
theorem CrE.same {acc' : Int} {th2 : ThS} (h : CrE c s e act ab ins n) (ht : s.ths[k]? = some th)
    (hq : (s.part th).epoch k = (⟨c, ⟨s.mem.ws, acc', false⟩, s.gd, th2, s.steps, false⟩ : PS)) (ha0 : s.mem.acc ≤ acc') (ha1 : acc' ≤ s.mem.acc + 1) (hk : ThC c e ab (ins.getD k false) (abG ab k).1 th2) :
    CrE c (s.ran k th (PS.epoch k)) e act ab ins (n + 1) ∧ s.left th (PS.epoch k) = decide (0 < th2.frs.length) ∧ (s.ran k th (PS.epoch k)).ths[k]? = some th2 :=
  h.next ht hq ha0 ha1 h.w h.ep (Nat.le_refl _) (by omega) h.actL h.actI h.abL h.insL h.an hk (fun _ _ => rfl) (fun _ _ => rfl) (fun _ _ hj => hj)
theorem CrE.getC {x : Nat} (h : CrE c s e act ab ins n) (hk : (k : Int) < c.thr) : ∀ t : Nat, (t : Int) < c.thr → (s.mem.ws.set (3 + 8 * k) x).getD (3 + 8 * t) 0 = (act.set k x).getD t 0 := fun t ht => by
  by_cases e1 : k = t
  · subst e1
    rw [getD_setE (h.w.act hk), getD_setE (by rw [h.actL]; omega)]
  · rw [getD_setE_ne (by omega), getD_setE_ne e1]
    exact h.actI t ht
theorem CrE.setC {x : Nat} (h : CrE c s e act ab ins n) (hx : x < 2 ^ 64) : EpW c (s.mem.ws.set (3 + 8 * k) x) s.gd := ⟨h.w.ok, by simpa using h.w.len, smallSet h.w.sm hx, h.w.slips⟩
/-- A step that announces, or takes back. -/
theorem CrE.says {acc' : Int} {th2 : ThS} {x : Nat} {b : Bool} {ins' : List Bool} (h : CrE c s e act ab ins n) (ht : s.ths[k]? = some th)
    (hq : (s.part th).epoch k = (⟨c, ⟨s.mem.ws.set (3 + 8 * k) x, acc', false⟩, s.gd, th2, s.steps, false⟩ : PS)) (ha0 : s.mem.acc ≤ acc') (ha1 : acc' ≤ s.mem.acc + 1) (hx : x < 2 ^ 64) (hil : ins'.length = c.thr.toNat) (hi : ∀ t, t ≠ k → ins'.getD t false = ins.getD t false)
    (ha : AnC e x (b, e)) (hk : ThC c e (ab.set k (b, e)) (ins'.getD k false) b th2) :
    CrE c (s.ran k th (PS.epoch k)) e (act.set k x) (ab.set k (b, e)) ins' (n + 1) ∧ s.left th (PS.epoch k) = decide (0 < th2.frs.length) ∧ (s.ran k th (PS.epoch k)).ths[k]? = some th2 := by
  have hkt := h.hk ht
  have hbl : k < ab.length := by rw [h.abL]; omega
  have hal : k < act.length := by rw [h.actL]; omega
  refine h.next ht hq ha0 ha1 (h.setC hx) (by rw [getD_setE_ne (by omega)]; exact h.ep) (Nat.le_refl _) (by omega) (by simpa using h.actL) (h.getC hkt) (by simpa using h.abL) hil (fun t htt => ?_) (by rw [abG_set hbl]; exact hk) hi (fun t hn => abG_ne (fun e1 => hn e1.symm)) (fun _ j hj => seen_set_same hbl hj)
  by_cases e1 : k = t
  · subst e1
    rw [getD_setE hal, abG_set hbl]
    exact ha
  · rw [getD_setE_ne e1, abG_ne e1]
    exact h.an t htt
theorem lags_no {x e : Nat} (hx : x < 2 ^ 63) (h : lagsN (actN x) e = false) : x = e := by
  unfold lagsN at h
  rw [fld_act, fld_act2 hx] at h
  simpa using h
theorem CrE.seen (h : CrE c s e act ab ins n) (hn : n ≤ 4000) {j : Nat} (hj : (j : Int) < c.thr) (hl : lagsN (act.getD j 0) e = false) : Seen e ab j := by
  intro hb
  have ha := h.an j hj
  have heb := h.eb
  unfold AnC at ha
  rw [if_pos hb] at ha
  obtain ⟨⟨x, hx, hx2⟩, h1, h2⟩ := ha
  rw [hx] at hl
  have := lags_no (by omega) hl
  omega
theorem ok_cr (h : CrE c s e act ab ins n) (hn : n ≤ 4000) (hf : th.frs = [f]) (hs : Small f.r) (hfn : f.fn = 10 ∨ f.fn = 11 ∨ f.fn = 12) (h1 : f.fn = 12 → f.pc = 1 → ((f.reg 1 : Nat) : Int) < c.thr) : EpOk (s.part th) := by
  have ha := h.a1
  rw [h.part_one hf]
  exact ok_ep (by omega) hs h.w.slips h.w.sm hfn h1
def StepR (c : ConfS) (s : MS) (k : Nat) (th : ThS) (fn : Int) (e : Nat) (act : List Nat) (ab : List (Bool × Nat)) (ins : List Bool) (n : Nat) : Prop :=
  EpOk (s.part th) ∧ Room s ((s.part th).epoch k) ∧ OutC c s (s.ran k th (PS.epoch k)) k fn (s.left th (PS.epoch k)) e act ab ins n ∧ ∃ t2, (s.ran k th (PS.epoch k)).ths[k]? = some t2 ∧ leftT c t2 < leftT c th
theorem leftT_one (hf : th.frs = [f]) : leftT c th = leftF c f := by unfold leftT; rw [hf]
theorem leftT_nil {t : ThS} (hf : t.frs = []) : leftT c t = 0 := by unfold leftT; rw [hf]
theorem left10 {pc : Int} {r : List Nat} : leftF c ⟨10, pc, r⟩ = 3 - pc.toNat := rfl
theorem left11 {pc : Int} {r : List Nat} : leftF c ⟨11, pc, r⟩ = 1 := rfl
theorem left12_0 {r : List Nat} : leftF c ⟨12, 0, r⟩ = c.thr.toNat + 2 := rfl
theorem left12_1 {r : List Nat} : leftF c ⟨12, 1, r⟩ = c.thr.toNat - (⟨12, 1, r⟩ : FrS).reg 1 + 1 := rfl
theorem left12_2 {r : List Nat} : leftF c ⟨12, 2, r⟩ = 1 := rfl
set_option maxRecDepth 100000 in
theorem cr_step (h : CrE c s e act ab ins n) (hn : n ≤ 4000) (ht : s.ths[k]? = some th) (hf : th.frs = [f]) : StepR c s k th f.fn e act ab ins n := by
  have hk := h.hk ht
  have hth := h.th k th ht
  have hpin := hth.pin
  have heb := h.eb
  have hkn : k < ins.length := by rw [h.insL]; omega
  have hpo := h.part_one hf
  have hes : e < 2 ^ 64 := by omega
  have han := h.an k hk
  unfold AnC at han
  obtain ⟨f', hf', hsm, hrl, hfr⟩ : ∃ f', th.frs = [f'] ∧ Small f'.r ∧ f'.r.length = 24 ∧ FrC c e ab (ins.getD k false) (abG ab k).1 f' := by
    rcases hth.st with ⟨h1, _⟩ | h1
    · rw [hf] at h1; cases h1
    · exact h1
  obtain rfl : f = f' := by rw [hf] at hf'; simpa using hf'
  clear hf' hth
  have hlt := leftT_one (c := c) hf
  unfold StepR
  rw [hlt]
  cases hfr with
  | en0 r hin hab =>
    replace hrl : r.length = 24 := hrl
    have q := ep_of (k := k) hpo (enterP_0 hpin h.w.one)
    rw [h.ep] at q
    obtain ⟨a1, a2, a3⟩ := h.same (th2 := ⟨th.ret, th.ses, [⟨10, 1, r.set 0 e⟩], th.row, th.stk⟩) ht q (by omega) (by omega) ⟨hpin, .inr ⟨_, rfl, smallSet hsm hes, by simpa using hrl, .en1 _ hin hab (by rw [reg_setE (by omega)]; omega)⟩⟩
    refine ⟨ok_cr h hn hf hsm (.inl rfl) (fun e1 => by simp at e1), h.room hn q (by omega), .on a2 a1, _, a3, ?_⟩
    rw [leftT_one (f := ⟨10, 1, r.set 0 e⟩) rfl, left10, left10]
    decide
  | en1 r hin hab hr0 =>
    have q := ep_of (k := k) hpo (enterP_1 rfl (h.w.act hk))
    generalize (⟨10, 1, r⟩ : FrS).reg 0 = x at hr0 q
    obtain ⟨a1, a2, a3⟩ := h.says (b := true) (ins' := ins) (th2 := ⟨th.ret, th.ses, [⟨10, 2, r⟩], th.row, th.stk⟩) ht q (by omega) (by omega) (actN_lt x) h.insL (fun _ _ => rfl) (by unfold AnC; rw [if_pos rfl]; exact ⟨⟨x, rfl, hr0⟩, Nat.le_refl _, by show e ≤ e + 1; omega⟩) ⟨hpin, .inr ⟨_, rfl, hsm, hrl, .en2 _ hin rfl⟩⟩
    rw [if_neg (by rw [hab]; decide)] at han
    refine ⟨ok_cr h hn hf hsm (.inl rfl) (fun e1 => by simp at e1), h.room hn q (by omega), .says (actN x) a2 (actN_ne (by omega)) han a1, _, a3, ?_⟩
    rw [leftT_one (f := ⟨10, 2, r⟩) rfl, left10, left10]
    decide
  | en2 r hin hab =>
    have q := ep_of (k := k) hpo (enterP_2 h.w.one)
    rw [h.ep] at q
    rw [if_pos hab] at han
    obtain ⟨a1, a2, a3⟩ := h.next (ins' := ins.set k true) (act' := act) (ab' := ab) (e' := e) (th2 := ⟨padTo 12 [], { th.ses with past := e - 1 }, [], th.row, th.stk⟩) ht q (by omega) (by omega) h.w h.ep (Nat.le_refl _) (by omega) h.actL h.actI h.abL (by simpa using h.insL) h.an ⟨hpin, .inl ⟨rfl, by rw [insG_set hkn]; exact hab⟩⟩ (fun t htk => insG_ne (fun e1 => htk e1.symm)) (fun _ _ => rfl) (fun _ _ hj => hj)
    refine ⟨ok_cr h hn hf hsm (.inl rfl) (fun e1 => by simp at e1), h.room hn q (by omega), .entered _ a2 rfl hab han.2.1 han.2.2 a1 a3 rfl, _, a3, ?_⟩
    rw [leftT_nil rfl, left10]
    decide
  | le r hin hab =>
    have q := ep_of (k := k) hpo (leaveP_0 hpin (h.w.act hk))
    rw [if_pos hab] at han
    obtain ⟨⟨x, hx, hxg⟩, hg, _⟩ := han
    obtain ⟨a1, a2, a3⟩ := h.says (b := false) (ins' := ins.set k false) (th2 := ⟨padTo 12 [], th.ses, [], th.row, th.stk⟩) ht q (by omega) (by omega) (by decide) (by simpa using h.insL) (fun t htk => insG_ne (fun e1 => htk e1.symm)) (by unfold AnC; rw [if_neg (by simp)]) ⟨hpin, .inl ⟨rfl, by rw [insG_set hkn]⟩⟩
    refine ⟨ok_cr h hn hf hsm (.inr (.inl rfl)) (fun e1 => by simp at e1), h.room hn q (by omega), .leaves a2 rfl (by rw [hx]; exact actN_ne (by omega)) a1, _, a3, ?_⟩
    rw [leftT_nil rfl, left11]
    decide
  | ad0 r hab hr1 =>
    replace hrl : r.length = 24 := hrl
    have q := ep_of (k := k) hpo (advP_0 h.w.one)
    rw [h.ep] at q
    have hr1' : (⟨12, 1, r.set 0 e⟩ : FrS).reg 1 = 0 := (reg_setE_ne (pc' := 0) (by decide)).trans hr1
    obtain ⟨a1, a2, a3⟩ := h.same (th2 := ⟨th.ret, th.ses, [⟨12, 1, r.set 0 e⟩], th.row, th.stk⟩) ht q (by omega) (by omega) ⟨hpin, .inr ⟨_, rfl, smallSet hsm hes, by simpa using hrl, .ad1 _ hab (by rw [reg_setE (by omega)]; omega) (by rw [hr1']; have := h.w.ok.t1; omega) (fun _ j hj => by rw [hr1'] at hj; omega)⟩⟩
    refine ⟨ok_cr h hn hf hsm (.inr (.inr rfl)) (fun _ e1 => by simp at e1), h.room hn q (by omega), .on a2 a1, _, a3, ?_⟩
    rw [leftT_one (f := ⟨12, 1, r.set 0 e⟩) rfl, left12_0, left12_1]
    omega
  | ad1 r hab hr0 hr1 hsn =>
    replace hrl : r.length = 24 := hrl
    cases hlg : lagsN (s.mem.ws.getD (3 + 8 * (⟨12, 1, r⟩ : FrS).reg 1) 0) ((⟨12, 1, r⟩ : FrS).reg 0) with
    | true =>
      have q := ep_of (k := k) hpo (advP_lag rfl rfl (h.w.act hr1) hlg)
      obtain ⟨a1, a2, a3⟩ := h.same (th2 := ⟨padTo 12 [0], th.ses, [], th.row, th.stk⟩) ht q (by omega) (by omega) ⟨hpin, .inl ⟨rfl, hab⟩⟩
      refine ⟨ok_cr h hn hf hsm (.inr (.inr rfl)) (fun _ _ => hr1), h.room hn q (by omega), .tried e a2 rfl (Nat.le_refl _) (by omega) a1, _, a3, ?_⟩
      rw [leftT_nil rfl, left12_1]
      omega
    | false =>
      have q := ep_of (k := k) hpo (advP_on rfl rfl (h.w.act hr1) hlg)
      rw [h.actI _ hr1] at hlg
      have hok := ok_cr h hn hf hsm (.inr (.inr rfl)) (fun _ _ => hr1)
      have hl12 := left12_1 (c := c) (r := r)
      rw [hl12]
      have hset : ∀ pc : Int, (⟨12, pc, r.set 1 ((⟨12, 1, r⟩ : FrS).reg 1 + 1)⟩ : FrS).reg 1 = (⟨12, 1, r⟩ : FrS).reg 1 + 1 := fun pc => reg_setE (by omega)
      have hset0 : ∀ pc : Int, (⟨12, pc, r.set 1 ((⟨12, 1, r⟩ : FrS).reg 1 + 1)⟩ : FrS).reg 0 = (⟨12, 1, r⟩ : FrS).reg 0 := fun pc => reg_setE_ne (pc' := 1) (by decide)
      have hseen : (⟨12, 1, r⟩ : FrS).reg 0 = e → ∀ j, j < (⟨12, 1, r⟩ : FrS).reg 1 + 1 → Seen e ab j := fun he j hj => by
        by_cases hj2 : j < (⟨12, 1, r⟩ : FrS).reg 1
        · exact hsn he j hj2
        · obtain rfl : j = (⟨12, 1, r⟩ : FrS).reg 1 := by omega
          rw [he] at hlg
          exact h.seen hn hr1 hlg
      have hsm1 : Small (r.set 1 ((⟨12, 1, r⟩ : FrS).reg 1 + 1)) := smallSet hsm (by have := h.w.ok.t2; omega)
      have hrl1 : (r.set 1 ((⟨12, 1, r⟩ : FrS).reg 1 + 1)).length = 24 := by simpa using hrl
      generalize hj1 : (⟨12, 1, r⟩ : FrS).reg 1 = j1 at *
      generalize (⟨12, 1, r⟩ : FrS).reg 0 = x0 at *
      by_cases hthr : ((j1 + 1 : Nat) : Int) = c.thr
      · rw [if_pos hthr] at q
        obtain ⟨a1, a2, a3⟩ := h.same (th2 := ⟨th.ret, th.ses, [⟨12, 2, r.set 1 (j1 + 1)⟩], th.row, th.stk⟩) ht q (by omega) (by omega) ⟨hpin, .inr ⟨_, rfl, hsm1, hrl1, .ad2 _ hab (by rw [hset0]; exact hr0) (fun he j hj => hseen (by rw [hset0] at he; exact he) j (by omega))⟩⟩
        refine ⟨hok, h.room hn q (by omega), .on a2 a1, _, a3, ?_⟩
        rw [leftT_one (f := ⟨12, 2, r.set 1 (j1 + 1)⟩) rfl, left12_2]
        omega
      · rw [if_neg hthr] at q
        obtain ⟨a1, a2, a3⟩ := h.same (th2 := ⟨th.ret, th.ses, [⟨12, 1, r.set 1 (j1 + 1)⟩], th.row, th.stk⟩) ht q (by omega) (by omega) ⟨hpin, .inr ⟨_, rfl, hsm1, hrl1, .ad1 _ hab (by rw [hset0]; exact hr0) (by rw [hset]; omega) (fun he j hj => hseen (by rw [hset0] at he; exact he) j (by rw [hset] at hj; exact hj))⟩⟩
        refine ⟨hok, h.room hn q (by omega), .on a2 a1, _, a3, ?_⟩
        rw [leftT_one (f := ⟨12, 1, r.set 1 (j1 + 1)⟩) rfl, left12_1, hset]
        omega
  | ad2 r hab hr0 hsn =>
    have hok := ok_cr h hn hf hsm (.inr (.inr rfl)) (fun _ e1 => by simp at e1)
    by_cases he : (⟨12, 2, r⟩ : FrS).reg 0 = e
    · have q := ep_of (k := k) hpo (advP_2 he h.w.one h.ep)
      have hinc : inc64 e = e + 1 := Nat.mod_eq_of_lt (by omega)
      rw [hinc] at q
      have hall := hsn he
      obtain ⟨a1, a2, a3⟩ := h.next (ins' := ins) (act' := act) (ab' := ab) (e' := e + 1) (th2 := ⟨padTo 12 [1], th.ses, [], th.row, th.stk⟩) ht q (by omega) (by omega) ⟨h.w.ok, by simpa using h.w.len, smallSet h.w.sm (by omega), h.w.slips⟩ (getD_setE h.w.one) (by omega) (Nat.le_refl _) h.actL (fun x hx => by rw [getD_setE_ne (by omega)]; exact h.actI x hx) h.abL h.insL (fun t htt => (h.an t htt).up (by omega) (fun hb => by rw [hall t htt hb]; omega)) ⟨hpin, .inl ⟨rfl, hab⟩⟩ (fun _ _ => rfl) (fun _ _ => rfl) (fun e1 => by omega)
      refine ⟨hok, h.room hn q (by omega), .tried (e + 1) a2 rfl (by omega) (Nat.le_refl _) a1, _, a3, ?_⟩
      rw [leftT_nil rfl, left12_2]
      decide
    · have q := ep_of (k := k) hpo (advP_2n rfl h.w.one (by rw [h.ep]; exact fun e1 => he e1.symm))
      obtain ⟨a1, a2, a3⟩ := h.same (th2 := ⟨padTo 12 [0], th.ses, [], th.row, th.stk⟩) ht q (by omega) (by omega) ⟨hpin, .inl ⟨rfl, hab⟩⟩
      refine ⟨hok, h.room hn q (by omega), .tried e a2 rfl (Nat.le_refl _) (by omega) a1, _, a3, ?_⟩
      rw [leftT_nil rfl, left12_2]
      decide
/-- A thread within nothing begins a routine. -/
theorem cr_call {fn : Int} (h : CrE c s e act ab ins n) (ht : s.ths[k]? = some th) (hf : th.frs = []) (hfn : fn = 12 ∨ (fn = 10 ∧ ins.getD k false = false) ∨ (fn = 11 ∧ ins.getD k false = true)) :
    CrE c (s.call k fn []) e act ab ins n ∧ (s.call k fn []).ths[k]? = some (th.pushed fn []) ∧ (th.pushed fn []).frs = [FrS.made fn []] := by
  have hkl := (List.getElem?_eq_some_iff.1 ht).1
  have hth := h.th k th ht
  have hio : (abG ab k).1 = ins.getD k false := by
    rcases hth.st with ⟨_, h1⟩ | ⟨f', h1, _⟩
    · exact h1
    · rw [hf] at h1; cases h1
  have hfrs : (th.pushed fn []).frs = [FrS.made fn []] := by
    show th.frs ++ [FrS.made fn []] = _
    rw [hf]
    rfl
  rw [call_join ht]
  refine ⟨⟨h.w, h.conf, ?_, h.f1, h.f2, h.a0, h.a1, h.s0, h.s1, h.ep, h.eb, h.actL, h.actI, h.abL, h.insL, h.an, ?_⟩, part_join hkl, hfrs⟩
  · show (s.ths.set k _).length = _
    rw [List.length_set]
    exact h.thl
  · intro t t2 hj
    have hj' : (s.ths.set k (th.pushed fn []))[t]? = some t2 := hj
    by_cases e1 : k = t
    · subst e1
      rw [List.getElem?_set_self hkl] at hj'
      injection hj' with hj'
      rw [← hj']
      refine ⟨hth.pin, .inr ⟨_, hfrs, made_small fn, made_len fn, ?_⟩⟩
      rcases hfn with rfl | ⟨rfl, hi⟩ | ⟨rfl, hi⟩
      · exact .ad0 _ hio (made_reg1 12)
      · exact .en0 _ hi (hio.trans hi)
      · exact .le _ hi (hio.trans hi)
    · rw [List.getElem?_set_ne e1] at hj'
      exact h.th t t2 hj'
theorem cr_left (th : ThS) : leftT c th ≤ c.thr.toNat + 9 := by
  unfold leftT
  split
  · omega
  · unfold leftF
    split
    · omega
    · split
      · omega
      · split
        · omega
        · split <;> omega
theorem cr_start (ho : c.Ok) : CrE c (MS.start c (gdK c 5) c.thr.toNat) 3 (List.replicate c.thr.toNat 0) (List.replicate c.thr.toNat (false, 0)) (List.replicate c.thr.toNat false) 0 := by
  have h := start_restE ho
  have hz : ∀ t m : Nat, (List.replicate m 0).getD t 0 = 0 := fun t m => by
    rw [List.getD_eq_getElem?_getD, List.getElem?_replicate]
    split <;> rfl
  have hb : ∀ t m : Nat, abG (List.replicate m (false, 0)) t = (false, 0) := fun t m => by
    unfold abG
    rw [List.getD_eq_getElem?_getD, List.getElem?_replicate]
    split <;> rfl
  have hi : ∀ t m : Nat, (List.replicate m false).getD t false = false := fun t m => by
    rw [List.getD_eq_getElem?_getD, List.getElem?_replicate]
    split <;> rfl
  refine ⟨h.w, h.conf, h.thl, h.f1, h.f2, h.a0, h.a1, h.s0, h.s1, h.ep, h.eb, h.actL, h.actI, List.length_replicate .., List.length_replicate .., fun t _ => ?_, fun t th hth => ?_⟩
  · rw [hz, hb]
    rfl
  · rw [hi, hb]
    have := List.eq_of_mem_replicate (List.mem_of_getElem? (show (List.replicate c.thr.toNat ThS.zero)[t]? = some th from hth))
    rw [this]
    exact ⟨rfl, .inl ⟨rfl, rfl⟩⟩
end
end Go.Proofs.Ytlbhjahmgdghoaa
