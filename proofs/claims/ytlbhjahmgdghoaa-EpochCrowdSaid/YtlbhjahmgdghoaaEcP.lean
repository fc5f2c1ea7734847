/- EpochCrowd: what holds between any two steps, and what one step of any thread leaves. Plain lemmas. Condition: few steps were done. -/
import Derived.Test.YtlbhjahmgdghoaaEpA
namespace Go.Proofs.Ytlbhjahmgdghoaa
open Go.RowKit

def abG (ab : List (Bool × Nat)) (j : Nat) : Bool × Nat := ab.getD j (false, 0)
def Seen (e : Nat) (ab : List (Bool × Nat)) (j : Nat) : Prop := (abG ab j).1 = true → (abG ab j).2 = e
/-- Where a thread stands within a routine. -/
inductive FrC (c : ConfS) (e : Nat) (ab : List (Bool × Nat)) (isIn isAb : Bool) : FrS → Prop
  | en0 (r : List Nat) : isIn = false → isAb = false → FrC c e ab isIn isAb ⟨10, 0, r⟩
  | en1 (r : List Nat) : isIn = false → isAb = false → (⟨10, 1, r⟩ : FrS).reg 0 ≤ e → FrC c e ab isIn isAb ⟨10, 1, r⟩
  | en2 (r : List Nat) : isIn = false → isAb = true → FrC c e ab isIn isAb ⟨10, 2, r⟩
  | le (r : List Nat) : isIn = true → isAb = true → FrC c e ab isIn isAb ⟨11, 0, r⟩
  | ad0 (r : List Nat) : isAb = isIn → (⟨12, 0, r⟩ : FrS).reg 1 = 0 → FrC c e ab isIn isAb ⟨12, 0, r⟩
  | ad1 (r : List Nat) : isAb = isIn → (⟨12, 1, r⟩ : FrS).reg 0 ≤ e → (((⟨12, 1, r⟩ : FrS).reg 1 : Nat) : Int) < c.thr → ((⟨12, 1, r⟩ : FrS).reg 0 = e → ∀ j, j < (⟨12, 1, r⟩ : FrS).reg 1 → Seen e ab j) → FrC c e ab isIn isAb ⟨12, 1, r⟩
  | ad2 (r : List Nat) : isAb = isIn → (⟨12, 2, r⟩ : FrS).reg 0 ≤ e → ((⟨12, 2, r⟩ : FrS).reg 0 = e → ∀ j : Nat, (j : Int) < c.thr → Seen e ab j) → FrC c e ab isIn isAb ⟨12, 2, r⟩
structure ThC (c : ConfS) (e : Nat) (ab : List (Bool × Nat)) (isIn isAb : Bool) (th : ThS) : Prop where
  pin : th.ses.pinned = false
  st : (th.frs = [] ∧ isAb = isIn) ∨ ∃ f, th.frs = [f] ∧ Small f.r ∧ f.r.length = 24 ∧ FrC c e ab isIn isAb f
/-- An announcement, and what the law knows of it. -/
def AnC (e a : Nat) (g : Bool × Nat) : Prop := if g.1 = true then (∃ x, a = actN x ∧ x ≤ g.2) ∧ g.2 ≤ e ∧ e ≤ g.2 + 1 else a = 0
structure CrE (c : ConfS) (s : MS) (e : Nat) (act : List Nat) (ab : List (Bool × Nat)) (ins : List Bool) (n : Nat) : Prop where
  w : EpW c s.mem.ws s.gd
  conf : s.conf = c
  thl : s.ths.length = c.thr.toNat
  f1 : s.fault = false
  f2 : s.mem.fault = false
  a0 : 0 ≤ s.mem.acc
  a1 : s.mem.acc ≤ 10 * n
  s0 : 0 ≤ s.steps
  s1 : s.steps ≤ 10 * n
  ep : s.mem.ws.getD 1 0 = e
  eb : e ≤ n + 3
  actL : act.length = c.thr.toNat
  actI : ∀ t : Nat, (t : Int) < c.thr → s.mem.ws.getD (3 + 8 * t) 0 = act.getD t 0
  abL : ab.length = c.thr.toNat
  insL : ins.length = c.thr.toNat
  an : ∀ t : Nat, (t : Int) < c.thr → AnC e (act.getD t 0) (abG ab t)
  th : ∀ (t : Nat) (th : ThS), s.ths[t]? = some th → ThC c e ab (ins.getD t false) (abG ab t).1 th
theorem FrC.go {c : ConfS} {e e2 : Nat} {ab ab2 : List (Bool × Nat)} {x y : Bool} {f : FrS} (h : FrC c e ab x y f) (he : e ≤ e2) (hs : e2 = e → ∀ j, Seen e ab j → Seen e2 ab2 j) : FrC c e2 ab2 x y f := by
  cases h with
  | en0 r h1 h2 => exact .en0 r h1 h2
  | en1 r h1 h2 h3 => exact .en1 r h1 h2 (by omega)
  | en2 r h1 h2 => exact .en2 r h1 h2
  | le r h1 h2 => exact .le r h1 h2
  | ad0 r h1 h2 => exact .ad0 r h1 h2
  | ad1 r h1 h2 h3 h4 => exact .ad1 r h1 (by omega) h3 (fun h5 j hj => hs (by omega) j (h4 (by omega) j hj))
  | ad2 r h1 h2 h3 => exact .ad2 r h1 (by omega) (fun h5 j hj => hs (by omega) j (h3 (by omega) j hj))
theorem ThC.go {c : ConfS} {e e2 : Nat} {ab ab2 : List (Bool × Nat)} {x y : Bool} {t : ThS} (h : ThC c e ab x y t) (he : e ≤ e2) (hs : e2 = e → ∀ j, Seen e ab j → Seen e2 ab2 j) : ThC c e2 ab2 x y t := by
  refine ⟨h.pin, ?_⟩
  rcases h.st with h1 | ⟨f, h1, h2, h3, h4⟩
  · exact .inl h1
  · exact .inr ⟨f, h1, h2, h3, h4.go he hs⟩
/-- How many steps are left, at most. -/
def leftF (c : ConfS) (f : FrS) : Nat := if f.fn = 10 then 3 - f.pc.toNat else if f.fn = 11 then 1 else if f.pc = 0 then c.thr.toNat + 2 else if f.pc = 1 then c.thr.toNat - f.reg 1 + 1 else 1
def leftT (c : ConfS) (t : ThS) : Nat := match t.frs with | [] => 0 | f :: _ => leftF c f
theorem abG_set {ab : List (Bool × Nat)} {k : Nat} {x : Bool × Nat} (h : k < ab.length) : abG (ab.set k x) k = x := by
  unfold abG
  rw [List.getD_eq_getElem?_getD, List.getElem?_set_self h]
  rfl
theorem abG_ne {ab : List (Bool × Nat)} {k t : Nat} {x : Bool × Nat} (h : k ≠ t) : abG (ab.set k x) t = abG ab t := by
  unfold abG
  rw [List.getD_eq_getElem?_getD, List.getD_eq_getElem?_getD, List.getElem?_set_ne h]
theorem insG_set {l : List Bool} {k : Nat} {x : Bool} (h : k < l.length) : (l.set k x).getD k false = x := by
  rw [List.getD_eq_getElem?_getD, List.getElem?_set_self h]
  rfl
theorem insG_ne {l : List Bool} {k t : Nat} {x : Bool} (h : k ≠ t) : (l.set k x).getD t false = l.getD t false := by
  rw [List.getD_eq_getElem?_getD, List.getD_eq_getElem?_getD, List.getElem?_set_ne h]
section
variable {c : ConfS} {ws : List Nat} {acc : Int} {gd : GuardS} {ret : List Nat} {ses : SesS} {row : List (Int × Int)} {stk : List Nat} {st : Int} {r : List Nat} {k : Nat}
theorem advP_2n {e : Nat} (hr0 : (⟨12, 2, r⟩ : FrS).reg 0 = e) (h1 : 1 < ws.length) (he : ws.getD 1 0 ≠ e) : (onePS c ws acc gd ret ses row stk st ⟨12, 2, r⟩).epoch k = donePS c ws (acc + 1) gd (padTo 12 [0]) ses row stk st := by
  unfold PS.epoch
  rw [if_neg (by show ¬ (12 : Int) = 10; decide), if_neg (by show ¬ (12 : Int) = 11; decide)]
  unfold PS.advance
  have e0 : (onePS c ws acc gd ret ses row stk st ⟨12, 2, r⟩).th.top.reg 0 = e := hr0
  have eb : (⟨ws, acc, false⟩ : MemS).casB 1 e = false := by
    show (inR ws.length [1] && ((⟨ws, acc, false⟩ : MemS).rd 1 == e)) = false
    rw [e_inR1 h1, e_rd1 h1]
    simpa using he
  rw [if_neg (by show ¬ (2 : Int) = 0; decide), if_neg (by show ¬ (2 : Int) = 1; decide), e0]
  show PS.back ({ conf := c, mem := (⟨ws, acc, false⟩ : MemS).casS 1 e (inc64 e), gd := gd, th := _, steps := st, fault := false } : PS) [if (⟨ws, acc, false⟩ : MemS).casB 1 e = true then 1 else 0] = _
  unfold MemS.casS
  rw [if_neg (by rw [eb]; decide), if_neg (by rw [eb]; decide)]
  show ({ conf := c, mem := ⟨ws, acc + 1, false || !inR ws.length [1]⟩, gd := gd, th := _, steps := st, fault := false } : PS) = _
  rw [e_inR1 h1]
  rfl
end
section
variable {c : ConfS} {s : MS} {e n k : Nat} {act : List Nat} {ab : List (Bool × Nat)} {ins : List Bool} {th : ThS} {f : FrS}
theorem CrE.part_one (h : CrE c s e act ab ins n) (hf : th.frs = [f]) : s.part th = onePS c s.mem.ws s.mem.acc s.gd th.ret th.ses th.row th.stk s.steps f := by
  have h1 := h.conf
  have h2 := h.f1
  have h3 := h.f2
  clear h
  obtain ⟨conf, ⟨ws, acc, mf⟩, gd, ths, st, fl⟩ := s
  obtain ⟨ret, ses, frs, row, stk⟩ := th
  simp only at h1 h2 h3 hf
  subst h1 h2 h3 hf
  rfl
/-- What a step leaves, where it leaves th2. -/
theorem CrE.next {ws' : List Nat} {acc' : Int} {th2 : ThS} {e' : Nat} {act' : List Nat} {ab' : List (Bool × Nat)} {ins' : List Bool} (h : CrE c s e act ab ins n) (ht : s.ths[k]? = some th)
    (hq : (s.part th).epoch k = (⟨c, ⟨ws', acc', false⟩, s.gd, th2, s.steps, false⟩ : PS)) (ha0 : s.mem.acc ≤ acc') (ha1 : acc' ≤ s.mem.acc + 1) (hw : EpW c ws' s.gd) (hep : ws'.getD 1 0 = e') (he0 : e ≤ e') (he1 : e' ≤ e + 1)
    (hal : act'.length = c.thr.toNat) (hai : ∀ t : Nat, (t : Int) < c.thr → ws'.getD (3 + 8 * t) 0 = act'.getD t 0) (hbl : ab'.length = c.thr.toNat) (hil : ins'.length = c.thr.toNat)
    (han : ∀ t : Nat, (t : Int) < c.thr → AnC e' (act'.getD t 0) (abG ab' t)) (hk : ThC c e' ab' (ins'.getD k false) (abG ab' k).1 th2)
    (hi : ∀ t, t ≠ k → ins'.getD t false = ins.getD t false) (hb : ∀ t, t ≠ k → abG ab' t = abG ab t) (hs : e' = e → ∀ j, Seen e ab j → Seen e' ab' j) :
    CrE c (s.ran k th (PS.epoch k)) e' act' ab' ins' (n + 1) ∧ s.left th (PS.epoch k) = decide (0 < th2.frs.length) ∧ (s.ran k th (PS.epoch k)).ths[k]? = some th2 := by
  have hkl := (List.getElem?_eq_some_iff.1 ht).1
  have hst : (s.part th).stepped ((s.part th).epoch k) = (⟨c, ⟨ws', acc', false⟩, s.gd, th2, s.steps + 1, false⟩ : PS) := by
    rw [hq]
    show ({ conf := c, mem := ⟨ws', acc', false⟩, gd := s.gd, th := th2, steps := s.steps + 1, fault := false || decide (1 < acc' - s.mem.acc) } : PS) = _
    rw [decide_eq_false (by omega)]
    rfl
  have hran : s.ran k th (PS.epoch k) = s.join k (⟨c, ⟨ws', acc', false⟩, s.gd, th2, s.steps + 1, false⟩ : PS) := by unfold MS.ran; rw [hst]
  have hlf : s.left th (PS.epoch k) = decide (0 < th2.frs.length) := by unfold MS.left; rw [hq]
  have h1 := h.a0
  have h2 := h.a1
  have h3 := h.s0
  have h4 := h.s1
  have h5 := h.eb
  rw [hran]
  refine ⟨⟨hw, rfl, ?_, rfl, rfl, by show 0 ≤ acc'; omega, by show acc' ≤ _; omega, by show 0 ≤ s.steps + 1; omega, by show s.steps + 1 ≤ _; omega, hep, by omega, hal, hai, hbl, hil, han, ?_⟩, hlf, part_join hkl⟩
  · show (s.ths.set k _).length = _
    rw [List.length_set]
    exact h.thl
  · intro t t2 hj
    have hj' : (s.ths.set k th2)[t]? = some t2 := hj
    by_cases e1 : k = t
    · subst e1
      rw [List.getElem?_set_self hkl] at hj'
      injection hj' with hj'
      rw [← hj']
      exact hk
    · rw [List.getElem?_set_ne e1] at hj'
      rw [hi t (fun e => e1 e.symm), hb t (fun e => e1 e.symm)]
      exact (h.th t t2 hj').go he0 hs
theorem AnC.up {e e' a : Nat} {g : Bool × Nat} (h : AnC e a g) (he : e ≤ e') (h1 : g.1 = true → e' ≤ g.2 + 1) : AnC e' a g := by
  unfold AnC at h ⊢
  split
  · rename_i hg
    rw [if_pos hg] at h
    exact ⟨h.1, by omega, h1 hg⟩
  · rename_i hg
    rw [if_neg hg] at h
    exact h
/-- One step. -/
inductive OutC (c : ConfS) (s s' : MS) (k : Nat) (fn : Int) (left : Bool) (e : Nat) (act : List Nat) (ab : List (Bool × Nat)) (ins : List Bool) (n : Nat) : Prop
  | on : left = true → CrE c s' e act ab ins (n + 1) → OutC c s s' k fn left e act ab ins n
  | says (x : Nat) : left = true → x ≠ 0 → act.getD k 0 = 0 → CrE c s' e (act.set k x) (ab.set k (true, e)) ins (n + 1) → OutC c s s' k fn left e act ab ins n
  | entered (t2 : ThS) : left = false → fn = 10 → (abG ab k).1 = true → (abG ab k).2 ≤ e → e ≤ (abG ab k).2 + 1 → CrE c s' e act ab (ins.set k true) (n + 1) → s'.ths[k]? = some t2 → t2.ses.past = e - 1 → OutC c s s' k fn left e act ab ins n
  | leaves : left = false → fn = 11 → act.getD k 0 ≠ 0 → CrE c s' e (act.set k 0) (ab.set k (false, e)) (ins.set k false) (n + 1) → OutC c s s' k fn left e act ab ins n
  | tried (e' : Nat) : left = false → fn = 12 → e ≤ e' → e' ≤ e + 1 → CrE c s' e' act ab ins (n + 1) → OutC c s s' k fn left e act ab ins n
theorem seen_set_same {e : Nat} {ab : List (Bool × Nat)} {k j : Nat} {b : Bool} (hk : k < ab.length) (h : Seen e ab j) : Seen e (ab.set k (b, e)) j := by
  by_cases e1 : k = j
  · subst e1
    intro _
    rw [abG_set hk]
  · intro h2
    rw [abG_ne e1] at h2 ⊢
    exact h h2
theorem actN_ne {x : Nat} (h : x < 2 ^ 63) : actN x ≠ 0 := by
  rw [actN_odd h]
  omega
theorem setNat_getD {l : List Nat} {k x : Nat} (h : k < l.length) : (l.set k x).getD k 0 = x := getD_setE h
end
end Go.Proofs.Ytlbhjahmgdghoaa
