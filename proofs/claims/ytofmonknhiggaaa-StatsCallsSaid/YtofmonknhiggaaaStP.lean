/- Histories: events, opers, and how these come of those. Plain lemmas, no condition. -/
import Derived.Test.YtofmonknhiggaaaVoc
namespace Go.Proofs.Ytofmonknhiggaaa

structure EvS where
  thr : Int
  back : Bool
  op : Int
  key : Int
  val : Int
  hi : Int
  lim : Int
  kind : Int
  akey : Int
  aval : Int
  an : Int
  pA : Option Addr
  pn : Nat
  pc : Nat
structure OpS where
  thr : Int
  op : Int
  key : Int
  val : Int
  hi : Int
  lim : Int
  kind : Int
  akey : Int
  aval : Int
  an : Int
  pA : Option Addr
  pn : Nat
  pc : Nat
  frm : Int
  to : Int
def ev0 : EvS := ⟨0, false, 0, 0, 0, 0, 0, 0, 0, 0, 0, none, 0, 0⟩
def op0 : OpS := ⟨0, 0, 0, 0, 0, 0, 0, 0, 0, 0, none, 0, 0, 0, 0⟩
/-- How many events are of a thread. -/
def cntT (t : Int) (l : List EvS) : Nat := l.countP (fun e => e.thr == t)
def mayE (l : List EvS) (e : EvS) : Bool := decide (0 ≤ e.thr) && decide (e.thr ≤ 5) && (e.back == (cntT e.thr l % 2 == 1))
def MayP (l : List EvS) (n : Nat) : Prop := ∀ i, i < n → mayE (l.take i) (l.getD i ev0) = true
def closeE (e : EvS) (j : Nat) (o : OpS) : OpS := { o with kind := e.kind, akey := e.akey, aval := e.aval, an := e.an, pA := e.pA, pn := e.pn, pc := e.pc, to := (j : Int) }
def mkOp (e : EvS) (i : Nat) (nb : Option (Nat × EvS)) : OpS :=
  let o : OpS := ⟨e.thr, e.op, e.key, e.val, e.hi, e.lim, 0, 0, 0, 0, none, 0, 0, (i : Int), -1⟩
  match nb with
  | none => o
  | some (j, x) => closeE x j o
/-- The first event of a thread that is an answer. -/
def nextBack (t : Int) : List EvS → Nat → Option (Nat × EvS)
  | [], _ => none
  | e :: l, i => if e.thr = t ∧ e.back = true then some (i, e) else nextBack t l (i + 1)
def opersR : List EvS → Nat → List OpS
  | [], _ => []
  | e :: l, i => if e.back = true then opersR l (i + 1) else mkOp e i (nextBack e.thr l (i + 1)) :: opersR l (i + 1)
def closeO (e : EvS) (j : Nat) (o : OpS) : OpS := if o.to < 0 ∧ o.thr = e.thr then closeE e j o else o
theorem mkOp_thr (e : EvS) (i : Nat) (nb : Option (Nat × EvS)) : (mkOp e i nb).thr = e.thr := by
  unfold mkOp closeE
  cases nb <;> rfl
theorem mkOp_frm (e : EvS) (i : Nat) (nb : Option (Nat × EvS)) : (mkOp e i nb).frm = i := by
  unfold mkOp closeE
  cases nb <;> rfl
theorem nextBack_snoc (t : Int) (e : EvS) : ∀ (l : List EvS) (i : Nat), nextBack t (l ++ [e]) i = match nextBack t l i with
    | some z => some z
    | none => if e.thr = t ∧ e.back = true then some (i + l.length, e) else none
  | [], i => by simp [nextBack]
  | x :: l, i => by
    show (if x.thr = t ∧ x.back = true then some (i, x) else nextBack t (l ++ [e]) (i + 1)) = match (if x.thr = t ∧ x.back = true then some (i, x) else nextBack t l (i + 1)) with
      | some z => some z
      | none => _
    by_cases h : x.thr = t ∧ x.back = true
    · rw [if_pos h, if_pos h]
    · rw [if_neg h, if_neg h, nextBack_snoc t e l (i + 1)]
      rw [show i + 1 + l.length = i + (x :: l).length by simp; omega]
theorem opersR_begin (e : EvS) (h : e.back = false) : ∀ (l : List EvS) (i : Nat), opersR (l ++ [e]) i = opersR l i ++ [mkOp e (i + l.length) none]
  | [], i => by simp [opersR, h, nextBack]
  | x :: l, i => by
    have ih := opersR_begin e h l (i + 1)
    have e1 : i + 1 + l.length = i + (x :: l).length := by simp; omega
    show (if x.back = true then opersR (l ++ [e]) (i + 1) else mkOp x i (nextBack x.thr (l ++ [e]) (i + 1)) :: opersR (l ++ [e]) (i + 1)) = (if x.back = true then opersR l (i + 1) else mkOp x i (nextBack x.thr l (i + 1)) :: opersR l (i + 1)) ++ _
    rw [ih, e1, nextBack_snoc]
    by_cases hb : x.back = true
    · rw [if_pos hb, if_pos hb]
    · rw [if_neg hb, if_neg hb]
      cases nextBack x.thr l (i + 1) with
      | none => simp [h]
      | some z => rfl
theorem closeO_mk (e x : EvS) (i j : Nat) (nb : Option (Nat × EvS)) (h : e.back = true) : closeO e j (mkOp x i nb) = mkOp x i (match nb with
    | some z => some z
    | none => if e.thr = x.thr ∧ e.back = true then some (j, e) else none) := by
  cases nb with
  | none =>
    by_cases ht : e.thr = x.thr
    · simp [closeO, mkOp, ht, h]
    · simp [closeO, mkOp, ht, h, Ne.symm ht]
  | some z =>
    obtain ⟨k, y⟩ := z
    have : ¬ ((mkOp x i (some (k, y))).to < 0 ∧ (mkOp x i (some (k, y))).thr = e.thr) := by
      intro hh
      have : ((k : Nat) : Int) < 0 := hh.1
      omega
    unfold closeO
    rw [if_neg this]
theorem opersR_back (e : EvS) (h : e.back = true) : ∀ (l : List EvS) (i : Nat), opersR (l ++ [e]) i = (opersR l i).map (closeO e (i + l.length))
  | [], i => by simp [opersR, h]
  | x :: l, i => by
    have ih := opersR_back e h l (i + 1)
    have e1 : i + 1 + l.length = i + (x :: l).length := by simp; omega
    show (if x.back = true then opersR (l ++ [e]) (i + 1) else mkOp x i (nextBack x.thr (l ++ [e]) (i + 1)) :: opersR (l ++ [e]) (i + 1)) = (if x.back = true then opersR l (i + 1) else mkOp x i (nextBack x.thr l (i + 1)) :: opersR l (i + 1)).map _
    rw [ih, e1, nextBack_snoc]
    by_cases hb : x.back = true
    · rw [if_pos hb, if_pos hb]
    · rw [if_neg hb, if_neg hb, List.map_cons, closeO_mk _ _ _ _ _ h, e1]
/-- The open opers of a thread. -/
def opn (t : Int) (o : OpS) : Bool := decide (o.to < 0) && decide (o.thr = t)
theorem cntT_snoc (t : Int) (l : List EvS) (e : EvS) : cntT t (l ++ [e]) = cntT t l + (if e.thr = t then 1 else 0) := by
  unfold cntT
  rw [List.countP_append]
  by_cases h : e.thr = t <;> simp [h]
/-- last, as the program has it: where a thread is within, its place. -/
structure LastOk (l : List EvS) (last : List Nat) : Prop where
  len : last.length = 6
  odd : ∀ t : Nat, t < 6 → cntT (t : Int) l % 2 = 1 → last.getD t 0 < (opersR l 0).length ∧ ∀ k, k < (opersR l 0).length → (opn (t : Int) ((opersR l 0).getD k op0) = true ↔ k = last.getD t 0)
  even : ∀ t : Nat, t < 6 → cntT (t : Int) l % 2 = 0 → ∀ k, k < (opersR l 0).length → opn (t : Int) ((opersR l 0).getD k op0) = false
theorem LastOk.start : LastOk [] [0, 0, 0, 0, 0, 0] := ⟨rfl, fun t _ h => by simp [cntT] at h, fun t _ _ k h => by simp [opersR] at h⟩
section
variable {l : List EvS} {last : List Nat} {e : EvS}
theorem getD_snoc_lt {α : Type} {l : List α} {a d : α} {k : Nat} (h : k < l.length) : (l ++ [a]).getD k d = l.getD k d := by
  rw [List.getD_eq_getElem?_getD, List.getElem?_append_left h, ← List.getD_eq_getElem?_getD]
theorem getD_snoc_eq {α : Type} {l : List α} {a d : α} : (l ++ [a]).getD l.length d = a := by
  rw [List.getD_eq_getElem?_getD, List.getElem?_append_right (Nat.le_refl _)]
  simp
theorem LastOk.begin_ (h : LastOk l last) (hm : mayE l e = true) (hb : e.back = false) : ∃ t : Nat, e.thr = (t : Int) ∧ t < 6 ∧ opersR (l ++ [e]) 0 = opersR l 0 ++ [mkOp e l.length none] ∧ LastOk (l ++ [e]) (last.set t (opersR l 0).length) := by
  have e0 := opersR_begin e hb l 0
  rw [Nat.zero_add] at e0
  simp only [mayE, Bool.and_eq_true, decide_eq_true_eq, hb, beq_iff_eq] at hm
  obtain ⟨⟨hm1, hm2⟩, hm3⟩ := hm
  obtain ⟨t, ht⟩ : ∃ t : Nat, e.thr = (t : Int) := ⟨e.thr.toNat, by omega⟩
  have ht6 : t < 6 := by omega
  have hmev : cntT (t : Int) l % 2 = 0 := by
    rw [ht] at hm3
    have : ¬ cntT (t : Int) l % 2 = 1 := by
      intro hh
      rw [hh] at hm3
      simp at hm3
    omega
  refine ⟨t, ht, ht6, e0, by rw [List.length_set, h.len], ?_, ?_⟩
  · intro s hs hc
    rw [cntT_snoc, ht] at hc
    rw [e0, List.length_append, List.length_singleton]
    by_cases hst : s = t
    · subst hst
      have hset : (last.set s (opersR l 0).length).getD s 0 = (opersR l 0).length := by
        rw [List.getD_eq_getElem?_getD, List.getElem?_set_self (by rw [h.len]; exact hs)]
        rfl
      rw [hset]
      refine ⟨by omega, fun k hk => ?_⟩
      by_cases hkl : k < (opersR l 0).length
      · rw [getD_snoc_lt hkl, h.even s hs hmev k hkl]
        constructor
        · intro hh; cases hh
        · intro hh; omega
      · have hke : k = (opersR l 0).length := by omega
        rw [hke, getD_snoc_eq]
        simp [opn, mkOp, ht]
    · have hset : (last.set t (opersR l 0).length).getD s 0 = last.getD s 0 := by
        rw [List.getD_eq_getElem?_getD, List.getElem?_set_ne (fun hh => hst hh.symm), ← List.getD_eq_getElem?_getD]
      rw [hset]
      rw [if_neg (by omega)] at hc
      obtain ⟨h1, h2⟩ := h.odd s hs hc
      refine ⟨by omega, fun k hk => ?_⟩
      by_cases hkl : k < (opersR l 0).length
      · rw [getD_snoc_lt hkl]
        exact h2 k hkl
      · have hke : k = (opersR l 0).length := by omega
        rw [hke, getD_snoc_eq]
        have hne : ¬ ((t : Nat) : Int) = ((s : Nat) : Int) := by omega
        have hf : opn (s : Int) (mkOp e l.length none) = false := by simp [opn, mkOp, ht, hne]
        rw [hf]
        constructor
        · intro hh; cases hh
        · intro hh; omega
  · intro s hs hc
    rw [cntT_snoc, ht] at hc
    rw [e0, List.length_append, List.length_singleton]
    by_cases hst : s = t
    · subst hst
      rw [if_pos rfl] at hc
      omega
    · rw [if_neg (by omega)] at hc
      intro k hk
      by_cases hkl : k < (opersR l 0).length
      · rw [getD_snoc_lt hkl]
        exact h.even s hs hc k hkl
      · have hke : k = (opersR l 0).length := by omega
        rw [hke, getD_snoc_eq]
        have hne : ¬ ((t : Nat) : Int) = ((s : Nat) : Int) := by omega
        simp [opn, mkOp, ht, hne]
theorem LastOk.back_ (h : LastOk l last) (hm : mayE l e = true) (hb : e.back = true) : ∃ t : Nat, e.thr = (t : Int) ∧ t < 6 ∧ last.getD t 0 < (opersR l 0).length ∧ opersR (l ++ [e]) 0 = (opersR l 0).set (last.getD t 0) (closeE e l.length ((opersR l 0).getD (last.getD t 0) op0)) ∧ LastOk (l ++ [e]) last := by
  have e0 := opersR_back e hb l 0
  rw [Nat.zero_add] at e0
  simp only [mayE, Bool.and_eq_true, decide_eq_true_eq, hb, beq_iff_eq] at hm
  obtain ⟨⟨hm1, hm2⟩, hm3⟩ := hm
  obtain ⟨t, ht⟩ : ∃ t : Nat, e.thr = (t : Int) := ⟨e.thr.toNat, by omega⟩
  have ht6 : t < 6 := by omega
  have hmodd : cntT (t : Int) l % 2 = 1 := by
    rw [ht] at hm3
    have := hm3.symm
    rw [beq_iff_eq] at this
    exact this
  obtain ⟨h1, h2⟩ := h.odd t ht6 hmodd
  have hcl : ∀ k, k < (opersR l 0).length → closeO e l.length ((opersR l 0).getD k op0) = if k = last.getD t 0 then closeE e l.length ((opersR l 0).getD k op0) else (opersR l 0).getD k op0 := fun k hk => by
    have h3 := h2 k hk
    unfold closeO
    by_cases hkl : k = last.getD t 0
    · have h4 := h3.2 hkl
      simp only [opn, Bool.and_eq_true, decide_eq_true_eq] at h4
      rw [if_pos hkl, if_pos ⟨h4.1, by rw [h4.2, ht]⟩]
    · rw [if_neg hkl, if_neg (fun hh => hkl (h3.1 (by simp only [opn, Bool.and_eq_true, decide_eq_true_eq]; exact ⟨hh.1, by rw [hh.2, ht]⟩)))]
  have hset : opersR (l ++ [e]) 0 = (opersR l 0).set (last.getD t 0) (closeE e l.length ((opersR l 0).getD (last.getD t 0) op0)) := by
    rw [e0]
    apply List.ext_getElem?
    intro k
    rw [List.getElem?_map, List.getElem?_set]
    by_cases hk : k < (opersR l 0).length
    · have h3 := hcl k hk
      rw [List.getD_eq_getElem?_getD, List.getElem?_eq_getElem hk] at h3
      simp only [Option.getD_some] at h3
      rw [List.getElem?_eq_getElem hk, Option.map_some, h3]
      by_cases hkl : k = last.getD t 0
      · rw [if_pos hkl, if_pos hkl.symm, if_pos (by rw [← hkl]; exact hk)]
        rw [← hkl, List.getD_eq_getElem?_getD, List.getElem?_eq_getElem hk]
        rfl
      · rw [if_neg hkl, if_neg (fun hh => hkl hh.symm)]
    · rw [List.getElem?_eq_none (by omega), Option.map_none, if_neg (by omega)]
  have hlen : (opersR (l ++ [e]) 0).length = (opersR l 0).length := by rw [e0, List.length_map]
  have hget : ∀ k, k < (opersR l 0).length → (opersR (l ++ [e]) 0).getD k op0 = closeO e l.length ((opersR l 0).getD k op0) := fun k hk => by
    rw [e0, List.getD_eq_getElem?_getD, List.getElem?_map, List.getD_eq_getElem?_getD, List.getElem?_eq_getElem hk]
    rfl
  have hopn : ∀ s : Nat, ∀ o : OpS, opn (s : Int) (closeO e l.length o) = (opn (s : Int) o && !decide (s = t)) := fun s o => by
    unfold closeO
    by_cases hc : o.to < 0 ∧ o.thr = e.thr
    · rw [if_pos hc]
      have h5 : opn (s : Int) (closeE e l.length o) = false := by
        have h6 : ¬ ((l.length : Nat) : Int) < 0 := by omega
        unfold opn closeE
        rw [decide_eq_false h6]
        rfl
      rw [h5]
      by_cases hst : s = t
      · simp [hst]
      · have h7 : ¬ ((t : Nat) : Int) = ((s : Nat) : Int) := by omega
        simp [opn, hc.2, ht, h7]
    · rw [if_neg hc]
      by_cases hst : s = t
      · subst hst
        have : opn (s : Int) o = false := by
          cases hq : opn (s : Int) o
          · rfl
          · simp only [opn, Bool.and_eq_true, decide_eq_true_eq] at hq
            exact absurd ⟨hq.1, by rw [hq.2, ht]⟩ hc
        simp [this]
      · simp [hst]
  refine ⟨t, ht, ht6, h1, hset, h.len, ?_, ?_⟩
  · intro s hs hc
    rw [cntT_snoc, ht] at hc
    by_cases hst : s = t
    · subst hst
      rw [if_pos rfl] at hc
      omega
    · rw [if_neg (by omega)] at hc
      obtain ⟨h3, h4⟩ := h.odd s hs hc
      refine ⟨by omega, fun k hk => ?_⟩
      rw [hget k (by omega), hopn, ← h4 k (by omega)]
      simp [hst]
  · intro s hs hc k hk
    rw [cntT_snoc, ht] at hc
    rw [hget k (by omega), hopn]
    by_cases hst : s = t
    · simp [hst]
    · rw [if_neg (by omega)] at hc
      rw [h.even s hs hc k (by omega)]
      rfl
end
end Go.Proofs.Ytofmonknhiggaaa
