/- EpochCrowd: what a round of the law holds, and its parts. Plain lemmas over the words of memory. -/
import Derived.Test.YtlbhjahmgdghoaaEcM
import Derived.Test.YtlbhjahmgdghoaaEpL
namespace Go.Proofs.Ytlbhjahmgdghoaa
open Go.RowKit

theorem info93 : (Try.prog.info? 93).map (fun i => (i.zero, i.size, i.bytes)) = some (some (.agg #[.bool false, .int .u64 0]), 2, 16) := by kernel_rfl
theorem info4 : (Try.prog.info? 4).map (fun i => (i.zero, i.size, i.bytes)) = some (some (.bool false), 1, 1) := by kernel_rfl
theorem own_blkX {w : World} {b n size : Nat} {t : TypeId} {xs : List Value} (h : w.ownsRow b t size (.slice (some ⟨b, 0, none⟩) n n) n xs) (hn : 0 < n) : ∃ xt, Blk w b t (xs ++ xt).toArray := by
  obtain ⟨hl, ⟨_, h0⟩ | ⟨g, cap, cur, hv, hb, hr, hc, _, _, ht⟩⟩ := h
  · omega
  · injection hv with hv
    injection hv with hv
    have : b = g := congrArg Addr.block hv
    subst this
    refine ⟨cur.toList.drop (n * size), ?_⟩
    rw [← ht, List.take_append_drop]
    exact hr
theorem made_about {w : World} {b n : Nat} (h1 : 1 ≤ n) (h6 : n ≤ 6) (hm : w.ownsRow b 93 2 (.slice (some ⟨b, 0, none⟩) n n) n (madeCells (Value.agg #[.bool false, .int .u64 0]).cells (n * 2)).toList) : ∃ xt, Blk w b 93 (abCells (List.replicate n (false, 0)) ++ xt).toArray := by
  have e : (madeCells (Value.agg #[.bool false, .int .u64 0]).cells (n * 2)).toList = abCells (List.replicate n (false, 0)) := by
    have : n = 1 ∨ n = 2 ∨ n = 3 ∨ n = 4 ∨ n = 5 ∨ n = 6 := by omega
    rcases this with rfl | rfl | rfl | rfl | rfl | rfl <;> simp [madeCells, Value.cells, abCells, List.replicate, List.range_succ, List.flatMap_cons]
  rw [e] at hm
  exact own_blkX hm (by omega)
theorem made_bool {w : World} {b n : Nat} (h1 : 1 ≤ n) (h6 : n ≤ 6) (hm : w.ownsRow b 4 1 (.slice (some ⟨b, 0, none⟩) n n) n (madeCells (Value.bool false).cells (n * 1)).toList) : ∃ xt, Blk w b 4 (boolsL (List.replicate n false) ++ xt).toArray := by
  have e : (madeCells (Value.bool false).cells (n * 1)).toList = boolsL (List.replicate n false) := by
    have : n = 1 ∨ n = 2 ∨ n = 3 ∨ n = 4 ∨ n = 5 ∨ n = 6 := by omega
    rcases this with rfl | rfl | rfl | rfl | rfl | rfl <;> simp [madeCells, Value.cells, boolsL, List.replicate, List.range_succ]
  rw [e] at hm
  exact own_blkX hm (by omega)
structure AllC (w0 : World) (m0 : Nat) (wr : World) (i : MI) (s : MS) (fb bb nb ib : Nat) (e : Nat) (act : List Nat) (ab : List (Bool × Nat)) (ins : List Bool) (e' : Nat) (act' : List Nat) (vI : Value) : Prop where
  hm : MachC w0 m0 wr i s
  ha : MemC wr w0 i fb bb nb e act ab ins
  hb : Blk wr ib 83 #[.int .u64 (e' : Nat), vI]
  hr : RowI wr (· ∉ i.foot) 22 vI (u64s act')
section
variable {w0 wr w2 : World} {m0 e e' k fb bb nb ib : Nat} {i i2 : MI} {s s2 : MS} {act act' : List Nat} {ab : List (Bool × Nat)} {ins : List Bool} {vI : Value}
theorem AllC.keep0 (h : AllC w0 m0 wr i s fb bb nb ib e act ab ins e' act' vI) (hk : Keep [] wr w2) : AllC w0 m0 w2 i s fb bb nb ib e act ab ins e' act' vI := ⟨h.hm.keep0 hk, h.ha.keep0 hk, h.hb.keep hk (by simp), h.hr.keep0 hk⟩
theorem AllC.putAb {x : Bool} {g : Nat} (h : AllC w0 m0 wr i s fb bb nb ib e act ab ins e' act' vI) (hk : k < ab.length) : AllC w0 m0 ((wr.setCell ⟨bb, k * 2, none⟩ (.bool x)).setCell ⟨bb, k * 2 + 1, none⟩ (.int .u64 (g : Nat))) i s fb bb nb ib e act (ab.set k (x, g)) ins e' act' vI := by
  obtain ⟨xt, h3⟩ := h.ha.ha
  have hn := h.hb.ne_ h3 (by decide)
  exact ⟨h.hm.otherA h.ha _ _, h.ha.putAb hk, (h.hb.far (p := ⟨bb, k * 2, none⟩) hn _).far (p := ⟨bb, k * 2 + 1, none⟩) hn _, (h.hr.far0 (j := k * 2) h3 (by decide)).far0 (h3.set_ (k * 2) _) (by decide)⟩
theorem AllC.putIn {x : Bool} (h : AllC w0 m0 wr i s fb bb nb ib e act ab ins e' act' vI) (hk : k < ins.length) : AllC w0 m0 (wr.setCell ⟨nb, k, none⟩ (.bool x)) i s fb bb nb ib e act ab (ins.set k x) e' act' vI := by
  obtain ⟨xt, h3⟩ := h.ha.hi
  have hn := h.hb.ne_ h3 (by decide)
  exact ⟨h.hm.otherI h.ha _, h.ha.putIn hk, h.hb.far (p := ⟨nb, k, none⟩) hn _, h.hr.far0 h3 (by decide)⟩
theorem AllC.next (h : AllC w0 m0 wr i s fb bb nb ib e act ab ins e' act' vI) : MachC w0 m0 ((wr.setCell ⟨fb, 0, none⟩ (.int .u64 (e' : Nat))).setCell ⟨fb, 1, none⟩ vI) i s ∧ MemC ((wr.setCell ⟨fb, 0, none⟩ (.int .u64 (e' : Nat))).setCell ⟨fb, 1, none⟩ vI) w0 i fb bb nb e' act' ab ins := ⟨h.hm.otherF h.ha _ _, h.ha.putF h.hr⟩
theorem AllC.i0 (h : AllC w0 m0 wr i s fb bb nb ib e act ab ins e' act' vI) : wr.cell? ⟨ib, 0, none⟩ = some (.int .u64 (e' : Nat)) := h.hb.cell 0
theorem AllC.i1 (h : AllC w0 m0 wr i s fb bb nb ib e act ab ins e' act' vI) : wr.cell? ⟨ib, 1, none⟩ = some vI := h.hb.cell 1
/-- A word of the row, by its cell. -/
theorem RowI.word {b o n cap : Nat} {l : List Nat} {ok : Nat → Prop} (h : RowI wr ok 22 (.slice (some ⟨b, o, none⟩) n cap) (u64s l)) (hk : k < l.length) : wr.cell? ⟨b, o + k, none⟩ = some (.int .u64 (l.getD k 0 : Nat)) := by
  obtain ⟨b2, o2, cap2, cs, h1, h2, h3, h4, _⟩ := h
  injection h1 with h1
  injection h1 with h1
  injection h1 with e1 e2 _
  subst e1 e2
  rw [h3.cell]
  refine h4 k _ ?_
  unfold u64s
  rw [List.getElem?_map, List.getElem?_eq_getElem hk, List.getD_eq_getElem?_getD, List.getElem?_eq_getElem hk]
  rfl
theorem acts_cr {c : ConfS} {n : Nat} (h : CrE c s e act ab ins n) : actsOf s.mem.ws c.thr.toNat = act := by
  have hl := h.actL
  apply List.ext_getElem?
  intro t
  unfold actsOf
  by_cases ht : t < c.thr.toNat
  · rw [List.getElem?_map, List.getElem?_range ht]
    have h1 := h.actI t (by omega)
    rw [List.getElem?_eq_getElem (by omega)]
    show some (s.mem.ws.getD (3 + 8 * t) 0) = _
    rw [h1, List.getD_eq_getElem?_getD, List.getElem?_eq_getElem (by omega)]
    rfl
  · rw [List.getElem?_eq_none (by simp; omega), List.getElem?_eq_none (by omega)]
end
/-- What a round's tests will find. -/
inductive FlowC (s' : MS) (k : Nat) (fn : Int) (left : Bool) (e : Nat) (act : List Nat) (ab : List (Bool × Nat)) (ins : List Bool) (e' : Nat) (act' : List Nat) (ab' : List (Bool × Nat)) (ins' : List Bool) : Prop
  | on : left = true → act' = act → ab' = ab → ins' = ins → FlowC s' k fn left e act ab ins e' act' ab' ins'
  | says : left = true → e' = e → act'.getD k 0 ≠ 0 → act.getD k 0 = 0 → ab' = ab.set k (true, e) → ins' = ins → FlowC s' k fn left e act ab ins e' act' ab' ins'
  | entered (t2 : ThS) : left = false → fn = 10 → act' = act → ab' = ab → (abG ab k).1 = true → (t2.ses.past = (abG ab k).2 ∨ (t2.ses.past ≠ (abG ab k).2 ∧ t2.ses.past + 1 = (abG ab k).2)) → t2.ses.past ≤ e → s'.ths[k]? = some t2 → ins' = ins.set k true → FlowC s' k fn left e act ab ins e' act' ab' ins'
  | leaves : left = false → fn = 11 → e' = e → act'.getD k 0 = 0 → act.getD k 0 ≠ 0 → ab' = ab.set k (false, e) → ins' = ins.set k false → FlowC s' k fn left e act ab ins e' act' ab' ins'
  | tried : left = false → fn = 12 → act' = act → ab' = ab → ins' = ins → FlowC s' k fn left e act ab ins e' act' ab' ins'
def insMid (left : Bool) (fn : Int) (k : Nat) (ins : List Bool) : List Bool := if left = false ∧ fn = 10 then ins.set k true else ins
section
variable {s' : MS} {k : Nat} {fn : Int} {left : Bool} {e e' : Nat} {act act' : List Nat} {ab ab' : List (Bool × Nat)} {ins ins' : List Bool}
/-- The first test: has the announcement turned? -/
theorem FlowC.ann (h : FlowC s' k fn left e act ab ins e' act' ab' ins') : (act'.getD k 0 = act.getD k 0 ∧ ab' = ab) ∨ (act'.getD k 0 ≠ act.getD k 0 ∧ ab' = ab.set k (((act'.getD k 0 : Nat) : Int) != 0, e')) := by
  cases h with
  | on h1 h2 h3 h4 => exact .inl ⟨by rw [h2], h3⟩
  | says h1 h2 h3 h4 h5 h6 =>
    refine .inr ⟨by rw [h4]; exact h3, ?_⟩
    rw [h5, h2]
    have : (((act'.getD k 0 : Nat) : Int) != 0) = true := by
      rw [bne_iff_ne]
      omega
    rw [this]
  | entered t2 h1 h2 h3 h4 => exact .inl ⟨by rw [h3], h4⟩
  | leaves h1 h2 h3 h4 h5 h6 h7 =>
    refine .inr ⟨by rw [h4]; exact fun e => h5 e.symm, ?_⟩
    rw [h6, h3, h4]
    rfl
  | tried h1 h2 h3 h4 h5 => exact .inl ⟨by rw [h3], h4⟩
/-- The second test: has Enter come to its end? -/
theorem FlowC.ent (h : FlowC s' k fn left e act ab ins e' act' ab' ins') : (left = false ∧ fn = 10 ∧ (abG ab' k).1 = true ∧ insMid left fn k ins = ins.set k true ∧ ∃ t2, s'.ths[k]? = some t2 ∧ (t2.ses.past = (abG ab' k).2 ∨ (t2.ses.past ≠ (abG ab' k).2 ∧ t2.ses.past + 1 = (abG ab' k).2)) ∧ t2.ses.past ≤ e) ∨ (insMid left fn k ins = ins ∧ (left = true ∨ (left = false ∧ (fn == 10) = false))) := by
  cases h with
  | on h1 => exact .inr ⟨by unfold insMid; rw [if_neg (by rw [h1]; simp)], .inl h1⟩
  | says h1 => exact .inr ⟨by unfold insMid; rw [if_neg (by rw [h1]; simp)], .inl h1⟩
  | entered t2 h1 h2 h3 h4 h5 h6 h7 h8 => exact .inl ⟨h1, h2, by rw [h4]; exact h5, by unfold insMid; rw [if_pos ⟨h1, h2⟩], t2, h8, by rw [h4]; exact h6, h7⟩
  | leaves h1 h2 => exact .inr ⟨by unfold insMid; rw [if_neg (by rw [h2]; simp)], .inr ⟨h1, by rw [h2]; rfl⟩⟩
  | tried h1 h2 => exact .inr ⟨by unfold insMid; rw [if_neg (by rw [h2]; simp)], .inr ⟨h1, by rw [h2]; rfl⟩⟩
/-- The third test: has Leave come to its end? -/
theorem FlowC.gone (h : FlowC s' k fn left e act ab ins e' act' ab' ins') (hk : k < ab.length) : (left = false ∧ fn = 11 ∧ (abG ab' k).1 = false ∧ ins' = (insMid left fn k ins).set k false) ∨ (ins' = insMid left fn k ins ∧ (left = true ∨ (left = false ∧ (fn == 11) = false))) := by
  cases h with
  | on h1 h2 h3 h4 => exact .inr ⟨by unfold insMid; rw [if_neg (by rw [h1]; simp)]; exact h4, .inl h1⟩
  | says h1 h2 h3 h4 h5 h6 => exact .inr ⟨by unfold insMid; rw [if_neg (by rw [h1]; simp)]; exact h6, .inl h1⟩
  | entered t2 h1 h2 h3 h4 h5 h6 h7 h8 h9 => exact .inr ⟨by unfold insMid; rw [if_pos ⟨h1, h2⟩]; exact h9, .inr ⟨h1, by rw [h2]; rfl⟩⟩
  | leaves h1 h2 h3 h4 h5 h6 h7 => exact .inl ⟨h1, h2, by rw [h6, abG_set hk], by unfold insMid; rw [if_neg (by rw [h2]; simp)]; exact h7⟩
  | tried h1 h2 h3 h4 h5 => exact .inr ⟨by unfold insMid; rw [if_neg (by rw [h2]; simp)]; exact h5, .inr ⟨h1, by rw [h2]; rfl⟩⟩
end
theorem OutC.flow {c : ConfS} {s s' : MS} {k : Nat} {fn : Int} {left : Bool} {e n : Nat} {act : List Nat} {ab : List (Bool × Nat)} {ins : List Bool} (h : OutC c s s' k fn left e act ab ins n) (hk : k < act.length) :
    ∃ e' act' ab' ins', CrE c s' e' act' ab' ins' (n + 1) ∧ e ≤ e' ∧ e' ≤ e + 1 ∧ FlowC s' k fn left e act ab ins e' act' ab' ins' := by
  cases h with
  | on h1 h2 => exact ⟨_, _, _, _, h2, Nat.le_refl _, by omega, .on h1 rfl rfl rfl⟩
  | says x h1 h2 h3 h4 => exact ⟨_, _, _, _, h4, Nat.le_refl _, by omega, .says h1 rfl (by rw [getD_setE hk]; exact h2) h3 rfl rfl⟩
  | entered t2 h1 h2 h3 h4 h5 h6 h7 h8 => exact ⟨_, _, _, _, h6, Nat.le_refl _, by omega, .entered t2 h1 h2 rfl rfl h3 (by rw [h8]; omega) (by rw [h8]; omega) h7 rfl⟩
  | leaves h1 h2 h3 h4 => exact ⟨_, _, _, _, h4, Nat.le_refl _, by omega, .leaves h1 h2 rfl (getD_setE hk) h3 rfl rfl⟩
  | tried e' h1 h2 h3 h4 h5 => exact ⟨_, _, _, _, h5, h3, h4, .tried h1 h2 rfl rfl rfl⟩
/-- The crowd, for Ends. -/
theorem crowd_ep (c : ConfS) : Crowd c.thr.toNat (c.thr.toNat + 9) 4000 ThrOk EpOk (fun k => PS.epoch k) (leftT c) (fun n s => ∃ e act ab ins, CrE c s e act ab ins n) := by
  have key : ∀ {n e k : Nat} {s : MS} {act : List Nat} {ab : List (Bool × Nat)} {ins : List Bool} {t : ThS}, CrE c s e act ab ins n → s.ths[k]? = some t → 0 < t.frs.length → ∃ f, t.frs = [f] ∧ 0 < leftT c t := fun {n e k s act ab ins t} h ht hp => by
    rcases (h.th k t ht).st with ⟨h1, _⟩ | ⟨f, h1, _, _, h2⟩
    · rw [h1] at hp; simp at hp
    · refine ⟨f, h1, ?_⟩
      rw [leftT_one h1]
      cases h2 with
      | en0 => rw [left10]; decide
      | en1 => rw [left10]; decide
      | en2 => rw [left10]; decide
      | le => rw [left11]; decide
      | ad0 => rw [left12_0]; omega
      | ad1 => rw [left12_1]; omega
      | ad2 => rw [left12_2]; decide
  refine ⟨fun n s ⟨e, act, ab, ins, h⟩ => ?_, fun n s ⟨e, act, ab, ins, h⟩ => h.thl, fun n s k t _ _ => cr_left t, fun n s k t ⟨e, act, ab, ins, h⟩ ht hp => (key h ht hp).elim fun f hf => hf.2, fun n s k t hn ⟨e, act, ab, ins, h⟩ ht hp => ?_⟩
  · show s.ths.length = s.conf.thr.toNat
    rw [h.conf]
    exact h.thl
  · obtain ⟨f, hf, _⟩ := key h ht hp
    obtain ⟨a1, a2, a3, a4⟩ := cr_step h (by omega) ht hf
    obtain ⟨e', act', ab', ins', b1, _⟩ := a3.flow (by rw [h.actL]; have := h.hk ht; omega)
    exact ⟨a1, a2, ⟨e', act', ab', ins', b1⟩, a4⟩
end Go.Proofs.Ytlbhjahmgdghoaa
