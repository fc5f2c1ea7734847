/- EpochAlone: what holds at each deed's beginning. Conditions: few deeds were done. -/
import Derived.Test.YtlbhjahmgdghoaaRef18
namespace Go.Proofs.Ytlbhjahmgdghoaa
open Go.RowKit

def PS.setPin (s : PS) (v : Bool) : PS := { s with th := { s.th with ses := { s.th.ses with pinned := v } } }
theorem thCells_pin (i : ThI) (s : ThS) (hr : s.ret.length = 12) (v : Bool) : (thCells i s).toArray.setIfInBounds 13 (.bool v) = (thCells i { s with ses := { s.ses with pinned := v } }).toArray := by
  have e : ∀ l : List Value, l.length = 12 → ∀ r : List Value, ((l ++ r).toArray.setIfInBounds 13 (.bool v)) = (l ++ r.set 1 (.bool v)).toArray := fun l hl r => by
    simp [hl]
  unfold thCells
  rw [e _ (by rw [u64s_length, hr])]
  rfl
theorem Stay.setPin {w w' : World} {i : PI} {s : PS} (h : Stay w w' i s) (v : Bool) : Stay w (w'.setCell ⟨i.ti.tb, 13, none⟩ (.bool v)) i (s.setPin v) := by
  have hth := h.at_.hTh
  have hb := hth.ht.set_ 13 (.bool v)
  rw [thCells_pin _ _ hth.rl] at hb
  have hk : Keep [i.ti.tb] w' (w'.setCell ⟨i.ti.tb, 13, none⟩ (.bool v)) := (Keep.refl _ _).set_ _ (.inl (by simp))
  have ht := hth.reset (s2 := { s.th with ses := { s.th.ses with pinned := v } }) hb hk hth.rl rfl rfl rfl
  have hk2 : Keep i.ti.foot w' (w'.setCell ⟨i.ti.tb, 13, none⟩ (.bool v)) := hk.mono (by simp [ThI.foot])
  exact ⟨h.at_.thread ht hk2 (fun x hx => .inl hx), h.keep.trans hk2 (fun x hx => .inl (PI.memF.2 (.inr (.inr (.inr (.inr (.inr (.inr hx))))))))⟩
def MS.pin (s : MS) (k : Nat) (t : ThS) (v : Bool) : MS := s.join k ((s.part t).setPin v)
section
variable {c : ConfS} {w0 wr w2 : World} {m0 e n k fb pb : Nat} {i i2 : MI} {s s2 : MS} {act past : List Nat} {t : ThS}
/-- A session is pinned, or not. -/
theorem MachE.pin (h : MachE c w0 m0 wr i s e act past n) {ti : ThI} (h1 : i.tis[k]? = some ti) (ht : s.ths[k]? = some t) (v : Bool) :
    ∃ i2, MachE c w0 m0 (wr.setCell ⟨ti.tb, 13, none⟩ (.bool v)) i2 (s.pin k t v) e act past n ∧ Goes wr (wr.setCell ⟨ti.tb, 13, none⟩ (.bool v)) i i2 := by
  have hst := (Stay.refl (h.hm.part h1 ht)).setPin v
  obtain ⟨h2, h3⟩ := h.hm.join h1 ht hst.to
  refine ⟨_, h.go h2 h3 ?_, h3⟩
  have hr := h.hr
  refine ⟨hr.w, hr.conf, ?_, ?_, hr.f1, hr.f2, hr.a0, hr.a1, hr.s0, hr.s1, hr.ep, hr.eb, hr.actL, hr.actI, hr.pastL, fun j th hj => ?_⟩
  · show (s.ths.set k _).length = _
    rw [List.length_set]
    exact hr.thl
  · intro t' ht'
    rcases List.mem_or_eq_of_mem_set (show t' ∈ s.ths.set k _ from ht') with h4 | h4
    · exact hr.idle t' h4
    · rw [h4]
      exact hr.idle t (List.mem_of_getElem? ht)
  · have hj' : (s.ths.set k ((s.part t).setPin v).th)[j]? = some th := hj
    by_cases e1 : k = j
    · subst e1
      rw [List.getElem?_set_self (List.getElem?_eq_some_iff.1 ht).1] at hj'
      injection hj' with hj'
      rw [← hj']
      exact hr.pastI k t ht
    · rw [List.getElem?_set_ne e1] at hj'
      exact hr.pastI j th hj'
theorem pin_th (ht : s.ths[k]? = some t) (v : Bool) : (s.pin k t v).ths[k]? = some { t with ses := { t.ses with pinned := v } } := part_join (List.getElem?_eq_some_iff.1 ht).1
/-- What the law itself keeps. -/
structure MemA (wr : World) (w0 : World) (i : MI) (fb pb : Nat) (e : Nat) (act past : List Nat) : Prop where
  hf : ∃ vA, Blk wr fb 83 #[.int .u64 (e : Nat), vA] ∧ RowI wr (fun b => b ∉ i.foot ∧ b ≠ pb) 22 vA (u64s act)
  fbf : fb ∉ i.foot
  fbn : w0.heap.size ≤ fb
  hp : ∃ xt, Blk wr pb 22 (u64s past ++ xt).toArray
  pbf : pb ∉ i.foot
  pbn : w0.heap.size ≤ pb
theorem farE {w w' : World} {i i' : MI} (h : Goes w w' i i') {b : Nat} (hb : b < w.heap.size) (hn : b ∉ i.foot) : b ∉ i'.foot := fun hx => (h.foot b hx).elim hn (fun e => by omega)
theorem MemA.go (h : MemA wr w0 i fb pb e act past) (hg : Goes wr w2 i i2) : MemA w2 w0 i2 fb pb e act past := by
  obtain ⟨vA, h1, b, o, cap, cs, q1, q2, q3, q4, q5, q6⟩ := h.hf
  obtain ⟨xt, h3⟩ := h.hp
  exact ⟨⟨vA, h1.keep hg.keep h.fbf, b, o, cap, cs, q1, q2, q3.keep hg.keep q5, q4, farE hg q3.lt q5, q6⟩, farE hg h1.lt h.fbf, h.fbn, ⟨xt, h3.keep hg.keep h.pbf⟩, farE hg h3.lt h.pbf, h.pbn⟩
theorem MemA.keep0 (h : MemA wr w0 i fb pb e act past) (hk : Keep [] wr w2) : MemA w2 w0 i fb pb e act past := by
  obtain ⟨vA, h1, h2⟩ := h.hf
  obtain ⟨xt, h3⟩ := h.hp
  exact ⟨⟨vA, h1.keep hk (by simp), h2.keep0 hk⟩, h.fbf, h.fbn, ⟨xt, h3.keep hk (by simp)⟩, h.pbf, h.pbn⟩
theorem MemA.putE {vA' : Value} {e' : Nat} {act' : List Nat} (h : MemA wr w0 i fb pb e act past) (hr : RowI wr (fun b => b ∉ i.foot ∧ b ≠ pb) 22 vA' (u64s act')) : MemA ((wr.setCell ⟨fb, 0, none⟩ (.int .u64 (e' : Nat))).setCell ⟨fb, 1, none⟩ vA') w0 i fb pb e' act' past := by
  obtain ⟨vA, h1, _⟩ := h.hf
  obtain ⟨xt, h3⟩ := h.hp
  have hne := h3.ne_ h1 (by decide)
  exact ⟨⟨vA', h1.two _ _, (hr.far h1 (by decide) 0 _).far (h1.set_ 0 _) (by decide) 1 _⟩, h.fbf, h.fbn, ⟨xt, (h3.far (p := ⟨fb, 0, none⟩) hne _).far (p := ⟨fb, 1, none⟩) hne _⟩, h.pbf, h.pbn⟩
theorem MemA.putN {e' : Nat} (h : MemA wr w0 i fb pb e act past) : MemA (wr.setCell ⟨fb, 0, none⟩ (.int .u64 (e' : Nat))) w0 i fb pb e' act past := by
  obtain ⟨vA, h1, hr⟩ := h.hf
  obtain ⟨xt, h3⟩ := h.hp
  exact ⟨⟨vA, h1.fst _, hr.far h1 (by decide) 0 _⟩, h.fbf, h.fbn, ⟨xt, h3.far (p := ⟨fb, 0, none⟩) (h3.ne_ h1 (by decide)) _⟩, h.pbf, h.pbn⟩
theorem MemA.putP {x : Nat} (h : MemA wr w0 i fb pb e act past) (hk : k < past.length) : MemA (wr.setCell ⟨pb, k, none⟩ (.int .u64 (x : Nat))) w0 i fb pb e act (past.set k x) := by
  obtain ⟨vA, h1, b, o, cap, cs, q1, q2, q3, q4, q5, q6⟩ := h.hf
  obtain ⟨xt, h3⟩ := h.hp
  exact ⟨⟨vA, h1.far (p := ⟨pb, k, none⟩) (h1.ne_ h3 (by decide)) _, b, o, cap, cs, q1, q2, q3.far (p := ⟨pb, k, none⟩) q6 _, q4, q5, q6⟩, h.fbf, h.fbn, ⟨xt, blk_word h3 k x hk⟩, h.pbf, h.pbn⟩
/-- The machine stays where another block is written. -/
theorem MachE.other {b : Nat} (h : MachE c w0 m0 wr i s e act past n) (hn : b ∉ i.foot) (hp : i.p ≠ b) (h0 : w0.heap.size ≤ b) (j : Nat) (v : Value) : MachE c w0 m0 (wr.setCell ⟨b, j, none⟩ v) i s e act past n := by
  have hk : Keep [b] wr (wr.setCell ⟨b, j, none⟩ v) := (Keep.refl _ _).set_ _ (.inl (by simp))
  exact ⟨h.hm.keep hk (fun x hx hm => hn (by rw [← List.mem_singleton.1 hm]; exact hx)) (by simpa using hp), h.im, h.hr, h.hk.trans hk (fun x hx => by rw [List.mem_singleton.1 hx]; exact .inr h0), h.new⟩
theorem MachE.otherE (h : MachE c w0 m0 wr i s e act past n) {e2 : Nat} {act2 past2 : List Nat} (hm : MemA wr w0 i fb pb e2 act2 past2) (j : Nat) (v : Value) : MachE c w0 m0 (wr.setCell ⟨fb, j, none⟩ v) i s e act past n := by
  obtain ⟨vA, h1, _⟩ := hm.hf
  exact h.other hm.fbf (Blk.ne_ h.hm.hP h1 (by decide)) hm.fbn j v
theorem MachE.otherP (h : MachE c w0 m0 wr i s e act past n) {e2 : Nat} {act2 past2 : List Nat} (hm : MemA wr w0 i fb pb e2 act2 past2) (j : Nat) (v : Value) : MachE c w0 m0 (wr.setCell ⟨pb, j, none⟩ v) i s e act past n := by
  obtain ⟨xt, h1⟩ := hm.hp
  exact h.other hm.pbf (Blk.ne_ h.hm.hP h1 (by decide)) hm.pbn j v
theorem actN_odd {x : Nat} (h : x < 2 ^ 63) : actN x = 2 * x + 1 := by
  unfold actN setF
  simp only [Nat.reducePow, Nat.reduceAdd, Nat.pow_zero] at h ⊢
  omega
theorem acts_eq (h : EpRest c s e act past n) : actsOf s.mem.ws c.thr.toNat = act := by
  have hl := h.actL
  apply List.ext_getElem?
  intro t
  unfold actsOf
  by_cases ht : t < c.thr.toNat
  · rw [List.getElem?_map, List.getElem?_range ht]
    have h1 := h.actI t (by omega)
    rw [List.getElem?_eq_getElem (by omega)]
    show some (s.mem.ws.getD (3 + 8 * t) 0) = _
    rw [h1, List.getD_eq_getElem?_getD, List.getElem?_eq_getElem (by omega)]
    rfl
  · rw [List.getElem?_eq_none (by simp; omega), List.getElem?_eq_none (by omega)]
theorem cell_some_lt {w : World} {b o : Nat} {v : Value} (h : w.cell? ⟨b, o, none⟩ = some v) : b < w.heap.size := by
  unfold World.cell? at h
  cases hb : w.heap[b]? with
  | none => rw [hb] at h; cases h
  | some ob => exact (Array.getElem?_eq_some_iff.1 hb).1
theorem cell_lts {w : World} {a b d o1 o2 o3 : Nat} {v1 v2 v3 : Value} (h1 : w.cell? ⟨a, o1, none⟩ = some v1) (h2 : w.cell? ⟨b, o2, none⟩ = some v2) (h3 : w.cell? ⟨d, o3, none⟩ = some v3) : a < w.heap.size ∧ b < w.heap.size ∧ d < w.heap.size := ⟨cell_some_lt h1, cell_some_lt h2, cell_some_lt h3⟩
/-- What the law compares, in memory. -/
structure Five (W : World) (tb fb pb k : Nat) (told e pk : Int) (vA : Value) : Prop where
  c0 : W.cell? ⟨tb, 0, none⟩ = some (.int .u64 told)
  c1 : W.cell? ⟨fb, 0, none⟩ = some (.int .u64 e)
  c2 : W.cell? ⟨fb, 1, none⟩ = some vA
  c3 : W.cell? ⟨tb, 15, none⟩ = some (.int .u64 pk)
  c4 : W.cell? ⟨pb, k, none⟩ = some (.int .u64 pk)
theorem Five.keep {W W' : World} {tb fb pb k : Nat} {told e pk : Int} {vA : Value} (h : Five W tb fb pb k told e pk vA) (hk : Keep [] W W') : Five W' tb fb pb k told e pk vA :=
  ⟨(hk.cell (cell_some_lt h.c0) (by simp)).trans h.c0, (hk.cell (cell_some_lt h.c1) (by simp)).trans h.c1, (hk.cell (cell_some_lt h.c2) (by simp)).trans h.c2, (hk.cell (cell_some_lt h.c3) (by simp)).trans h.c3, (hk.cell (cell_some_lt h.c4) (by simp)).trans h.c4⟩
theorem act_small (h : EpRest c s e act past n) : ∀ a, a ∈ act → a < 2 ^ 64 := fun a ha => by
  rw [← acts_eq h] at ha
  unfold actsOf at ha
  obtain ⟨t, _, rfl⟩ := List.mem_map.1 ha
  exact small_get h.w.sm _
/-- The row of deeds that came in. -/
def DeedsAt (w : World) (A : Option Addr) (ds : List (Int × Int × Bool)) : Prop := 0 < ds.length → ∃ b o, A = some ⟨b, o, none⟩ ∧ b < w.heap.size ∧ ∀ k, k < ds.length → w.cell? ⟨b, o + k * 3, none⟩ = some (.int .i64 (ds.getD k (0, 0, false)).1) ∧ w.cell? ⟨b, o + k * 3 + 1, none⟩ = some (.int .i64 (ds.getD k (0, 0, false)).2.1) ∧ w.cell? ⟨b, o + k * 3 + 2, none⟩ = some (.bool (ds.getD k (0, 0, false)).2.2)
end
end Go.Proofs.Ytlbhjahmgdghoaa
