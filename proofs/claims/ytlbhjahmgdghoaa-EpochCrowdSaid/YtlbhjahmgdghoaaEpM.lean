/- epoch's rows: a machine at rest in memory, and each routine alone upon it. Conditions: few deeds were done. -/
import Derived.Test.YtlbhjahmgdghoaaEpNow
namespace Go.Proofs.Ytlbhjahmgdghoaa
open Go.RowKit

structure MachE (c : ConfS) (w0 : World) (m0 : Nat) (wr : World) (i : MI) (s : MS) (e : Nat) (act past : List Nat) (n : Nat) : Prop where
  hm : MachAt wr i s
  im : i.m = m0
  hr : EpRest c s e act past n
  hk : Keep [] w0 wr
  new : ∀ x, x ∈ i.foot → w0.heap.size ≤ x
section
variable {c : ConfS} {w0 wr w2 : World} {m0 e e2 n n2 k : Nat} {i i2 : MI} {s s2 : MS} {act past act2 past2 : List Nat} {t : ThS}
theorem MachE.go (h : MachE c w0 m0 wr i s e act past n) (hm : MachAt w2 i2 s2) (hg : Goes wr w2 i i2) (hr : EpRest c s2 e2 act2 past2 n2) : MachE c w0 m0 w2 i2 s2 e2 act2 past2 n2 :=
  ⟨hm, hg.m.trans h.im, hr, h.hk.trans hg.keep (fun x hx => .inr (h.new x hx)), fun x hx => (hg.foot x hx).elim (h.new x) (fun e => Nat.le_trans h.hk.size e)⟩
theorem MachE.keep0 (h : MachE c w0 m0 wr i s e act past n) (hk : Keep [] wr w2) : MachE c w0 m0 w2 i s e act past n := ⟨h.hm.keep0 hk, h.im, h.hr, h.hk.trans hk (by simp), h.new⟩
def EpOut (c : ConfS) (w0 : World) (m0 : Nat) (wr : World) (i : MI) (s : MS) (k m : Nat) (e : Nat) (act past : List Nat) (n : Nat) (th : ThS) (r : Ending) (w2 : World) : Prop :=
  r = .returned (.tuple #[.int .i64 (m : Nat), .bool true]) ∧ ∃ i2 s2, MachE c w0 m0 w2 i2 s2 e act past n ∧ s2.ths = s.ths.set k th ∧ Goes wr w2 i i2
theorem me_of (h : MachE c w0 m0 wr i s e act past n) (ht : s.ths[k]? = some t) {fn : Int} {m : Nat} {q : PS} (he : EndsG EpOk (PS.epoch k) m (OneE s c t fn) q) (most : Nat) (h1 : m ≤ most) (h2 : most ≤ 100000) (hr : EpRest c (s.join k q) e2 act2 past2 n2) {th : ThS} (hth : (s.join k q).ths[k]? = some th) :
    Calls Try.prog 20 #[.pointer (some ⟨m0, 0, none⟩), .int .i64 (k : Nat), fnV 37, .int .i64 (most : Nat), .int .i64 fn, .slice none 0 0] wr (EpOut c w0 m0 wr i s k m e2 act2 past2 n2 th) := by
  have hkl := (List.getElem?_eq_some_iff.1 ht).1
  have := ep_alone h.hm h.hr ht he most h1 h2
  rw [h.im] at this
  refine this.mono ?_
  rintro r w2 ⟨rfl, i2, hm2, hg⟩
  refine ⟨rfl, i2, _, h.go hm2 hg hr, ?_, hg⟩
  have e1 : (s.join k q).ths[k]? = some q.th := part_join hkl
  rw [e1] at hth
  injection hth with hth
  show s.ths.set k q.th = _
  rw [hth]
theorem me_enter (h : MachE c w0 m0 wr i s e act past n) (ht : s.ths[k]? = some t) (hn : n ≤ 5000) (hp : t.ses.pinned = false) (most : Nat) (h1 : 3 ≤ most) (h2 : most ≤ 100000) :
    Calls Try.prog 20 #[.pointer (some ⟨m0, 0, none⟩), .int .i64 (k : Nat), fnV 37, .int .i64 (most : Nat), .int .i64 10, .slice none 0 0] wr (EpOut c w0 m0 wr i s k 3 e (act.set k (actN e)) (past.set k (e - 1)) (n + 1) ⟨padTo 12 [], { t.ses with past := e - 1 }, [], t.row, t.stk⟩) := by
  obtain ⟨q, q1, q2, q3⟩ := rest_enter h.hr ht hn hp
  exact me_of h ht q1 most h1 h2 q2 q3
theorem me_enter_p (h : MachE c w0 m0 wr i s e act past n) (ht : s.ths[k]? = some t) (hn : n ≤ 5000) (hp : t.ses.pinned = true) (most : Nat) (h1 : 1 ≤ most) (h2 : most ≤ 100000) :
    Calls Try.prog 20 #[.pointer (some ⟨m0, 0, none⟩), .int .i64 (k : Nat), fnV 37, .int .i64 (most : Nat), .int .i64 10, .slice none 0 0] wr (EpOut c w0 m0 wr i s k 1 e act past (n + 1) ⟨padTo 12 [], t.ses, [], t.row, t.stk⟩) := by
  obtain ⟨q, q1, q2, q3⟩ := rest_enter_p h.hr ht hn hp
  exact me_of h ht q1 most h1 h2 q2 q3
theorem me_leave (h : MachE c w0 m0 wr i s e act past n) (ht : s.ths[k]? = some t) (hn : n ≤ 5000) (hp : t.ses.pinned = false) (most : Nat) (h1 : 1 ≤ most) (h2 : most ≤ 100000) :
    Calls Try.prog 20 #[.pointer (some ⟨m0, 0, none⟩), .int .i64 (k : Nat), fnV 37, .int .i64 (most : Nat), .int .i64 11, .slice none 0 0] wr (EpOut c w0 m0 wr i s k 1 e (act.set k 0) past (n + 1) ⟨padTo 12 [], t.ses, [], t.row, t.stk⟩) := by
  obtain ⟨q, q1, q2, q3⟩ := rest_leave h.hr ht hn hp
  exact me_of h ht q1 most h1 h2 q2 q3
theorem me_leave_p (h : MachE c w0 m0 wr i s e act past n) (ht : s.ths[k]? = some t) (hn : n ≤ 5000) (hp : t.ses.pinned = true) (most : Nat) (h1 : 1 ≤ most) (h2 : most ≤ 100000) :
    Calls Try.prog 20 #[.pointer (some ⟨m0, 0, none⟩), .int .i64 (k : Nat), fnV 37, .int .i64 (most : Nat), .int .i64 11, .slice none 0 0] wr (EpOut c w0 m0 wr i s k 1 e act past (n + 1) ⟨padTo 12 [], t.ses, [], t.row, t.stk⟩) := by
  obtain ⟨q, q1, q2, q3⟩ := rest_leave_p h.hr ht hn hp
  exact me_of h ht q1 most h1 h2 q2 q3
theorem me_advance (h : MachE c w0 m0 wr i s e act past n) (ht : s.ths[k]? = some t) (hn : n ≤ 5000) (hl : lagAny c e act = false) (most : Nat) (h1 : c.thr.toNat + 2 ≤ most) (h2 : most ≤ 100000) :
    Calls Try.prog 20 #[.pointer (some ⟨m0, 0, none⟩), .int .i64 (k : Nat), fnV 37, .int .i64 (most : Nat), .int .i64 12, .slice none 0 0] wr (EpOut c w0 m0 wr i s k (c.thr.toNat + 2) (e + 1) act past (n + 1) ⟨padTo 12 [1], t.ses, [], t.row, t.stk⟩) := by
  obtain ⟨q, q1, q2, q3⟩ := rest_advance h.hr ht hn hl
  exact me_of h ht q1 most h1 h2 q2 q3
theorem me_advance0 (h : MachE c w0 m0 wr i s e act past n) (ht : s.ths[k]? = some t) (hn : n ≤ 5000) (hl : lagAny c e act = true) (most : Nat) (h1 : c.thr.toNat + 1 ≤ most) (h2 : most ≤ 100000) :
    ∃ m, m ≤ c.thr.toNat + 1 ∧ Calls Try.prog 20 #[.pointer (some ⟨m0, 0, none⟩), .int .i64 (k : Nat), fnV 37, .int .i64 (most : Nat), .int .i64 12, .slice none 0 0] wr (EpOut c w0 m0 wr i s k m e act past (n + 1) ⟨padTo 12 [0], t.ses, [], t.row, t.stk⟩) := by
  obtain ⟨m, q, hm, q1, q2, q3⟩ := rest_advance0 h.hr ht hn hl
  exact ⟨m, hm, me_of h ht q1 most (by omega) h2 q2 q3⟩
theorem words0_one (ho : c.Ok) : (words0 c).getD 1 0 = 3 := by
  have hge := wordsN_ge ho
  unfold words0
  rw [linkW_ne (fun j => by unfold ixN; omega), treeW_ne (fun n hn => by unfold ixN; omega), getD_set_ne (by omega), getD_set_eq (by simp; omega)]
theorem words0_act {t : Nat} (ht : (t : Int) < c.thr) : (words0 c).getD (3 + 8 * t) 0 = 0 := by
  unfold words0
  rw [linkW_ne (fun j => by unfold ixN; omega), treeW_ne (fun n hn => by unfold ixN; omega), base_far (by omega)]
theorem start_restE (ho : c.Ok) : EpRest c (MS.start c (gdK c 5) c.thr.toNat) 3 (List.replicate c.thr.toNat 0) (List.replicate c.thr.toNat 0) 0 := by
  have hz : ∀ t n : Nat, (List.replicate n 0).getD t 0 = 0 := fun t n => by
    rw [List.getD_eq_getElem?_getD, List.getElem?_replicate]
    split <;> rfl
  refine ⟨⟨ho, words0_length c, words0_small ho, rfl⟩, rfl, List.length_replicate .., start_rest, rfl, rfl, by show (0 : Int) ≤ 0; decide, by show (0 : Int) ≤ _; omega, by show (0 : Int) ≤ 0; decide, by show (0 : Int) ≤ _; omega, words0_one ho, by omega, List.length_replicate .., fun t ht => ?_, List.length_replicate .., fun t th hth => ?_⟩
  · rw [hz]
    exact words0_act ht
  · rw [hz]
    have := List.eq_of_mem_replicate (List.mem_of_getElem? (show (List.replicate c.thr.toNat ThS.zero)[t]? = some th from hth))
    rw [this]
    rfl
theorem start_me {w w1 wr : World} (ho : c.Ok) (hk : Keep [] w w1) (h : NewAt c w1 wr i (gdK c 5) c.thr.toNat) : MachE c w i.m wr i (MS.start c (gdK c 5) c.thr.toNat) 3 (List.replicate c.thr.toNat 0) (List.replicate c.thr.toNat 0) 0 :=
  ⟨h.hm, rfl, start_restE ho, hk.trans h.hk (by simp), fun x hx => Nat.le_trans hk.size (h.new x hx)⟩
/-- A word is read: the machine counts it. -/
theorem me_load (h : MachE c w0 m0 wr i s e act past n) (ht : s.ths[k]? = some t) (hn : n ≤ 5000) (a : Int) : Calls Try.prog 64 #[.pointer (some ⟨i.mi.mb, 0, none⟩), .int .i64 a] wr fun r w' => r = .returned (.int .u64 (s.mem.rd a : Nat)) ∧ ∃ i2, MachAt w' i2 (s.join k ((s.part t).touch a)) ∧ Goes wr w' i i2 := by
  obtain ⟨ti, h1⟩ := h.hm.thAt ht
  have ha := h.hr.a1
  refine (p_load wr (i.part ti) (s.part t) (h.hm.part h1 ht) (by show s.mem.acc ≤ 4611686018427387904; omega) a).mono ?_
  rintro r w' ⟨rfl, hst⟩
  obtain ⟨h2, h3⟩ := h.hm.join h1 ht hst.to
  exact ⟨rfl, _, h2, h3⟩
theorem ses_at {w : World} {i : MI} {s : MS} (h : MachAt w i s) (ht : s.ths[k]? = some t) : ∃ ti, i.tis[k]? = some ti ∧ w.cell? ⟨ti.tb, 15, none⟩ = some (.int .u64 t.ses.past) ∧ w.cell? ⟨ti.tb, 0, none⟩ = some (.int .u64 (t.ret.getD 0 0)) := by
  obtain ⟨ti, h1⟩ := h.thAt ht
  have hth := h.th k ti t h1 ht
  refine ⟨ti, h1, th_cell hth 3, ?_⟩
  rw [hth.ht.cell]
  have := hth.rl
  cases hr : t.ret with
  | nil => rw [hr] at this; cases this
  | cons a b => simp [thCells, u64s, hr]
end
theorem fld_act (e : Nat) : fld (actN e) 0 1 = 1 := by
  unfold actN fld setF
  simp only [Nat.reducePow, Nat.reduceAdd, Nat.div_one, Nat.pow_zero]
  omega
theorem fld_act2 {e : Nat} (h : e < 2 ^ 63) : fld (actN e) 1 63 = e := by
  unfold actN fld setF
  simp only [Nat.reducePow, Nat.reduceAdd, Nat.pow_zero] at h ⊢
  omega
theorem lags_act {e : Nat} (h : e < 2 ^ 63) : lagsN (actN e) e = false := by
  unfold lagsN
  rw [fld_act, fld_act2 h]
  simp
theorem lags_zero (e : Nat) : lagsN 0 e = false := by
  unfold lagsN
  rw [show fld 0 0 1 = 0 by decide]
  rfl
end Go.Proofs.Ytlbhjahmgdghoaa
