/- Clock: lives of layer 25, by its contract. No condition. -/
import Derived.Test.YtoghcikfkkmfkaaGreatCk2
import Derived.Test.YtoghcikfkkmfkaaGreatLvg
namespace Go.Proofs.YtoghcikfkkmfkaaGreat
open Go.RowKit

def ckB (q : PS) : Bool := okB q && decide (q.th.top.fn = 60)
theorem ckB_ok (q : PS) (h : ckB q = true) : CkOk q := by
  unfold ckB at h
  rw [Bool.and_eq_true, decide_eq_true_eq] at h
  exact ⟨(okB_ok h.1).fits, h.2⟩
def lcC : ConfS := ⟨1, 7, 3⟩
def lc0 : MS := MS.start lcC (gdK lcC 5) 1
def lcTick (s : MS) : MS := (aloneGo PS.tick 0 0 5920 0 (s.call 0 60 [])).1
def lc1 : MS := lcTick lc0
def lc2 : MS := lcTick lc1
def lc3 : MS := lcTick lc2
def lcSee (s : MS) : List (Nat × Nat × Nat) := s.ths.map fun t => (t.frs.length, t.ret.getD 0 0, t.ses.v)
theorem lcOk : lcC.Ok := ⟨by decide, by decide, by decide, by decide, by decide, by decide⟩
theorem lc_d1 : drivesG (fun _ => true) ckB 0 0 PS.tick 9 (lc0.call 0 60 []) = true := by decide +kernel
theorem lc_d2 : drivesG (fun _ => true) ckB 0 0 PS.tick 9 (lc1.call 0 60 []) = true := by decide +kernel
theorem lc_d3 : drivesG (fun _ => true) ckB 0 0 PS.tick 9 (lc2.call 0 60 []) = true := by decide +kernel
theorem lc_e1 : (aloneGo PS.tick 0 0 5920 0 (lc0.call 0 60 [])).2 = (2, true) := by decide +kernel
theorem lc_e2 : (aloneGo PS.tick 0 0 5920 0 (lc1.call 0 60 [])).2 = (2, true) := by decide +kernel
theorem lc_e3 : (aloneGo PS.tick 0 0 5920 0 (lc2.call 0 60 [])).2 = (1, true) := by decide +kernel
theorem lc_s0 : lcSee lc0 = [(0, 0, 0)] := by decide +kernel
theorem lc_s1 : lcSee lc1 = [(0, 1, 1)] := by decide +kernel
theorem lc_s2 : lcSee lc2 = [(0, 2, 2)] := by decide +kernel
theorem lc_s3 : lcSee lc3 = [(0, 0, 2)] := by decide +kernel
theorem lc_of {s : MS} {d r v : Nat} (h : lcSee s = [(d, r, v)]) : s.ths.map (fun t => t.frs.length) = [d] ∧ ∃ t, s.ths[0]? = some t ∧ t.ret.getD 0 0 = r ∧ t.ses.v = v := by
  unfold lcSee at h
  cases hs : s.ths with
  | nil => rw [hs] at h; cases h
  | cons t ts =>
    rw [hs] at h
    simp only [List.map_cons, List.cons.injEq, Prod.mk.injEq, List.map_eq_nil_iff] at h
    obtain ⟨⟨h1, h2, h3⟩, rfl⟩ := h
    exact ⟨by simp [h1], t, rfl, h2, h3⟩
theorem lc_alone {w : World} {i : MI} {s : MS} (h : MachAt w i s) (hl : s.ths.map (fun t => t.frs.length) = [0]) (hd : drivesG (fun _ => true) ckB 0 0 PS.tick 9 (s.call 0 60 []) = true) :
    Calls Tryz.prog 32 #[.pointer (some ⟨i.m, 0, none⟩), .int .i64 0, .func (.func 41) #[] #[], .int .i64 5920, .int .i64 60, .slice none 0 0] w (AloneOut w i (aloneGo PS.tick 0 0 5920 0 (s.call 0 60 []))) :=
  live_alone (clock_do.at_ 0) enter_clock ckB_ok (fun _ _ => trivial) h hl (most := 5920) (l := []) (.inl ⟨rfl, rfl⟩) (by simp) (by omega) hd
set_option maxRecDepth 100000 in
set_option maxHeartbeats 1000000 in
theorem lives25 (w : World) : Calls Tryz.prog 39 #[] w (LivesOut w) := by
  have HN := Lib.hid (fun w => core_new lcC w lcOk)
  rw [show lcC.cells = #[.int .i64 1, .int .i64 7, .int .u64 3] from rfl] at HN
  have HMY := Lib.hid (fun w => law17_many lcC lcOk w)
  rw [show manyN lcC = 5920 from rfl, show lcC.thr = 1 from rfl, show lcC.slots = 7 from rfl, show lcC.stamps = 3 from rfl] at HMY
  go_enter Tryz.func39, Tryz.ntmps39
  go_wp2_with fail
  refine (HN.out _).mono ?_
  rintro r x ⟨i, rfl, hn⟩
  have HA := Lib.hid hn
  have HM : Hid (MachAt x i lc0) := hn.hm
  obtain ⟨ti, hti⟩ : ∃ ti, i.tis[0]? = some ti := HM.out.thAt (t := ThS.zero) rfl
  have HTI := Lib.hid hti
  clear hn HN hti
  unfold ptr
  go_wp2_with fail
  refine (m_thread HM.out 0 ti HTI.out).mono ?_
  rintro r y ⟨rfl, rfl⟩
  have HM0 := HM
  have HG0 := Lib.hid (Goes.refl x i)
  clear HM
  go_wp2_with fail
  have KP1 := m_plan HM0.out
  refine KP1.mono ?_
  clear KP1
  rintro r y1a ⟨rfl, rfl⟩
  have KC1 : Calls Tryz.prog 45 #[.pointer (some ⟨i.p, 0, none⟩)] _ _ := m_conf HM0.out
  go_wp2_with fail
  refine KC1.mono ?_
  clear KC1
  rintro r y1b ⟨rfl, hk⟩
  have HM0 := Lib.hid (HM0.out.keep0 hk)
  have HG0 := Lib.hid (HG0.out.keep0 hk)
  clear hk
  go_wp2_with fail
  refine (HMY.out _).mono ?_
  rintro r y1c ⟨rfl, hk⟩
  have HM0 := Lib.hid (HM0.out.keep0 hk)
  have HG0 := Lib.hid (HG0.out.keep0 hk)
  clear hk
  go_wp2_with fail
  have KA1 := lc_alone HM0.out (lc_of lc_s0).1 lc_d1
  refine KA1.mono ?_
  clear KA1
  rintro r y1 ⟨rfl, i1, hm, hg⟩
  have HM1 : Hid (MachAt y1 i1 lc1) := hm
  have HG1 := Lib.hid (HG0.out.trans hg)
  obtain ⟨t1, ht1, hb1⟩ := HG1.out.tb HTI.out
  obtain ⟨_, th1, hth1, hr1, hv1⟩ := lc_of lc_s1
  have q1 := m_retAt HM1.out ht1 hth1 (j := 0) (by decide)
  have z1 : y1.cell? ⟨t1.tb, 16, none⟩ = some (.int .u64 (th1.ses.v : Nat)) := m_sesAt HM1.out ht1 hth1 4
  rw [hb1, hr1] at q1
  rw [hb1, hv1] at z1
  rw [lc_e1]
  clear hm hg hb1 ht1 hth1 hr1 hv1
  go_wp2_with fail
  have KP2 := m_plan HM1.out
  rw [HG1.out.m] at KP2
  rw [HG1.out.p] at KP2
  refine KP2.mono ?_
  clear KP2
  rintro r y2a ⟨rfl, rfl⟩
  have KC2 : Calls Tryz.prog 45 #[.pointer (some ⟨i.p, 0, none⟩)] _ _ := (by have := m_conf HM1.out; rw [HG1.out.p] at this; exact this)
  go_wp2_with fail
  refine KC2.mono ?_
  clear KC2
  rintro r y2b ⟨rfl, hk⟩
  have HM1 := Lib.hid (HM1.out.keep0 hk)
  have HG1 := Lib.hid (HG1.out.keep0 hk)
  clear hk
  go_wp2_with fail
  refine (HMY.out _).mono ?_
  rintro r y2c ⟨rfl, hk⟩
  have HM1 := Lib.hid (HM1.out.keep0 hk)
  have HG1 := Lib.hid (HG1.out.keep0 hk)
  clear hk
  go_wp2_with fail
  have KA2 := lc_alone HM1.out (lc_of lc_s1).1 lc_d2
  rw [HG1.out.m] at KA2
  refine KA2.mono ?_
  clear KA2 q1 z1
  rintro r y2 ⟨rfl, i2, hm, hg⟩
  have HM2 : Hid (MachAt y2 i2 lc2) := hm
  have HG2 := Lib.hid (HG1.out.trans hg)
  obtain ⟨t2, ht2, hb2⟩ := HG2.out.tb HTI.out
  obtain ⟨_, th2, hth2, hr2, hv2⟩ := lc_of lc_s2
  have q2 := m_retAt HM2.out ht2 hth2 (j := 0) (by decide)
  have z2 : y2.cell? ⟨t2.tb, 16, none⟩ = some (.int .u64 (th2.ses.v : Nat)) := m_sesAt HM2.out ht2 hth2 4
  rw [hb2, hr2] at q2
  rw [hb2, hv2] at z2
  rw [lc_e2]
  clear hm hg hb2 ht2 hth2 hr2 hv2
  go_wp2_with fail
  have KP3 := m_plan HM2.out
  rw [HG2.out.m] at KP3
  rw [HG2.out.p] at KP3
  refine KP3.mono ?_
  clear KP3
  rintro r y3a ⟨rfl, rfl⟩
  have KC3 : Calls Tryz.prog 45 #[.pointer (some ⟨i.p, 0, none⟩)] _ _ := (by have := m_conf HM2.out; rw [HG2.out.p] at this; exact this)
  go_wp2_with fail
  refine KC3.mono ?_
  clear KC3
  rintro r y3b ⟨rfl, hk⟩
  have HM2 := Lib.hid (HM2.out.keep0 hk)
  have HG2 := Lib.hid (HG2.out.keep0 hk)
  clear hk
  go_wp2_with fail
  refine (HMY.out _).mono ?_
  rintro r y3c ⟨rfl, hk⟩
  have HM2 := Lib.hid (HM2.out.keep0 hk)
  have HG2 := Lib.hid (HG2.out.keep0 hk)
  clear hk
  go_wp2_with fail
  have KA3 := lc_alone HM2.out (lc_of lc_s2).1 lc_d3
  rw [HG2.out.m] at KA3
  refine KA3.mono ?_
  clear KA3 q2 z2
  rintro r y3 ⟨rfl, i3, hm, hg⟩
  have HM3 : Hid (MachAt y3 i3 lc3) := hm
  have HG3 := Lib.hid (HG2.out.trans hg)
  obtain ⟨t3, ht3, hb3⟩ := HG3.out.tb HTI.out
  obtain ⟨_, th3, hth3, hr3, hv3⟩ := lc_of lc_s3
  have q3 := m_retAt HM3.out ht3 hth3 (j := 0) (by decide)
  have z3 : y3.cell? ⟨t3.tb, 16, none⟩ = some (.int .u64 (th3.ses.v : Nat)) := m_sesAt HM3.out ht3 hth3 4
  rw [hb3, hr3] at q3
  rw [hb3, hv3] at z3
  rw [lc_e3]
  clear hm hg hb3 ht3 hth3 hr3 hv3
  go_wp2_with fail
  go_ret
  exact ⟨rfl, live_keep HA.out.new HA.out.hk HG3.out⟩
end Go.Proofs.YtoghcikfkkmfkaaGreat
