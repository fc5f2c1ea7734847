/- clock's Tick: each step. Conditions: the machine in memory; the thread is there. -/
import Derived.Test.YtoghcikfkkmfkaaGreatStp
namespace Go.Proofs.YtoghcikfkkmfkaaGreat
open Go.RowKit

def PS.setV (s : PS) (v : Nat) : PS := { s with th := { s.th with ses := { s.th.ses with v := v } } }
/-- What a step of Tick leaves. -/
def PS.tick (s : PS) : PS :=
  if s.th.top.pc = 0 then (if s.conf.stamps ≤ ((s.mem.rd 0 : Nat) : Int) then (((s.touch 0).setReg 0 (s.mem.rd 0)).setPc 1).back [0] else ((s.touch 0).setReg 0 (s.mem.rd 0)).setPc 1)
  else if s.mem.casB 0 (s.th.top.reg 0) then (({ s.setPc 0 with mem := s.mem.casS 0 (s.th.top.reg 0) (inc64 (s.th.top.reg 0)) } : PS).setV (s.th.top.reg 0)).back [s.th.top.reg 0]
  else { s.setPc 0 with mem := s.mem.casS 0 (s.th.top.reg 0) (inc64 (s.th.top.reg 0)) }
theorem thCells_v (i : ThI) (s : ThS) (hr : s.ret.length = 12) (v : Nat) : (thCells i s).toArray.setIfInBounds 16 (.int .u64 (v : Nat)) = (thCells i { s with ses := { s.ses with v := v } }).toArray := by
  have e : ∀ l : List Value, l.length = 12 → ∀ r : List Value, ((l ++ r).toArray.setIfInBounds 16 (.int .u64 (v : Nat))) = (l ++ r.set 4 (.int .u64 (v : Nat))).toArray := fun l hl r => by
    simp [hl]
  unfold thCells
  rw [e _ (by rw [u64s_length, hr])]
  rfl
theorem Stay.setV {w w' : World} {i : PI} {s : PS} (h : Stay w w' i s) (v : Nat) : Stay w (w'.setCell ⟨i.ti.tb, 16, none⟩ (.int .u64 (v : Nat))) i (s.setV v) := by
  have hth := h.at_.hTh
  have hb := hth.ht.set_ 16 (.int .u64 (v : Nat))
  rw [thCells_v _ _ hth.rl] at hb
  have hk : Keep [i.ti.tb] w' (w'.setCell ⟨i.ti.tb, 16, none⟩ (.int .u64 (v : Nat))) := (Keep.refl _ _).set_ _ (.inl (by simp))
  have ht := hth.reset (s2 := { s.th with ses := { s.th.ses with v := v } }) hb hk hth.rl rfl rfl rfl
  have hk2 : Keep i.ti.foot w' (w'.setCell ⟨i.ti.tb, 16, none⟩ (.int .u64 (v : Nat))) := hk.mono (by simp [ThI.foot])
  exact ⟨h.at_.thread ht hk2 (fun x hx => .inl hx), h.keep.trans hk2 (fun x hx => .inl (PI.memF.2 (.inr (.inr (.inr (.inr (.inr (.inr hx))))))))⟩
theorem p_conf {w : World} {i : PI} {s : PS} (h : PAt w i s) : Calls Tryz.prog 45 #[.pointer (some ⟨i.p, 0, none⟩)] w fun e w' => e = .returned (.agg #[.int .i64 s.conf.thr, .int .i64 s.conf.slots, .int .u64 s.conf.stamps]) ∧ Keep [] w w' := plan_conf s.conf i.p w h.hP
set_option maxRecDepth 100000 in
set_option maxHeartbeats 1000000 in
theorem clock_tick0 (w : World) (i : MI) (s : MS) (h : MachAt w i s) (k : Nat) (ti : ThI) (t : ThS) (h1 : i.tis[k]? = some ti) (h2 : s.ths[k]? = some t) (hp : 0 < t.frs.length) (hf : Fits (s.part t)) (hpc : t.top.pc = 0) :
    Calls Tryz.prog 84 #[.pointer (some ⟨i.m, 0, none⟩), .int .i64 (k : Nat)] w (StepOut w (i.part ti) (s.part t).tick) := by
  have HO := Lib.hid (Opened.start h h1 h2 hp)
  have HFW : Hid (Few (s.part t)) := Lib.hid hf.few
  have HPC : Hid ((s.part t).th.top.pc = 0) := Lib.hid hpc
  generalize hpost : (s.part t).tick = post
  have HPO : Hid ((if (s.part t).conf.stamps ≤ (((s.part t).mem.rd 0 : Nat) : Int) then ((((s.part t).touch 0).setReg 0 ((s.part t).mem.rd 0)).setPc 1).back [0] else (((s.part t).touch 0).setReg 0 ((s.part t).mem.rd 0)).setPc 1) = post) := Lib.hid (by
    rw [← hpost]
    unfold PS.tick
    rw [if_pos (show (s.part t).th.top.pc = 0 from hpc)])
  clear h h1 h2 hp hf hpc hpost
  go_enter Tryz.func84, Tryz.ntmps84
  go_wp2_with fail
  refine HO.out.thread.mono ?_
  rintro r x ⟨rfl, rfl⟩
  go_wp2_with fail
  refine HO.out.top.mono ?_
  rintro r x ⟨rfl, hd⟩
  have HX := Lib.hid (HO.out.drawn hd).at_
  clear hd HO
  rw [show i.m = (i.part ti).m from rfl, show ti.tb = (i.part ti).ti.tb from rfl, show ti.topB = (i.part ti).ti.topB from rfl]
  generalize i.part ti = ip at *
  generalize s.part t = q at *
  have hpc := HX.out.pc
  rw [HPC.out] at hpc
  go_upto_region 8 with fail
  have HXc := Lib.hid HX.out.drew
  clear hpc HX
  go_region_held3 (fun w' => True) (trivial) (first
    | (go_at_call 12; refine (p_mem _ ip q HXc.out.st.at_).mono ?_; rintro r x ⟨rfl, rfl⟩)
    | (go_at_call 13; refine (p_load _ ip q HXc.out.st.at_ HFW.out 0).mono ?_; rintro r x ⟨rfl, hst⟩; have HXc := Lib.hid (HXc.out.stay hst HXc.out.deep); have hcr := HXc.out.r0; have hfr := HXc.out.fz 2; clear hst))
  have HX := Lib.hid (HXc.out.setReg 0 (q.mem.rd 0))
  have HV := Lib.hid (HXc.out.reg_set (q.mem.rd 0) (k := 0) (by decide))
  simp only [Nat.add_zero] at HX
  clear hcr hfr HXc
  generalize (x.setCell ⟨ip.ti.topB, 2, none⟩ (.int .u64 (q.mem.rd 0 : Nat))) = x2 at *
  have HCO : Hid (((q.touch 0).setReg 0 (q.mem.rd 0)).conf = q.conf) := Lib.hid rfl
  generalize (q.touch 0).setReg 0 (q.mem.rd 0) = q2 at *
  have hpc := HX.out.pc
  have hpf := HX.out.fz 1
  go_upto_region 10 with fail
  have HX3 := Lib.hid (HX.out.setPc 1)
  have HV3 : Hid ((q2.setPc 1).th.top.reg 0 = q.mem.rd 0) := Lib.hid (by rw [HX.out.reg_pc]; exact HV.out)
  have HCO3 : Hid ((q2.setPc 1).conf = q.conf) := HCO
  clear hpf hpc HX HV HCO
  generalize (x2.setCell ⟨ip.ti.topB, 1, none⟩ (.int .i64 1)) = x3 at *
  generalize q2.setPc 1 = q3 at *
  have hr0 := HX3.out.r0
  rw [HV3.out] at hr0
  have HXc := Lib.hid HX3.out.drew
  generalize q.mem.rd 0 = v at *
  by_cases hge : q.conf.stamps ≤ ((v : Nat) : Int)
  · have HPO2 : Hid (q3.back [0] = post) := Lib.hid (by rw [← HPO.out, if_pos hge])
    have hz : q.conf.stamps ≤ ((v : Nat) : Int) := hge
    rw [← HCO3.out] at hz
    have hf2 := conf_f2 q3.conf.thr q3.conf.slots q3.conf.stamps
    clear hge HPO
    go_region_held3 (fun w' => w'.cell? ⟨ip.ti.topB, 2, none⟩ = some (.int .u64 (v : Nat))) (first | exact hr0 | go_keep) (first
      | (go_at_call 44; refine (p_plan _ ip q3 HXc.out.st.at_).mono ?_; rintro r x ⟨rfl, rfl⟩)
      | (go_at_call 45; refine (p_conf HXc.out.st.at_).mono ?_; rintro r x ⟨rfl, hk⟩; have HXc := Lib.hid (HXc.out.keep0 hk); have hr0 : x.cell? ⟨ip.ti.topB, 2, none⟩ = some (.int .u64 (v : Nat)) := (by have := HXc.out.r0; rw [HV3.out] at this; exact this); clear hk))
    clear hf2
    go_wp2_with fail
    refine (p_back0 _ ip q3 HXc.out.st.at_ HXc.out.deep).mono ?_
    rintro r y ⟨rfl, ti', hto⟩
    have H4 := Lib.hid (HXc.out.back hto)
    clear hto
    go_wp2_with fail
    go_end0
    rw [← HPO2.out]
    exact ⟨rfl, _, H4.out⟩
  · have HPO2 : Hid (q3 = post) := Lib.hid (by rw [← HPO.out, if_neg hge])
    have hz : ¬ q.conf.stamps ≤ ((v : Nat) : Int) := hge
    rw [← HCO3.out] at hz
    have hf2 := conf_f2 q3.conf.thr q3.conf.slots q3.conf.stamps
    clear hge HPO
    go_region_held3 (fun w' => w'.cell? ⟨ip.ti.topB, 2, none⟩ = some (.int .u64 (v : Nat))) (first | exact hr0 | go_keep) (first
      | (go_at_call 44; refine (p_plan _ ip q3 HXc.out.st.at_).mono ?_; rintro r x ⟨rfl, rfl⟩)
      | (go_at_call 45; refine (p_conf HXc.out.st.at_).mono ?_; rintro r x ⟨rfl, hk⟩; have HXc := Lib.hid (HXc.out.keep0 hk); have hr0 : x.cell? ⟨ip.ti.topB, 2, none⟩ = some (.int .u64 (v : Nat)) := (by have := HXc.out.r0; rw [HV3.out] at this; exact this); clear hk))
    go_wp2_with fail
    go_end0
    rw [← HPO2.out]
    exact ⟨rfl, _, HXc.out.to⟩
end Go.Proofs.YtoghcikfkkmfkaaGreat
