/- clock's Tick: its second step; clock's Do. Conditions: the machine in memory; the thread is within Tick. -/
import Derived.Test.YtoghcikfkkmfkaaGreatCk1
namespace Go.Proofs.YtoghcikfkkmfkaaGreat
open Go.RowKit

set_option maxRecDepth 100000 in
set_option maxHeartbeats 1000000 in
theorem clock_tick1 (w : World) (i : MI) (s : MS) (h : MachAt w i s) (k : Nat) (ti : ThI) (t : ThS) (h1 : i.tis[k]? = some ti) (h2 : s.ths[k]? = some t) (hp : 0 < t.frs.length) (hf : Fits (s.part t)) (hpc : t.top.pc ≠ 0) :
    Calls Tryz.prog 84 #[.pointer (some ⟨i.m, 0, none⟩), .int .i64 (k : Nat)] w (StepOut w (i.part ti) (s.part t).tick) := by
  have HO := Lib.hid (Opened.start h h1 h2 hp)
  have HFW : Hid (Few (s.part t)) := Lib.hid hf.few
  have hp0 : ((s.part t).th.top.pc == 0) = false := by rw [beq_eq_false_iff_ne]; exact hpc
  generalize hpost : (s.part t).tick = post
  have HPO : Hid ((if (s.part t).mem.casB 0 ((s.part t).th.top.reg 0) then (({ (s.part t).setPc 0 with mem := (s.part t).mem.casS 0 ((s.part t).th.top.reg 0) (inc64 ((s.part t).th.top.reg 0)) } : PS).setV ((s.part t).th.top.reg 0)).back [(s.part t).th.top.reg 0]
      else { (s.part t).setPc 0 with mem := (s.part t).mem.casS 0 ((s.part t).th.top.reg 0) (inc64 ((s.part t).th.top.reg 0)) }) = post) := Lib.hid (by
    rw [← hpost]
    unfold PS.tick
    rw [if_neg (show ¬ (s.part t).th.top.pc = 0 from hpc)])
  clear h h1 h2 hp hf hpc hpost
  go_enter Tryz.func84, Tryz.ntmps84
  go_wp2_with fail
  refine HO.out.thread.mono ?_
  rintro r x ⟨rfl, rfl⟩
  go_wp2_with fail
  refine HO.out.top.mono ?_
  rintro r x ⟨rfl, hd⟩
  have HX := Lib.hid (HO.out.drawn hd).at_
  clear hd HO
  rw [show i.m = (i.part ti).m from rfl, show ti.tb = (i.part ti).ti.tb from rfl, show ti.topB = (i.part ti).ti.topB from rfl]
  generalize i.part ti = ip at *
  generalize s.part t = q at *
  have hpc := HX.out.pc
  have hpf := HX.out.fz 1
  generalize hP : q.th.top.pc = pc at hpc hp0
  clear hP
  go_upto_region 4 with fail
  have HX3 := Lib.hid (HX.out.setPc 0)
  have HV3 : Hid ((q.setPc 0).th.top.reg 0 = q.th.top.reg 0) := Lib.hid (HX.out.reg_pc 0 0)
  have HM3 : Hid ((q.setPc 0).mem = q.mem) := Lib.hid rfl
  clear hpf hpc hp0 HX
  generalize (x.setCell ⟨ip.ti.topB, 1, none⟩ (.int .i64 0)) = x3 at *
  generalize q.th.top.reg 0 = v at *
  have HFW3 : Hid (Few (q.setPc 0)) := HFW
  generalize q.setPc 0 = q3 at *
  rw [← HM3.out] at HPO
  have hr0 := HX3.out.r0
  rw [HV3.out] at hr0
  have HXc := Lib.hid HX3.out.drew
  have hwi := u64_inc v
  clear HX3
  have HDP : Hid (0 < ({ q3 with mem := q3.mem.casS 0 v (inc64 v) } : PS).th.frs.length) := Lib.hid HXc.out.deep
  go_region_held3 (fun w' => w'.cell? ⟨ip.ti.topB, 2, none⟩ = some (.int .u64 (v : Nat))) (first | exact hr0 | go_keep) (first
    | (go_at_call 12; refine (p_mem _ ip q3 HXc.out.st.at_).mono ?_; rintro r x ⟨rfl, rfl⟩)
    | (go_at_call 119; refine (p_cas _ ip q3 HXc.out.st.at_ HFW3.out 0 v (inc64 v)).mono ?_; rintro r x ⟨rfl, hst⟩; have HXc := Lib.hid (HXc.out.stay hst HDP.out); have hr0 : x.cell? ⟨ip.ti.topB, 2, none⟩ = some (.int .u64 (v : Nat)) := (by have h0 := HXc.out.r0; rw [show ({ q3 with mem := q3.mem.casS 0 v (inc64 v) } : PS).th.top.reg 0 = v from HV3.out] at h0; exact h0); clear hst))
  clear hwi
  have HV4 : Hid (({ q3 with mem := q3.mem.casS 0 v (inc64 v) } : PS).th.top.reg 0 = v) := HV3
  generalize ({ q3 with mem := q3.mem.casS 0 v (inc64 v) } : PS) = q4 at *
  cases hcas : q3.mem.casB 0 v with
  | true =>
    have HPO2 : Hid ((q4.setV v).back [v] = post) := Lib.hid (by rw [← HPO.out, hcas, if_pos rfl])
    have hvf := HXc.out.tfz 16
    have hvc : x.cell? ⟨ip.ti.tb, 16, none⟩ = some (.int .u64 q4.th.ses.v) := HXc.out.ses 4
    clear HPO hcas
    go_upto_region 6 with fail
    have HXe : Hid (At w (x.setCell ⟨ip.ti.tb, 16, none⟩ (.int .u64 (v : Nat))) ip (q4.setV v)) := Lib.hid ⟨HXc.out.st.setV v, HXc.out.deep⟩
    have HV5 : Hid ((q4.setV v).th.top.reg 0 = v) := HV4
    clear hvf hvc hr0 HXc
    generalize (x.setCell ⟨ip.ti.tb, 16, none⟩ (.int .u64 (v : Nat))) = x5 at *
    generalize q4.setV v = q5 at *
    have hr0 := HXe.out.r0
    rw [HV5.out] at hr0
    go_wp2_with fail
    refine (p_back1 _ ip q5 HXe.out.st.at_ HXe.out.deep v).mono ?_
    rintro r y ⟨rfl, ti', hto⟩
    have H4 := Lib.hid (HXe.out.back hto)
    clear hto
    go_wp2_with fail
    go_end0
    rw [← HPO2.out]
    exact ⟨rfl, _, H4.out⟩
  | false =>
    have HPO2 : Hid (q4 = post) := Lib.hid (by rw [← HPO.out, hcas, if_neg (by decide)])
    clear HPO hcas
    go_wp2_with fail
    go_end0
    rw [← HPO2.out]
    exact ⟨rfl, _, HXc.out.to⟩
theorem clock_tick (w : World) (i : MI) (s : MS) (h : MachAt w i s) (k : Nat) (ti : ThI) (t : ThS) (h1 : i.tis[k]? = some ti) (h2 : s.ths[k]? = some t) (hp : 0 < t.frs.length) (hf : Fits (s.part t)) :
    Calls Tryz.prog 84 #[.pointer (some ⟨i.m, 0, none⟩), .int .i64 (k : Nat)] w (StepOut w (i.part ti) (s.part t).tick) := by
  by_cases hpc : t.top.pc = 0
  · exact clock_tick0 w i s h k ti t h1 h2 hp hf hpc
  · exact clock_tick1 w i s h k ti t h1 h2 hp hf hpc
structure CkOk (s : PS) : Prop where
  fits : Fits s
  fn : s.th.top.fn = 60
theorem enter_clock (args : Array Value) (w : World) : (callFunc 41 args).run Tryz.prog w = .ok (.enter 41 args) w := by kernel_rfl
set_option maxRecDepth 100000 in
theorem clock_do : RoutineOk 41 CkOk PS.tick := by
  intro w i s h k ti t h1 h2 hp hok
  have HO := Lib.hid (Opened.start h h1 h2 hp)
  have HFN : Hid ((s.part t).th.top.fn = 60) := Lib.hid hok.fn
  have HF := Lib.hid hok.fits
  clear h h1 h2 hp hok
  go_enter Tryz.func41, Tryz.ntmps41
  go_wp2_with fail
  refine HO.out.thread.mono ?_
  rintro r x ⟨rfl, rfl⟩
  go_wp2_with fail
  refine HO.out.top.mono ?_
  rintro r x ⟨rfl, hd⟩
  have HX := Lib.hid (HO.out.drawn hd)
  have KT := Lib.hid (clock_tick x i s HX.out.hm k ti t HX.out.h1 HX.out.h2 HX.out.at_.deep HF.out)
  clear hd HO
  have hfn : x.cell? ⟨ti.topB, 0, none⟩ = some (.int .i64 60) := by
    have := HX.out.at_.fn
    rw [HFN.out] at this
    exact this
  go_wp2_with fail
  refine KT.out.mono ?_
  rintro r y ⟨rfl, ti', hto⟩
  have HZ := Lib.hid (PTo.of_stay HX.out.at_.st hto)
  clear hto
  go_wp2_with fail
  go_end0
  exact ⟨rfl, ti', HZ.out⟩
end Go.Proofs.YtoghcikfkkmfkaaGreat
