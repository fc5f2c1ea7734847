/- epoch's Advance: each step. Conditions: the machine in memory; the thread is there. -/
import Derived.Test.YtoghcikfkkmfkaaGreatEp2
namespace Go.Proofs.YtoghcikfkkmfkaaGreat
open Go.RowKit

/-- What a step of Advance leaves; n: how many threads there are. -/
def PS.advance (s : PS) : PS :=
  if s.th.top.pc = 0 then ((s.touch 1).setReg 0 (s.mem.rd 1)).setPc 1
  else if s.th.top.pc = 1 then
    (if lagsN (s.mem.rd (actI (s.th.top.reg 1))) (s.th.top.reg 0) then (s.touch (actI (s.th.top.reg 1))).back [0]
     else if ((s.th.top.reg 1 + 1 : Nat) : Int) = s.conf.thr then ((s.touch (actI (s.th.top.reg 1))).setReg 1 (s.th.top.reg 1 + 1)).setPc 2
     else (s.touch (actI (s.th.top.reg 1))).setReg 1 (s.th.top.reg 1 + 1))
  else ({ s with mem := s.mem.casS 1 (s.th.top.reg 0) (inc64 (s.th.top.reg 0)) } : PS).back [if s.mem.casB 1 (s.th.top.reg 0) then 1 else 0]
/-- How many threads a machine has, as a thread sees it. -/
def Thr (i : PI) (c : ConfS) : Prop := ∃ A cap, i.tv = .slice A c.thr.toNat cap
theorem p_threads {w : World} {i : PI} {s : PS} (h : PAt w i s) (ht : Thr i s.conf) : Calls Tryz.prog 131 #[.pointer (some ⟨i.m, 0, none⟩)] w fun r w' => r = .returned (.int .i64 s.conf.thr) ∧ w = w' := by
  obtain ⟨A, cap, htv⟩ := ht
  have hc3 : w.cell? ⟨i.m, 3, none⟩ = some (.slice A s.conf.thr.toNat cap) := by rw [← htv]; exact h.mach.cell 3
  have e : ((s.conf.thr.toNat : Nat) : Int) = s.conf.thr := by have := h.ok.t1; omega
  clear h htv
  go_enter Tryz.func131, Tryz.ntmps131
  go_wp2
  go_ret
  rw [← e]
  exact ⟨rfl, rfl⟩
set_option maxRecDepth 100000 in
theorem advance_0 (w : World) (i : PI) (s : PS) (h : PAt w i s) (hf : Fits s) (k : Nat) (hpc : s.th.top.pc = 0) :
    Calls Tryz.prog 102 #[runE i k] w (StepOut w i (((s.touch 1).setReg 0 (s.mem.rd 1)).setPc 1)) := by
  have HX := Lib.hid (Box4.new h k)
  have HF := Lib.hid hf
  have HPC := Lib.hid hpc
  clear h hf hpc
  unfold runE
  unfold ptr at *
  go_enter Tryz.func102, Tryz.ntmps102
  go_upto_region 1 with fail
  generalize w.heap.size = nb at HX ⊢
  generalize w.alloc (.cells #[.pointer (some ⟨i.m, 0, none⟩), .int .i64 (k : Nat), .pointer (some ⟨i.ti.tb, 0, none⟩), .pointer (some ⟨i.ti.topB, 0, none⟩)] 161) = w1 at HX ⊢
  have hb0 := HX.out.b0
  have hb1 := HX.out.b1
  have hb2 := HX.out.b2
  have hb3 := HX.out.b3
  have hpc := HX.out.pc HF.out.deep
  rw [HPC.out] at hpc
  go_upto_region 8 with fail
  have hne : nb ≠ i.ti.topB := HX.out.ne_ HF.out.deep
  have hne2 := hne.symm
  have HXc := Lib.hid HX.out.drew
  clear hpc
  go_region_held3 (fun w' => w'.cell? ⟨nb, 0, none⟩ = some (.pointer (some ⟨i.m, 0, none⟩)) ∧ w'.cell? ⟨nb, 1, none⟩ = some (.int .i64 (k : Nat)) ∧ w'.cell? ⟨nb, 2, none⟩ = some (.pointer (some ⟨i.ti.tb, 0, none⟩)) ∧ w'.cell? ⟨nb, 3, none⟩ = some (.pointer (some ⟨i.ti.topB, 0, none⟩))) (first | exact ⟨hb0, hb1, hb2, hb3⟩ | go_keep) (first
    | (go_at_call 127; refine (ep_now _ i s HXc.out.hS.at_ HF.out.few k).mono ?_; rintro r x ⟨rfl, hst⟩; have HXc := Lib.hid (HXc.out.stay hst); have hb0 := HXc.out.b0; have hb1 := HXc.out.b1; have hb2 := HXc.out.b2; have hb3 := HXc.out.b3; have hcr := HXc.out.r0 (s := s.touch 1) HF.out.deep; have hfr := HXc.out.fr (s := s.touch 1) HF.out.deep 2; clear hst))
  have HS2 := Lib.hid (HXc.out.hS.setReg (s := s.touch 1) HF.out.deep 0 (s.mem.rd 1))
  have hd : 0 < ((s.touch 1).setReg 0 (s.mem.rd 1)).th.frs.length := by rw [PS.setReg_len]; exact HF.out.deep
  have HD := Lib.hid hd
  have hpc := (HS2.out.at_.frame hd).c1
  have hpf := (HS2.out.at_.frame hd).1.frozen 1
  simp only [Nat.add_zero] at HS2 hpc hpf
  clear hd HXc hb0 hb1 hb2 hb3 hcr hfr hne hne2
  generalize (x.setCell ⟨i.ti.topB, 2, none⟩ (.int .u64 (s.mem.rd 1 : Nat))) = x2 at *
  go_wp2_with fail
  go_end0
  exact ⟨rfl, _, (HS2.out.setPc HD.out 1).to⟩
theorem setReg_reg {s : PS} {j v : Nat} (hp : 0 < s.th.frs.length) (hl : j < s.th.top.r.length) : (s.setReg j v).th.top.reg j = v := by
  unfold PS.setReg
  show (ThS.setTop s.th { s.th.top with r := s.th.top.r.set j v }).top.reg j = v
  rw [ThS.top_setTop _ _ hp]
  show (s.th.top.r.set j v).getD j 0 = v
  simp [hl]
/-- What Advance's later steps ask. -/
structure AdvOk (s : PS) : Prop where
  fits : Fits s
  reg1 : ((s.th.top.reg 1 : Nat) : Int) < s.conf.thr
  rd : ∀ a, s.mem.rd a < 2 ^ 64
set_option maxRecDepth 100000 in
set_option maxHeartbeats 1000000 in
theorem advance_1 (w : World) (i : PI) (s : PS) (h : PAt w i s) (hth : Thr i s.conf) (hok : AdvOk s) (k : Nat) (hpc : s.th.top.pc = 1) :
    Calls Tryz.prog 102 #[runE i k] w (StepOut w i (if lagsN (s.mem.rd (actI (s.th.top.reg 1))) (s.th.top.reg 0) then (s.touch (actI (s.th.top.reg 1))).back [0]
     else if ((s.th.top.reg 1 + 1 : Nat) : Int) = s.conf.thr then ((s.touch (actI (s.th.top.reg 1))).setReg 1 (s.th.top.reg 1 + 1)).setPc 2
     else (s.touch (actI (s.th.top.reg 1))).setReg 1 (s.th.top.reg 1 + 1))) := by
  have HX := Lib.hid (Box4.new h k)
  have HF := Lib.hid hok.fits
  have HPC := Lib.hid hpc
  have HR1 : Hid (((s.th.top.reg 1 : Nat) : Int) < s.conf.thr) := hok.reg1
  have HRD := Lib.hid hok.rd
  have HTH := Lib.hid hth
  have ht2 := h.ok.t2
  have hr1b := hok.reg1
  have hwr : IntKind.i64.wrap ((s.th.top.reg 1 : Nat) : Int) = ((s.th.top.reg 1 : Nat) : Int) := IntWalk.i64_in _ (by omega)
  have hwr1 : IntKind.i64.wrap (((s.th.top.reg 1 + 1 : Nat) : Nat) : Int) = ((s.th.top.reg 1 + 1 : Nat) : Int) := IntWalk.i64_in _ (by omega)
  clear h hok hpc hth
  generalize hpost : (if lagsN (s.mem.rd (actI (s.th.top.reg 1))) (s.th.top.reg 0) then (s.touch (actI (s.th.top.reg 1))).back [0]
     else if ((s.th.top.reg 1 + 1 : Nat) : Int) = s.conf.thr then ((s.touch (actI (s.th.top.reg 1))).setReg 1 (s.th.top.reg 1 + 1)).setPc 2
     else (s.touch (actI (s.th.top.reg 1))).setReg 1 (s.th.top.reg 1 + 1)) = post
  have HPO := Lib.hid hpost
  clear hpost
  unfold runE
  unfold ptr at *
  go_enter Tryz.func102, Tryz.ntmps102
  go_upto_region 1 with fail
  generalize w.heap.size = nb at HX ⊢
  generalize w.alloc (.cells #[.pointer (some ⟨i.m, 0, none⟩), .int .i64 (k : Nat), .pointer (some ⟨i.ti.tb, 0, none⟩), .pointer (some ⟨i.ti.topB, 0, none⟩)] 161) = w1 at HX ⊢
  have hb0 := HX.out.b0
  have hb2 := HX.out.b2
  have hb3 := HX.out.b3
  have hr0 := HX.out.r0 HF.out.deep
  have hr1 := HX.out.r1 HF.out.deep
  have hpc := HX.out.pc HF.out.deep
  rw [HPC.out] at hpc
  go_upto_region 11 with fail
  have HXc := Lib.hid HX.out.drew
  clear hpc
  go_region_held3 (fun w' => w'.cell? ⟨nb, 0, none⟩ = some (.pointer (some ⟨i.m, 0, none⟩)) ∧ w'.cell? ⟨i.ti.topB, 2, none⟩ = some (.int .u64 (s.th.top.reg 0 : Nat)) ∧ w'.cell? ⟨i.ti.topB, 3, none⟩ = some (.int .u64 (s.th.top.reg 1 : Nat))) (first | exact ⟨hb0, hr0, hr1⟩ | go_keep) (first
    | (go_at_call 12; refine (p_mem _ i s HXc.out.hS.at_).mono ?_; rintro r x ⟨rfl, rfl⟩)
    | (go_at_call 44; refine (p_plan _ i s HXc.out.hS.at_).mono ?_; rintro r x ⟨rfl, rfl⟩)
    | (go_at_call 128; refine (p_active HXc.out.hS.at_ (s.th.top.reg 1) HR1.out).mono ?_; rintro r x ⟨rfl, rfl⟩)
    | (go_at_call 13; refine (p_load _ i s HXc.out.hS.at_ HF.out.few _).mono ?_; rintro r x ⟨rfl, hst⟩; have HXc := Lib.hid (HXc.out.stay hst); have hb0 := HXc.out.b0; have hb2 := HXc.out.b2; have hb3 := HXc.out.b3; have hr0 := HXc.out.r0 (s := s.touch (actI (s.th.top.reg 1))) HF.out.deep; have hr1 := HXc.out.r1 (s := s.touch (actI (s.th.top.reg 1))) HF.out.deep; clear hst)
    | (go_at_call 130; refine (badge_lags _ _ _ (HRD.out _)).mono ?_; rintro r x ⟨rfl, rfl⟩))
  have HXa := Lib.hid (And.intro HXc.out HXc.out)
  clear HX hwr
  generalize hR0 : s.th.top.reg 0 = r0 at *
  generalize hR1 : s.th.top.reg 1 = r1 at *
  cases hlag : lagsN (s.mem.rd (actI r1)) r0 with
  | true =>
    have HPO2 : Hid ((s.touch (actI r1)).back [0] = post) := by rw [← HPO.out, hlag]; rfl
    go_wp2_with fail
    refine (p_back0 x i (s.touch (actI r1)) HXa.out.1.hS.at_ HF.out.deep).mono ?_
    rintro r y ⟨rfl, ti', hto⟩
    have H4 := Lib.hid (PTo.of_stay HXa.out.1.hS hto)
    clear hto
    go_wp2_with fail
    refine bodyPost_ret (results_none rfl _ _ _) rfl ?_
    rw [← HPO2.out]
    exact ⟨rfl, _, H4.out⟩
  | false =>
    have HPO2 : Hid ((if ((r1 + 1 : Nat) : Int) = s.conf.thr then ((s.touch (actI r1)).setReg 1 (r1 + 1)).setPc 2 else (s.touch (actI r1)).setReg 1 (r1 + 1)) = post) := by
      rw [← HPO.out, hlag]
      rfl
    clear HPO hlag
    have hz0 : ((r1 : Nat) : Int) ≤ 6 := by omega
    have hfr := HXa.out.1.fr (s := s.touch (actI r1)) HF.out.deep 3
    have hq1 : x.cell? ⟨i.ti.topB, 3, none⟩ = some (.int .u64 (r1 : Nat)) := by rw [← hR1]; exact HXa.out.1.r1 (s := s.touch (actI r1)) HF.out.deep
    clear hr1 hr0 hR0
    go_upto_region 13 with fail
    go_region
    go_upto_region 14 with fail
    have hne : nb ≠ i.ti.topB := HXa.out.1.ne_ HF.out.deep
    have hne2 := hne.symm
    have HS2 : Hid (Stay w (x.setCell ⟨i.ti.topB, 3, none⟩ (.int .u64 ((r1 : Int) + 1))).drew i ((s.touch (actI r1)).setReg 1 (r1 + 1))) := (HXa.out.1.hS.setReg (s := s.touch (actI r1)) HF.out.deep 1 (r1 + 1)).drew
    have hB : Blk (x.setCell ⟨i.ti.topB, 3, none⟩ (.int .u64 ((r1 : Int) + 1))).drew nb 161 #[.pointer (some ⟨i.m, 0, none⟩), .int .i64 (k : Nat), .pointer (some ⟨i.ti.tb, 0, none⟩), .pointer (some ⟨i.ti.topB, 0, none⟩)] := (HXa.out.1.hB.far (p := ⟨i.ti.topB, 3, none⟩) hne _).drew
    have HX5 : Hid (Box4 w (x.setCell ⟨i.ti.topB, 3, none⟩ (.int .u64 ((r1 : Int) + 1))).drew nb k i ((s.touch (actI r1)).setReg 1 (r1 + 1))) := ⟨hB, HS2.out⟩
    clear hB HS2 hfr hq1 hb0 hb2 hb3 HXc
    generalize (x.setCell ⟨i.ti.topB, 3, none⟩ (.int .u64 ((r1 : Int) + 1))).drew = x2 at HX5 ⊢
    have hd : 0 < ((s.touch (actI r1)).setReg 1 (r1 + 1)).th.frs.length := by rw [PS.setReg_len]; exact HF.out.deep
    have HD := Lib.hid hd
    have hb0 := HX5.out.b0
    have hpf := HX5.out.fr hd 1
    have hpc := HX5.out.pc hd
    have hlen : 1 < (s.touch (actI r1)).th.top.r.length := by rw [(HXa.out.1.hS.at_.frame (s := s.touch (actI r1)) HF.out.deep).2]; decide
    have hq : x2.cell? ⟨i.ti.topB, 3, none⟩ = some (.int .u64 (r1 + 1 : Nat)) := by
      have := HX5.out.r1 hd
      rw [setReg_reg (s := s.touch (actI r1)) HF.out.deep hlen] at this
      exact this
    have HT5 : ∀ n, Hid (Calls Tryz.prog 131 #[.pointer (some ⟨i.m, 0, none⟩)] (x2.drewN n) fun r w' => r = .returned (.int .i64 s.conf.thr) ∧ x2.drewN n = w') := fun n => p_threads (s := (s.touch (actI r1)).setReg 1 (r1 + 1)) (HX5.out.hS.at_.drawn (Drawn.n _ _)) HTH.out
    clear hlen HXa hd
    by_cases hthr : ((r1 + 1 : Nat) : Int) = s.conf.thr
    · have HPO3 : Hid ((((s.touch (actI r1)).setReg 1 (r1 + 1)).setPc 2) = post) := by rw [← HPO2.out, if_pos hthr]; rfl
      clear HPO2
      have hc : (((r1 + 1 : Nat) : Int) == s.conf.thr) = true := by simpa using hthr
      generalize r1 + 1 = r2 at *
      go_quiet (first | (go_at_call 131; exact Calls.quiet_of_same ((HT5 _).out.mono (fun _ _ h => ⟨h.1, h.2.symm⟩))))
      have HSq := Lib.hid (HX5.out.hS.drawn (Drawn.n x2 nq))
      clear hthr hq hne hne2
      go_wp2_with fail
      go_end0
      rw [← HPO3.out]
      exact ⟨rfl, _, (HSq.out.setPc HD.out 2).to⟩
    · have HPO3 : Hid ((s.touch (actI r1)).setReg 1 (r1 + 1) = post) := by rw [← HPO2.out, if_neg hthr]; rfl
      clear HPO2
      have hc : (((r1 + 1 : Nat) : Int) == s.conf.thr) = false := by simpa using hthr
      generalize r1 + 1 = r2 at *
      go_quiet (first | (go_at_call 131; exact Calls.quiet_of_same ((HT5 _).out.mono (fun _ _ h => ⟨h.1, h.2.symm⟩))))
      have HSq := Lib.hid (HX5.out.hS.drawn (Drawn.n x2 nq))
      clear hthr hq hne hne2
      go_wp2_with fail
      go_end0
      rw [← HPO3.out]
      exact ⟨rfl, _, HSq.out.to⟩
theorem u64_inc (n : Nat) : IntKind.u64.wrap ((n : Int) + 1) = ((inc64 n : Nat) : Int) := by
  unfold inc64
  rw [show IntKind.u64.wrap ((n : Int) + 1) = ((n : Int) + 1) % 18446744073709551616 from rfl]
  omega
set_option maxRecDepth 100000 in
set_option maxHeartbeats 1000000 in
theorem advance_2 (w : World) (i : PI) (s : PS) (h : PAt w i s) (hf : Fits s) (k : Nat) (h0 : s.th.top.pc ≠ 0) (h1 : s.th.top.pc ≠ 1) :
    Calls Tryz.prog 102 #[runE i k] w (StepOut w i (({ s with mem := s.mem.casS 1 (s.th.top.reg 0) (inc64 (s.th.top.reg 0)) } : PS).back [if s.mem.casB 1 (s.th.top.reg 0) then 1 else 0])) := by
  have HX := Lib.hid (Box4.new h k)
  have HF := Lib.hid hf
  have hp0 : (s.th.top.pc == 0) = false := by simpa using h0
  have hp1 : (s.th.top.pc == 1) = false := by simpa using h1
  have hwi := u64_inc (s.th.top.reg 0)
  generalize hpost : ({ s with mem := s.mem.casS 1 (s.th.top.reg 0) (inc64 (s.th.top.reg 0)) } : PS).back [if s.mem.casB 1 (s.th.top.reg 0) then 1 else 0] = post
  have HPO := Lib.hid hpost
  clear h hf h0 h1 hpost
  unfold runE
  unfold ptr at *
  go_enter Tryz.func102, Tryz.ntmps102
  go_upto_region 1 with fail
  generalize w.heap.size = nb at HX ⊢
  generalize w.alloc (.cells #[.pointer (some ⟨i.m, 0, none⟩), .int .i64 (k : Nat), .pointer (some ⟨i.ti.tb, 0, none⟩), .pointer (some ⟨i.ti.topB, 0, none⟩)] 161) = w1 at HX ⊢
  have hb0 := HX.out.b0
  have hb2 := HX.out.b2
  have hb3 := HX.out.b3
  have hr0 := HX.out.r0 HF.out.deep
  have hpc := HX.out.pc HF.out.deep
  generalize hP : s.th.top.pc = pc at *
  go_upto_region 4 with fail
  have HXc := Lib.hid HX.out.drew
  clear hpc
  go_region_held3 (fun w' => w'.cell? ⟨nb, 0, none⟩ = some (.pointer (some ⟨i.m, 0, none⟩)) ∧ w'.cell? ⟨i.ti.topB, 2, none⟩ = some (.int .u64 (s.th.top.reg 0 : Nat))) (first | exact ⟨hb0, hr0⟩ | go_keep) (first
    | (go_at_call 12; refine (p_mem _ i s HXc.out.hS.at_).mono ?_; rintro r x ⟨rfl, rfl⟩)
    | (go_at_call 119; refine (p_cas _ i s HXc.out.hS.at_ HF.out.few _ _ (inc64 (s.th.top.reg 0))).mono ?_; rintro r x ⟨rfl, hst⟩; have HXc := Lib.hid (HXc.out.stay hst); have hb0 := HXc.out.b0; have hb2 := HXc.out.b2; have hr0 := HXc.out.r0 HF.out.deep; clear hst))
  have HXa := Lib.hid (And.intro HXc.out HXc.out)
  have HD : Hid (0 < ({ s with mem := s.mem.casS 1 (s.th.top.reg 0) (inc64 (s.th.top.reg 0)) } : PS).th.frs.length) := HF.out.deep
  cases hcas : s.mem.casB 1 (s.th.top.reg 0) with
  | true =>
    have HPO2 : Hid (({ s with mem := s.mem.casS 1 (s.th.top.reg 0) (inc64 (s.th.top.reg 0)) } : PS).back [1] = post) := by rw [← HPO.out, hcas]; rfl
    clear HPO hcas hr0
    go_wp2_with fail
    refine (p_back1 x i _ HXa.out.1.hS.at_ HD.out 1).mono ?_
    rintro r y ⟨rfl, ti', hto⟩
    have H4 := Lib.hid (PTo.of_stay HXa.out.1.hS hto)
    clear hto
    go_wp2_with fail
    go_end0
    rw [← HPO2.out]
    exact ⟨rfl, _, H4.out⟩
  | false =>
    have HPO2 : Hid (({ s with mem := s.mem.casS 1 (s.th.top.reg 0) (inc64 (s.th.top.reg 0)) } : PS).back [0] = post) := by rw [← HPO.out, hcas]; rfl
    clear HPO hcas hr0
    go_wp2_with fail
    refine (p_back0 x i _ HXa.out.1.hS.at_ HD.out).mono ?_
    rintro r y ⟨rfl, ti', hto⟩
    have H4 := Lib.hid (PTo.of_stay HXa.out.1.hS hto)
    clear hto
    go_wp2_with fail
    go_end0
    rw [← HPO2.out]
    exact ⟨rfl, _, H4.out⟩
end Go.Proofs.YtoghcikfkkmfkaaGreat
