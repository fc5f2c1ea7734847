/- epoch's Enter and Leave: each step. Conditions: the machine in memory; the thread is there. -/
import Derived.Test.YtoghcikfkkmfkaaGreatEp1
namespace Go.Proofs.YtoghcikfkkmfkaaGreat
open Go.RowKit

def PS.setPast (s : PS) (v : Nat) : PS := { s with th := { s.th with ses := { s.th.ses with past := v } } }
/-- What a step of Enter leaves. -/
def PS.enter (k : Nat) (s : PS) : PS :=
  if s.th.top.pc = 0 then (if s.th.ses.pinned then s.back [] else ((s.touch 1).setReg 0 (s.mem.rd 1)).setPc 1)
  else if s.th.top.pc = 1 then (s.store (actI k) (actN (s.th.top.reg 0))).setPc 2
  else ((s.touch 1).setPast (s.mem.rd 1 - 1)).back []
/-- What Leave leaves. -/
def PS.leave (k : Nat) (s : PS) : PS := (if s.th.ses.pinned then s else s.store (actI k) 0).back []
theorem ThAt.reset {w w2 : World} {i : ThI} {s s2 : ThS} (h : ThAt w i s) (hb : Blk w2 i.tb 59 (thCells i s2).toArray) (hk : Keep [i.tb] w w2) (hr : s2.ret.length = 12) (h1 : s2.frs = s.frs) (h2 : s2.row = s.row) (h3 : s2.stk = s.stk) : ThAt w2 i s2 := by
  have hne : ∀ {e n size : Nat} {v : Value} {xs : List Value}, w.ownsRow 0 e size v n xs → e ≠ 59 → ∀ g, v.ownBlock = some g → g ∉ [i.tb] := fun ho he g hg hm => by
    rw [List.mem_singleton.1 hm] at hg
    exact own_ne ho h.ht he hg
  refine ⟨hb, hr, by rw [h1]; exact own_keep h.hf hk (hne h.hf (by decide)), fun j b f hj hf => ?_, h.nd, by rw [h2]; exact own_keep h.hrow hk (hne h.hrow (by decide)), by rw [h3]; exact own_keep h.hstk hk (hne h.hstk (by decide))⟩
  rw [h1] at hf
  have hfr := h.fr j b f hj hf
  exact hfr.keep hk (fun hm => hfr.1.ne_ h.ht (by decide) (List.mem_singleton.1 hm))
theorem thCells_past (i : ThI) (s : ThS) (hr : s.ret.length = 12) (v : Nat) : (thCells i s).toArray.setIfInBounds 15 (.int .u64 (v : Nat)) = (thCells i { s with ses := { s.ses with past := v } }).toArray := by
  have e : ∀ l : List Value, l.length = 12 → ∀ r : List Value, ((l ++ r).toArray.setIfInBounds 15 (.int .u64 (v : Nat))) = (l ++ r.set 3 (.int .u64 (v : Nat))).toArray := fun l hl r => by
    simp [hl]
  unfold thCells
  rw [e _ (by rw [u64s_length, hr])]
  rfl
theorem Stay.setPast {w w' : World} {i : PI} {s : PS} (h : Stay w w' i s) (v : Nat) : Stay w (w'.setCell ⟨i.ti.tb, 15, none⟩ (.int .u64 (v : Nat))) i (s.setPast v) := by
  have hth := h.at_.hTh
  have hb := hth.ht.set_ 15 (.int .u64 (v : Nat))
  rw [thCells_past _ _ hth.rl] at hb
  have hk : Keep [i.ti.tb] w' (w'.setCell ⟨i.ti.tb, 15, none⟩ (.int .u64 (v : Nat))) := (Keep.refl _ _).set_ _ (.inl (by simp))
  have ht := hth.reset (s2 := { s.th with ses := { s.th.ses with past := v } }) hb hk hth.rl rfl rfl rfl
  have hk2 : Keep i.ti.foot w' (w'.setCell ⟨i.ti.tb, 15, none⟩ (.int .u64 (v : Nat))) := hk.mono (by simp [ThI.foot])
  exact ⟨h.at_.thread ht hk2 (fun x hx => .inl hx), h.keep.trans hk2 (fun x hx => .inl (PI.memF.2 (.inr (.inr (.inr (.inr (.inr (.inr hx))))))))⟩
theorem PAt.pin {w : World} {i : PI} {s : PS} (h : PAt w i s) : w.cell? ⟨i.ti.tb, 13, none⟩ = some (.bool s.th.ses.pinned) := th_cell h.hTh 1
set_option maxRecDepth 100000 in
theorem enter_0p (w : World) (i : PI) (s : PS) (h : PAt w i s) (hf : Fits s) (k : Nat) (hpc : s.th.top.pc = 0) (hpin : s.th.ses.pinned = true) :
    Calls Tryz.prog 100 #[runE i k] w (StepOut w i (s.back [])) := by
  have HX := Lib.hid (Box4.new h k)
  have HF := Lib.hid hf
  have HPC := Lib.hid hpc
  have HPI := Lib.hid hpin
  clear h hf hpc hpin
  unfold runE
  unfold ptr at *
  go_enter Tryz.func100, Tryz.ntmps100
  go_upto_region 1 with fail
  generalize w.heap.size = nb at HX ⊢
  generalize w.alloc (.cells #[.pointer (some ⟨i.m, 0, none⟩), .int .i64 (k : Nat), .pointer (some ⟨i.ti.tb, 0, none⟩), .pointer (some ⟨i.ti.topB, 0, none⟩)] 161) = w1 at HX ⊢
  have hb2 := HX.out.b2
  have hb3 := HX.out.b3
  have hpc := HX.out.pc HF.out.deep
  rw [HPC.out] at hpc
  have hpn := HX.out.pin
  rw [HPI.out] at hpn
  go_wp2_with fail
  refine (p_backN w1 i s HX.out.hS.at_ HF.out.deep).mono ?_
  rintro r x ⟨rfl, ti', hto⟩
  have H2 := Lib.hid (PTo.of_stay HX.out.hS hto)
  clear hto
  go_wp2_with fail
  refine bodyPost_ret (results_none rfl _ _ _) rfl ?_
  exact ⟨rfl, _, H2.out⟩
set_option maxRecDepth 100000 in
theorem enter_0 (w : World) (i : PI) (s : PS) (h : PAt w i s) (hf : Fits s) (k : Nat) (hpc : s.th.top.pc = 0) (hpin : s.th.ses.pinned = false) :
    Calls Tryz.prog 100 #[runE i k] w (StepOut w i (((s.touch 1).setReg 0 (s.mem.rd 1)).setPc 1)) := by
  have HX := Lib.hid (Box4.new h k)
  have HF := Lib.hid hf
  have HPC := Lib.hid hpc
  have HPI := Lib.hid hpin
  clear h hf hpc hpin
  unfold runE
  unfold ptr at *
  go_enter Tryz.func100, Tryz.ntmps100
  go_upto_region 1 with fail
  generalize w.heap.size = nb at HX ⊢
  generalize w.alloc (.cells #[.pointer (some ⟨i.m, 0, none⟩), .int .i64 (k : Nat), .pointer (some ⟨i.ti.tb, 0, none⟩), .pointer (some ⟨i.ti.topB, 0, none⟩)] 161) = w1 at HX ⊢
  have hb0 := HX.out.b0
  have hb1 := HX.out.b1
  have hb2 := HX.out.b2
  have hb3 := HX.out.b3
  have hpc := HX.out.pc HF.out.deep
  rw [HPC.out] at hpc
  have hpn := HX.out.pin
  rw [HPI.out] at hpn
  go_upto_region 10 with fail
  have hne : nb ≠ i.ti.topB := HX.out.ne_ HF.out.deep
  have hne2 := hne.symm
  have HXc := Lib.hid HX.out.drew
  clear hpc hpn
  go_region_held3 (fun w' => w'.cell? ⟨nb, 0, none⟩ = some (.pointer (some ⟨i.m, 0, none⟩)) ∧ w'.cell? ⟨nb, 1, none⟩ = some (.int .i64 (k : Nat)) ∧ w'.cell? ⟨nb, 2, none⟩ = some (.pointer (some ⟨i.ti.tb, 0, none⟩)) ∧ w'.cell? ⟨nb, 3, none⟩ = some (.pointer (some ⟨i.ti.topB, 0, none⟩))) (first | exact ⟨hb0, hb1, hb2, hb3⟩ | go_keep) (first
    | (go_at_call 127; refine (ep_now _ i s HXc.out.hS.at_ HF.out.few k).mono ?_; rintro r x ⟨rfl, hst⟩; have HXc := Lib.hid (HXc.out.stay hst); have hb0 := HXc.out.b0; have hb1 := HXc.out.b1; have hb2 := HXc.out.b2; have hb3 := HXc.out.b3; have hcr := HXc.out.r0 (s := s.touch 1) HF.out.deep; have hfr := HXc.out.fr (s := s.touch 1) HF.out.deep 2; clear hst))
  have HS2 := Lib.hid (HXc.out.hS.setReg (s := s.touch 1) HF.out.deep 0 (s.mem.rd 1))
  have hd : 0 < ((s.touch 1).setReg 0 (s.mem.rd 1)).th.frs.length := by rw [PS.setReg_len]; exact HF.out.deep
  have HD := Lib.hid hd
  have hpc := (HS2.out.at_.frame hd).c1
  have hpf := (HS2.out.at_.frame hd).1.frozen 1
  have hb3' : (x.setCell ⟨i.ti.topB, 2, none⟩ (.int .u64 (s.mem.rd 1 : Nat))).cell? ⟨nb, 3, none⟩ = some (.pointer (some ⟨i.ti.topB, 0, none⟩)) := (HXc.out.hB.far (p := ⟨i.ti.topB, 2, none⟩) hne _).cell 3
  simp only [Nat.add_zero] at HS2 hpc hpf
  clear hd HXc hb0 hb1 hb2 hb3 hcr hfr hne hne2
  generalize (x.setCell ⟨i.ti.topB, 2, none⟩ (.int .u64 (s.mem.rd 1 : Nat))) = x2 at *
  go_wp2_with fail
  go_end0
  exact ⟨rfl, _, (HS2.out.setPc HD.out 1).to⟩
set_option maxRecDepth 100000 in
theorem enter_1 (w : World) (i : PI) (s : PS) (h : PAt w i s) (hf : Fits s) (k : Nat) (hk : (k : Int) < s.conf.thr) (hpc : s.th.top.pc = 1) :
    Calls Tryz.prog 100 #[runE i k] w (StepOut w i ((s.store (actI k) (actN (s.th.top.reg 0))).setPc 2)) := by
  have HX := Lib.hid (Box4.new h k)
  have HF := Lib.hid hf
  have HPC := Lib.hid hpc
  have HKT : Hid ((k : Int) < s.conf.thr) := hk
  clear h hf hpc hk
  unfold runE
  unfold ptr at *
  go_enter Tryz.func100, Tryz.ntmps100
  go_upto_region 1 with fail
  generalize w.heap.size = nb at HX ⊢
  generalize w.alloc (.cells #[.pointer (some ⟨i.m, 0, none⟩), .int .i64 (k : Nat), .pointer (some ⟨i.ti.tb, 0, none⟩), .pointer (some ⟨i.ti.topB, 0, none⟩)] 161) = w1 at HX ⊢
  have hb0 := HX.out.b0
  have hb1 := HX.out.b1
  have hb3 := HX.out.b3
  have hr0 := HX.out.r0 HF.out.deep
  have hpc := HX.out.pc HF.out.deep
  rw [HPC.out] at hpc
  go_upto_region 13 with fail
  have hne : nb ≠ i.ti.topB := HX.out.ne_ HF.out.deep
  have hne2 := hne.symm
  have HXc := Lib.hid HX.out.drew
  clear hpc
  go_region_held3 (fun w' => w'.cell? ⟨nb, 0, none⟩ = some (.pointer (some ⟨i.m, 0, none⟩)) ∧ w'.cell? ⟨nb, 1, none⟩ = some (.int .i64 (k : Nat)) ∧ w'.cell? ⟨nb, 3, none⟩ = some (.pointer (some ⟨i.ti.topB, 0, none⟩)) ∧ w'.cell? ⟨i.ti.topB, 2, none⟩ = some (.int .u64 (s.th.top.reg 0 : Nat))) (first | exact ⟨hb0, hb1, hb3, hr0⟩ | go_keep) (first
    | (go_at_call 12; refine (p_mem _ i s HXc.out.hS.at_).mono ?_; rintro r x ⟨rfl, rfl⟩)
    | (go_at_call 44; refine (p_plan _ i s HXc.out.hS.at_).mono ?_; rintro r x ⟨rfl, rfl⟩)
    | (go_at_call 128; refine (p_active HXc.out.hS.at_ k HKT.out).mono ?_; rintro r x ⟨rfl, rfl⟩)
    | (go_at_call 129; refine (badge_active (s.th.top.reg 0) _).mono ?_; rintro r x ⟨rfl, rfl⟩)
    | (go_at_call 96; refine (p_store _ i s HXc.out.hS.at_ HF.out.few _ _).mono ?_; rintro r x ⟨rfl, hst⟩; have HXc := Lib.hid (HXc.out.stay hst); have hb0 := HXc.out.b0; have hb1 := HXc.out.b1; have hb3 := HXc.out.b3; have hr0 := HXc.out.r0 HF.out.deep; clear hst))
  have HD : Hid (0 < (s.store (actI k) (actN (s.th.top.reg 0))).th.frs.length) := HF.out.deep
  have hpc := (HXc.out.hS.at_.frame HD.out).c1
  have hpf := (HXc.out.hS.at_.frame HD.out).1.frozen 1
  go_wp2_with fail
  go_end0
  exact ⟨rfl, _, (HXc.out.hS.setPc HD.out 2).to⟩
set_option maxRecDepth 100000 in
theorem enter_2 (w : World) (i : PI) (s : PS) (h : PAt w i s) (hf : Fits s) (k : Nat) (hrd : s.mem.rd 1 < 2 ^ 64) (h0 : s.th.top.pc ≠ 0) (h1 : s.th.top.pc ≠ 1) :
    Calls Tryz.prog 100 #[runE i k] w (StepOut w i (((s.touch 1).setPast (s.mem.rd 1 - 1)).back [])) := by
  have HX := Lib.hid (Box4.new h k)
  have HF := Lib.hid hf
  have hp0 : (s.th.top.pc == 0) = false := by simpa using h0
  have hp1 : (s.th.top.pc == 1) = false := by simpa using h1
  have HRD := Lib.hid hrd
  clear h hf h0 h1 hrd
  unfold runE
  unfold ptr at *
  go_enter Tryz.func100, Tryz.ntmps100
  go_upto_region 1 with fail
  generalize w.heap.size = nb at HX ⊢
  generalize w.alloc (.cells #[.pointer (some ⟨i.m, 0, none⟩), .int .i64 (k : Nat), .pointer (some ⟨i.ti.tb, 0, none⟩), .pointer (some ⟨i.ti.topB, 0, none⟩)] 161) = w1 at HX ⊢
  have hb0 := HX.out.b0
  have hb1 := HX.out.b1
  have hb2 := HX.out.b2
  have hb3 := HX.out.b3
  have hpc := HX.out.pc HF.out.deep
  have KN := ep_now w1 i s HX.out.hS.at_ HF.out.few k
  generalize s.th.top.pc = pc at *
  go_wp2_with fail
  refine KN.mono ?_
  clear KN
  rintro r x ⟨rfl, hst⟩
  have HX2 := Lib.hid (HX.out.stay hst)
  have hx2 := HX2.out.b2
  have hpa := HX2.out.past
  have hpf := HX2.out.hS.at_.hTh.ht.frozen 15
  clear hst hb0 hb1 hb2 hb3 hpc
  have hrd := HRD.out
  generalize hE : s.mem.rd 1 = e at *
  by_cases he : 0 < e
  · obtain ⟨d, rfl⟩ : ∃ d, e = d + 1 := ⟨e - 1, by omega⟩
    have hz : (0 : Int) < ((d + 1 : Nat) : Int) := by omega
    have hz1 : ((d + 1 : Nat) : Int) - 1 = (d : Int) := by omega
    have hz2 : ((d : Nat) : Int) < 18446744073709551616 := by omega
    have hb2 := hx2
    have H3 : Hid (Stay w (x.setCell ⟨i.ti.tb, 15, none⟩ (.int .u64 (d : Nat))) i ((s.touch 1).setPast d)) := HX2.out.hS.setPast d
    have hbx : (x.setCell ⟨i.ti.tb, 15, none⟩ (.int .u64 (d : Nat))).cell? ⟨nb, 2, none⟩ = some (.pointer (some ⟨i.ti.tb, 0, none⟩)) := (HX2.out.hB.far (p := ⟨i.ti.tb, 15, none⟩) (HX2.out.hB.ne_ HX2.out.hS.at_.hTh.ht (by decide)) _).cell 2
    clear hrd
    go_upto_region 6 with fail
    generalize x.setCell ⟨i.ti.tb, 15, none⟩ (.int .u64 (d : Nat)) = x2 at H3 hbx ⊢
    go_wp2_with fail
    refine (p_backN x2 i _ H3.out.at_ HF.out.deep).mono ?_
    rintro r y ⟨rfl, ti', hto⟩
    have H4 := Lib.hid (PTo.of_stay H3.out hto)
    clear hto
    go_wp2_with fail
    go_end0
    exact ⟨rfl, _, H4.out⟩
  · obtain rfl : e = 0 := by omega
    have H3 : Hid (Stay w (x.setCell ⟨i.ti.tb, 15, none⟩ (.int .u64 0)) i ((s.touch 1).setPast 0)) := HX2.out.hS.setPast 0
    have hbx : (x.setCell ⟨i.ti.tb, 15, none⟩ (.int .u64 0)).cell? ⟨nb, 2, none⟩ = some (.pointer (some ⟨i.ti.tb, 0, none⟩)) := (HX2.out.hB.far (p := ⟨i.ti.tb, 15, none⟩) (HX2.out.hB.ne_ HX2.out.hS.at_.hTh.ht (by decide)) _).cell 2
    clear hrd
    go_upto_region 6 with fail
    generalize x.setCell ⟨i.ti.tb, 15, none⟩ (.int .u64 0) = x2 at H3 hbx ⊢
    go_wp2_with fail
    refine (p_backN x2 i _ H3.out.at_ HF.out.deep).mono ?_
    rintro r y ⟨rfl, ti', hto⟩
    have H4 := Lib.hid (PTo.of_stay H3.out hto)
    clear hto
    go_wp2_with fail
    go_end0
    exact ⟨rfl, _, H4.out⟩
set_option maxRecDepth 100000 in
theorem leave_p (w : World) (i : PI) (s : PS) (h : PAt w i s) (hf : Fits s) (k : Nat) (hk : (k : Int) < s.conf.thr) :
    Calls Tryz.prog 101 #[runE i k] w (StepOut w i (s.leave k)) := by
  have HX := Lib.hid (Box4.new h k)
  have HF := Lib.hid hf
  have HKT : Hid ((k : Int) < s.conf.thr) := hk
  clear h hf hk
  generalize hpost : s.leave k = post
  have HPO := Lib.hid hpost
  clear hpost
  unfold runE
  unfold ptr at *
  go_enter Tryz.func101, Tryz.ntmps101
  go_upto_region 1 with fail
  generalize w.heap.size = nb at HX ⊢
  generalize w.alloc (.cells #[.pointer (some ⟨i.m, 0, none⟩), .int .i64 (k : Nat), .pointer (some ⟨i.ti.tb, 0, none⟩), .pointer (some ⟨i.ti.topB, 0, none⟩)] 161) = w1 at HX ⊢
  have hb0 := HX.out.b0
  have hb1 := HX.out.b1
  have hb2 := HX.out.b2
  have hpn := HX.out.pin
  cases hpin : s.th.ses.pinned with
  | true =>
    have HPO2 : Hid (s.back [] = post) := by rw [← HPO.out]; unfold PS.leave; rw [hpin]; rfl
    rw [hpin] at hpn
    go_wp2_with fail
    refine (p_backN w1 i s HX.out.hS.at_ HF.out.deep).mono ?_
    rintro r y ⟨rfl, ti', hto⟩
    have H4 := Lib.hid (PTo.of_stay HX.out.hS hto)
    clear hto
    go_wp2_with fail
    go_end0
    rw [← HPO2.out]
    exact ⟨rfl, _, H4.out⟩
  | false =>
    have HPO2 : Hid ((s.store (actI k) 0).back [] = post) := by rw [← HPO.out]; unfold PS.leave; rw [hpin]; rfl
    rw [hpin] at hpn
    clear HPO hpin
    go_upto_region 2 with fail
    have HXc := Lib.hid HX.out.drew
    clear hpn
    go_region_held3 (fun w' => w'.cell? ⟨nb, 0, none⟩ = some (.pointer (some ⟨i.m, 0, none⟩)) ∧ w'.cell? ⟨nb, 1, none⟩ = some (.int .i64 (k : Nat)) ∧ w'.cell? ⟨nb, 2, none⟩ = some (.pointer (some ⟨i.ti.tb, 0, none⟩))) (first | exact ⟨hb0, hb1, hb2⟩ | go_keep) (first
      | (go_at_call 12; refine (p_mem _ i s HXc.out.hS.at_).mono ?_; rintro r x ⟨rfl, rfl⟩)
      | (go_at_call 44; refine (p_plan _ i s HXc.out.hS.at_).mono ?_; rintro r x ⟨rfl, rfl⟩)
      | (go_at_call 128; refine (p_active HXc.out.hS.at_ k HKT.out).mono ?_; rintro r x ⟨rfl, rfl⟩)
      | (go_at_call 96; refine (p_store _ i s HXc.out.hS.at_ HF.out.few _ 0).mono ?_; rintro r x ⟨rfl, hst⟩; have HXc := Lib.hid (HXc.out.stay hst); have hb0 := HXc.out.b0; have hb1 := HXc.out.b1; have hb2 := HXc.out.b2; clear hst))
    go_wp2_with fail
    refine (p_backN x i _ HXc.out.hS.at_ HF.out.deep).mono ?_
    rintro r y ⟨rfl, ti', hto⟩
    have H4 := Lib.hid (PTo.of_stay HXc.out.hS hto)
    clear hto
    go_wp2_with fail
    go_end0
    rw [← HPO2.out]
    exact ⟨rfl, _, H4.out⟩
end Go.Proofs.YtoghcikfkkmfkaaGreat
