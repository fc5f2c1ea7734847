/- Package slots: a step of Give. Conditions: the machine is known as the thread sees it, with a frame on top, whose words fit. -/
import Derived.Test.YtoghcikfkkmfkaaGreatTaker
import Derived.Deep.RegionWith
namespace Go.Proofs.YtoghcikfkkmfkaaGreat
open Go.RowKit

def PS.giveEdge (s : PS) : Nat := s.th.top.reg 0
def PS.giveAt (s : PS) (f : Nat) : Int := nodeI s.conf (slotE s.giveEdge) f
def PS.store (s : PS) (a : Int) (v : Nat) : PS := { s with mem := s.mem.stored a v }
def PS.drop (s : PS) (e : Nat) : PS := { s with gd := s.gd.dropS e }
/-- What a step of Give leaves. -/
def PS.give (s : PS) : PS :=
  if s.th.top.pc = 0 then ((s.store (s.giveAt 1) (genE (mkE 0 (genE s.giveEdge + 1)))).drop s.giveEdge).setPc 3
  else if s.th.top.pc = 3 then s.head 1
  else if s.th.top.pc = 1 then (s.store (s.giveAt 0) s.takeSlot).setPc 2
  else if s.swings then ((s.setPc 3).swung (slotE s.giveEdge)).back [] else (s.setPc 3).swung (slotE s.giveEdge)
theorem p_store (w : World) (i : PI) (s : PS) (h : PAt w i s) (hf : Few s) (a : Int) (v : Nat) :
    Calls Tryz.prog 96 #[.pointer (some ⟨i.mi.mb, 0, none⟩), .int .i64 a, .int .u64 (v : Nat)] w fun r w' => r = .returned (.tuple #[]) ∧ Stay w w' i (s.store a v) :=
  (mem_store w i.mi s.mem h.hMem hf a v).mono (fun _ _ ⟨h1, h2, h3⟩ => ⟨h1, (Stay.refl h).mem h2 h3⟩)
theorem raw_g (w : World) (i : PI) (s : PS) (h : PAt w i s) (f : Nat) (fi : Int) (hfi : (f : Int) = fi) (h3 : f ≤ 6) :
    Calls Tryz.prog 148 #[.agg #[.pointer (some ⟨i.m, 0, none⟩), .pointer (some ⟨i.ti.tb, 0, none⟩), .pointer (some ⟨i.ti.topB, 0, none⟩)], .int .i64 (slotE s.giveEdge : Nat), .int .i64 fi] w fun r w' => r = .returned (.int .i64 (s.giveAt f)) ∧ Keep [] w w' := slots_raw w i s h (slotE s.giveEdge) f fi hfi h3

theorem edge_make_z (g : Nat) (w : World) : Calls Tryz.prog 90 #[.int .i64 0, .int .u64 (g : Nat)] w fun e w' => e = .returned (.int .u64 (mkE 0 g : Nat)) ∧ w = w' := edge_make 0 g w (by omega)
set_option maxRecDepth 100000 in
set_option maxHeartbeats 1000000 in
theorem give_3 (w : World) (i : PI) (s : PS) (h : PAt w i s) (hf : Fits s) (hpc : s.th.top.pc = 3) :
    Calls Tryz.prog 133 #[runV i] w (StepOut w i (s.head 1)) := by
  have HX := Lib.hid (Box.new h 184)
  have HF := Lib.hid hf
  have HPC := Lib.hid hpc
  clear h hf hpc
  unfold runV
  unfold ptr at *
  go_enter Tryz.func133, Tryz.ntmps133
  go_upto_region 1 with fail
  generalize w.heap.size = nb at HX ⊢
  generalize w.alloc (.cells #[.pointer (some ⟨i.m, 0, none⟩), .pointer (some ⟨i.ti.tb, 0, none⟩), .pointer (some ⟨i.ti.topB, 0, none⟩)] 184) = w1 at HX ⊢
  have hb0 := HX.out.b0
  have hb1 := HX.out.b1
  have hb2 := HX.out.b2
  have hr0 := HX.out.reg HF.out.deep 0 (by decide)
  have hr1 := HX.out.reg HF.out.deep 1 (by decide)
  have hpc := HX.out.pc HF.out.deep
  rw [HPC.out] at hpc
  simp only [Nat.reduceAdd] at hr0
  go_wp2_with fail
  refine (head_p w1 i s HX.out.hS.at_ HF.out 1).mono ?_
  rintro r x ⟨rfl, hst⟩
  have H2 := Lib.hid (HX.out.hS.trans hst)
  clear hst
  go_wp2_with fail
  go_end0
  exact ⟨rfl, _, H2.out.to⟩

set_option maxRecDepth 100000 in
set_option maxHeartbeats 1000000 in
theorem give_1 (w : World) (i : PI) (s : PS) (h : PAt w i s) (hf : Fits s) (hpc : s.th.top.pc = 1) :
    Calls Tryz.prog 133 #[runV i] w (StepOut w i ((s.store (s.giveAt 0) s.takeSlot).setPc 2)) := by
  have HX := Lib.hid (Box.new h 184)
  have HF := Lib.hid hf
  have HPC := Lib.hid hpc
  have HS := Lib.hid (fun w => badge_slotOf (s.th.top.reg 1) w (hf.regs 1))
  have HE := Lib.hid (fun w => edge_slot s.giveEdge w (hf.regs 0))
  rw [show slotE (s.th.top.reg 1) = s.takeSlot from rfl] at HS
  have hsl : s.takeSlot < 4096 := slotE_lt (s.th.top.reg 1)
  have hwr : IntKind.u64.wrap ((s.takeSlot : Nat) : Int) = ((s.takeSlot : Nat) : Int) := by
    rw [wrap_u64, Nat.mod_eq_of_lt (by omega)]
  clear h hf hpc hsl
  unfold runV
  unfold ptr at *
  go_enter Tryz.func133, Tryz.ntmps133
  go_upto_region 1 with fail
  generalize w.heap.size = nb at HX ⊢
  generalize w.alloc (.cells #[.pointer (some ⟨i.m, 0, none⟩), .pointer (some ⟨i.ti.tb, 0, none⟩), .pointer (some ⟨i.ti.topB, 0, none⟩)] 184) = w1 at HX ⊢
  have hb0 := HX.out.b0
  have hb1 := HX.out.b1
  have hb2 := HX.out.b2
  have hr0 := HX.out.reg HF.out.deep 0 (by decide)
  have hr1 := HX.out.reg HF.out.deep 1 (by decide)
  have hpc := HX.out.pc HF.out.deep
  rw [HPC.out] at hpc
  simp only [Nat.reduceAdd] at hr0
  rw [show s.th.top.reg 0 = s.giveEdge from rfl] at hr0
  go_wp2_with fail
  have HXc := Lib.hid HX.out.drew
  clear hpc hr0
  go_region_held3 (fun w' => w'.cell? ⟨nb, 0, none⟩ = some (.pointer (some ⟨i.m, 0, none⟩)) ∧ w'.cell? ⟨nb, 1, none⟩ = some (.pointer (some ⟨i.ti.tb, 0, none⟩)) ∧ w'.cell? ⟨nb, 2, none⟩ = some (.pointer (some ⟨i.ti.topB, 0, none⟩)) ∧ w'.cell? ⟨i.ti.topB, 3, none⟩ = some (.int .u64 (s.th.top.reg 1 : Nat))) (first | exact ⟨hb0, hb1, hb2, hr1⟩ | go_keep) (first
    | (go_at_call 12; refine (p_mem _ i s HXc.out.hS.at_).mono ?_; rintro r x ⟨rfl, rfl⟩)
    | (go_at_call 61; refine (HE.out _).mono ?_; rintro r x ⟨rfl, rfl⟩)
    | (go_at_call 146; refine (HS.out _).mono ?_; rintro r x ⟨rfl, rfl⟩)
    | (go_at_call 148; refine (raw_g _ i s HXc.out.hS.at_ 0 0 rfl (by decide)).mono ?_; rintro r x ⟨rfl, hk⟩; have HXc := Lib.hid (HXc.out.keep0 hk); have hb0 := HXc.out.b0; have hb1 := HXc.out.b1; have hb2 := HXc.out.b2; have hr1 := HXc.out.reg HF.out.deep 1 (by decide); clear hk)
    | (go_at_call 96; refine (p_store _ i s HXc.out.hS.at_ HF.out.few _ _).mono ?_; rintro r x ⟨rfl, hst⟩; have HXc := Lib.hid (HXc.out.stay hst (by decide)); have hb0 := HXc.out.b0; have hb1 := HXc.out.b1; have hb2 := HXc.out.b2; have hr1 := HXc.out.reg HF.out.deep 1 (by decide); clear hst))
  have HD : Hid (0 < (s.store (s.giveAt 0) s.takeSlot).th.frs.length) := HF.out.deep
  have hpc := (HXc.out.hS.at_.frame HD.out).c1
  have hpf := (HXc.out.hS.at_.frame HD.out).1.frozen 1
  clear hb0 hb1 hb2 hr1
  go_wp2_with fail
  go_end0
  exact ⟨rfl, _, (HXc.out.hS.setPc HD.out 2).to⟩
set_option maxRecDepth 100000 in
set_option maxHeartbeats 1000000 in
theorem give_0 (w : World) (i : PI) (s : PS) (h : PAt w i s) (hf : Fits s) (hpc : s.th.top.pc = 0) (hgn : Small s.gd.gens) :
    Calls Tryz.prog 133 #[runV i] w (StepOut w i (((s.store (s.giveAt 1) (genE (mkE 0 (genE s.giveEdge + 1)))).drop s.giveEdge).setPc 3)) := by
  have HX := Lib.hid (Box.new h 184)
  have HF := Lib.hid hf
  have HPC := Lib.hid hpc
  have HGN := Lib.hid hgn
  have hg50 : genE s.giveEdge < 2 ^ 50 := fld_lt _ 12 50
  have HE := Lib.hid (fun w => edge_slot s.giveEdge w (hf.regs 0))
  have HG := Lib.hid (fun w => edge_gen s.giveEdge w (hf.regs 0))
  have hmk : mkE 0 (genE s.giveEdge + 1) < 2 ^ 64 := mkE_lt _ _ (by omega)
  have HM := Lib.hid (fun w => edge_make_z (genE s.giveEdge + 1) w)
  have HG2 := Lib.hid (fun w => edge_gen (mkE 0 (genE s.giveEdge + 1)) w hmk)
  have hwr : IntKind.u64.wrap (((genE s.giveEdge : Nat) : Int) + 1) = ((genE s.giveEdge + 1 : Nat) : Int) := by
    rw [show ((genE s.giveEdge : Nat) : Int) + 1 = ((genE s.giveEdge + 1 : Nat) : Int) from rfl, wrap_u64, Nat.mod_eq_of_lt (by omega)]
  generalize genE s.giveEdge + 1 = g1 at hwr HM HG2 ⊢
  generalize mkE 0 g1 = mk at HM HG2 ⊢
  clear h hf hpc hg50 hmk hgn
  unfold runV
  unfold ptr at *
  go_enter Tryz.func133, Tryz.ntmps133
  go_upto_region 1 with fail
  generalize w.heap.size = nb at HX ⊢
  generalize w.alloc (.cells #[.pointer (some ⟨i.m, 0, none⟩), .pointer (some ⟨i.ti.tb, 0, none⟩), .pointer (some ⟨i.ti.topB, 0, none⟩)] 184) = w1 at HX ⊢
  have hb0 := HX.out.b0
  have hb1 := HX.out.b1
  have hb2 := HX.out.b2
  have hr0 := HX.out.reg HF.out.deep 0 (by decide)
  have hr1 := HX.out.reg HF.out.deep 1 (by decide)
  have hpc := HX.out.pc HF.out.deep
  rw [HPC.out] at hpc
  simp only [Nat.reduceAdd] at hr0
  rw [show s.th.top.reg 0 = s.giveEdge from rfl] at hr0
  go_wp2_with fail
  have HXc := Lib.hid HX.out.drew
  clear hpc hr0 hr1
  go_region_held3 (fun w' => w'.cell? ⟨nb, 0, none⟩ = some (.pointer (some ⟨i.m, 0, none⟩)) ∧ w'.cell? ⟨nb, 1, none⟩ = some (.pointer (some ⟨i.ti.tb, 0, none⟩)) ∧ w'.cell? ⟨nb, 2, none⟩ = some (.pointer (some ⟨i.ti.topB, 0, none⟩))) (first | exact ⟨hb0, hb1, hb2⟩ | go_keep) (first
    | (go_at_call 12; refine (p_mem _ i s HXc.out.hS.at_).mono ?_; rintro r x ⟨rfl, rfl⟩)
    | (go_at_call 61; refine (HE.out _).mono ?_; rintro r x ⟨rfl, rfl⟩)
    | (go_at_call_of 150 (s.giveEdge); refine (HG.out _).mono ?_; rintro r x ⟨rfl, rfl⟩)
    | (go_at_call_of 150 (mk); refine (HG2.out _).mono ?_; rintro r x ⟨rfl, rfl⟩)
    | (go_at_call 90; refine (HM.out _).mono ?_; rintro r x ⟨rfl, rfl⟩)
    | (go_at_call 148; refine (raw_g _ i s HXc.out.hS.at_ 1 1 rfl (by decide)).mono ?_; rintro r x ⟨rfl, hk⟩; have HXc := Lib.hid (HXc.out.keep0 hk); have hb0 := HXc.out.b0; have hb1 := HXc.out.b1; have hb2 := HXc.out.b2; clear hk)
    | (go_at_call 96; refine (p_store _ i s HXc.out.hS.at_ HF.out.few _ _).mono ?_; rintro r x ⟨rfl, hst⟩; have HXc := Lib.hid (HXc.out.stay hst (by decide)); have hb0 := HXc.out.b0; have hb1 := HXc.out.b1; have hb2 := HXc.out.b2; clear hst))
  go_wp2_with fail
  refine (p_guard _ i _ HXc.out.hS.at_).mono ?_
  rintro r y ⟨rfl, rfl⟩
  go_wp2_with fail
  refine (guard_drop _ i.gi _ s.giveEdge HXc.out.hS.at_.hG (HF.out.regs 0) HF.out.slips HGN.out).mono ?_
  rintro r y ⟨rfl, hg, hk⟩
  have H4 := Lib.hid (HXc.out.hS.guard hg hk)
  clear hg hk
  have HD : Hid (0 < ((s.store (s.giveAt 1) (genE mk)).drop s.giveEdge).th.frs.length) := HF.out.deep
  have hpc := (H4.out.at_.frame HD.out).c1
  have hpf := (H4.out.at_.frame HD.out).1.frozen 1
  clear hb0 hb1 hb2
  go_wp2_with fail
  go_end0
  exact ⟨rfl, _, (H4.out.setPc HD.out 3).to⟩

set_option maxRecDepth 100000 in
set_option maxHeartbeats 1000000 in
theorem give_2 (w : World) (i : PI) (s : PS) (h : PAt w i s) (hf : Fits s) (h0 : s.th.top.pc ≠ 0) (h1 : s.th.top.pc ≠ 1) (h3 : s.th.top.pc ≠ 3) :
    Calls Tryz.prog 133 #[runV i] w (StepOut w i (if s.swings then ((s.setPc 3).swung (slotE s.giveEdge)).back [] else (s.setPc 3).swung (slotE s.giveEdge))) := by
  have HX := Lib.hid (Box.new h 184)
  have HF := Lib.hid hf
  have HE := Lib.hid (fun w => edge_slot s.giveEdge w (hf.regs 0))
  clear h hf
  generalize hpost : (if s.swings then ((s.setPc 3).swung (slotE s.giveEdge)).back [] else (s.setPc 3).swung (slotE s.giveEdge)) = post
  have HPO := Lib.hid hpost
  clear hpost
  generalize hpp : s.th.top.pc = pc at h0 h1 h3
  have HPC := Lib.hid hpp
  clear hpp
  unfold runV
  unfold ptr at *
  go_enter Tryz.func133, Tryz.ntmps133
  go_upto_region 1 with fail
  generalize w.heap.size = nb at HX ⊢
  generalize w.alloc (.cells #[.pointer (some ⟨i.m, 0, none⟩), .pointer (some ⟨i.ti.tb, 0, none⟩), .pointer (some ⟨i.ti.topB, 0, none⟩)] 184) = w1 at HX ⊢
  have hb0 := HX.out.b0
  have hb1 := HX.out.b1
  have hb2 := HX.out.b2
  have hr0 := HX.out.reg HF.out.deep 0 (by decide)
  have hr1 := HX.out.reg HF.out.deep 1 (by decide)
  have hpc := HX.out.pc HF.out.deep
  rw [HPC.out] at hpc
  simp only [Nat.reduceAdd] at hr0
  have hpf := HX.out.fr HF.out.deep 1
  rw [show s.th.top.reg 0 = s.giveEdge from rfl] at hr0
  go_upto_region 5 with fail
  have HX2 : Hid (Box w (w1.setCell ⟨i.ti.topB, 1, none⟩ (.int .i64 3)) nb 184 i (s.setPc 3)) := Box.stay HX.out ((Stay.refl HX.out.hS.at_).setPc HF.out.deep 3) (by decide)
  generalize w1.setCell ⟨i.ti.topB, 1, none⟩ (.int .i64 3) = w2 at HX2 ⊢
  clear hb0 hb1 hb2 hr0 hr1 hpc hpf
  have HD : Hid (0 < (s.setPc 3).th.frs.length) := (PS.setPc_len _ _).symm ▸ HF.out.deep
  have hb0 := HX2.out.b0
  have hb1 := HX2.out.b1
  have hb2 := HX2.out.b2
  have HT : Hid ((s.setPc 3).th.top = { s.th.top with pc := 3 }) := ThS.top_setTop _ _ HF.out.deep
  have hsw : (s.setPc 3).swings = s.swings := by unfold PS.swings; rw [HT.out]; rfl
  have KS := swing_p w2.drew i (s.setPc 3) HX2.out.drew.hS.at_ HD.out HF.out.few ((slotE s.giveEdge : Nat) : Int) (by rw [HT.out]; exact HF.out.regs 1)
  rw [hsw, clipI_nat (slotE_lt _)] at KS
  clear hsw
  refine wp_region_still_tail 4 (by kernel_rfl) (by kernel_rfl) ?_
  simp only [List.take_succ_cons, List.take_zero, List.drop_succ_cons, List.drop_zero]
  iterate 3 still_step
  still_call ((HE.out _).mono (fun _ _ h => ⟨h.1, h.2.symm⟩))
  refine wpStill_nil ?_
  change wpList _ _ _ _ _ w2.drew
  go_wp2_with fail
  cases hs : s.swings with
  | true =>
    have HPO2 : Hid (((s.setPc 3).swung (slotE s.giveEdge)).back [] = post) := by rw [← HPO.out, hs]; rfl
    rw [hs] at KS
    clear HPO hs
    refine KS.mono ?_
    clear KS
    rintro r x ⟨rfl, hst⟩
    have HX3 := Lib.hid (HX2.out.drew.stay hst (by decide))
    have hx1 := HX3.out.b1
    clear hst hb0 hb1 hb2
    go_wp2_with fail
    refine (p_backN x i _ HX3.out.hS.at_ HD.out).mono ?_
    rintro r y ⟨rfl, ti', hto⟩
    have H2 := Lib.hid (PTo.of_stay HX3.out.hS hto)
    clear hto
    go_wp2_with fail
    go_end0
    rw [← HPO2.out]
    exact ⟨rfl, _, H2.out⟩
  | false =>
    have HPO2 : Hid ((s.setPc 3).swung (slotE s.giveEdge) = post) := by rw [← HPO.out, hs]; rfl
    rw [hs] at KS
    clear HPO hs
    refine KS.mono ?_
    clear KS
    rintro r x ⟨rfl, hst⟩
    have HX3 := Lib.hid (HX2.out.drew.stay hst (by decide))
    clear hst hb0 hb1 hb2
    go_wp2_with fail
    go_end0
    rw [← HPO2.out]
    exact ⟨rfl, _, HX3.out.hS.to⟩
theorem slots_give (w : World) (i : PI) (s : PS) (h : PAt w i s) (hf : Fits s) (hgn : Small s.gd.gens) :
    Calls Tryz.prog 133 #[runV i] w (StepOut w i s.give) := by
  unfold PS.give
  by_cases h0 : s.th.top.pc = 0
  · rw [if_pos h0]
    exact give_0 w i s h hf h0 hgn
  rw [if_neg h0]
  by_cases h3 : s.th.top.pc = 3
  · rw [if_pos h3]
    exact give_3 w i s h hf h3
  rw [if_neg h3]
  by_cases h1 : s.th.top.pc = 1
  · rw [if_pos h1]
    exact give_1 w i s h hf h1
  · rw [if_neg h1]
    exact give_2 w i s h hf h0 h1 h3
end Go.Proofs.YtoghcikfkkmfkaaGreat
