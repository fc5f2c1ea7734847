/- Package slots: a step of Take. Conditions: the machine is known as the thread sees it, with a frame on top, whose words fit. -/
import Derived.Test.YtoghcikfkkmfkaaGreatSlots
namespace Go.Proofs.YtoghcikfkkmfkaaGreat
open Go.RowKit

def PS.takeSlot (s : PS) : Nat := slotE (s.th.top.reg 1)
def PS.at_ (s : PS) (f : Nat) : Int := nodeI s.conf s.takeSlot f
def PS.back (s : PS) (l : List Nat) : PS := { s with th := s.th.popped l }
def PS.head (s : PS) (v : Int) : PS := ((s.touch 2).setReg 1 (s.mem.rd 2)).setPc v
def PS.took (s : PS) (k : Nat) : PS := { s with gd := s.gd.takeS k }
/-- What a step of Take leaves. -/
def clipN (x : Nat) : Nat := clipI (IntKind.i64.wrap (x : Int))
theorem clipN_of {x : Nat} (h : x < 4096) : clipN x = x := by
  unfold clipN
  rw [IntWalk.i64_in _ (by omega)]
  exact clipI_nat h
def PS.take (s : PS) : PS :=
  if s.th.top.pc = 0 then s.head 1
  else if s.th.top.pc = 1 then (if s.takeSlot = 0 then s.back [0] else ((s.touch (s.at_ 0)).setReg 2 (s.mem.rd (s.at_ 0))).setPc 2)
  else if s.th.top.pc = 2 then (if s.swings then (((s.setPc 0).swung (clipN (s.th.top.reg 2))).took s.takeSlot).setPc 3 else (s.setPc 0).swung (clipN (s.th.top.reg 2)))
  else (s.touch (s.at_ 1)).back [mkE s.takeSlot (s.mem.rd (s.at_ 1))]
/-- What a step asks. -/
structure Fits (s : PS) : Prop where
  few : Few s
  deep : 0 < s.th.frs.length
  regs : ∀ k, s.th.top.reg k < 2 ^ 64
  slips : s.gd.slips ≤ 4611686018427387904
def StepOut (w : World) (i : PI) (s' : PS) (r : Ending) (w' : World) : Prop := r = .returned (.tuple #[]) ∧ ∃ ti', PTo w w' i ti' s'
/-- The box of a step's argument, and what is read out of it. -/
structure Box (w w1 : World) (nb t : Nat) (i : PI) (s : PS) : Prop where
  hB : Blk w1 nb t #[.pointer (some ⟨i.m, 0, none⟩), .pointer (some ⟨i.ti.tb, 0, none⟩), .pointer (some ⟨i.ti.topB, 0, none⟩)]
  hS : Stay w w1 i s
section
variable {w w1 w2 : World} {nb t : Nat} {i : PI} {s : PS}
theorem Box.b0 (h : Box w w1 nb t i s) : w1.cell? ⟨nb, 0, none⟩ = some (.pointer (some ⟨i.m, 0, none⟩)) := h.hB.cell 0
theorem Box.b1 (h : Box w w1 nb t i s) : w1.cell? ⟨nb, 1, none⟩ = some (.pointer (some ⟨i.ti.tb, 0, none⟩)) := h.hB.cell 1
theorem Box.b2 (h : Box w w1 nb t i s) : w1.cell? ⟨nb, 2, none⟩ = some (.pointer (some ⟨i.ti.topB, 0, none⟩)) := h.hB.cell 2
theorem Box.reg (h : Box w w1 nb t i s) (hp : 0 < s.th.frs.length) (k : Nat) (hk : k < 24) : w1.cell? ⟨i.ti.topB, 2 + k, none⟩ = some (.int .u64 (s.th.top.reg k : Nat)) := (h.hS.at_.frame hp).reg k hk
theorem Box.pc (h : Box w w1 nb t i s) (hp : 0 < s.th.frs.length) : w1.cell? ⟨i.ti.topB, 1, none⟩ = some (.int .i64 s.th.top.pc) := (h.hS.at_.frame hp).c1
theorem Box.fr (h : Box w w1 nb t i s) (hp : 0 < s.th.frs.length) (k : Nat) : w1.frozen? ⟨i.ti.topB, k, none⟩ = false := (h.hS.at_.frame hp).1.frozen k
theorem Box.ne_ (h : Box w w1 nb t i s) (hp : 0 < s.th.frs.length) (ht : t ≠ 48) : nb ≠ i.ti.topB := h.hB.ne_ (h.hS.at_.frame hp).1 ht
theorem Box.stay {s2 : PS} (h : Box w w1 nb t i s) (hs : Stay w1 w2 i s2) (ht : t ∉ 108 :: 140 :: 122 :: thTypes) : Box w w2 nb t i s2 := ⟨hs.blk h.hS.at_ h.hB ht, h.hS.trans hs⟩
theorem Box.new (h : PAt w i s) (t : Nat) : Box w (w.alloc (.cells #[.pointer (some ⟨i.m, 0, none⟩), .pointer (some ⟨i.ti.tb, 0, none⟩), .pointer (some ⟨i.ti.topB, 0, none⟩)] t)) w.heap.size t i s := ⟨Blk.new _ _ _, (Stay.refl h).alloc _⟩
theorem Box.drew (h : Box w w1 nb t i s) : Box w w1.drew nb t i s := ⟨h.hB.drew, h.hS.drew⟩
theorem Box.keep0 (h : Box w w1 nb t i s) (hk : Keep [] w1 w2) : Box w w2 nb t i s := ⟨h.hB.keep hk (by simp), h.hS.keep0 hk⟩
end
theorem head_p (w : World) (i : PI) (s : PS) (h : PAt w i s) (hf : Fits s) (v : Int) : Calls Tryz.prog 147 #[.agg #[.pointer (some ⟨i.m, 0, none⟩), .pointer (some ⟨i.ti.tb, 0, none⟩), .pointer (some ⟨i.ti.topB, 0, none⟩)], .int .i64 v] w fun r w' => r = .returned (.tuple #[]) ∧ Stay w w' i (s.head v) := slots_head w i s h hf.deep hf.few v

theorem take_0 (w : World) (i : PI) (s : PS) (h : PAt w i s) (hf : Fits s) (hpc : s.th.top.pc = 0) :
    Calls Tryz.prog 132 #[runV i] w (StepOut w i (s.head 1)) := by
  have HX := Lib.hid (Box.new h 183)
  have HF := Lib.hid hf
  have HS := Lib.hid (fun w => badge_slotOf (s.th.top.reg 1) w (hf.regs 1))
  have HPC := Lib.hid hpc
  clear h hf hpc
  unfold runV
  unfold ptr at *
  go_enter Tryz.func132, Tryz.ntmps132
  go_upto_region 1 with fail
  generalize w.heap.size = nb at HX ⊢
  generalize w.alloc (.cells #[.pointer (some ⟨i.m, 0, none⟩), .pointer (some ⟨i.ti.tb, 0, none⟩), .pointer (some ⟨i.ti.topB, 0, none⟩)] 183) = w1 at HX ⊢
  have hb0 := HX.out.b0
  have hb1 := HX.out.b1
  have hb2 := HX.out.b2
  have hr1 := HX.out.reg HF.out.deep 1 (by decide)
  have hpc := HX.out.pc HF.out.deep
  rw [HPC.out] at hpc
  go_wp2_with fail
  refine (HS.out _).mono ?_
  rintro r x ⟨rfl, rfl⟩
  go_wp2_with fail
  refine (head_p w1 i s HX.out.hS.at_ HF.out 1).mono ?_
  rintro r x ⟨rfl, hst⟩
  have H2 := Lib.hid (HX.out.hS.trans hst)
  clear hst
  go_wp2_with fail
  go_end0
  exact ⟨rfl, _, H2.out.to⟩

theorem wds_one (w : World) (v : Nat) : Wds (w.alloc (.cells #[.int .u64 (v : Nat)] 22)) (.slice (some ⟨w.heap.size, 0, none⟩) 1 1) [v] :=
  .inr ⟨w.heap.size, 1, #[.int .u64 (v : Nat)], rfl, Blk.new _ _ _, fun k x hk => by
    cases k with
    | zero => simp at hk; simp [hk]
    | succ k => simp at hk⟩
theorem p_back1 (w : World) (i : PI) (s : PS) (h : PAt w i s) (hp : 0 < s.th.frs.length) (v : Nat) :
    Calls Tryz.prog 98 #[.pointer (some ⟨i.ti.tb, 0, none⟩), .slice (some ⟨w.heap.size, 0, none⟩) 1 1] (w.alloc (.cells #[.int .u64 (v : Nat)] 22)) fun r w' => r = .returned (.tuple #[]) ∧ ∃ ti', PTo w w' i ti' (s.back [v]) := by
  refine (frame_back _ i.ti s.th (h.alloc _).hTh hp _ [v] (wds_one w v) (by simp)).mono ?_
  rintro r x ⟨rfl, ti', h1, h2, _, h4, h5⟩
  exact ⟨rfl, ti', ((Stay.refl h).alloc _).thread h1 h2 (fun x hx => .inl (h4 x hx)) (h5.mono (by simp [ThI.foot]))⟩
theorem p_back0 (w : World) (i : PI) (s : PS) (h : PAt w i s) (hp : 0 < s.th.frs.length) :
    Calls Tryz.prog 98 #[.pointer (some ⟨i.ti.tb, 0, none⟩), .slice (some ⟨w.heap.size, 0, none⟩) 1 1] (w.alloc (.cells #[.int .u64 0] 22)) fun r w' => r = .returned (.tuple #[]) ∧ ∃ ti', PTo w w' i ti' (s.back [0]) := p_back1 w i s h hp 0
theorem p_backN (w : World) (i : PI) (s : PS) (h : PAt w i s) (hp : 0 < s.th.frs.length) :
    Calls Tryz.prog 98 #[.pointer (some ⟨i.ti.tb, 0, none⟩), .slice none 0 0] w fun r w' => r = .returned (.tuple #[]) ∧ ∃ ti', PTo w w' i ti' (s.back []) := by
  refine (frame_back _ i.ti s.th h.hTh hp _ [] (.inl ⟨rfl, rfl⟩) (by simp)).mono ?_
  rintro r x ⟨rfl, ti', h1, h2, _, h4, h5⟩
  exact ⟨rfl, ti', (Stay.refl h).thread h1 h2 (fun x hx => .inl (h4 x hx)) (h5.mono (by simp [ThI.foot]))⟩
theorem PTo.of_stay {w w1 w2 : World} {i : PI} {s s2 : PS} {ti' : ThI} (h : Stay w w1 i s) (k : PTo w1 w2 i ti' s2) : PTo w w2 i ti' s2 :=
  ⟨k.at_, k.tb, fun x hx => (k.foot x hx).imp id (fun e => Nat.le_trans h.keep.size e), h.keep.trans k.keep (fun _ hx => .inl hx)⟩
theorem raw_p (w : World) (i : PI) (s : PS) (h : PAt w i s) (sl f : Nat) (fi : Int) (hfi : (f : Int) = fi) (h3 : f ≤ 6) :
    Calls Tryz.prog 148 #[.agg #[.pointer (some ⟨i.m, 0, none⟩), .pointer (some ⟨i.ti.tb, 0, none⟩), .pointer (some ⟨i.ti.topB, 0, none⟩)], .int .i64 (sl : Nat), .int .i64 fi] w fun r w' => r = .returned (.int .i64 (nodeI s.conf sl f)) ∧ Keep [] w w' := slots_raw w i s h sl f fi hfi h3
theorem raw_t (w : World) (i : PI) (s : PS) (h : PAt w i s) (f : Nat) (fi : Int) (hfi : (f : Int) = fi) (h3 : f ≤ 6) :
    Calls Tryz.prog 148 #[.agg #[.pointer (some ⟨i.m, 0, none⟩), .pointer (some ⟨i.ti.tb, 0, none⟩), .pointer (some ⟨i.ti.topB, 0, none⟩)], .int .i64 (s.takeSlot : Nat), .int .i64 fi] w fun r w' => r = .returned (.int .i64 (s.at_ f)) ∧ Keep [] w w' := slots_raw w i s h s.takeSlot f fi hfi h3
theorem swing_p (w : World) (i : PI) (s : PS) (h : PAt w i s) (hp : 0 < s.th.frs.length) (hf : Few s) (n : Int) (hr : s.th.top.reg 1 < 2 ^ 64) :
    Calls Tryz.prog 149 #[.agg #[.pointer (some ⟨i.m, 0, none⟩), .pointer (some ⟨i.ti.tb, 0, none⟩), .pointer (some ⟨i.ti.topB, 0, none⟩)], .int .i64 n] w fun r w' => r = .returned (.bool s.swings) ∧ Stay w w' i (s.swung (clipI n)) := slots_swing w i s h hp hf n hr

set_option maxRecDepth 100000 in
theorem take_1_none (w : World) (i : PI) (s : PS) (h : PAt w i s) (hf : Fits s) (hpc : s.th.top.pc = 1) (hz : s.takeSlot = 0) :
    Calls Tryz.prog 132 #[runV i] w (StepOut w i (s.back [0])) := by
  have HX := Lib.hid (Box.new h 183)
  have HF := Lib.hid hf
  have HPC := Lib.hid hpc
  have HS := Lib.hid (fun w => badge_slotOf (s.th.top.reg 1) w (hf.regs 1))
  rw [show slotE (s.th.top.reg 1) = 0 from hz] at HS
  clear h hf hpc hz
  unfold runV
  unfold ptr at *
  go_enter Tryz.func132, Tryz.ntmps132
  go_upto_region 1 with fail
  generalize w.heap.size = nb at HX ⊢
  generalize w.alloc (.cells #[.pointer (some ⟨i.m, 0, none⟩), .pointer (some ⟨i.ti.tb, 0, none⟩), .pointer (some ⟨i.ti.topB, 0, none⟩)] 183) = w1 at HX ⊢
  have hb0 := HX.out.b0
  have hb1 := HX.out.b1
  have hb2 := HX.out.b2
  have hr1 := HX.out.reg HF.out.deep 1 (by decide)
  have hpc := HX.out.pc HF.out.deep
  rw [HPC.out] at hpc
  go_wp2_with fail
  refine (HS.out _).mono ?_
  rintro r x ⟨rfl, rfl⟩
  go_wp2_with fail
  refine (p_back0 w1 i s HX.out.hS.at_ HF.out.deep).mono ?_
  rintro r x ⟨rfl, ti', hto⟩
  have H2 := Lib.hid (PTo.of_stay HX.out.hS hto)
  clear hto
  go_wp2_with fail
  go_end0
  exact ⟨rfl, _, H2.out⟩
set_option maxRecDepth 100000 in
theorem take_1 (w : World) (i : PI) (s : PS) (h : PAt w i s) (hf : Fits s) (hpc : s.th.top.pc = 1) (hz : s.takeSlot ≠ 0) :
    Calls Tryz.prog 132 #[runV i] w (StepOut w i (((s.touch (s.at_ 0)).setReg 2 (s.mem.rd (s.at_ 0))).setPc 2)) := by
  have HX := Lib.hid (Box.new h 183)
  have HF := Lib.hid hf
  have HPC := Lib.hid hpc
  have HS := Lib.hid (fun w => badge_slotOf (s.th.top.reg 1) w (hf.regs 1))
  have hz0 : ¬ (((s.takeSlot : Nat) : Int) = 0) := by omega
  rw [show slotE (s.th.top.reg 1) = s.takeSlot from rfl] at HS
  clear h hf hpc hz
  unfold runV
  unfold ptr at *
  go_enter Tryz.func132, Tryz.ntmps132
  go_upto_region 1 with fail
  generalize w.heap.size = nb at HX ⊢
  generalize w.alloc (.cells #[.pointer (some ⟨i.m, 0, none⟩), .pointer (some ⟨i.ti.tb, 0, none⟩), .pointer (some ⟨i.ti.topB, 0, none⟩)] 183) = w1 at HX ⊢
  have hb0 := HX.out.b0
  have hb1 := HX.out.b1
  have hb2 := HX.out.b2
  have hr1 := HX.out.reg HF.out.deep 1 (by decide)
  have hpc := HX.out.pc HF.out.deep
  rw [HPC.out] at hpc
  go_wp2_with fail
  refine (HS.out _).mono ?_
  rintro r x ⟨rfl, rfl⟩
  go_wp2_with fail
  have hne : nb ≠ i.ti.topB := HX.out.ne_ HF.out.deep (by decide)
  have hne2 := hne.symm
  have HXc := Lib.hid HX.out.drew
  clear hr1 hpc
  go_region_held3 (fun w' => w'.cell? ⟨nb, 0, none⟩ = some (.pointer (some ⟨i.m, 0, none⟩)) ∧ w'.cell? ⟨nb, 1, none⟩ = some (.pointer (some ⟨i.ti.tb, 0, none⟩)) ∧ w'.cell? ⟨nb, 2, none⟩ = some (.pointer (some ⟨i.ti.topB, 0, none⟩))) (first | exact ⟨hb0, hb1, hb2⟩ | go_keep) (first
    | (go_at_call 12; refine (p_mem _ i s HXc.out.hS.at_).mono ?_; rintro r x ⟨rfl, rfl⟩)
    | (go_at_call 148; refine (raw_t _ i s HXc.out.hS.at_ 0 0 rfl (by decide)).mono ?_; rintro r x ⟨rfl, hk⟩; have HXc := Lib.hid (HXc.out.keep0 hk); have hb0 := HXc.out.b0; have hb1 := HXc.out.b1; have hb2 := HXc.out.b2; clear hk)
    | (go_at_call 13; refine (p_load _ i s HXc.out.hS.at_ HF.out.few _).mono ?_; rintro r x ⟨rfl, hst⟩; have HXc := Lib.hid (HXc.out.stay hst (by decide)); have hb0 := HXc.out.b0; have hb1 := HXc.out.b1; have hb2 := HXc.out.b2; have hcr := HXc.out.reg (s := s.touch (s.at_ 0)) HF.out.deep 2 (by decide); have hfr := HXc.out.fr (s := s.touch (s.at_ 0)) HF.out.deep 4; clear hst))
  have HS2 := Lib.hid (HXc.out.hS.setReg (s := s.touch (s.at_ 0)) HF.out.deep 2 (s.mem.rd (s.at_ 0)))
  have hd : 0 < ((s.touch (s.at_ 0)).setReg 2 (s.mem.rd (s.at_ 0))).th.frs.length := by rw [PS.setReg_len]; exact HF.out.deep
  have HD := Lib.hid hd
  have hpc := (HS2.out.at_.frame hd).c1
  have hpf := (HS2.out.at_.frame hd).1.frozen 1
  simp only [Nat.reduceAdd] at HS2 hpc hpf
  clear hd HXc hb0 hb1 hb2 hcr hfr hne hne2
  generalize (x.setCell ⟨i.ti.topB, 4, none⟩ (.int .u64 (s.mem.rd (s.at_ 0) : Nat))) = x2 at *
  go_wp2_with fail
  go_end0
  exact ⟨rfl, _, (HS2.out.setPc HD.out 2).to⟩

set_option maxRecDepth 100000 in
set_option maxHeartbeats 400000 in
theorem take_2 (w : World) (i : PI) (s : PS) (h : PAt w i s) (hf : Fits s) (hpc : s.th.top.pc = 2) :
    Calls Tryz.prog 132 #[runV i] w (StepOut w i (if s.swings then (((s.setPc 0).swung (clipN (s.th.top.reg 2))).took s.takeSlot).setPc 3 else (s.setPc 0).swung (clipN (s.th.top.reg 2)))) := by
  have HX := Lib.hid (Box.new h 183)
  have HF := Lib.hid hf
  have HPC := Lib.hid hpc
  have HS := Lib.hid (fun w => badge_slotOf (s.th.top.reg 1) w (hf.regs 1))
  have hsl := slotE_lt (s.th.top.reg 1)
  obtain ⟨xw, hwr⟩ : ∃ xw, IntKind.i64.wrap ((s.th.top.reg 2 : Nat) : Int) = xw := ⟨_, rfl⟩
  have HXW : Hid (clipI xw = clipN (s.th.top.reg 2)) := by
    show clipI xw = clipN (s.th.top.reg 2)
    unfold clipN
    rw [hwr]
  rw [show slotE (s.th.top.reg 1) = s.takeSlot from rfl] at HS hsl
  have HSL := Lib.hid hsl
  clear h hf hpc hsl
  generalize hpost : (if s.swings then (((s.setPc 0).swung (clipN (s.th.top.reg 2))).took s.takeSlot).setPc 3 else (s.setPc 0).swung (clipN (s.th.top.reg 2))) = post
  have HPO := Lib.hid hpost
  clear hpost
  unfold runV
  unfold ptr at *
  go_enter Tryz.func132, Tryz.ntmps132
  go_upto_region 1 with fail
  generalize w.heap.size = nb at HX ⊢
  generalize w.alloc (.cells #[.pointer (some ⟨i.m, 0, none⟩), .pointer (some ⟨i.ti.tb, 0, none⟩), .pointer (some ⟨i.ti.topB, 0, none⟩)] 183) = w1 at HX ⊢
  have hb0 := HX.out.b0
  have hb1 := HX.out.b1
  have hb2 := HX.out.b2
  have hr1 := HX.out.reg HF.out.deep 1 (by decide)
  have hpc := HX.out.pc HF.out.deep
  rw [HPC.out] at hpc
  have hpf := HX.out.fr HF.out.deep 1
  go_wp2_with fail
  refine (HS.out _).mono ?_
  rintro r x ⟨rfl, rfl⟩
  go_upto_region 14 with fail
  have hne : nb ≠ i.ti.topB := HX.out.ne_ HF.out.deep (by decide)
  have HX2 : Hid (Box w (w1.setCell ⟨i.ti.topB, 1, none⟩ (.int .i64 0)) nb 183 i (s.setPc 0)) := Box.stay HX.out ((Stay.refl HX.out.hS.at_).setPc HF.out.deep 0) (by decide)
  generalize w1.setCell ⟨i.ti.topB, 1, none⟩ (.int .i64 0) = w2 at HX2 ⊢
  clear hb0 hb1 hb2 hr1 hpc hpf
  have hd : 0 < (s.setPc 0).th.frs.length := by rw [PS.setPc_len]; exact HF.out.deep
  have HD := Lib.hid hd
  have hb0 := HX2.out.b0
  have hb1 := HX2.out.b1
  have hb2 := HX2.out.b2
  have htop : (s.setPc 0).th.top = { s.th.top with pc := 0 } := ThS.top_setTop _ _ HF.out.deep
  have hr2 : w2.cell? ⟨i.ti.topB, 4, none⟩ = some (.int .u64 (s.th.top.reg 2 : Nat)) := by
    have := HX2.out.reg hd 2 (by decide)
    rwa [htop] at this
  have HT := Lib.hid htop
  clear hd htop
  refine wp_region_still_tail 8 (by kernel_rfl) (by kernel_rfl) ?_
  simp only [List.take_succ_cons, List.take_zero, List.drop_succ_cons, List.drop_zero]
  iterate 8 still_step
  refine wpStill_nil ?_
  change wpList _ _ _ _ _ w2.drew
  go_wp2_with fail
  have hsw : (s.setPc 0).swings = s.swings := by unfold PS.swings; rw [HT.out]; rfl
  have KS := swing_p w2.drew i (s.setPc 0) HX2.out.drew.hS.at_ HD.out HF.out.few xw (by rw [HT.out]; exact HF.out.regs 1)
  rw [hsw, HXW.out] at KS
  clear hsw hr2
  have hne2 := hne.symm
  cases hs : s.swings with
  | true =>
    have HPO2 : Hid ((((s.setPc 0).swung (clipN (s.th.top.reg 2))).took s.takeSlot).setPc 3 = post) := by rw [← HPO.out, hs]; rfl
    rw [hs] at KS
    clear HPO hs
    refine KS.mono ?_
    clear KS
    rintro r x ⟨rfl, hst⟩
    have HX3 := Lib.hid (HX2.out.drew.stay hst (by decide))
    have hx0 := HX3.out.b0
    clear hst hb0 hb1 hb2
    go_wp2_with fail
    refine (p_guard x i _ HX3.out.hS.at_).mono ?_
    rintro r y ⟨rfl, rfl⟩
    go_wp2_with fail
    refine (guard_take _ i.gi _ s.takeSlot HX3.out.hS.at_.hG (by have := HSL.out; omega) HF.out.slips).mono ?_
    rintro r y ⟨rfl, hg, hk⟩
    have H4 := Lib.hid (HX3.out.hS.guard hg (hk.mono (by simp)))
    clear hg hk
    have hd : 0 < (((s.setPc 0).swung (clipN (s.th.top.reg 2))).took s.takeSlot).th.frs.length := HD.out
    have HD4 := Lib.hid hd
    have hpc := (H4.out.at_.frame hd).c1
    have hpf := (H4.out.at_.frame hd).1.frozen 1
    clear hd hx0
    go_wp2_with fail
    go_end0
    rw [← HPO2.out]
    exact ⟨rfl, _, (H4.out.setPc HD4.out 3).to⟩
  | false =>
    have HPO2 : Hid ((s.setPc 0).swung (clipN (s.th.top.reg 2)) = post) := by rw [← HPO.out, hs]; rfl
    rw [hs] at KS
    clear HPO hs
    refine KS.mono ?_
    clear KS
    rintro r x ⟨rfl, hst⟩
    have HX3 := Lib.hid (HX2.out.drew.stay hst (by decide))
    clear hst hb0 hb1 hb2
    go_wp2_with fail
    go_end0
    rw [← HPO2.out]
    exact ⟨rfl, _, HX3.out.hS.to⟩

set_option maxRecDepth 100000 in
set_option maxHeartbeats 1000000 in
theorem take_3 (w : World) (i : PI) (s : PS) (h : PAt w i s) (hf : Fits s) (h0 : s.th.top.pc ≠ 0) (h1 : s.th.top.pc ≠ 1) (h2 : s.th.top.pc ≠ 2) :
    Calls Tryz.prog 132 #[runV i] w (StepOut w i ((s.touch (s.at_ 1)).back [mkE s.takeSlot (s.mem.rd (s.at_ 1))])) := by
  have HX := Lib.hid (Box.new h 183)
  have HF := Lib.hid hf
  have HS := Lib.hid (fun w => badge_slotOf (s.th.top.reg 1) w (hf.regs 1))
  rw [show slotE (s.th.top.reg 1) = s.takeSlot from rfl] at HS
  have HSL : Hid (s.takeSlot < 4096) := slotE_lt (s.th.top.reg 1)
  clear h hf
  generalize hpp : s.th.top.pc = pc at h0 h1 h2
  have HPC := Lib.hid hpp
  clear hpp
  unfold runV
  unfold ptr at *
  go_enter Tryz.func132, Tryz.ntmps132
  go_upto_region 1 with fail
  generalize w.heap.size = nb at HX ⊢
  generalize w.alloc (.cells #[.pointer (some ⟨i.m, 0, none⟩), .pointer (some ⟨i.ti.tb, 0, none⟩), .pointer (some ⟨i.ti.topB, 0, none⟩)] 183) = w1 at HX ⊢
  have hb0 := HX.out.b0
  have hb1 := HX.out.b1
  have hb2 := HX.out.b2
  have hr1 := HX.out.reg HF.out.deep 1 (by decide)
  have hpc := HX.out.pc HF.out.deep
  rw [HPC.out] at hpc
  go_wp2_with fail
  refine (HS.out _).mono ?_
  rintro r x ⟨rfl, rfl⟩
  go_wp2_with fail
  have HXc := Lib.hid HX.out.drew
  have HM := Lib.hid (fun w => edge_make s.takeSlot (s.mem.rd (s.at_ 1)) w HSL.out)
  clear hr1 hpc
  go_region_held3 (fun w' => w'.cell? ⟨nb, 0, none⟩ = some (.pointer (some ⟨i.m, 0, none⟩)) ∧ w'.cell? ⟨nb, 1, none⟩ = some (.pointer (some ⟨i.ti.tb, 0, none⟩)) ∧ w'.cell? ⟨nb, 2, none⟩ = some (.pointer (some ⟨i.ti.topB, 0, none⟩))) (first | exact ⟨hb0, hb1, hb2⟩ | exact ⟨hd0, hd1, hd2⟩ | go_keep) (first
    | (go_at_call 12; refine (p_mem _ i s HXc.out.hS.at_).mono ?_; rintro r x ⟨rfl, rfl⟩)
    | (go_at_call 148; refine (raw_t _ i s HXc.out.hS.at_ 1 1 rfl (by decide)).mono ?_; rintro r x ⟨rfl, hk⟩; have HXc := Lib.hid (HXc.out.keep0 hk); have hb0 := HXc.out.b0; have hb1 := HXc.out.b1; have hb2 := HXc.out.b2; clear hk)
    | (go_at_call 13; refine (p_load _ i s HXc.out.hS.at_ HF.out.few _).mono ?_; rintro r x ⟨rfl, hst⟩; have HXc : Hid (Box w x nb 183 i (s.touch (s.at_ 1))) := (HXc.out.stay hst (by decide)); have hb0 := HXc.out.b0; have hb1 := HXc.out.b1; have hb2 := HXc.out.b2; have HXa := Lib.hid (HXc.out.keep0 ((Keep.refl [] x).alloc (.cells #[.int .u64 (mkE s.takeSlot (s.mem.rd (s.at_ 1)) : Nat)] 22))); have hd0 := HXa.out.b0; have hd1 := HXa.out.b1; have hd2 := HXa.out.b2; clear hst)
    | (go_at_call 90; refine (HM.out _).mono ?_; rintro r y ⟨rfl, rfl⟩)
    | (go_at_call 98; refine (p_back1 _ i _ HXc.out.hS.at_ HF.out.deep _).mono ?_; rintro r y ⟨rfl, ti', hto⟩; have HTo := Lib.hid hto; have HBy := Lib.hid (HXc.out.hB.keep hto.keep (HXc.out.hS.at_.foot_ne HXc.out.hB (by decide))); have hb0 : y.cell? ⟨nb, 0, none⟩ = some (.pointer (some ⟨i.m, 0, none⟩)) := HBy.out.cell 0; have hb1 : y.cell? ⟨nb, 1, none⟩ = some (.pointer (some ⟨i.ti.tb, 0, none⟩)) := HBy.out.cell 1; have hb2 : y.cell? ⟨nb, 2, none⟩ = some (.pointer (some ⟨i.ti.topB, 0, none⟩)) := HBy.out.cell 2; clear hto))
  have HZ := Lib.hid (PTo.of_stay HXc.out.hS HTo.out)
  clear HTo HBy hb0 hb1 hb2 hd0 hd1 hd2
  go_wp2_with fail
  go_end0
  exact ⟨rfl, _, HZ.out⟩
theorem slots_take (w : World) (i : PI) (s : PS) (h : PAt w i s) (hf : Fits s) :
    Calls Tryz.prog 132 #[runV i] w (StepOut w i s.take) := by
  unfold PS.take
  by_cases h0 : s.th.top.pc = 0
  · rw [if_pos h0]
    exact take_0 w i s h hf h0
  rw [if_neg h0]
  by_cases h1 : s.th.top.pc = 1
  · rw [if_pos h1]
    by_cases hz : s.takeSlot = 0
    · rw [if_pos hz]
      exact take_1_none w i s h hf h1 hz
    · rw [if_neg hz]
      exact take_1 w i s h hf h1 hz
  rw [if_neg h1]
  by_cases h2 : s.th.top.pc = 2
  · rw [if_pos h2]
    exact take_2 w i s h hf h2
  · rw [if_neg h2]
    exact take_3 w i s h hf h0 h1 h2
end Go.Proofs.YtoghcikfkkmfkaaGreat
