/- Package slots: head, raw, swing by their contracts. Conditions: the machine is known as the thread sees it, with a frame on top. -/
import Derived.Test.YtoghcikfkkmfkaaGreatStay
import Derived.Deep.RegionHeld3
import Derived.Deep.Cut
namespace Go.Proofs.YtoghcikfkkmfkaaGreat
open Go.RowKit

/-- Enough room for one more access. -/
def Few (s : PS) : Prop := s.mem.acc ≤ 4611686018427387904
def runV (i : PI) : Value := .agg #[ptr i.m, ptr i.ti.tb, ptr i.ti.topB]
def PS.touch (s : PS) (a : Int) : PS := { s with mem := s.mem.touch (inR s.mem.ws.length [a]) }
def PS.setReg (s : PS) (k v : Nat) : PS := { s with th := s.th.setTop { s.th.top with r := s.th.top.r.set k v } }
def PS.setPc (s : PS) (v : Int) : PS := { s with th := s.th.setTop { s.th.top with pc := v } }
theorem PS.setReg_len (s : PS) (k v : Nat) : (s.setReg k v).th.frs.length = s.th.frs.length := ThS.setTop_len _ _
theorem PS.setPc_len (s : PS) (v : Int) : (s.setPc v).th.frs.length = s.th.frs.length := ThS.setTop_len _ _
theorem PAt.mach {w : World} {i : PI} {s : PS} (h : PAt w i s) : Blk w i.m 108 (machCells (ptr i.p) (ptr i.mi.mb) (ptr i.gi.gb) i.tv s.steps s.fault) := h.hM
section
variable (w : World) (i : PI) (s : PS)
theorem p_mem (h : PAt w i s) : Calls Tryz.prog 12 #[.pointer (some ⟨i.m, 0, none⟩)] w fun r w' => r = .returned (.pointer (some ⟨i.mi.mb, 0, none⟩)) ∧ w = w' := core_mem w i.m _ _ _ _ _ _ h.mach
theorem p_guard (h : PAt w i s) : Calls Tryz.prog 19 #[.pointer (some ⟨i.m, 0, none⟩)] w fun r w' => r = .returned (.pointer (some ⟨i.gi.gb, 0, none⟩)) ∧ w = w' := core_guard w i.m _ _ _ _ _ _ h.mach
theorem p_plan (h : PAt w i s) : Calls Tryz.prog 44 #[.pointer (some ⟨i.m, 0, none⟩)] w fun r w' => r = .returned (.pointer (some ⟨i.p, 0, none⟩)) ∧ w = w' := core_plan w i.m _ _ _ _ _ _ h.mach
theorem p_load (h : PAt w i s) (hf : Few s) (a : Int) : Calls Tryz.prog 13 #[.pointer (some ⟨i.mi.mb, 0, none⟩), .int .i64 a] w fun r w' => r = .returned (.int .u64 (s.mem.rd a : Nat)) ∧ Stay w w' i (s.touch a) :=
  (mem_load w i.mi s.mem h.hMem hf a).mono (fun _ _ ⟨h1, h2, h3⟩ => ⟨h1, (Stay.refl h).mem h2 h3⟩)
end

set_option maxRecDepth 100000 in
theorem slots_head (w : World) (i : PI) (s : PS) (h : PAt w i s) (hp : 0 < s.th.frs.length) (hf : Few s) (at_ : Int) :
    Calls Tryz.prog 147 #[runV i, .int .i64 at_] w fun r w' => r = .returned (.tuple #[]) ∧ Stay w w' i (((s.touch 2).setReg 1 (s.mem.rd 2)).setPc at_) := by
  have HB := Lib.hid (Blk.new w 181 #[ptr i.m, ptr i.ti.tb, ptr i.ti.topB])
  have HS := Lib.hid ((Stay.refl h).alloc (.cells #[ptr i.m, ptr i.ti.tb, ptr i.ti.topB] 181))
  have HP := Lib.hid hp
  have HF := Lib.hid hf
  unfold runV
  unfold ptr at *
  clear h hp hf
  go_enter Tryz.func147, Tryz.ntmps147
  go_wp2_with fail
  generalize w.heap.size = nb at HB ⊢
  generalize w.alloc (.cells #[.pointer (some ⟨i.m, 0, none⟩), .pointer (some ⟨i.ti.tb, 0, none⟩), .pointer (some ⟨i.ti.topB, 0, none⟩)] 181) = w1 at HB HS ⊢
  have HM := Lib.hid (p_mem w1.drew i s HS.out.at_.drew)
  have HL := Lib.hid (p_load w1.drew i s HS.out.at_.drew HF.out 2)
  have hb0 : w1.cell? ⟨nb, 0, none⟩ = some (.pointer (some ⟨i.m, 0, none⟩)) := HB.out.cell 0
  have hb2 : w1.cell? ⟨nb, 2, none⟩ = some (.pointer (some ⟨i.ti.topB, 0, none⟩)) := HB.out.cell 2
  have hne : nb ≠ i.ti.topB := HB.out.ne_ (HS.out.at_.frame HP.out).1 (by decide)
  have hne2 := hne.symm
  go_region_held3 (fun w' => w'.cell? ⟨nb, 0, none⟩ = some (.pointer (some ⟨i.m, 0, none⟩)) ∧ w'.cell? ⟨nb, 2, none⟩ = some (.pointer (some ⟨i.ti.topB, 0, none⟩))) (first | exact ⟨hb0, hb2⟩ | exact ⟨hx0, hx2⟩ | go_keep) (first | (go_at_call 12; refine HM.out.mono ?_; rintro r x ⟨rfl, rfl⟩) | (go_at_call 13; refine HL.out.mono ?_; rintro r x ⟨rfl, hst⟩; have HX := Lib.hid hst; have HBx := Lib.hid (hst.blk HS.out.at_.drew HB.out.drew (by decide)); have hx0 : x.cell? ⟨nb, 0, none⟩ = some (.pointer (some ⟨i.m, 0, none⟩)) := HBx.out.cell 0; have hx2 : x.cell? ⟨nb, 2, none⟩ = some (.pointer (some ⟨i.ti.topB, 0, none⟩)) := HBx.out.cell 2; have hcr := (hst.at_.frame HP.out).reg 1 (by decide); have hfr := (hst.at_.frame HP.out).1.frozen 3; clear hst))
  have HS2 := Lib.hid ((HS.out.drew.trans HX.out).setReg HP.out 1 (s.mem.rd 2))
  have hb3 : (x.setCell ⟨i.ti.topB, 3, none⟩ (.int .u64 (s.mem.rd 2 : Nat))).cell? ⟨nb, 2, none⟩ = some (.pointer (some ⟨i.ti.topB, 0, none⟩)) := (HBx.out.far (p := ⟨i.ti.topB, 3, none⟩) hne _).cell 2
  have hpc := (HS2.out.at_.frame (by simpa [PS.touch, ThS.setTop_len] using HP.out)).c1
  have hpf := (HS2.out.at_.frame (by simpa [PS.touch, ThS.setTop_len] using HP.out)).1.frozen 1
  clear hx0 hx2 hcr hfr hb0 hb2 hne hne2 HM HL HX HBx HB HS
  simp only [Nat.reduceAdd] at HS2 hpc hpf
  generalize (x.setCell ⟨i.ti.topB, 3, none⟩ (.int .u64 (s.mem.rd 2 : Nat))) = x2 at *
  go_wp2_with fail
  go_end0
  exact ⟨rfl, HS2.out.setPc (by simpa [PS.touch, ThS.setTop_len] using HP.out) at_⟩

/-- Where a slot's field is; -1: nowhere. -/
def nodeI (c : ConfS) (s f : Nat) : Int := if 1 ≤ s ∧ (s : Int) ≤ c.slots then (ixN c s f : Nat) else -1
theorem plan_node_i (c : ConfS) (p : Nat) (s f : Nat) (fi : Int) (hfi : (f : Int) = fi) (w : World) (h : PlanAt w p c) (ho : c.Ok) (h3 : f ≤ 6) :
    Calls Tryz.prog 89 #[.pointer (some ⟨p, 0, none⟩), .int .i64 (s : Nat), .int .i64 fi] w fun e w' => e = .returned (.int .i64 (nodeI c s f)) ∧ w' = w := by
  unfold nodeI
  by_cases hs : 1 ≤ s ∧ (s : Int) ≤ c.slots
  · rw [if_pos hs]
    exact plan_node_fi c p s f fi hfi w h ho hs.1 hs.2 h3
  · rw [if_neg hs]
    exact (plan_node_no c p s fi w h (by omega)).mono (fun _ _ h => ⟨h.1, h.2.symm⟩)
theorem slots_raw (w : World) (i : PI) (s : PS) (h : PAt w i s) (sl f : Nat) (fi : Int) (hfi : (f : Int) = fi) (h3 : f ≤ 6) :
    Calls Tryz.prog 148 #[runV i, .int .i64 (sl : Nat), .int .i64 fi] w fun r w' => r = .returned (.int .i64 (nodeI s.conf sl f)) ∧ Keep [] w w' := by
  have HB := Lib.hid (Blk.new w 181 #[ptr i.m, ptr i.ti.tb, ptr i.ti.topB])
  have HS := Lib.hid (h.alloc (.cells #[ptr i.m, ptr i.ti.tb, ptr i.ti.topB] 181))
  have HK := Lib.hid ((Keep.refl [] w).alloc (.cells #[ptr i.m, ptr i.ti.tb, ptr i.ti.topB] 181))
  unfold runV
  unfold ptr at *
  clear h
  go_enter Tryz.func148, Tryz.ntmps148
  go_wp2_with fail
  generalize w.heap.size = nb at HB ⊢
  generalize w.alloc (.cells #[.pointer (some ⟨i.m, 0, none⟩), .pointer (some ⟨i.ti.tb, 0, none⟩), .pointer (some ⟨i.ti.topB, 0, none⟩)] 181) = w1 at HB HS HK ⊢
  refine (p_plan w1 i s HS.out).mono ?_
  rintro r x ⟨rfl, rfl⟩
  have KN := Lib.hid (plan_node_i s.conf i.p sl f fi hfi _ HS.out.hP HS.out.ok h3)
  clear hfi h3
  go_wp2_with fail
  refine KN.out.mono ?_
  rintro r x ⟨rfl, rfl⟩
  go_wp2_with fail
  go_ret
  exact ⟨rfl, HK.out⟩
def PS.swung (s : PS) (sl : Nat) : PS := { s with mem := s.mem.casS 2 (s.th.top.reg 1) (chgN (s.th.top.reg 1) sl) }
def PS.swings (s : PS) : Bool := s.mem.casB 2 (s.th.top.reg 1)
theorem p_cas (w : World) (i : PI) (s : PS) (h : PAt w i s) (hf : Few s) (a : Int) (old next : Nat) :
    Calls Tryz.prog 119 #[.pointer (some ⟨i.mi.mb, 0, none⟩), .int .i64 a, .int .u64 (old : Nat), .int .u64 (next : Nat)] w fun r w' => r = .returned (.bool (s.mem.casB a old)) ∧ Stay w w' i { s with mem := s.mem.casS a old next } :=
  (mem_cas w i.mi s.mem h.hMem hf a old next).mono (fun _ _ ⟨h1, h2, h3⟩ => ⟨h1, (Stay.refl h).mem h2 h3⟩)
set_option maxRecDepth 100000 in
theorem slots_swing (w : World) (i : PI) (s : PS) (h : PAt w i s) (hp : 0 < s.th.frs.length) (hf : Few s) (n : Int) (hr : s.th.top.reg 1 < 2 ^ 64) :
    Calls Tryz.prog 149 #[runV i, .int .i64 n] w fun r w' => r = .returned (.bool s.swings) ∧ Stay w w' i (s.swung (clipI n)) := by
  have HB := Lib.hid (Blk.new w 181 #[ptr i.m, ptr i.ti.tb, ptr i.ti.topB])
  have HS := Lib.hid ((Stay.refl h).alloc (.cells #[ptr i.m, ptr i.ti.tb, ptr i.ti.topB] 181))
  have HP := Lib.hid hp
  have HF := Lib.hid hf
  have HC := Lib.hid (fun w => badge_changed (s.th.top.reg 1) n w hr)
  generalize clipI n = sl at *
  unfold runV
  unfold ptr at *
  clear h hp hf hr
  go_enter Tryz.func149, Tryz.ntmps149
  go_upto_region 1 with fail
  generalize w.heap.size = nb at HB ⊢
  generalize w.alloc (.cells #[.pointer (some ⟨i.m, 0, none⟩), .pointer (some ⟨i.ti.tb, 0, none⟩), .pointer (some ⟨i.ti.topB, 0, none⟩)] 181) = w1 at HB HS ⊢
  have hb0 : w1.cell? ⟨nb, 0, none⟩ = some (.pointer (some ⟨i.m, 0, none⟩)) := HB.out.cell 0
  have hb2 : w1.cell? ⟨nb, 2, none⟩ = some (.pointer (some ⟨i.ti.topB, 0, none⟩)) := HB.out.cell 2
  have hcr : w1.cell? ⟨i.ti.topB, 3, none⟩ = some (.int .u64 (s.th.top.reg 1 : Nat)) := (HS.out.at_.frame HP.out).reg 1 (by decide)
  go_wp2_with fail
  refine (p_mem w1 i s HS.out.at_).mono ?_
  rintro r x ⟨rfl, rfl⟩
  go_wp2_with fail
  refine (HC.out _).mono ?_
  rintro r x ⟨rfl, rfl⟩
  go_wp2_with fail
  refine (p_cas _ i s HS.out.at_ HF.out 2 _ _).mono ?_
  rintro r x ⟨rfl, hst⟩
  have HX := Lib.hid hst
  clear hst
  go_wp2_with fail
  go_ret
  exact ⟨rfl, HS.out.trans HX.out⟩
end Go.Proofs.YtoghcikfkkmfkaaGreat
