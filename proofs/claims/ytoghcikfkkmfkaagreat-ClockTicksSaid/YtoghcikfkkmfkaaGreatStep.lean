/- core.Step of any routine. Conditions: the machine is known whole; the counters have room. -/
import Derived.Test.YtoghcikfkkmfkaaGreatDo
import Derived.Deep.DeepCutAuto
namespace Go.Proofs.YtoghcikfkkmfkaaGreat
open Go.RowKit

theorem PAt.setM {w w' : World} {i : PI} {s : PS} (h : PAt w i s) {n : Int} {f : Bool} (hm : Blk w' i.m 108 (machCells (ptr i.p) (ptr i.mi.mb) (ptr i.gi.gb) i.tv n f)) (hk : Keep [i.m] w w') : PAt w' i { s with steps := n, fault := f } := by
  have hmb : ∀ {b t : Nat} {cs : Array Value}, Blk w b t cs → t ≠ 108 → b ∉ [i.m] := fun hb h1 => by
    simpa using hb.ne_ h.hM h1
  exact ⟨hm, h.hP.keep hk (hmb h.hP (by decide)), h.ok, h.hMem.keep hk (hmb h.hMem.hm (by decide)) (hmb h.hMem.hw (by decide)),
    h.hG.keep hk (hmb h.hG.hg (by decide)) (hmb h.hG.hs (by decide)) (by simpa using h.hG.hh.neBlk h.hM), h.hTh.keep hk (fun x hx => by
      simp only [List.mem_singleton]
      intro e
      subst e
      exact h.hTh.foot_ne h.hM (by decide) hx), h.wbf, h.gsf, h.wg⟩
theorem PTo.setM {w w1 w2 : World} {i : PI} {ti' : ThI} {s : PS} (h : PTo w w1 i ti' s) {n : Int} {f : Bool} (hm : Blk w2 i.m 108 (machCells (ptr i.p) (ptr i.mi.mb) (ptr i.gi.gb) i.tv n f)) (hk : Keep [i.m] w1 w2) : PTo w w2 i ti' { s with steps := n, fault := f } :=
  ⟨h.at_.setM hm hk, h.tb, h.foot, h.keep.trans hk (fun x hx => .inl (by simp at hx; subst hx; simp [PI.foot]))⟩
/-- A step of a routine, with what core counts. -/
def PS.stepped (s q : PS) : PS := { q with steps := q.steps + 1, fault := q.fault || decide (1 < q.mem.acc - s.mem.acc) }
def fnV (F : Nat) : Value := .func (.func F) #[] #[]
/-- What core.Step leaves. -/
def MS.ran (s : MS) (k : Nat) (t : ThS) (step : PS → PS) : MS := s.join k ((s.part t).stepped (step (s.part t)))
def MS.left (s : MS) (t : ThS) (step : PS → PS) : Bool := decide (0 < (step (s.part t)).th.frs.length)
def RanOut (w : World) (i : MI) (s : MS) (k : Nat) (t : ThS) (step : PS → PS) (r : Ending) (w' : World) : Prop :=
  r = .returned (.bool (s.left t step)) ∧ ∃ i', MachAt w' i' (s.ran k t step) ∧ Goes w w' i i'
/-- Room for the counters. -/
structure Room (s : MS) (q : PS) : Prop where
  s0 : 0 ≤ s.steps
  s1 : s.steps ≤ 4611686018427387904
  a1 : s.mem.acc ≤ 4611686018427387904
  a2 : q.mem.acc ≤ 4611686018427387999
  st : q.steps = s.steps

theorem p_acc (w : World) (i : PI) (s : PS) (h : PAt w i s) : Calls Tryz.prog 55 #[.pointer (some ⟨i.mi.mb, 0, none⟩)] w fun r w' => r = .returned (.int .i64 s.mem.acc) ∧ w = w' := mem_accesses w i.mi s.mem h.hMem
theorem enter_slots (args : Array Value) (w : World) : (callFunc 103 args).run Tryz.prog w = .ok (.enter 103 args) w := by kernel_rfl
theorem run_fn_nil (F : Nat) (w : World) : (binOp .eql 117 (.func (.func F) #[] #[]) .nilFunc).run Tryz.prog w = .ok (.bool false) w := by kernel_rfl
theorem wrap_i64 (x : Int) (h0 : -4611686018427387999 ≤ x) (h1 : x ≤ 4611686018427387999) : IntKind.i64.wrap x = x := IntWalk.i64_in _ (by omega)
/-- A routine of thread k, at machines of which M holds. -/
def RoutineAt (k : Nat) (M : MS → Prop) (F : Nat) (ok : PS → Prop) (step : PS → PS) : Prop :=
  ∀ (w : World) (i : MI) (s : MS), MachAt w i s → M s → ∀ (ti : ThI) (t : ThS), i.tis[k]? = some ti → s.ths[k]? = some t → 0 < t.frs.length → ok (s.part t) →
    Calls Tryz.prog F #[.pointer (some ⟨i.m, 0, none⟩), .int .i64 (k : Nat)] w (StepOut w (i.part ti) (step (s.part t)))
theorem RoutineOk.at_ {F : Nat} {ok : PS → Prop} {step : PS → PS} (hr : RoutineOk F ok step) (k : Nat) : RoutineAt k (fun _ => True) F ok step := fun w i s h _ ti t => hr w i s h k ti t
set_option maxRecDepth 100000 in
set_option maxHeartbeats 1000000 in
theorem core_step_at {F k : Nat} {M : MS → Prop} {ok : PS → Prop} {step : PS → PS} (hr : RoutineAt k M F ok step) (henter : ∀ (args : Array Value) (w : World), (callFunc F args).run Tryz.prog w = .ok (.enter F args) w) (w : World) (i : MI) (s : MS) (h : MachAt w i s) (hMs : M s) (ti : ThI) (t : ThS) (h1 : i.tis[k]? = some ti) (h2 : s.ths[k]? = some t) (hp : 0 < t.frs.length) (hok : ok (s.part t)) (hroom : Room s (step (s.part t))) :
    Calls Tryz.prog 17 #[.pointer (some ⟨i.m, 0, none⟩), .int .i64 (k : Nat), fnV F] w (RanOut w i s k t step) := by
  have HT := Lib.hid (t_top h h1 h2 hp)
  have H := Lib.hid h
  have H1 := Lib.hid h1
  have H2 := Lib.hid h2
  have HP := Lib.hid hp
  have HR := Lib.hid (fun w' (h' : MachAt w' i s) => hr w' i s h' hMs ti t h1 h2 hp hok)
  have HRM := Lib.hid hroom
  unfold fnV
  have hfn := run_fn_nil F
  clear h hp hok h1 h2 hr hroom hMs
  go_enter Tryz.func17, Tryz.ntmps17
  go_wp2_with fail
  refine (m_thread H.out k ti H1.out).mono ?_
  rintro r x ⟨rfl, rfl⟩
  go_wp2_with fail
  refine HT.out.mono ?_
  rintro r x ⟨rfl, hd⟩
  have HX := Lib.hid (H.out.drawn hd)
  have HK := Lib.hid ((Stay.refl (H.out.part H1.out H2.out)).drawn hd)
  clear hd HT
  have hc1 : x.cell? ⟨i.m, 1, none⟩ = some (.pointer (some ⟨i.mi.mb, 0, none⟩)) := HX.out.hM.cell 1
  go_wp2_with fail
  refine (mem_accesses x i.mi s.mem HX.out.hMem).mono ?_
  rintro r y ⟨rfl, rfl⟩
  go_wp2_with fail
  refine (HR.out x HX.out).mono ?_
  generalize hq : step (s.part t) = q at HRM
  rintro r y ⟨rfl, ti', hto⟩
  have HY := Lib.hid (PTo.of_stay HK.out hto)
  have HQ := Lib.hid hq
  have hrl : MS.left s t step = decide (0 < q.th.frs.length) := by unfold MS.left; rw [hq]
  have hrn : MS.ran s k t step = s.join k ((s.part t).stepped q) := by unfold MS.ran; rw [hq]
  have HRL := Lib.hid hrl
  have HRN := Lib.hid hrn
  have hM : Blk y i.m 108 (machCells (ptr i.p) (ptr i.mi.mb) (ptr i.gi.gb) i.tv s.steps q.fault) := by
    have := HY.out.at_.mach
    rw [HRM.out.st] at this
    exact this
  have hs0 := HRM.out.s0
  have hs1 := HRM.out.s1
  have ha1 := HRM.out.a1
  have ha2 := HRM.out.a2
  have ha0 := HX.out.hMem.acc0
  have ha3 := HY.out.at_.hMem.acc0
  have HM := Lib.hid hM
  have hc4 : y.cell? ⟨i.m, 4, none⟩ = some (.int .i64 s.steps) := hM.cell 4
  have hf4 : y.frozen? ⟨i.m, 4, none⟩ = false := hM.frozen 4
  clear hto hq hrl hrn hc1 hfn HR hM
  go_upto_region 6 with fail
  have HM2 := Lib.hid (HM.out.set_ 4 (.int .i64 (s.steps + 1)))
  have HK2 : Hid (Keep [i.m] y (y.setCell ⟨i.m, 4, none⟩ (.int .i64 (s.steps + 1)))) := (Keep.refl _ _).set_ _ (.inl (by simp))
  generalize y.setCell ⟨i.m, 4, none⟩ (.int .i64 (s.steps + 1)) = y2 at HM2 HK2 ⊢
  have HM3 : Hid (Blk y2 i.m 108 (machCells (ptr i.p) (ptr i.mi.mb) (ptr i.gi.gb) i.tv (s.steps + 1) q.fault)) := HM2.out
  have HY2 := Lib.hid (HY.out.setM HM3.out HK2.out)
  clear hc4 hf4 HM2
  have hc1 : y2.cell? ⟨i.m, 1, none⟩ = some (.pointer (some ⟨i.mi.mb, 0, none⟩)) := HM3.out.cell 1
  have hc5 : y2.cell? ⟨i.m, 5, none⟩ = some (.bool q.fault) := HM3.out.cell 5
  have hf5 : y2.frozen? ⟨i.m, 5, none⟩ = false := HM3.out.frozen 5
  go_cut [] (fun wx => PTo w wx (i.part ti) ti' ((s.part t).stepped q))
  case first =>
    have hfin : ∀ (b : Bool), (q.fault || decide (1 < q.mem.acc - s.mem.acc)) = b → Hid (PTo w (y2.setCell ⟨i.m, 5, none⟩ (.bool b)) (i.part ti) ti' ((s.part t).stepped q)) := fun b hb => by
      have h1 := HM3.out.set_ 5 (.bool b)
      have h2 : Keep [i.m] y2 (y2.setCell ⟨i.m, 5, none⟩ (.bool b)) := (Keep.refl _ _).set_ _ (.inl (by simp))
      have h3 := HY2.out.setM (n := s.steps + 1) (f := b) h1 h2
      have e : (s.part t).stepped q = { q with steps := s.steps + 1, fault := b } := by
        unfold PS.stepped
        rw [HRM.out.st, ← hb]
        rfl
      rw [e]
      exact h3
    cases hqf : q.fault with
    | true =>
      have HF := hfin true (by rw [hqf]; rfl)
      rw [hqf] at hc5
      clear hfin
      go_wp2_with fail
      go_meet
      exact HF.out
    | false =>
      rw [hqf] at hc5
      have KA := Lib.hid (mem_accesses y2 i.mi q.mem HY2.out.at_.hMem)
      have HF := hfin (decide (1 < q.mem.acc - s.mem.acc)) (by rw [hqf]; rfl)
      clear hfin
      go_wp2_with fail
      refine KA.out.mono ?_
      rintro r z ⟨rfl, rfl⟩
      go_wp2_with fail
      go_meet
      exact HF.out
  case rest =>
    have HZ := Lib.hid hcut
    clear hcut hc1 hc5 hf5 HY2 HM3 HM HK2 hs0 hs1 ha1 ha2 ha0 ha3
    obtain ⟨hmz, hgo⟩ := H.out.join H1.out H2.out HZ.out
    have hkl := (List.getElem?_eq_some_iff.1 H1.out).1
    have htl := H.out.tl
    have hk1 : (i.join k ti').tis[k]? = some ti' := by simp only [MI.join]; exact List.getElem?_set_self hkl
    have hk2 : (s.join k ((s.part t).stepped q)).ths[k]? = some q.th := by simp only [MS.join]; exact List.getElem?_set_self (by omega)
    have hln : (s.join k ((s.part t).stepped q)).ths.length = s.ths.length := by simp [MS.join]
    obtain ⟨g, cap, hv, hcell⟩ := hmz.tvForm (by rw [hln]; omega)
    have hct := hcell k ti' hk1
    have hc3 : wc.cell? ⟨i.m, 3, none⟩ = some (.slice (some ⟨g, 0, none⟩) s.ths.length cap) := by
      have := hmz.hM.cell 3
      rw [hv, hln] at this
      exact this
    have htb : ti'.tb = ti.tb := HZ.out.tb
    unfold ptr at hct
    have hzl : ((k : Nat) : Int) < (s.ths.length : Int) := by omega
    have HMZ := Lib.hid hmz
    have HGO := Lib.hid hgo
    have K1 := Lib.hid hk1
    have K2 := Lib.hid hk2
    clear hmz hgo hk1 hk2 hv hcell htb hln hkl htl
    by_cases hp : 0 < q.th.frs.length
    · have KT := Lib.hid (t_top HMZ.out K1.out K2.out hp)
      have hd : decide (0 < q.th.frs.length) = true := by simpa using hp
      have HD := Lib.hid hd
      clear hd hp
      go_wp2_with fail
      refine KT.out.mono ?_
      rintro r z ⟨rfl, hdr⟩
      have HDR := Lib.hid hdr
      clear hdr
      go_wp2_with fail
      go_ret
      refine ⟨by rw [HRL.out, HD.out]; rfl, i.join k ti', ?_, HGO.out.keep0 (Keep.of_drawn HDR.out)⟩
      rw [HRN.out]
      exact HMZ.out.drawn HDR.out
    · have KT := Lib.hid (t_top_none HMZ.out K1.out K2.out (List.eq_nil_of_length_eq_zero (by omega)))
      have hd : decide (0 < q.th.frs.length) = false := by simpa using hp
      have HD := Lib.hid hd
      clear hd hp
      go_wp2_with fail
      refine KT.out.mono ?_
      rintro r z ⟨rfl, rfl⟩
      go_wp2_with fail
      go_ret
      refine ⟨by rw [HRL.out, HD.out]; rfl, i.join k ti', ?_, HGO.out⟩
      rw [HRN.out]
      exact HMZ.out
theorem core_step {F : Nat} {ok : PS → Prop} {step : PS → PS} (hr : RoutineOk F ok step) (henter : ∀ (args : Array Value) (w : World), (callFunc F args).run Tryz.prog w = .ok (.enter F args) w) (w : World) (i : MI) (s : MS) (h : MachAt w i s) (k : Nat) (ti : ThI) (t : ThS) (h1 : i.tis[k]? = some ti) (h2 : s.ths[k]? = some t) (hp : 0 < t.frs.length) (hok : ok (s.part t)) (hroom : Room s (step (s.part t))) :
    Calls Tryz.prog 17 #[.pointer (some ⟨i.m, 0, none⟩), .int .i64 (k : Nat), fnV F] w (RanOut w i s k t step) := core_step_at (hr.at_ k) henter w i s h trivial ti t h1 h2 hp hok hroom
end Go.Proofs.YtoghcikfkkmfkaaGreat
