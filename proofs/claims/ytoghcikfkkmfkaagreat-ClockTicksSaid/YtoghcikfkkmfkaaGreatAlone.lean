/- The laws' Alone: a thread does a routine alone, to its end. Conditions: an invariant of the caller's that each step hands on. -/
import Derived.Test.YtoghcikfkkmfkaaGreatStep
namespace Go.Proofs.YtoghcikfkkmfkaaGreat
open Go.RowKit

def MS.run1 (s : MS) (k : Nat) (step : PS → PS) : MS := match s.ths[k]? with | some t => s.ran k t step | none => s
def MS.depth (s : MS) (k : Nat) : Nat := match s.ths[k]? with | some t => t.frs.length | none => 0
def MS.call (s : MS) (k : Nat) (fn : Int) (l : List Nat) : MS := match s.ths[k]? with | some t => s.join k { (s.part t) with th := t.pushed fn l } | none => s
def aloneGo (step : PS → PS) (k n : Nat) : Nat → Nat → MS → MS × Nat × Bool
  | 0, i, s => (s, i, false)
  | f + 1, i, s => if (s.run1 k step).depth k ≤ n then (s.run1 k step, i + 1, true) else aloneGo step k n f (i + 1) (s.run1 k step)
/-- What hands a thread on from step to step, till it is no deeper than n. -/
def Drives (P : MS → Prop) (k n : Nat) (ok : PS → Prop) (step : PS → PS) : Prop :=
  ∀ s, P s → ∃ t, s.ths[k]? = some t ∧ n < t.frs.length ∧ ok (s.part t) ∧ Room s (step (s.part t)) ∧ (n < (step (s.part t)).th.frs.length → P (s.ran k t step))
section
variable {w w' : World} {i i' : MI} {s : MS}
theorem Goes.tb (h : Goes w w' i i') {k : Nat} {ti : ThI} (hk : i.tis[k]? = some ti) : ∃ ti', i'.tis[k]? = some ti' ∧ ti'.tb = ti.tb := by
  have e : (i'.tis.map (·.tb))[k]? = (i.tis.map (·.tb))[k]? := by rw [h.row]
  rw [List.getElem?_map, List.getElem?_map, hk] at e
  cases hx : i'.tis[k]? with
  | none => rw [hx] at e; cases e
  | some ti' =>
    rw [hx] at e
    simp at e
    exact ⟨ti', rfl, e⟩
theorem MachAt.thAt (h : MachAt w i s) {k : Nat} {t : ThS} (h2 : s.ths[k]? = some t) : ∃ ti, i.tis[k]? = some ti := by
  have := (List.getElem?_eq_some_iff.1 h2).1
  have htl := h.tl
  exact ⟨_, List.getElem?_eq_getElem (by omega)⟩
theorem m_depth (h : MachAt w i s) {k : Nat} {ti : ThI} {t : ThS} (h1 : i.tis[k]? = some ti) (h2 : s.ths[k]? = some t) :
    Calls Tryz.prog 14 #[.pointer (some ⟨ti.tb, 0, none⟩)] w fun r w' => r = .returned (.int .i64 (t.frs.length : Nat)) ∧ w = w' := frame_depth w ti t (h.th k ti t h1 h2)
theorem m_call (h : MachAt w i s) {k : Nat} {ti : ThI} {t : ThS} (h1 : i.tis[k]? = some ti) (h2 : s.ths[k]? = some t) (hd : t.frs.length ≤ 1000) (fn : Int) (v : Value) (l : List Nat) (hv : Wds w v l) (hl : l.length ≤ 24) :
    Calls Tryz.prog 15 #[.pointer (some ⟨ti.tb, 0, none⟩), .int .i64 fn, v] w fun r w' => r = .returned (.tuple #[]) ∧ ∃ i', MachAt w' i' (s.call k fn l) ∧ Goes w w' i i' := by
  refine (frame_call w ti t (h.th k ti t h1 h2) hd fn v l hv hl).mono ?_
  rintro r x ⟨rfl, ti', ha, hb, hc, hd⟩
  have hto := (Stay.refl (h.part h1 h2)).thread ha hb hc hd
  obtain ⟨h3, h4⟩ := h.join h1 h2 hto
  refine ⟨rfl, _, ?_, h4⟩
  have e : s.call k fn l = s.join k { (s.part t) with th := t.pushed fn l } := by unfold MS.call; rw [h2]
  rw [e]
  exact h3
end
theorem ran_at {s : MS} {k : Nat} {t : ThS} {step : PS → PS} (h : s.ths[k]? = some t) : (s.ran k t step).ths[k]? = some (step (s.part t)).th := by
  have := (List.getElem?_eq_some_iff.1 h).1
  unfold MS.ran MS.join PS.stepped
  exact List.getElem?_set_self this
theorem run1_of {s : MS} {k : Nat} {t : ThS} {step : PS → PS} (h : s.ths[k]? = some t) : s.run1 k step = s.ran k t step := by unfold MS.run1; rw [h]
theorem depth_of {s : MS} {k : Nat} {t : ThS} (h : s.ths[k]? = some t) : s.depth k = t.frs.length := by unfold MS.depth; rw [h]
def AloneOut (w : World) (i : MI) (g : MS × Nat × Bool) (r : Ending) (w' : World) : Prop :=
  r = .returned (.tuple #[.int .i64 (g.2.1 : Nat), .bool g.2.2]) ∧ ∃ i', MachAt w' i' g.1 ∧ Goes w w' i i'

set_option maxRecDepth 100000 in
set_option maxHeartbeats 1000000 in
theorem alone_at {F k : Nat} {M : MS → Prop} {ok : PS → Prop} {step : PS → PS} (hr : RoutineAt k M F ok step) (henter : ∀ (args : Array Value) (w : World), (callFunc F args).run Tryz.prog w = .ok (.enter F args) w)
    (P : MS → Prop) (hPM : ∀ s, P s → M s) (w : World) (i : MI) (s : MS) (h : MachAt w i s) (t : ThS) (h2 : s.ths[k]? = some t) (hd : t.frs.length ≤ 1000) (most : Nat) (hm : most ≤ 100000) (fn : Int) (v : Value) (l : List Nat) (hv : Wds w v l) (hl : l.length ≤ 24)
    (hP : P (s.call k fn l)) (hD : Drives P k t.frs.length ok step) :
    Calls Tryz.prog 32 #[.pointer (some ⟨i.m, 0, none⟩), .int .i64 (k : Nat), fnV F, .int .i64 (most : Nat), .int .i64 fn, v] w (AloneOut w i (aloneGo step k t.frs.length most 0 (s.call k fn l))) := by
  obtain ⟨ti, h1⟩ := h.thAt h2
  have H := Lib.hid h
  have H1 := Lib.hid h1
  have H2 := Lib.hid h2
  have HC := Lib.hid (m_call h h1 h2 hd fn v l hv hl)
  have HP := Lib.hid hP
  have HD := Lib.hid hD
  have HS := Lib.hid (fun w' i' s' h' hM' ti' t' h1 h2 hp hok hroom => core_step_at hr henter w' i' s' h' hM' ti' t' h1 h2 hp hok hroom)
  have HPM := Lib.hid hPM
  have HV := Lib.hid hv
  unfold fnV at HS ⊢
  clear h h1 h2 hP hD hr henter hd hl hPM
  generalize hg : aloneGo step k t.frs.length most 0 (s.call k fn l) = g
  have HG := Lib.hid hg
  clear hg
  obtain ⟨A, n, cap, rfl⟩ : ∃ A n cap, v = .slice A n cap := by
    rcases hv with ⟨rfl, _⟩ | ⟨b, cap, cs, rfl, _⟩ <;> exact ⟨_, _, _, rfl⟩
  clear hv
  go_enter Tryz.func32, Tryz.ntmps32
  go_wp2_with fail
  refine (m_thread H.out k ti H1.out).mono ?_
  rintro r x ⟨rfl, rfl⟩
  go_wp2_with fail
  refine (m_depth H.out H1.out H2.out).mono ?_
  rintro r x ⟨rfl, rfl⟩
  go_wp2_with fail
  refine HC.out.mono ?_
  rintro r x ⟨rfl, i1, hma, hgo⟩
  have HM := Lib.hid hma
  have HO := Lib.hid hgo
  clear hma hgo HC
  go_wp2_with fail
  go_loopg [16] most (fun gg q wr => ∃ (j : Nat) (sj : MS) (ij : MI), j ≤ most ∧ gg = most - j ∧ q = .int .i64 (j : Nat) ∧ MachAt wr ij sj ∧ Goes w wr i ij ∧ P sj ∧ aloneGo step k t.frs.length (most - j) j sj = g)
  case atStart => exact ⟨0, s.call k fn l, i1, Nat.zero_le _, rfl, rfl, HM.out, HO.out, HP.out, HG.out⟩
  case round =>
    obtain ⟨j, sj, ij, hj, rfl, rfl, hma, hgo, hp, hag⟩ := hrel
    obtain ⟨tij, hij, htb⟩ := hgo.tb H1.out
    have HMj := Lib.hid hma
    have HGj := Lib.hid hgo
    have HAj := Lib.hid hag
    have hd := HD.out sj hp
    have HMM := Lib.hid (HPM.out sj hp)
    have HIJ := Lib.hid hij
    have hm' := hgo.m
    clear hma hgo hag hp HM HO HP HG
    by_cases hlt : j < most
    · obtain ⟨tj, htj, hdj, hok, hroom, hnext⟩ := hd
      have KS := HS.out wr ij sj HMj.out HMM.out tij tj HIJ.out htj (by omega) hok hroom
      rw [hm'] at KS
      have HTJ := Lib.hid htj
      have HN := Lib.hid hnext
      clear htj hok hroom hnext hdj
      have e : most - j = (most - (j + 1)) + 1 := by omega
      have hag2 := HAj.out
      rw [e] at hag2
      unfold aloneGo at hag2
      rw [run1_of HTJ.out, depth_of (ran_at HTJ.out)] at hag2
      have HA2 := Lib.hid hag2
      clear hag2 e
      have HTB := Lib.hid htb
      have HM' := Lib.hid hm'
      clear htb hm' hij
      go_wp2_with fail
      refine KS.mono ?_
      clear KS
      rintro r y ⟨rfl, i2, hm2, hg2⟩
      have HM2 := Lib.hid hm2
      have HG2 := Lib.hid hg2
      obtain ⟨ti2, hi2, hb2⟩ := hg2.tb HIJ.out
      have KD := m_depth hm2 hi2 (ran_at HTJ.out)
      rw [hb2, HTB.out] at KD
      clear hm2 hg2 hi2 hb2
      generalize hd2 : (step (sj.part tj)).th.frs.length = d2 at *
      have HD2 := Lib.hid hd2
      clear hd2
      go_wp2_with fail
      refine KD.mono ?_
      clear KD
      rintro r z ⟨rfl, rfl⟩
      by_cases hle : d2 ≤ t.frs.length
      · have hz : ((d2 : Nat) : Int) ≤ (t.frs.length : Int) := by omega
        have hA : Hid ((sj.ran k tj step, j + 1, true) = g) := by rw [← HA2.out, if_pos hle]; rfl
        clear HA2
        go_wp2_with fail
        go_ret2
        refine ⟨?_, i2, ?_, HGj.out.trans HG2.out⟩
        · rw [← hA.out]
          rfl
        · rw [← hA.out]
          exact HM2.out
      · have hz : (t.frs.length : Int) < ((d2 : Nat) : Int) := by omega
        have hA : Hid (aloneGo step k t.frs.length (most - (j + 1)) (j + 1) (sj.ran k tj step) = g) := by rw [← HA2.out, if_neg hle]; rfl
        clear HA2
        go_wp2_with fail
        go_roundg (most - (j + 1))
        case measure => omega
        case rel => exact ⟨j + 1, sj.ran k tj step, i2, by omega, rfl, by go_num, HM2.out, HGj.out.trans HG2.out, HN.out (by omega), hA.out⟩
    · obtain rfl : j = most := by omega
      have hA : Hid ((sj, j, false) = g) := by
        have := HAj.out
        rw [Nat.sub_self] at this
        exact this
      clear hd HAj
      go_wp2_with fail
      go_ret2
      refine ⟨?_, ij, ?_, HGj.out⟩
      · rw [← hA.out]
        rfl
      · rw [← hA.out]
        exact HMj.out
theorem alone17 {F : Nat} {ok : PS → Prop} {step : PS → PS} (hr : RoutineOk F ok step) (henter : ∀ (args : Array Value) (w : World), (callFunc F args).run Tryz.prog w = .ok (.enter F args) w)
    (P : MS → Prop) (w : World) (i : MI) (s : MS) (h : MachAt w i s) (k : Nat) (t : ThS) (h2 : s.ths[k]? = some t) (hd : t.frs.length ≤ 1000) (most : Nat) (hm : most ≤ 100000) (fn : Int) (v : Value) (l : List Nat) (hv : Wds w v l) (hl : l.length ≤ 24)
    (hP : P (s.call k fn l)) (hD : Drives P k t.frs.length ok step) :
    Calls Tryz.prog 32 #[.pointer (some ⟨i.m, 0, none⟩), .int .i64 (k : Nat), fnV F, .int .i64 (most : Nat), .int .i64 fn, v] w (AloneOut w i (aloneGo step k t.frs.length most 0 (s.call k fn l))) :=
  alone_at (hr.at_ k) henter P (fun _ _ => trivial) w i s h t h2 hd most hm fn v l hv hl hP hD
end Go.Proofs.YtoghcikfkkmfkaaGreat
