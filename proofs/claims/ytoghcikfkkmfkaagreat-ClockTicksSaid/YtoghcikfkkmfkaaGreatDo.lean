/- Package slots: Do by its contract; a routine, and core.Step of any routine. Conditions: the machine is known whole. -/
import Derived.Test.YtoghcikfkkmfkaaGreatGiver
namespace Go.Proofs.YtoghcikfkkmfkaaGreat
open Go.RowKit

section
variable {w : World} {i : MI} {s : MS}
theorem MachAt.tvForm (h : MachAt w i s) (hp : 0 < s.ths.length) : ∃ g cap, i.tv = .slice (some ⟨g, 0, none⟩) s.ths.length cap ∧ (∀ k ti, i.tis[k]? = some ti → w.cell? ⟨g, k, none⟩ = some (ptr ti.tb)) := by
  obtain ⟨hl, ⟨h1, h2⟩ | ⟨g, cap, cur, hv, _, hh, hle, hcm, hcs, htk⟩⟩ := h.hrow
  · omega
  · refine ⟨g, cap, hv, fun k ti hk => ?_⟩
    have hkl := (List.getElem?_eq_some_iff.1 hk).1
    have htl := h.tl
    have hb : Blk w g 36 cur := hh
    rw [hb.cell]
    have e : (cur.toList.take (s.ths.length * 1))[k]? = i.row[k]? := by rw [htk]
    rw [List.getElem?_take, if_pos (by omega)] at e
    rw [← Array.getElem?_toList, e]
    simp [MI.row, hk]
theorem MachAt.mach (h : MachAt w i s) : Blk w i.m 108 (machCells (ptr i.p) (ptr i.mi.mb) (ptr i.gi.gb) i.tv s.steps s.fault) := h.hM
theorem m_thread (h : MachAt w i s) (k : Nat) (ti : ThI) (hk : i.tis[k]? = some ti) :
    Calls Tryz.prog 11 #[.pointer (some ⟨i.m, 0, none⟩), .int .i64 (k : Nat)] w fun r w' => r = .returned (.pointer (some ⟨ti.tb, 0, none⟩)) ∧ w = w' := by
  have hkl := (List.getElem?_eq_some_iff.1 hk).1
  have htl := h.tl
  obtain ⟨g, cap, hv, hc⟩ := h.tvForm (by omega)
  have hM := h.mach
  rw [hv] at hM
  exact core_thread w i.m _ _ _ _ _ k (ptr ti.tb) hM (by omega) (hc k ti hk)
theorem m_thread_no (h : MachAt w i s) (t : Int) (ht : t < 0 ∨ (s.ths.length : Int) ≤ t) :
    Calls Tryz.prog 11 #[.pointer (some ⟨i.m, 0, none⟩), .int .i64 t] w fun r w' => r = .returned (.pointer none) ∧ w = w' := by
  have hM := h.mach
  rcases Nat.eq_zero_or_pos s.ths.length with h0 | h0
  · obtain ⟨hl, ⟨h1, h2⟩ | ⟨g, cap, cur, hv, _, hh, hle, hcm, hcs, htk⟩⟩ := h.hrow
    · rw [h1] at hM
      exact core_thread_no w i.m _ _ _ _ _ (l := 0) t hM (by omega)
    · rw [hv, h0] at hM
      exact core_thread_no w i.m _ _ _ _ _ t hM (by omega)
  · obtain ⟨g, cap, hv, hc⟩ := h.tvForm h0
    rw [hv] at hM
    exact core_thread_no w i.m _ _ _ _ _ t hM ht
theorem t_top (h : MachAt w i s) {k : Nat} {ti : ThI} {t : ThS} (h1 : i.tis[k]? = some ti) (h2 : s.ths[k]? = some t) (hp : 0 < t.frs.length) :
    Calls Tryz.prog 16 #[.pointer (some ⟨ti.tb, 0, none⟩)] w fun r w' => r = .returned (.pointer (some ⟨ti.topB, 0, none⟩)) ∧ Drawn w w' := by
  have ht := h.th k ti t h1 h2
  have e : ti.topB = ti.fbs.getD (t.frs.length - 1) 0 := by unfold ThI.topB; rw [ht.fbl]
  rw [e]
  exact frame_top w ti t ht hp
theorem t_top_none (h : MachAt w i s) {k : Nat} {ti : ThI} {t : ThS} (h1 : i.tis[k]? = some ti) (h2 : s.ths[k]? = some t) (hp : t.frs = []) :
    Calls Tryz.prog 16 #[.pointer (some ⟨ti.tb, 0, none⟩)] w fun r w' => r = .returned (.pointer none) ∧ w = w' := frame_top_none w ti t (h.th k ti t h1 h2) hp
end
/-- What a step of a routine leaves of a machine as the thread sees it. -/
def RoutineOk (F : Nat) (ok : PS → Prop) (step : PS → PS) : Prop :=
  ∀ (w : World) (i : MI) (s : MS), MachAt w i s → ∀ (k : Nat) (ti : ThI) (t : ThS), i.tis[k]? = some ti → s.ths[k]? = some t → 0 < t.frs.length → ok (s.part t) →
    Calls Tryz.prog F #[.pointer (some ⟨i.m, 0, none⟩), .int .i64 (k : Nat)] w (StepOut w (i.part ti) (step (s.part t)))
structure SlotsOk (s : PS) : Prop where
  fits : Fits s
  gens : Small s.gd.gens
def PS.slots (s : PS) : PS := if s.th.top.fn = 1 then s.take else if s.th.top.fn = 2 then s.give else s

set_option maxRecDepth 100000 in
set_option maxHeartbeats 1000000 in
theorem slots_do : RoutineOk 103 SlotsOk PS.slots := by
  intro w i s h k ti t h1 h2 hp hok
  have HT := Lib.hid (t_top h h1 h2 hp)
  have H := Lib.hid h
  have H1 := Lib.hid h1
  have H2 := Lib.hid h2
  have HP := Lib.hid hp
  have HO := Lib.hid hok
  have hdeep : 0 < (s.part t).th.frs.length := hp
  have HD := Lib.hid hdeep
  generalize hpost : (s.part t).slots = post
  have HPO := Lib.hid hpost
  clear hpost h hp hok hdeep h1 h2
  go_enter Tryz.func103, Tryz.ntmps103
  go_wp2_with fail
  refine (m_thread H.out k ti H1.out).mono ?_
  rintro r x ⟨rfl, rfl⟩
  go_wp2_with fail
  refine HT.out.mono ?_
  rintro r x ⟨rfl, hd⟩
  have HX := Lib.hid (H.out.drawn hd)
  have HK := Lib.hid ((Stay.refl (H.out.part H1.out H2.out)).drawn hd)
  clear hd HT H
  go_wp2_with fail
  refine (m_thread HX.out k ti H1.out).mono ?_
  rintro r y ⟨rfl, rfl⟩
  have hfn : x.cell? ⟨ti.topB, 0, none⟩ = some (.int .i64 (s.part t).th.top.fn) := (HK.out.at_.frame HD.out).c0
  have hne : x.heap.size ≠ ti.topB := by have := (HK.out.at_.frame HD.out).1.lt; exact fun e => Nat.lt_irrefl _ (e ▸ this)
  have hne2 := hne.symm
  have hfa : (x.alloc (.cells #[.pointer (some ⟨i.m, 0, none⟩), .pointer (some ⟨ti.tb, 0, none⟩), .pointer (some ⟨ti.topB, 0, none⟩)] 181)).cell? ⟨ti.topB, 0, none⟩ = some (.int .i64 (s.part t).th.top.fn) := ((HK.out.alloc (.cells #[.pointer (some ⟨i.m, 0, none⟩), .pointer (some ⟨ti.tb, 0, none⟩), .pointer (some ⟨ti.topB, 0, none⟩)] 181)).at_.frame HD.out).c0
  by_cases hf1 : (s.part t).th.top.fn = 1
  · have HPO2 : Hid ((s.part t).take = post) := by rw [← HPO.out]; unfold PS.slots; rw [if_pos hf1]; rfl
    rw [hf1] at hfn hfa
    have KT := Lib.hid (fun w h => slots_take w (i.part ti) (s.part t) h HO.out.fits)
    clear hf1 HPO
    go_wp2_with fail
    refine (KT.out _ (HK.out.alloc _).at_).mono ?_
    rintro r y ⟨rfl, ti', hto⟩
    have HZ := Lib.hid (PTo.of_stay (HK.out.alloc _) hto)
    clear hto
    go_wp2_with fail
    go_end0
    rw [← HPO2.out]
    exact ⟨rfl, ti', HZ.out⟩
  · by_cases hf2 : (s.part t).th.top.fn = 2
    · have HPO2 : Hid ((s.part t).give = post) := by rw [← HPO.out]; unfold PS.slots; rw [if_neg hf1, if_pos hf2]; rfl
      rw [hf2] at hfn hfa
      have KT := Lib.hid (fun w h => slots_give w (i.part ti) (s.part t) h HO.out.fits HO.out.gens)
      clear hf1 hf2 HPO
      go_wp2_with fail
      refine (KT.out _ (HK.out.alloc _).at_).mono ?_
      rintro r y ⟨rfl, ti', hto⟩
      have HZ := Lib.hid (PTo.of_stay (HK.out.alloc _) hto)
      clear hto
      go_wp2_with fail
      go_end0
      rw [← HPO2.out]
      exact ⟨rfl, ti', HZ.out⟩
    · have HPO2 : Hid (s.part t = post) := (by unfold PS.slots; rw [if_neg hf1, if_neg hf2] : (s.part t).slots = s.part t).symm.trans HPO.out
      have HZ := Lib.hid (HK.out.alloc (.cells #[.pointer (some ⟨i.m, 0, none⟩), .pointer (some ⟨ti.tb, 0, none⟩), .pointer (some ⟨ti.topB, 0, none⟩)] 181))
      clear HPO
      generalize (s.part t).th.top.fn = fn at *
      go_wp2_with fail
      go_end0
      rw [← HPO2.out]
      exact ⟨rfl, _, HZ.out.to⟩
end Go.Proofs.YtoghcikfkkmfkaaGreat
