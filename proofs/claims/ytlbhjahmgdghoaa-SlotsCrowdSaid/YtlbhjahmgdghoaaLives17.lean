/- The laws' lives of stage 17: it tells true, whatever the world. -/
import Derived.Test.YtlbhjahmgdghoaaRuns
namespace Go.Proofs.Ytlbhjahmgdghoaa
open Go.RowKit

theorem lives_take {w : World} {i : MI} {s : MS} (h : MachAt w i s) (hl : s.ths.map (fun t => t.frs.length) = [0]) (hd : drivesB 0 0 PS.slots 9 (s.call 0 1 []) = true) :
    Calls Try.prog 20 #[.pointer (some ⟨i.m, 0, none⟩), .int .i64 0, .func (.func 9) #[] #[], .int .i64 50, .int .i64 1, .slice none 0 0] w (AloneOut w i (aloneGo PS.slots 0 0 50 0 (s.call 0 1 []))) := by
  cases hs : s.ths with
  | nil => rw [hs] at hl; cases hl
  | cons t l =>
    rw [hs] at hl
    simp only [List.map_cons, List.cons.injEq] at hl
    have h2 : s.ths[0]? = some t := by rw [hs]; rfl
    have := alone17 slots_do enter_slots (fun s => ∃ f, drivesB 0 t.frs.length PS.slots f s = true) w i s h 0 t h2 (by omega) 50 (by omega) 1 (.slice none 0 0) [] (.inl ⟨rfl, rfl⟩) (by simp) ⟨9, by rw [hl.1]; exact hd⟩ (drives_of 0 t.frs.length PS.slots)
    rw [hl.1] at this
    exact this
theorem ret0 {w : World} {i : MI} {s : MS} {ti : ThI} {d v : Nat} (h : MachAt w i s) (hk : i.tis[0]? = some ti) (hl : s.ths.map (fun t => (t.frs.length, t.ret.getD 0 0)) = [(d, v)]) : w.cell? ⟨ti.tb, 0, none⟩ = some (.int .u64 (v : Nat)) := by
  cases hs : s.ths with
  | nil => rw [hs] at hl; cases hl
  | cons t l =>
    rw [hs] at hl
    simp only [List.map_cons, List.cons.injEq, Prod.mk.injEq] at hl
    have h2 : s.ths[0]? = some t := by rw [hs]; rfl
    have ht := h.th 0 ti t hk h2
    rw [ht.ht.cell]
    have := ht.rl
    have e : t.ret.getD 0 0 = v := hl.1.2
    cases hr : t.ret with
    | nil => rw [hr] at this; cases this
    | cons a b =>
      rw [hr] at e
      simp at e
      simp [thCells, u64s, hr, e]
theorem len_of {s : MS} {d v : Nat} (hl : s.ths.map (fun t => (t.frs.length, t.ret.getD 0 0)) = [(d, v)]) : s.ths.map (fun t => t.frs.length) = [d] := by
  have := congrArg (List.map Prod.fst) hl
  simpa using this
def LivesOut (w : World) (r : Ending) (w' : World) : Prop := r = .returned (.bool true) ∧ Keep [] w w'
theorem live_keep {w w1 w2 : World} {i i2 : MI} (hn : ∀ x, x ∈ i.foot → w.heap.size ≤ x) (hk : Keep [] w w1) (hg : Goes w1 w2 i i2) : Keep [] w w2 := hk.trans hg.keep (fun x hx => .inr (hn x hx))
set_option maxRecDepth 100000 in
set_option maxHeartbeats 1000000 in
theorem lives17 (w : World) : Calls Try.prog 11 #[] w (LivesOut w) := by
  have HN := Lib.hid (fun w => core_new liveC w liveOk)
  rw [show liveC.cells = #[.int .i64 1, .int .i64 7, .int .u64 5] from rfl] at HN
  go_enter Try.func11, Try.ntmps11
  go_wp2_with fail
  refine (HN.out _).mono ?_
  rintro r x ⟨i, rfl, hn⟩
  have HA := Lib.hid hn
  have HM : Hid (MachAt x i live0) := hn.hm
  obtain ⟨ti, hti⟩ : ∃ ti, i.tis[0]? = some ti := HM.out.thAt (t := ThS.zero) rfl
  have HTI := Lib.hid hti
  clear hn HN hti
  unfold ptr
  go_wp2_with fail
  refine (m_thread HM.out 0 ti HTI.out).mono ?_
  rintro r y ⟨rfl, rfl⟩
  go_wp2_with fail
  refine (lives_take HM.out live_t0 live_d1).mono ?_
  rintro r y ⟨rfl, i1, hm1, hg1⟩
  have HM1 : Hid (MachAt y i1 live1) := hm1
  have HG1 := Lib.hid hg1
  obtain ⟨t1, ht1, hb1⟩ := hg1.tb HTI.out
  have hr1 := ret0 HM1.out ht1 live_t1
  rw [hb1] at hr1
  rw [live_e1]
  clear hm1 hg1 ht1 hb1
  go_wp2_with fail
  have KT2 := lives_take HM1.out (len_of live_t1) live_d2
  rw [HG1.out.m] at KT2
  refine KT2.mono ?_
  clear KT2 hr1
  rintro r z ⟨rfl, i2, hm2, hg2⟩
  have HM2 : Hid (MachAt z i2 live2) := hm2
  have HG2 := Lib.hid (HG1.out.trans hg2)
  obtain ⟨t2, ht2, hb2⟩ := HG2.out.tb HTI.out
  have hr2 := ret0 HM2.out ht2 live_t2
  rw [hb2] at hr2
  rw [live_e2]
  clear hm2 hg2 ht2 hb2
  go_wp2_with fail
  have KT3 := lives_take HM2.out (len_of live_t2) live_d3
  rw [HG2.out.m] at KT3
  refine KT3.mono ?_
  clear KT3 hr2
  rintro r v ⟨rfl, i3, hm3, hg3⟩
  have HM3 : Hid (MachAt v i3 live3) := hm3
  have HG3 := Lib.hid (HG2.out.trans hg3)
  obtain ⟨t3, ht3, hb3⟩ := HG3.out.tb HTI.out
  have hr3 := ret0 HM3.out ht3 live_t3
  rw [hb3] at hr3
  rw [live_e3]
  clear hm3 hg3 ht3 hb3
  go_wp2_with fail
  go_ret
  exact ⟨rfl, live_keep HA.out.new HA.out.hk HG3.out⟩
end Go.Proofs.Ytlbhjahmgdghoaa
