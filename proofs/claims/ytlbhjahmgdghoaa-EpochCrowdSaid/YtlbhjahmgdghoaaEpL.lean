/- The law's lives of stage 18: it tells true, whatever the world. -/
import Derived.Test.YtlbhjahmgdghoaaEpM
namespace Go.Proofs.Ytlbhjahmgdghoaa
open Go.RowKit

set_option maxRecDepth 100000 in
set_option maxHeartbeats 1000000 in
theorem lives18 (w : World) : Calls Try.prog 34 #[] w (TrueOut w) := by
  have HN := Lib.hid (fun w => core_new liveC w liveOk)
  rw [show liveC.cells = #[.int .i64 1, .int .i64 7, .int .u64 5] from rfl] at HN
  go_enter Try.func34, Try.ntmps34
  go_wp2_with fail
  refine (HN.out _).mono ?_
  rintro r x ⟨i, rfl, hn⟩
  have HM0 : Hid (MachE liveC w i.m x i (MS.start liveC (gdK liveC 5) 1) 3 [0] [0] 0) := start_me liveOk (Keep.refl [] w) hn
  have ht0 : (MS.start liveC (gdK liveC 5) 1).ths[0]? = some ThS.zero := rfl
  have HE := Lib.hid (me_enter HM0.out ht0 (by omega) rfl 9 (by omega) (by omega))
  unfold fnV at HE
  generalize i.m = m0 at HM0 HE ⊢
  clear hn HN
  unfold ptr
  go_wp2_with fail
  refine HE.out.mono ?_
  rintro r y ⟨rfl, i2, s2, hm2, hth2, hg2⟩
  have HM2 := Lib.hid hm2
  have ht2 : s2.ths[0]? = some ⟨padTo 12 [], { ThS.zero.ses with past := 3 - 1 }, [], ThS.zero.row, ThS.zero.stk⟩ := by rw [hth2]; rfl
  have hlag : lagAny liveC 3 ([0].set 0 (actN 3)) = false := by decide
  have HA := Lib.hid (me_advance HM2.out ht2 (by omega) hlag 9 (by decide) (by omega))
  unfold fnV at HA
  have HT2 := Lib.hid ht2
  clear hm2 hth2 hg2 HE HM0 ht0 ht2 hlag
  go_wp2_with fail
  refine HA.out.mono ?_
  rintro r z ⟨rfl, i3, s3, hm3, hth3, hg3⟩
  have HM3 := Lib.hid hm3
  have ht3 : s3.ths[0]? = some ⟨padTo 12 [1], { ThS.zero.ses with past := 3 - 1 }, [], ThS.zero.row, ThS.zero.stk⟩ := by
    have e := HT2.out
    rw [hth3]
    exact List.getElem?_set_self (List.getElem?_eq_some_iff.1 e).1
  have KM := m_mem HM3.out.hm
  rw [HM3.out.im] at KM
  have hrd : s3.mem.rd 1 = 4 := by
    have h1 := HM3.out.hr.w.one
    have : s3.mem.rd 1 = s3.mem.ws.getD 1 0 := e_rd1 (acc := s3.mem.acc) (fl := s3.mem.fault) h1
    rw [this]
    exact HM3.out.hr.ep
  have HL := Lib.hid (me_load HM3.out ht3 (by omega) 1)
  rw [hrd] at HL
  have HT3 := Lib.hid ht3
  clear hm3 hth3 hg3 HA HM2 HT2 ht3 hrd
  go_wp2_with fail
  refine KM.mono ?_
  clear KM
  rintro r z' ⟨rfl, rfl⟩
  go_wp2_with fail
  refine HL.out.mono ?_
  rintro r v ⟨rfl, i4, hm4, hg4⟩
  have ht4 : (s3.join 0 ((s3.part ⟨padTo 12 [1], { ThS.zero.ses with past := 3 - 1 }, [], ThS.zero.row, ThS.zero.stk⟩).touch 1)).ths[0]? = some ⟨padTo 12 [1], { ThS.zero.ses with past := 3 - 1 }, [], ThS.zero.row, ThS.zero.stk⟩ := part_join (List.getElem?_eq_some_iff.1 HT3.out).1
  obtain ⟨ti, hti, hpa, _⟩ := ses_at hm4 ht4
  have KT := m_thread hm4 0 ti hti
  rw [hg4.m, HM3.out.im] at KT
  have hpa2 : v.cell? ⟨ti.tb, 15, none⟩ = some (.int .u64 2) := hpa
  have HKV := Lib.hid (HM3.out.hk.trans hg4.keep (fun x hx => .inr (HM3.out.new x hx)))
  clear hm4 hg4 hti ht4 hpa HL
  go_wp2_with fail
  refine KT.mono ?_
  clear KT
  rintro r v' ⟨rfl, rfl⟩
  go_wp2_with fail
  go_ret
  exact ⟨rfl, HKV.out⟩
end Go.Proofs.Ytlbhjahmgdghoaa
