/- EpochGoes' walk. No condition. -/
import Derived.Test.YtlbhjahmgdghoaaEpL
namespace Go.Proofs.Ytlbhjahmgdghoaa
open Go.RowKit

def Unp (s : MS) : Prop := ∀ t, t ∈ s.ths → t.ses.pinned = false
theorem unp_set {s s2 : MS} {k : Nat} {th : ThS} (h : Unp s) (hs : s2.ths = s.ths.set k th) (ht : th.ses.pinned = false) : Unp s2 := fun t hm => by
  rw [hs] at hm
  exact (List.mem_or_eq_of_mem_set hm).elim (h t) (fun e => by rw [e]; exact ht)
def confE (t : Int) : ConfS := ⟨t, 7, 5⟩
theorem confE_ok {t : Int} (h0 : 1 ≤ t) (h1 : t ≤ 6) : (confE t).Ok := ⟨h0, h1, by show (7 : Int) ≤ 7; decide, by show (7 : Int) ≤ 250; decide, by show (1 : Int) ≤ 5; decide, by show (5 : Int) ≤ 1099511627776; decide⟩
theorem confE_no {t : Int} (h : t < 1 ∨ 6 < t) : ¬ (confE t).Ok := fun ho => by
  have h1 : 1 ≤ t := ho.t1
  have h2 : t ≤ 6 := ho.t2
  omega
theorem lag_one {c : ConfS} {e k n : Nat} (he : e < 2 ^ 63) : lagAny c e ((List.replicate n 0).set k (actN e)) = false := by
  unfold lagAny
  rw [List.any_eq_false]
  intro t _
  have : lagsN (((List.replicate n 0).set k (actN e)).getD t 0) e = false := by
    rw [List.getD_eq_getElem?_getD]
    cases hx : ((List.replicate n 0).set k (actN e))[t]? with
    | none => exact lags_zero e
    | some x =>
      rcases List.mem_or_eq_of_mem_set (List.mem_of_getElem? hx) with h | h
      · rw [List.eq_of_mem_replicate h]
        exact lags_zero e
      · rw [h]
        exact lags_act he
  show ¬ lagsN (((List.replicate n 0).set k (actN e)).getD t 0) e = true
  rw [this]
  exact Bool.false_ne_true
theorem set_at {s s1 : MS} {k : Nat} {th th' : ThS} (h : s1.ths = s.ths.set k th') (ht : s.ths[k]? = some th) : s1.ths[k]? = some th' := by
  rw [h]
  exact List.getElem?_set_self (List.getElem?_eq_some_iff.1 ht).1
theorem set_back (n k x : Nat) : ((List.replicate n 0).set k x).set k 0 = List.replicate n 0 := by
  rw [List.set_set]
  apply List.ext_getElem?
  intro j
  by_cases h : k = j
  · subst h
    by_cases hk : k < n
    · rw [List.getElem?_set_self (by simpa using hk), List.getElem?_replicate, if_pos hk]
    · rw [List.getElem?_eq_none (by simp; omega), List.getElem?_eq_none (by simp; omega)]
  · rw [List.getElem?_set_ne h]
set_option maxRecDepth 100000 in
theorem e_field0 (a : Int) (A : Option Addr) (n cap : Nat) : ∀ w, (Instr.field 83 (.agg #[.int .u64 a, .slice A n cap]) 0).run Try.prog w = .ok (.int .u64 a) w := by
  intro w
  kernel_rfl
set_option maxRecDepth 100000 in
set_option maxHeartbeats 1000000 in
theorem goes_no (t : Int) (A : Option Addr) (n cap : Nat) (w : World) (h : t < 1 ∨ 6 < t) : Calls Try.prog 8 #[.int .i64 t, .slice A n cap] w (TrueOut w) := by
  have HN := Lib.hid (fun w => core_new_no (confE t) w (confE_no h))
  rw [show (confE t).cells = #[.int .i64 t, .int .i64 7, .int .u64 5] from rfl] at HN
  go_enter Try.func8, Try.ntmps8
  go_wp2_with fail
  refine (HN.out _).mono ?_
  rintro r x ⟨rfl, hk⟩
  have HK := Lib.hid hk
  clear hk HN
  rcases h with h | h
  · go_wp2_with fail
    refine (lives18 _).mono ?_
    rintro r y ⟨rfl, hk⟩
    have HK3 := Lib.hid (HK.out.trans hk (by simp))
    clear hk
    go_wp2_with fail
    go_ret
    exact ⟨rfl, HK3.out⟩
  · have h2 : ¬ t < 1 := by omega
    go_wp2_with fail
    refine (lives18 _).mono ?_
    rintro r y ⟨rfl, hk⟩
    have HK3 := Lib.hid (HK.out.trans hk (by simp))
    clear hk
    go_wp2_with fail
    go_ret
    exact ⟨rfl, HK3.out⟩
set_option maxRecDepth 100000 in
set_option maxHeartbeats 1000000 in
theorem goes_long (t : Int) (A : Option Addr) (n cap : Nat) (w : World) (h0 : 1 ≤ t) (h1 : t ≤ 6) (hn : 60 < n) : Calls Try.prog 8 #[.int .i64 t, .slice A n cap] w (TrueOut w) := by
  have HN := Lib.hid (fun w => core_new (confE t) w (confE_ok h0 h1))
  rw [show (confE t).cells = #[.int .i64 t, .int .i64 7, .int .u64 5] from rfl] at HN
  have hz : (60 : Int) < (n : Int) := by omega
  go_enter Try.func8, Try.ntmps8
  go_wp2_with fail
  refine (HN.out _).mono ?_
  rintro r x ⟨i, rfl, hn⟩
  have HK := Lib.hid hn.hk
  clear hn HN
  unfold ptr
  go_wp2_with fail
  refine (lives18 _).mono ?_
  rintro r y ⟨rfl, hk⟩
  have HK3 := Lib.hid (HK.out.trans hk (by simp))
  clear hk
  go_wp2_with fail
  go_ret
  exact ⟨rfl, HK3.out⟩
set_option maxRecDepth 100000 in
set_option maxHeartbeats 1000000 in
theorem goes_yes (t : Int) (A : Option Addr) (ls : List Int) (cap : Nat) (w : World) (h0 : 1 ≤ t) (h1 : t ≤ 6) (hn : ls.length ≤ 60) (hA : IntsAt w A ls) (hb : ∀ k, k < ls.length → -9223372036854775808 ≤ ls.getD k 0 ∧ ls.getD k 0 ≤ 9223372036854775807) :
    Calls Try.prog 8 #[.int .i64 t, .slice A ls.length cap] w (TrueOut w) := by
  have ho := confE_ok h0 h1
  have HN := Lib.hid (fun w => core_new (confE t) w ho)
  rw [show (confE t).cells = #[.int .i64 t, .int .i64 7, .int .u64 5] from rfl] at HN
  have HO := Lib.hid ho
  have HA0 := Lib.hid hA
  have HBD := Lib.hid hb
  have HTT : Hid ((confE t).thr = t) := rfl
  have hz : ¬ (60 : Int) < (ls.length : Int) := by omega
  generalize hlen : ls.length = n at *
  have HLEN := Lib.hid hlen
  clear hlen ho hA hb
  go_enter Try.func8, Try.ntmps8
  go_wp2_with fail
  refine (HN.out _).mono ?_
  rintro r x ⟨i0, rfl, hn0⟩
  have HI0 := Lib.hid (start_me HO.out (Keep.refl [] w) hn0)
  have HU0 : Hid (Unp (MS.start (confE t) (gdK (confE t) 5) (confE t).thr.toNat)) := fun th hm => by rw [List.eq_of_mem_replicate hm]; rfl
  clear hn0 HN
  generalize hc : confE t = c at *
  generalize him : i0.m = m0 at HI0 ⊢
  clear him hc
  have htc : c.thr = t := HTT.out
  unfold ptr
  go_wp2_with fail
  go_loopg [7, 8] n (fun gg q7 q8 wr => ∃ (j e nn : Nat) (past : List Nat) (i : MI) (s : MS), j ≤ n ∧ gg = n - j ∧ q8 = .int .i64 (j : Nat) ∧ q7 = .int .u64 (e : Nat) ∧ nn ≤ 3 * j ∧ e ≤ 3 + j ∧ Unp s ∧ MachE c w m0 wr i s e (List.replicate c.thr.toNat 0) past nn)
  case atStart => exact ⟨0, 3, 0, _, _, _, Nat.zero_le _, rfl, rfl, rfl, Nat.le_refl _, Nat.le_refl _, HU0.out, HI0.out⟩
  case round =>
    obtain ⟨j, e, nn, past, i, s, hj, rfl, rfl, rfl, hnn, heb, hu, hme⟩ := hrel
    have HM := Lib.hid hme
    have HU := Lib.hid hu
    have HNJ := Lib.hid (And.intro hnn heb)
    clear hme hu HI0 HU0
    by_cases hlt : j < n
    · obtain ⟨b, o, rfl, hbw, hcells⟩ := HA0.out (by rw [HLEN.out]; omega)
      have hx : wr.cell? ⟨b, o + j, none⟩ = some (.int .i64 (ls.getD j 0)) := by
        rw [HM.out.hk.cell hbw (by simp)]
        exact hcells j (by rw [HLEN.out]; exact hlt)
      have hxb := HBD.out j hlt
      have HBW := Lib.hid hbw
      have HCL := Lib.hid hcells
      have HJN := Lib.hid hlt
      clear hbw hcells
      generalize hxx : ls.getD j 0 = x at hx hxb
      have HXX := Lib.hid hxx
      clear hxx
      obtain ⟨hxb0, hxb1⟩ := hxb
      have hzj : ((j : Nat) : Int) < (n : Int) := by omega
      have hzj0 : (0 : Int) ≤ ((j : Nat) : Int) := by omega
      by_cases hneg : x < 0
      · go_wp2_with fail
        go_roundg (n - (j + 1))
        case measure => omega
        case rel => exact ⟨j + 1, e, nn, past, i, s, by omega, rfl, by go_num, rfl, by omega, by omega, HU.out, HM.out⟩
      by_cases hge : t ≤ x
      · have hz2 : ¬ x < t := by omega
        go_wp2_with fail
        go_roundg (n - (j + 1))
        case measure => omega
        case rel => exact ⟨j + 1, e, nn, past, i, s, by omega, rfl, by go_num, rfl, by omega, by omega, HU.out, HM.out⟩
      obtain ⟨k, rfl⟩ : ∃ k : Nat, x = (k : Int) := ⟨x.toNat, by omega⟩
      have hkl : k < s.ths.length := by
        rw [HM.out.hr.thl, htc]
        omega
      obtain ⟨th, hth⟩ : ∃ th, s.ths[k]? = some th := ⟨_, List.getElem?_eq_getElem hkl⟩
      have hp0 := HU.out th (List.mem_of_getElem? hth)
      have HE := Lib.hid (me_enter HM.out hth (by have := HNJ.out; omega) hp0 20 (by omega) (by omega))
      unfold fnV at HE
      have HTH := Lib.hid hth
      have HP0 := Lib.hid hp0
      have he63 : e < 2 ^ 63 := by omega
      have HE63 := Lib.hid he63
      clear hkl hth hp0 he63
      go_wp2_with fail
      refine HE.out.mono ?_
      rintro r y1 ⟨rfl, i1, s1, hm1, hth1, hg1⟩
      have HM1 := Lib.hid hm1
      have ht1 := set_at hth1 HTH.out
      have HU1 := Lib.hid (unp_set HU.out hth1 HP0.out)
      have HAd := Lib.hid (me_advance HM1.out ht1 (by have := HNJ.out; omega) (lag_one HE63.out) 20 (by rw [htc]; omega) (by omega))
      unfold fnV at HAd
      have HT1 := Lib.hid ht1
      have hx1 : y1.cell? ⟨b, o + j, none⟩ = some (.int .i64 (k : Nat)) := by
        rw [HM1.out.hk.cell HBW.out (by simp), HCL.out j (by rw [HLEN.out]; exact HJN.out), HXX.out]
      clear hm1 hth1 hg1 HE ht1 hx
      go_wp2_with fail
      refine HAd.out.mono ?_
      rintro r y2 ⟨rfl, i2, s2, hm2, hth2, hg2⟩
      have HM2 := Lib.hid hm2
      have ht2 := set_at hth2 HT1.out
      have HU2 := Lib.hid (unp_set HU1.out hth2 HP0.out)
      have HLv := Lib.hid (me_leave HM2.out ht2 (by have := HNJ.out; omega) HP0.out 20 (by omega) (by omega))
      unfold fnV at HLv
      rw [set_back] at HLv
      obtain ⟨ti, hti, _, hret⟩ := ses_at HM2.out.hm ht2
      have hret2 : y2.cell? ⟨ti.tb, 0, none⟩ = some (.int .u64 1) := hret
      have KT := m_thread HM2.out.hm k ti hti
      rw [HM2.out.im] at KT
      have HT2 := Lib.hid ht2
      have hx2 : y2.cell? ⟨b, o + j, none⟩ = some (.int .i64 (k : Nat)) := by
        rw [HM2.out.hk.cell HBW.out (by simp), HCL.out j (by rw [HLEN.out]; exact HJN.out), HXX.out]
      clear hm2 hth2 hg2 HAd ht2 hx1 hti hret
      go_wp2_with fail
      refine KT.mono ?_
      clear KT
      rintro r y2' ⟨rfl, rfl⟩
      go_wp2_with fail
      refine HLv.out.mono ?_
      rintro r y3 ⟨rfl, i3, s3, hm3, hth3, hg3⟩
      have HM3 := Lib.hid hm3
      have HU3 := Lib.hid (unp_set HU2.out hth3 HP0.out)
      have KN := law18_now HM3.out.hm (by rw [HM3.out.hr.conf]; exact HM3.out.hr.w.len)
      rw [HM3.out.im, HM3.out.hr.ep] at KN
      have hze : ((e : Nat) : Int) ≤ 100 := by have := HNJ.out; omega
      clear hm3 hth3 hg3 HLv hx2 hret2
      go_wp2_with fail
      refine KN.mono ?_
      clear KN
      rintro r y4 ⟨hk4, v, rfl, hown⟩
      obtain ⟨Av, cv, rfl⟩ : ∃ Av cv, v = .slice Av s3.conf.thr.toNat cv := by
        obtain ⟨hl, ⟨h1, h2⟩ | ⟨g, cap, cur, hv, _⟩⟩ := hown
        · exact ⟨none, 0, by rw [h1, h2]⟩
        · exact ⟨_, _, hv⟩
      have HM4 := Lib.hid (HM3.out.keep0 hk4)
      have hfd := e_field0 ((e : Int) + 1) Av s3.conf.thr.toNat cv
      clear hk4 hown
      go_wp2_with fail
      go_roundg (n - (j + 1))
      case measure => omega
      case rel => exact ⟨j + 1, e + 1, nn + 1 + 1 + 1, _, i3, s3, by omega, rfl, by go_num, by go_num, by have := HNJ.out; omega, by have := HNJ.out; omega, HU3.out, HM4.out⟩
    · obtain rfl : j = n := by omega
      have KF := m_fault HM.out.hm
      rw [HM.out.hr.f1, HM.out.hr.f2, HM.out.hr.w.slips, HM.out.im] at KF
      have HKr := Lib.hid HM.out.hk
      go_wp2_with fail
      refine KF.mono ?_
      clear KF
      rintro r y ⟨rfl, rfl⟩
      go_wp2_with fail
      refine (lives18 _).mono ?_
      rintro r z ⟨rfl, hk⟩
      have HKz := Lib.hid (HKr.out.trans hk (by simp))
      clear hk
      go_wp2_with fail
      go_ret
      exact ⟨rfl, HKz.out⟩
end Go.Proofs.Ytlbhjahmgdghoaa
