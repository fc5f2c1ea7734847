/- EpochAlone's walk. No condition. -/
import Derived.Test.YtlbhjahmgdghoaaEpA
import Derived.Test.YtlbhjahmgdghoaaEG
namespace Go.Proofs.Ytlbhjahmgdghoaa
open Go.RowKit

theorem made_u64 {w : World} {b n : Nat} (hm : w.ownsRow b 22 1 (.slice (some ⟨b, 0, none⟩) n n) n (madeCells (Value.int IntKind.u64 0).cells (n * 1)).toList) : w.ownsRow b 22 1 (.slice (some ⟨b, 0, none⟩) n n) n (u64s (List.replicate n 0)) := by
  have e : (madeCells (Value.int IntKind.u64 0).cells (n * 1)).toList = u64s (List.replicate n 0) := by
    rw [Nat.mul_one]
    exact (toList_madeCells_one _ _).trans (by simp [u64s])
  rw [e] at hm
  exact hm
theorem own_blkU {w : World} {b n : Nat} {l : List Nat} (h : w.ownsRow b 22 1 (.slice (some ⟨b, 0, none⟩) n n) n (u64s l)) (hn : 0 < n) : ∃ xt, Blk w b 22 (u64s l ++ xt).toArray := by
  obtain ⟨g, cap, e, _, _, xt, hb⟩ := own_u64s h hn
  injection e with e
  injection e with e
  have : b = g := congrArg Addr.block e
  subst this
  exact ⟨xt, hb⟩
set_option maxRecDepth 100000 in
set_option maxHeartbeats 1000000 in
theorem ea_no (t : Int) (A : Option Addr) (n cap : Nat) (w : World) (h : t < 1 ∨ 6 < t) : Calls Try.prog 6 #[.int .i64 t, .slice A n cap] w (TrueOut w) := by
  have HN := Lib.hid (fun w => core_new_no (confE t) w (confE_no h))
  rw [show (confE t).cells = #[.int .i64 t, .int .i64 7, .int .u64 5] from rfl] at HN
  go_enter Try.func6, Try.ntmps6
  go_wp2_with fail
  refine (HN.out _).mono ?_
  rintro r x ⟨rfl, hk⟩
  have HK := Lib.hid hk
  clear hk HN
  rcases h with h | h
  · go_wp2_with fail
    refine (lives18 _).mono ?_
    rintro r y ⟨rfl, hk⟩
    have HK3 := Lib.hid (HK.out.trans hk (by simp))
    clear hk
    go_wp2_with fail
    go_ret
    exact ⟨rfl, HK3.out⟩
  · have h2 : ¬ t < 1 := by omega
    go_wp2_with fail
    refine (lives18 _).mono ?_
    rintro r y ⟨rfl, hk⟩
    have HK3 := Lib.hid (HK.out.trans hk (by simp))
    clear hk
    go_wp2_with fail
    go_ret
    exact ⟨rfl, HK3.out⟩
set_option maxRecDepth 100000 in
set_option maxHeartbeats 1000000 in
theorem ea_long (t : Int) (A : Option Addr) (n cap : Nat) (w : World) (h0 : 1 ≤ t) (h1 : t ≤ 6) (hn : 60 < n) : Calls Try.prog 6 #[.int .i64 t, .slice A n cap] w (TrueOut w) := by
  have HN := Lib.hid (fun w => core_new (confE t) w (confE_ok h0 h1))
  rw [show (confE t).cells = #[.int .i64 t, .int .i64 7, .int .u64 5] from rfl] at HN
  have hz : (60 : Int) < (n : Int) := by omega
  go_enter Try.func6, Try.ntmps6
  go_wp2_with fail
  refine (HN.out _).mono ?_
  rintro r x ⟨i, rfl, hn⟩
  have HK := Lib.hid hn.hk
  clear hn HN
  unfold ptr
  go_wp2_with fail
  refine (lives18 _).mono ?_
  rintro r y ⟨rfl, hk⟩
  have HK3 := Lib.hid (HK.out.trans hk (by simp))
  clear hk
  go_wp2_with fail
  go_ret
  exact ⟨rfl, HK3.out⟩
set_option maxRecDepth 100000 in
set_option maxHeartbeats 40000000 in
theorem ea_yes (t : Int) (A : Option Addr) (ds : List (Int × Int × Bool)) (cap : Nat) (w : World) (h0 : 1 ≤ t) (h1 : t ≤ 6) (hn : ds.length ≤ 60) (hA : DeedsAt w A ds) :
    Calls Try.prog 6 #[.int .i64 t, .slice A ds.length cap] w (TrueOut w) := by
  have ho := confE_ok h0 h1
  obtain ⟨T, rfl⟩ : ∃ T : Nat, t = (T : Int) := ⟨t.toNat, by omega⟩
  have HN := Lib.hid (fun w => core_new (confE T) w ho)
  rw [show (confE T).cells = #[.int .i64 (T : Int), .int .i64 7, .int .u64 5] from rfl] at HN
  have HO := Lib.hid ho
  have HA0 := Lib.hid hA
  have HTT : Hid ((confE T).thr.toNat = T) := Int.toNat_natCast T
  have HT16 : Hid (1 ≤ T ∧ T ≤ 6) := by show 1 ≤ T ∧ T ≤ 6; omega
  have hz : ¬ (60 : Int) < (ds.length : Int) := by omega
  generalize hlen : ds.length = n at *
  have HLEN := Lib.hid hlen
  clear hlen ho hA
  go_enter Try.func6, Try.ntmps6
  go_wp2_with fail
  refine (HN.out _).mono ?_
  rintro r x ⟨i0, rfl, hn0⟩
  have HI0 := Lib.hid (start_me HO.out (Keep.refl [] w) hn0)
  rw [HTT.out] at HI0
  clear hn0 HN
  generalize hc : confE T = c at *
  clear hc
  unfold ptr
  go_upto_region 7 with (at_make; obtain ⟨i1, hi, hz0, hz1, hz2⟩ := info_parts info22; refine wpList_make_full _ rfl _ _ 31 rfl x.heap.size 22 i1 (.int .u64 0) 1 Try.underlying31 hi hz0 hz1 .i64 .i64 T T T rfl rfl rfl rfl (by rw [hz2]; omega) (by unfold maxLen; omega) (Nat.le_refl _) ?_; clear hi hz0 hz1 hz2; intro w2 hown hg; have HM := Lib.hid (made_u64 hown); have HG := Lib.hid (Keep.of_grown (row := none) hg); clear hown hg)
  have HRA := Lib.hid (RowI.of_own HM.out (by have := HT16.out; omega))
  have HFB := Lib.hid (Blk.new w2 83 #[.int .u64 3, .slice (some ⟨x.heap.size, 0, none⟩) T T])
  have hk3 := ((Keep.refl [] w2).alloc (.cells #[.int .u64 3, .slice (some ⟨x.heap.size, 0, none⟩) T T] 83))
  have HK3 := Lib.hid (Keep.trans (S := []) (S' := []) HG.out hk3 (by simp))
  have HRA3 := Lib.hid (HRA.out.keep0 hk3)
  have HXW : Hid (x.heap.size ≤ w2.heap.size) := (Keep.size (S := []) HG.out)
  clear hk3 HRA HM HG
  generalize w2.alloc (.cells #[.int .u64 3, .slice (some ⟨x.heap.size, 0, none⟩) T T] 83) = w3 at HFB HK3 HRA3 ⊢
  generalize hfb : w2.heap.size = fb at HFB HXW ⊢
  clear hfb
  go_upto_region 8 with (at_make; obtain ⟨i1, hi, hz0, hz1, hz2⟩ := info_parts info22; refine wpList_make_full _ rfl _ _ 31 rfl w3.heap.size 22 i1 (.int .u64 0) 1 Try.underlying31 hi hz0 hz1 .i64 .i64 T T T rfl rfl rfl rfl (by rw [hz2]; omega) (by unfold maxLen; omega) (Nat.le_refl _) ?_; clear hi hz0 hz1 hz2; intro w4 hown hg; have HM := Lib.hid (made_u64 hown); have HG := Lib.hid (Keep.of_grown (row := none) hg); clear hown hg)
  have hk4 : Keep [] w3 w4 := HG.out
  have hk04 : Keep [] x w4 := HK3.out.trans hk4 (by simp)
  have HMA0 : Hid (MemA w4 w i0 fb w3.heap.size 3 (List.replicate T 0) (List.replicate T 0)) := by
    have hflt := HI0.out.hm.foot_lt
    have hxs : w.heap.size ≤ x.heap.size := HI0.out.hk.size
    have hx3 := HK3.out.size
    have hfl := HFB.out.lt
    refine ⟨⟨_, HFB.out.keep hk4 (by simp), (HRA3.out.mono (fun b hb hb2 => ⟨fun hm => by have := hflt b hm; omega, by omega⟩)).keep0 hk4⟩, fun hm => by have := hflt fb hm; have := HXW.out; omega, Nat.le_trans hxs HXW.out, own_blkU HM.out (by have := HT16.out; omega), fun hm => by have := hflt _ hm; omega, by omega⟩
  have HME0 := Lib.hid (HI0.out.keep0 hk04)
  generalize hpb : w3.heap.size = pb at HMA0 ⊢
  generalize him : i0.m = m0 at HME0 ⊢
  generalize MS.start c (gdK c 5) T = s0 at HME0
  clear hpb him hk4 hk04 HM HG HI0 HFB HK3 HRA3 HXW
  generalize x.heap.size = xb
  go_wp2_with fail
  go_loopg [9] n (fun gg q wr => ∃ (j e nn : Nat) (act past : List Nat) (i : MI) (s : MS), j ≤ n ∧ gg = n - j ∧ q = .int .i64 (j : Nat) ∧ nn ≤ j ∧ e ≤ 3 + j ∧ 3 ≤ e ∧ MachE c w m0 wr i s e act past nn ∧ MemA wr w i fb pb e act past)
  case atStart => exact ⟨0, 3, 0, _, _, _, _, Nat.zero_le _, rfl, rfl, Nat.le_refl _, Nat.le_refl _, Nat.le_refl _, HME0.out, HMA0.out⟩
  case round =>
    obtain ⟨j, e, nn, act, past, i, s, hj, rfl, rfl, hnn, heb, he3, hme, hma⟩ := hrel
    have HE := Lib.hid hme
    have HA := Lib.hid hma
    have HNJ : Hid (nn ≤ j ∧ e ≤ 3 + j ∧ 3 ≤ e) := ⟨hnn, heb, he3⟩
    clear hme hma HME0 HMA0
    by_cases hlt : j < n
    · obtain ⟨b, o, rfl, hbw, hcells⟩ := HA0.out (by rw [HLEN.out]; omega)
      have HBW := Lib.hid hbw
      have HCL : Hid (∀ W : World, Keep [] w W → W.cell? ⟨b, o + j * 3, none⟩ = some (.int .i64 (ds.getD j (0, 0, false)).1) ∧ W.cell? ⟨b, o + j * 3 + 1, none⟩ = some (.int .i64 (ds.getD j (0, 0, false)).2.1) ∧ W.cell? ⟨b, o + j * 3 + 2, none⟩ = some (.bool (ds.getD j (0, 0, false)).2.2)) := fun W hW => by
        obtain ⟨q0, q1, q2⟩ := hcells j (by rw [HLEN.out]; exact hlt)
        exact ⟨(hW.cell hbw (by simp)).trans q0, (hW.cell hbw (by simp)).trans q1, (hW.cell hbw (by simp)).trans q2⟩
      clear hbw hcells
      generalize (ds.getD j (0, 0, false)).1 = x1 at HCL
      generalize (ds.getD j (0, 0, false)).2.1 = x2 at HCL
      generalize (ds.getD j (0, 0, false)).2.2 = x3 at HCL
      obtain ⟨hx1, hx2, hx3⟩ := HCL.out wr HE.out.hk
      have hzj : ((j : Nat) : Int) < (n : Int) := by omega
      have hzj0 : (0 : Int) ≤ ((j : Nat) : Int) := by omega
      by_cases hneg : x1 < 0
      · go_wp2_with fail
        go_roundg (n - (j + 1))
        case measure => omega
        case rel => exact ⟨j + 1, e, nn, act, past, i, s, by omega, rfl, by go_num, by omega, by omega, by omega, HE.out, HA.out⟩
      by_cases hge : (T : Int) ≤ x1
      · have hz2 : ¬ x1 < (T : Int) := by omega
        go_wp2_with fail
        go_roundg (n - (j + 1))
        case measure => omega
        case rel => exact ⟨j + 1, e, nn, act, past, i, s, by omega, rfl, by go_num, by omega, by omega, by omega, HE.out, HA.out⟩
      obtain ⟨k, rfl⟩ : ∃ k : Nat, x1 = (k : Int) := ⟨x1.toNat, by omega⟩
      have hkl : k < s.ths.length := by
        rw [HE.out.hr.thl, HTT.out]
        omega
      obtain ⟨th, hth⟩ : ∃ th, s.ths[k]? = some th := ⟨_, List.getElem?_eq_getElem hkl⟩
      obtain ⟨ti, hti⟩ := HE.out.hm.thAt hth
      have HTH := Lib.hid hth
      have HTI := Lib.hid hti
      have HKT : Hid (k < T) := by show k < T; omega
      have KT := fun W (hW : MachAt W i s) => m_thread hW k ti hti
      rw [HE.out.im] at KT
      have HKT2 := Lib.hid KT
      have hc13 : wr.cell? ⟨ti.tb, 13, none⟩ = some (.bool th.ses.pinned) := th_cell (HE.out.hm.th k ti th hti hth) 1
      have hf13 : wr.frozen? ⟨ti.tb, 13, none⟩ = false := (HE.out.hm.th k ti th hti hth).ht.frozen 13
      clear hkl hth hti KT
      go_upto_region 13 with fail
      refine wp_region_still_tail 11 (by kernel_rfl) (by kernel_rfl) ?_
      simp only [List.take_succ_cons, List.take_zero, List.drop_succ_cons, List.drop_zero]
      iterate 2 still_step
      still_call ((HKT2.out _ HE.out.hm.drew).mono (fun _ _ h => ⟨h.1, h.2.symm⟩))
      iterate 8 still_step
      refine wpStill_nil ?_
      change wpList _ _ _ _ _ wr.drew
      go_upto_region 14 with fail
      obtain ⟨i1, hme1, hgo1⟩ := HE.out.pin HTI.out HTH.out x3
      have HE1 := Lib.hid (hme1.keep0 (Keep.refl [] _).drew)
      have HA1 := Lib.hid ((HA.out.go hgo1).keep0 (Keep.refl [] _).drew)
      have ht1 := pin_th HTH.out x3
      generalize s.pin k th x3 = s1 at HE1 ht1
      have HT1 := Lib.hid ht1
      clear hme1 hgo1 hc13 hf13 hx1 hx2 hx3 HE HA HTH HTI HKT2 ht1
      generalize (wr.setCell ⟨ti.tb, 13, none⟩ (.bool x3)).drew = y at HE1 HA1 ⊢
      obtain ⟨_, hx2, hx3⟩ := HCL.out y HE1.out.hk
      have hact := HE1.out.hr.actL
      have hpas := HE1.out.hr.pastL
      rw [HTT.out] at hact hpas
      have HAL : Hid (act.length = T) := hact
      have HPL : Hid (past.length = T) := hpas
      have hzT : ((T : Nat) : Int) ≤ 6 := by have := HT16.out; omega
      clear hact hpas
      by_cases hw0 : x2 = 0
      · subst hw0
        cases x3 with
        | true =>
          have KAL := me_enter_p HE1.out HT1.out (by have := HNJ.out; omega) rfl 4 (by omega) (by omega)
          unfold fnV at KAL
          have HA2 := HA1
          have HEB : Hid (e ≤ 3 + (j + 1) ∧ 3 ≤ e) := by have := HNJ.out; show e ≤ 3 + (j + 1) ∧ 3 ≤ e; omega
          go_wp2_with fail
          generalize e = e2 at KAL HA2 HEB
          generalize act = act2 at KAL HA2
          generalize past = past2 at KAL HA2
          refine KAL.mono ?_
          clear KAL
          rintro r z ⟨rfl, i2, s2, hme2, hths, hgo2⟩
          have HE2 := Lib.hid hme2
          have HA3 := Lib.hid (HA2.out.go hgo2)
          have ht2 := set_at hths HT1.out
          obtain ⟨ti2, hti2, hpa, hret⟩ := ses_at HE2.out.hm ht2
          rw [HE2.out.hr.pastI k _ ht2] at hpa
          have hret2 : z.cell? ⟨ti2.tb, 0, none⟩ = some (.int .u64 0) := hret
          have KT := fun W (hW : MachAt W i2 s2) => m_thread hW k ti2 hti2
          rw [HE2.out.im] at KT
          have HKT2 := Lib.hid KT
          have KN := fun W (hW : MachAt W i2 s2) => law18_now hW (by rw [HE2.out.hr.conf]; exact HE2.out.hr.w.len)
          rw [HE2.out.im, HE2.out.hr.ep, HE2.out.hr.conf, HTT.out] at KN
          have HKN := Lib.hid KN
          have HAC : Hid (actsOf s2.mem.ws T = act2) := by rw [← HTT.out]; exact acts_eq HE2.out.hr
          obtain ⟨vA, hF, hRA⟩ := HA3.out.hf
          obtain ⟨xt, hP⟩ := HA3.out.hp
          obtain ⟨bA, oA, capA, rfl⟩ := hRA.form2
          have hA2l := HE2.out.hr.actL
          have hP2l := HE2.out.hr.pastL
          rw [HTT.out] at hA2l hP2l
          have HA2L : Hid (act2.length = T) := hA2l
          have hy0 : z.cell? ⟨fb, 0, none⟩ = some (.int .u64 (e2 : Nat)) := hF.cell 0
          have hy1 : z.cell? ⟨fb, 1, none⟩ = some (.slice (some ⟨bA, oA, none⟩) act2.length capA) := hF.cell 1
          have hyp := word_at hP k (by rw [hP2l]; exact HKT.out)
          generalize past2.getD k 0 = pk at hpa hyp
          have hzk : ((k : Nat) : Int) < (T : Int) := by have := HKT.out; omega
          have hzk0 : (0 : Int) ≤ ((k : Nat) : Int) := by omega
          clear hme2 hths hgo2 hti2 hret KT KN hF hP hA2l hP2l hx2 hx3 HE1 HA1 HA2 HT1 ht2
          have HEc := Lib.hid (HE2.out.keep0 (Keep.refl [] z).drew)
          have HAc := Lib.hid (HA3.out.keep0 (Keep.refl [] z).drew)
          have HRAc := Lib.hid (hRA.keep0 (Keep.refl [] z).drew)
          have HVc : Hid (Five z.drew ti2.tb fb pb k 0 (e2 : Nat) (pk : Nat) (.slice (some ⟨bA, oA, none⟩) act2.length capA)) := Five.keep ⟨hret2, hy0, hy1, hpa, hyp⟩ (Keep.refl [] z).drew
          clear hRA HCL HBW HKT hret2 hy0 hy1 hpa hyp
          go_upto_region 31 with fail
          have hret2 := HVc.out.c0
          have hy0 := HVc.out.c1
          have hy1 := HVc.out.c2
          have hpa := HVc.out.c3
          have hyp := HVc.out.c4
          go_region_held3 (fun w' => w'.cell? ⟨ti2.tb, 0, none⟩ = some (.int .u64 0) ∧ w'.cell? ⟨fb, 0, none⟩ = some (.int .u64 (e2 : Nat)) ∧ w'.cell? ⟨fb, 1, none⟩ = some (.slice (some ⟨bA, oA, none⟩) act2.length capA) ∧ w'.cell? ⟨ti2.tb, 15, none⟩ = some (.int .u64 (pk : Nat)) ∧ w'.cell? ⟨pb, k, none⟩ = some (.int .u64 (pk : Nat))) (first | exact ⟨hret2, hy0, hy1, hpa, hyp⟩ | go_keep) (first
            | (go_at_call 14; refine (HKT2.out _ HEc.out.hm).mono ?_; rintro r x ⟨rfl, rfl⟩)
            | (go_at_call 39; refine (HKN.out _ HEc.out.hm).mono ?_; rintro r x ⟨hk, v, rfl, hown⟩; rw [HAC.out] at hown; have HRV := Lib.hid (RowI.of_own hown (by have := HT16.out; omega)); obtain ⟨bV, oV, capV, rfl⟩ := HRV.out.form2; have HEc := Lib.hid (HEc.out.keep0 hk); have HAc := Lib.hid (HAc.out.keep0 hk); have HRAc := Lib.hid (HRAc.out.keep0 hk); have HVc := Lib.hid (HVc.out.keep hk); have hret2 := HVc.out.c0; have hy0 := HVc.out.c1; have hy1 := HVc.out.c2; have hpa := HVc.out.c3; have hyp := HVc.out.c4; clear hown hk)
            | (go_at_call 38; refine (law18_same _ _ _ e2 _ _ act2 HRV.out HRAc.out (by rw [HA2L.out]; have := HT16.out; omega)).mono ?_; rintro r x ⟨rfl, hk⟩; have HEc := Lib.hid (HEc.out.keep0 hk); have HAc := Lib.hid (HAc.out.keep0 hk); have HVc := Lib.hid (HVc.out.keep hk); have hret2 := HVc.out.c0; have hy0 := HVc.out.c1; have hy1 := HVc.out.c2; have hpa := HVc.out.c3; have hyp := HVc.out.c4; clear hk))
          have HEf := Lib.hid (And.intro HEc.out HAc.out)
          clear hret2 hy0 hy1 hpa hyp
          go_wp2_with fail
          go_roundg (n - (j + 1))
          case measure => omega
          case rel => exact ⟨j + 1, e2, nn + 1, act2, past2, i2, s2, by omega, rfl, by go_num, by have := HNJ.out; omega, HEB.out.1, HEB.out.2, HEf.out.1, HEf.out.2⟩
        | false =>
          have hze : ((e : Nat) : Int) ≤ 100 := by have := HNJ.out; omega
          have hzd : ((e : Nat) : Int) - 1 = ((e - 1 : Nat) : Int) := by have := HNJ.out; omega
          have HEB : Hid (e ≤ 3 + (j + 1) ∧ 3 ≤ e) := by have := HNJ.out; show e ≤ 3 + (j + 1) ∧ 3 ≤ e; omega
          have hact2 : act.set k (actN e) = act.set k (2 * e + 1) := by rw [actN_odd (by omega)]
          have KME := fun W (h : MachE c w m0 W i1 s1 e act past nn) => me_enter h HT1.out (by have := HNJ.out; omega) rfl 4 (by omega) (by omega)
          rw [hact2] at KME
          obtain ⟨vA, hF, hRA⟩ := HA1.out.hf
          have KS := ref18_set y _ e k (2 * e + 1) vA act hRA (by rw [HAL.out]; exact HKT.out) (by rw [HAL.out]; have := HT16.out; omega)
          have e21 : ((2 * e + 1 : Nat) : Int) = 2 * ((e : Nat) : Int) + 1 := by omega
          rw [e21] at KS
          generalize act.set k (2 * e + 1) = act2 at KS KME
          have HKME := Lib.hid KME
          obtain ⟨bA, oA, capA, rfl⟩ := hRA.form2
          have hy0 : y.cell? ⟨fb, 0, none⟩ = some (.int .u64 (e : Nat)) := hF.cell 0
          have hy1 : y.cell? ⟨fb, 1, none⟩ = some (.slice (some ⟨bA, oA, none⟩) act.length capA) := hF.cell 1
          clear KME hact2 e21 hRA hF
          generalize hd : e - 1 = d at hzd HKME
          have HD := Lib.hid hd
          clear hd
          go_wp2_with fail
          refine KS.mono ?_
          clear KS
          rintro r z0 ⟨hk, v, rfl, hR⟩
          have hflt := HE1.out.hm.foot_lt
          obtain ⟨xt0, hP0⟩ := HA1.out.hp
          have hpbl := hP0.lt
          have HAz := Lib.hid (HA1.out.keep0 hk)
          have HEz := Lib.hid (HE1.out.keep0 hk)
          have HRz := Lib.hid (hR.mono (ok' := fun b => b ∉ i1.foot ∧ b ≠ pb) (fun b _ hb => ⟨fun hm => by have := hflt b hm; omega, by omega⟩))
          obtain ⟨bN, oN, capN, rfl⟩ := hR.form2
          obtain ⟨vz, hFz, hRz2⟩ := HAz.out.hf
          obtain ⟨bz, oz, capz, rfl⟩ := hRz2.form2
          have hz0 := hFz.cell 0
          have hz1 := hFz.cell 1
          have hzf0 := hFz.frozen 0
          have hzf1 := hFz.frozen 1
          clear hk hR hflt hpbl hP0 hFz hRz2 hy0 hy1
          go_upto_region 24 with fail
          have HAy := Lib.hid (HAz.out.putE (e' := e) HRz.out)
          have HEy : Hid (MachE c w m0 ((z0.setCell ⟨fb, 0, none⟩ (.int .u64 (e : Nat))).setCell ⟨fb, 1, none⟩ (.slice (some ⟨bN, oN, none⟩) act2.length capN)) i1 s1 e act past nn) :=
            (HEz.out.otherE HAz.out 0 _).otherE (HAz.out.putN (e' := e)) 1 _
          generalize (z0.setCell ⟨fb, 0, none⟩ (.int .u64 (e : Nat))).setCell ⟨fb, 1, none⟩ (.slice (some ⟨bN, oN, none⟩) act2.length capN) = y2 at HAy HEy ⊢
          clear hz0 hz1 hzf0 hzf1 HAz HEz HRz HA1 HE1
          obtain ⟨vy, hFy, hRy⟩ := HAy.out.hf
          obtain ⟨xty, hPy⟩ := HAy.out.hp
          have hy0 : y2.cell? ⟨fb, 0, none⟩ = some (.int .u64 (e : Nat)) := hFy.cell 0
          have hyp := word_at hPy k (by rw [HPL.out]; exact HKT.out)
          have hyf := hPy.frozen k
          have hzk : ((k : Nat) : Int) < (T : Int) := by have := HKT.out; omega
          have hzk0 : (0 : Int) ≤ ((k : Nat) : Int) := by omega
          generalize past.getD k 0 = pv at hyp
          clear hFy hRy hPy
          go_upto_region 30 with fail
          have HA2 := Lib.hid (HAy.out.putP (k := k) (x := d) (by rw [HPL.out]; exact HKT.out))
          have HE1 := Lib.hid (HEy.out.otherP HAy.out k (.int .u64 (d : Nat)))
          generalize y2.setCell ⟨pb, k, none⟩ (.int .u64 (d : Nat)) = y3 at HA2 HE1 ⊢
          have KAL := HKME.out y3 HE1.out
          unfold fnV at KAL
          have HA1 := HA2
          have hx2 := hy0
          have hx3 := hy0
          generalize hpp : past.set k d = past2 at KAL HA2
          clear HKME hy0 hyp hyf hzk hzk0 hzd HAy HEy hpp
          generalize e = e2 at KAL HA2 HEB
          go_wp2_with fail
          refine KAL.mono ?_
          clear KAL
          rintro r z ⟨rfl, i2, s2, hme2, hths, hgo2⟩
          have HE2 := Lib.hid hme2
          have HA3 := Lib.hid (HA2.out.go hgo2)
          have ht2 := set_at hths HT1.out
          obtain ⟨ti2, hti2, hpa, hret⟩ := ses_at HE2.out.hm ht2
          rw [HE2.out.hr.pastI k _ ht2] at hpa
          have hret2 : z.cell? ⟨ti2.tb, 0, none⟩ = some (.int .u64 0) := hret
          have KT := fun W (hW : MachAt W i2 s2) => m_thread hW k ti2 hti2
          rw [HE2.out.im] at KT
          have HKT2 := Lib.hid KT
          have KN := fun W (hW : MachAt W i2 s2) => law18_now hW (by rw [HE2.out.hr.conf]; exact HE2.out.hr.w.len)
          rw [HE2.out.im, HE2.out.hr.ep, HE2.out.hr.conf, HTT.out] at KN
          have HKN := Lib.hid KN
          have HAC : Hid (actsOf s2.mem.ws T = act2) := by rw [← HTT.out]; exact acts_eq HE2.out.hr
          obtain ⟨vA, hF, hRA⟩ := HA3.out.hf
          obtain ⟨xt, hP⟩ := HA3.out.hp
          obtain ⟨bA, oA, capA, rfl⟩ := hRA.form2
          have hA2l := HE2.out.hr.actL
          have hP2l := HE2.out.hr.pastL
          rw [HTT.out] at hA2l hP2l
          have HA2L : Hid (act2.length = T) := hA2l
          have hy0 : z.cell? ⟨fb, 0, none⟩ = some (.int .u64 (e2 : Nat)) := hF.cell 0
          have hy1 : z.cell? ⟨fb, 1, none⟩ = some (.slice (some ⟨bA, oA, none⟩) act2.length capA) := hF.cell 1
          have hyp := word_at hP k (by rw [hP2l]; exact HKT.out)
          generalize past2.getD k 0 = pk at hpa hyp
          have hzk : ((k : Nat) : Int) < (T : Int) := by have := HKT.out; omega
          have hzk0 : (0 : Int) ≤ ((k : Nat) : Int) := by omega
          clear hme2 hths hgo2 hti2 hret KT KN hF hP hA2l hP2l hx2 hx3 HE1 HA1 HA2 HT1 ht2
          have HEc := Lib.hid (HE2.out.keep0 (Keep.refl [] z).drew)
          have HAc := Lib.hid (HA3.out.keep0 (Keep.refl [] z).drew)
          have HRAc := Lib.hid (hRA.keep0 (Keep.refl [] z).drew)
          have HVc : Hid (Five z.drew ti2.tb fb pb k 0 (e2 : Nat) (pk : Nat) (.slice (some ⟨bA, oA, none⟩) act2.length capA)) := Five.keep ⟨hret2, hy0, hy1, hpa, hyp⟩ (Keep.refl [] z).drew
          clear hRA HCL HBW HKT hret2 hy0 hy1 hpa hyp
          go_upto_region 31 with fail
          have hret2 := HVc.out.c0
          have hy0 := HVc.out.c1
          have hy1 := HVc.out.c2
          have hpa := HVc.out.c3
          have hyp := HVc.out.c4
          go_region_held3 (fun w' => w'.cell? ⟨ti2.tb, 0, none⟩ = some (.int .u64 0) ∧ w'.cell? ⟨fb, 0, none⟩ = some (.int .u64 (e2 : Nat)) ∧ w'.cell? ⟨fb, 1, none⟩ = some (.slice (some ⟨bA, oA, none⟩) act2.length capA) ∧ w'.cell? ⟨ti2.tb, 15, none⟩ = some (.int .u64 (pk : Nat)) ∧ w'.cell? ⟨pb, k, none⟩ = some (.int .u64 (pk : Nat))) (first | exact ⟨hret2, hy0, hy1, hpa, hyp⟩ | go_keep) (first
            | (go_at_call 14; refine (HKT2.out _ HEc.out.hm).mono ?_; rintro r x ⟨rfl, rfl⟩)
            | (go_at_call 39; refine (HKN.out _ HEc.out.hm).mono ?_; rintro r x ⟨hk, v, rfl, hown⟩; rw [HAC.out] at hown; have HRV := Lib.hid (RowI.of_own hown (by have := HT16.out; omega)); obtain ⟨bV, oV, capV, rfl⟩ := HRV.out.form2; have HEc := Lib.hid (HEc.out.keep0 hk); have HAc := Lib.hid (HAc.out.keep0 hk); have HRAc := Lib.hid (HRAc.out.keep0 hk); have HVc := Lib.hid (HVc.out.keep hk); have hret2 := HVc.out.c0; have hy0 := HVc.out.c1; have hy1 := HVc.out.c2; have hpa := HVc.out.c3; have hyp := HVc.out.c4; clear hown hk)
            | (go_at_call 38; refine (law18_same _ _ _ e2 _ _ act2 HRV.out HRAc.out (by rw [HA2L.out]; have := HT16.out; omega)).mono ?_; rintro r x ⟨rfl, hk⟩; have HEc := Lib.hid (HEc.out.keep0 hk); have HAc := Lib.hid (HAc.out.keep0 hk); have HVc := Lib.hid (HVc.out.keep hk); have hret2 := HVc.out.c0; have hy0 := HVc.out.c1; have hy1 := HVc.out.c2; have hpa := HVc.out.c3; have hyp := HVc.out.c4; clear hk))
          have HEf := Lib.hid (And.intro HEc.out HAc.out)
          clear hret2 hy0 hy1 hpa hyp
          go_wp2_with fail
          go_roundg (n - (j + 1))
          case measure => omega
          case rel => exact ⟨j + 1, e2, nn + 1, act2, past2, i2, s2, by omega, rfl, by go_num, by have := HNJ.out; omega, HEB.out.1, HEB.out.2, HEf.out.1, HEf.out.2⟩
      by_cases hw1 : x2 = 1
      · subst hw1
        cases x3 with
        | true =>
          have KAL := me_leave_p HE1.out HT1.out (by have := HNJ.out; omega) rfl 2 (by omega) (by omega)
          unfold fnV at KAL
          have HA2 := HA1
          have HEB : Hid (e ≤ 3 + (j + 1) ∧ 3 ≤ e) := by have := HNJ.out; show e ≤ 3 + (j + 1) ∧ 3 ≤ e; omega
          go_wp2_with fail
          generalize e = e2 at KAL HA2 HEB
          generalize act = act2 at KAL HA2
          generalize past = past2 at KAL HA2
          refine KAL.mono ?_
          clear KAL
          rintro r z ⟨rfl, i2, s2, hme2, hths, hgo2⟩
          have HE2 := Lib.hid hme2
          have HA3 := Lib.hid (HA2.out.go hgo2)
          have ht2 := set_at hths HT1.out
          obtain ⟨ti2, hti2, hpa, hret⟩ := ses_at HE2.out.hm ht2
          rw [HE2.out.hr.pastI k _ ht2] at hpa
          have hret2 : z.cell? ⟨ti2.tb, 0, none⟩ = some (.int .u64 0) := hret
          have KT := fun W (hW : MachAt W i2 s2) => m_thread hW k ti2 hti2
          rw [HE2.out.im] at KT
          have HKT2 := Lib.hid KT
          have KN := fun W (hW : MachAt W i2 s2) => law18_now hW (by rw [HE2.out.hr.conf]; exact HE2.out.hr.w.len)
          rw [HE2.out.im, HE2.out.hr.ep, HE2.out.hr.conf, HTT.out] at KN
          have HKN := Lib.hid KN
          have HAC : Hid (actsOf s2.mem.ws T = act2) := by rw [← HTT.out]; exact acts_eq HE2.out.hr
          obtain ⟨vA, hF, hRA⟩ := HA3.out.hf
          obtain ⟨xt, hP⟩ := HA3.out.hp
          obtain ⟨bA, oA, capA, rfl⟩ := hRA.form2
          have hA2l := HE2.out.hr.actL
          have hP2l := HE2.out.hr.pastL
          rw [HTT.out] at hA2l hP2l
          have HA2L : Hid (act2.length = T) := hA2l
          have hy0 : z.cell? ⟨fb, 0, none⟩ = some (.int .u64 (e2 : Nat)) := hF.cell 0
          have hy1 : z.cell? ⟨fb, 1, none⟩ = some (.slice (some ⟨bA, oA, none⟩) act2.length capA) := hF.cell 1
          have hyp := word_at hP k (by rw [hP2l]; exact HKT.out)
          generalize past2.getD k 0 = pk at hpa hyp
          have hzk : ((k : Nat) : Int) < (T : Int) := by have := HKT.out; omega
          have hzk0 : (0 : Int) ≤ ((k : Nat) : Int) := by omega
          clear hme2 hths hgo2 hti2 hret KT KN hF hP hA2l hP2l hx2 hx3 HE1 HA1 HA2 HT1 ht2
          have HEc := Lib.hid (HE2.out.keep0 (Keep.refl [] z).drew)
          have HAc := Lib.hid (HA3.out.keep0 (Keep.refl [] z).drew)
          have HRAc := Lib.hid (hRA.keep0 (Keep.refl [] z).drew)
          have HVc : Hid (Five z.drew ti2.tb fb pb k 0 (e2 : Nat) (pk : Nat) (.slice (some ⟨bA, oA, none⟩) act2.length capA)) := Five.keep ⟨hret2, hy0, hy1, hpa, hyp⟩ (Keep.refl [] z).drew
          clear hRA HCL HBW HKT hret2 hy0 hy1 hpa hyp
          go_upto_region 31 with fail
          have hret2 := HVc.out.c0
          have hy0 := HVc.out.c1
          have hy1 := HVc.out.c2
          have hpa := HVc.out.c3
          have hyp := HVc.out.c4
          go_region_held3 (fun w' => w'.cell? ⟨ti2.tb, 0, none⟩ = some (.int .u64 0) ∧ w'.cell? ⟨fb, 0, none⟩ = some (.int .u64 (e2 : Nat)) ∧ w'.cell? ⟨fb, 1, none⟩ = some (.slice (some ⟨bA, oA, none⟩) act2.length capA) ∧ w'.cell? ⟨ti2.tb, 15, none⟩ = some (.int .u64 (pk : Nat)) ∧ w'.cell? ⟨pb, k, none⟩ = some (.int .u64 (pk : Nat))) (first | exact ⟨hret2, hy0, hy1, hpa, hyp⟩ | go_keep) (first
            | (go_at_call 14; refine (HKT2.out _ HEc.out.hm).mono ?_; rintro r x ⟨rfl, rfl⟩)
            | (go_at_call 39; refine (HKN.out _ HEc.out.hm).mono ?_; rintro r x ⟨hk, v, rfl, hown⟩; rw [HAC.out] at hown; have HRV := Lib.hid (RowI.of_own hown (by have := HT16.out; omega)); obtain ⟨bV, oV, capV, rfl⟩ := HRV.out.form2; have HEc := Lib.hid (HEc.out.keep0 hk); have HAc := Lib.hid (HAc.out.keep0 hk); have HRAc := Lib.hid (HRAc.out.keep0 hk); have HVc := Lib.hid (HVc.out.keep hk); have hret2 := HVc.out.c0; have hy0 := HVc.out.c1; have hy1 := HVc.out.c2; have hpa := HVc.out.c3; have hyp := HVc.out.c4; clear hown hk)
            | (go_at_call 38; refine (law18_same _ _ _ e2 _ _ act2 HRV.out HRAc.out (by rw [HA2L.out]; have := HT16.out; omega)).mono ?_; rintro r x ⟨rfl, hk⟩; have HEc := Lib.hid (HEc.out.keep0 hk); have HAc := Lib.hid (HAc.out.keep0 hk); have HVc := Lib.hid (HVc.out.keep hk); have hret2 := HVc.out.c0; have hy0 := HVc.out.c1; have hy1 := HVc.out.c2; have hpa := HVc.out.c3; have hyp := HVc.out.c4; clear hk))
          have HEf := Lib.hid (And.intro HEc.out HAc.out)
          clear hret2 hy0 hy1 hpa hyp
          go_wp2_with fail
          go_roundg (n - (j + 1))
          case measure => omega
          case rel => exact ⟨j + 1, e2, nn + 1, act2, past2, i2, s2, by omega, rfl, by go_num, by have := HNJ.out; omega, HEB.out.1, HEB.out.2, HEf.out.1, HEf.out.2⟩
        | false =>
          have HEB : Hid (e ≤ 3 + (j + 1) ∧ 3 ≤ e) := by have := HNJ.out; show e ≤ 3 + (j + 1) ∧ 3 ≤ e; omega
          have KME := fun W (h : MachE c w m0 W i1 s1 e act past nn) => me_leave h HT1.out (by have := HNJ.out; omega) rfl 2 (by omega) (by omega)
          obtain ⟨vA, hF, hRA⟩ := HA1.out.hf
          have KS : Calls Try.prog 35 #[.agg #[.int .u64 (e : Nat), vA], .int .i64 (k : Nat), .int .u64 0] y (SetOut y e (act.set k 0)) := ref18_set y _ e k 0 vA act hRA (by rw [HAL.out]; exact HKT.out) (by rw [HAL.out]; have := HT16.out; omega)
          generalize act.set k 0 = act2 at KS KME
          have HKME := Lib.hid KME
          obtain ⟨bA, oA, capA, rfl⟩ := hRA.form2
          have hy0 : y.cell? ⟨fb, 0, none⟩ = some (.int .u64 (e : Nat)) := hF.cell 0
          have hy1 : y.cell? ⟨fb, 1, none⟩ = some (.slice (some ⟨bA, oA, none⟩) act.length capA) := hF.cell 1
          clear KME hRA hF
          go_wp2_with fail
          refine KS.mono ?_
          clear KS
          rintro r z0 ⟨hk, v, rfl, hR⟩
          have hflt := HE1.out.hm.foot_lt
          obtain ⟨xt0, hP0⟩ := HA1.out.hp
          have hpbl := hP0.lt
          have HAz := Lib.hid (HA1.out.keep0 hk)
          have HEz := Lib.hid (HE1.out.keep0 hk)
          have HRz := Lib.hid (hR.mono (ok' := fun b => b ∉ i1.foot ∧ b ≠ pb) (fun b _ hb => ⟨fun hm => by have := hflt b hm; omega, by omega⟩))
          obtain ⟨bN, oN, capN, rfl⟩ := hR.form2
          obtain ⟨vz, hFz, hRz2⟩ := HAz.out.hf
          obtain ⟨bz, oz, capz, rfl⟩ := hRz2.form2
          have hz0 := hFz.cell 0
          have hz1 := hFz.cell 1
          have hzf0 := hFz.frozen 0
          have hzf1 := hFz.frozen 1
          clear hk hR hflt hpbl hP0 hFz hRz2 hy0 hy1
          go_upto_region 30 with fail
          have HA2 := Lib.hid (HAz.out.putE (e' := e) HRz.out)
          have HEy : Hid (MachE c w m0 ((z0.setCell ⟨fb, 0, none⟩ (.int .u64 (e : Nat))).setCell ⟨fb, 1, none⟩ (.slice (some ⟨bN, oN, none⟩) act2.length capN)) i1 s1 e act past nn) :=
            (HEz.out.otherE HAz.out 0 _).otherE (HAz.out.putN (e' := e)) 1 _
          generalize (z0.setCell ⟨fb, 0, none⟩ (.int .u64 (e : Nat))).setCell ⟨fb, 1, none⟩ (.slice (some ⟨bN, oN, none⟩) act2.length capN) = y3 at HA2 HEy ⊢
          clear hz0 hz1 hzf0 hzf1 HAz HEz HRz HA1 HE1
          have KAL := HKME.out y3 HEy.out
          unfold fnV at KAL
          have HE1 := HEy
          have HA1 := HA2
          clear HKME HEy
          generalize e = e2 at KAL HA2 HEB
          generalize past = past2 at KAL HA2
          go_wp2_with fail
          refine KAL.mono ?_
          clear KAL
          rintro r z ⟨rfl, i2, s2, hme2, hths, hgo2⟩
          have HE2 := Lib.hid hme2
          have HA3 := Lib.hid (HA2.out.go hgo2)
          have ht2 := set_at hths HT1.out
          obtain ⟨ti2, hti2, hpa, hret⟩ := ses_at HE2.out.hm ht2
          rw [HE2.out.hr.pastI k _ ht2] at hpa
          have hret2 : z.cell? ⟨ti2.tb, 0, none⟩ = some (.int .u64 0) := hret
          have KT := fun W (hW : MachAt W i2 s2) => m_thread hW k ti2 hti2
          rw [HE2.out.im] at KT
          have HKT2 := Lib.hid KT
          have KN := fun W (hW : MachAt W i2 s2) => law18_now hW (by rw [HE2.out.hr.conf]; exact HE2.out.hr.w.len)
          rw [HE2.out.im, HE2.out.hr.ep, HE2.out.hr.conf, HTT.out] at KN
          have HKN := Lib.hid KN
          have HAC : Hid (actsOf s2.mem.ws T = act2) := by rw [← HTT.out]; exact acts_eq HE2.out.hr
          obtain ⟨vA, hF, hRA⟩ := HA3.out.hf
          obtain ⟨xt, hP⟩ := HA3.out.hp
          obtain ⟨bA, oA, capA, rfl⟩ := hRA.form2
          have hA2l := HE2.out.hr.actL
          have hP2l := HE2.out.hr.pastL
          rw [HTT.out] at hA2l hP2l
          have HA2L : Hid (act2.length = T) := hA2l
          have hy0 : z.cell? ⟨fb, 0, none⟩ = some (.int .u64 (e2 : Nat)) := hF.cell 0
          have hy1 : z.cell? ⟨fb, 1, none⟩ = some (.slice (some ⟨bA, oA, none⟩) act2.length capA) := hF.cell 1
          have hyp := word_at hP k (by rw [hP2l]; exact HKT.out)
          generalize past2.getD k 0 = pk at hpa hyp
          have hzk : ((k : Nat) : Int) < (T : Int) := by have := HKT.out; omega
          have hzk0 : (0 : Int) ≤ ((k : Nat) : Int) := by omega
          clear hme2 hths hgo2 hti2 hret KT KN hF hP hA2l hP2l hx2 hx3 HE1 HA1 HA2 HT1 ht2
          have HEc := Lib.hid (HE2.out.keep0 (Keep.refl [] z).drew)
          have HAc := Lib.hid (HA3.out.keep0 (Keep.refl [] z).drew)
          have HRAc := Lib.hid (hRA.keep0 (Keep.refl [] z).drew)
          have HVc : Hid (Five z.drew ti2.tb fb pb k 0 (e2 : Nat) (pk : Nat) (.slice (some ⟨bA, oA, none⟩) act2.length capA)) := Five.keep ⟨hret2, hy0, hy1, hpa, hyp⟩ (Keep.refl [] z).drew
          clear hRA HCL HBW HKT hret2 hy0 hy1 hpa hyp
          go_upto_region 31 with fail
          have hret2 := HVc.out.c0
          have hy0 := HVc.out.c1
          have hy1 := HVc.out.c2
          have hpa := HVc.out.c3
          have hyp := HVc.out.c4
          go_region_held3 (fun w' => w'.cell? ⟨ti2.tb, 0, none⟩ = some (.int .u64 0) ∧ w'.cell? ⟨fb, 0, none⟩ = some (.int .u64 (e2 : Nat)) ∧ w'.cell? ⟨fb, 1, none⟩ = some (.slice (some ⟨bA, oA, none⟩) act2.length capA) ∧ w'.cell? ⟨ti2.tb, 15, none⟩ = some (.int .u64 (pk : Nat)) ∧ w'.cell? ⟨pb, k, none⟩ = some (.int .u64 (pk : Nat))) (first | exact ⟨hret2, hy0, hy1, hpa, hyp⟩ | go_keep) (first
            | (go_at_call 14; refine (HKT2.out _ HEc.out.hm).mono ?_; rintro r x ⟨rfl, rfl⟩)
            | (go_at_call 39; refine (HKN.out _ HEc.out.hm).mono ?_; rintro r x ⟨hk, v, rfl, hown⟩; rw [HAC.out] at hown; have HRV := Lib.hid (RowI.of_own hown (by have := HT16.out; omega)); obtain ⟨bV, oV, capV, rfl⟩ := HRV.out.form2; have HEc := Lib.hid (HEc.out.keep0 hk); have HAc := Lib.hid (HAc.out.keep0 hk); have HRAc := Lib.hid (HRAc.out.keep0 hk); have HVc := Lib.hid (HVc.out.keep hk); have hret2 := HVc.out.c0; have hy0 := HVc.out.c1; have hy1 := HVc.out.c2; have hpa := HVc.out.c3; have hyp := HVc.out.c4; clear hown hk)
            | (go_at_call 38; refine (law18_same _ _ _ e2 _ _ act2 HRV.out HRAc.out (by rw [HA2L.out]; have := HT16.out; omega)).mono ?_; rintro r x ⟨rfl, hk⟩; have HEc := Lib.hid (HEc.out.keep0 hk); have HAc := Lib.hid (HAc.out.keep0 hk); have HVc := Lib.hid (HVc.out.keep hk); have hret2 := HVc.out.c0; have hy0 := HVc.out.c1; have hy1 := HVc.out.c2; have hpa := HVc.out.c3; have hyp := HVc.out.c4; clear hk))
          have HEf := Lib.hid (And.intro HEc.out HAc.out)
          clear hret2 hy0 hy1 hpa hyp
          go_wp2_with fail
          go_roundg (n - (j + 1))
          case measure => omega
          case rel => exact ⟨j + 1, e2, nn + 1, act2, past2, i2, s2, by omega, rfl, by go_num, by have := HNJ.out; omega, HEB.out.1, HEB.out.2, HEf.out.1, HEf.out.2⟩
      · obtain ⟨vA, hF, hRA⟩ := HA1.out.hf
        have hb0 : (x2 == 0) = false := by simpa using hw0
        have hb1 : (x2 == 1) = false := by simpa using hw1
        have hlg : ((List.range act.length).any fun t => lagsN (act.getD t 0) e) = lagAny c e act := by rw [HAL.out, ← HTT.out]; rfl
        have KL := ref18_lags y _ e vA act hRA (by rw [HAL.out]; have := HT16.out; omega) (act_small HE1.out.hr)
        rw [hlg] at KL
        obtain ⟨bA, oA, capA, rfl⟩ := hRA.form2
        have hy0 : y.cell? ⟨fb, 0, none⟩ = some (.int .u64 (e : Nat)) := hF.cell 0
        have hy1 : y.cell? ⟨fb, 1, none⟩ = some (.slice (some ⟨bA, oA, none⟩) act.length capA) := hF.cell 1
        have hze : ((e : Nat) : Int) ≤ 100 := by have := HNJ.out; omega
        have hT3 : ((T + 3 : Nat) : Int) = (T : Int) + 3 := by omega
        clear hRA hF hlg hw0 hw1
        cases hlag : lagAny c e act with
        | true =>
          rw [hlag] at KL
          have HLG := Lib.hid hlag
          clear hlag
          go_wp2_with fail
          refine KL.mono ?_
          clear KL
          rintro r z0 ⟨rfl, hk⟩
          have HA2 := Lib.hid (HA1.out.keep0 hk)
          have HEy := Lib.hid (HE1.out.keep0 hk)
          obtain ⟨mm, hmm, KAL⟩ := me_advance0 HEy.out HT1.out (by have := HNJ.out; omega) HLG.out (T + 3) (by rw [HTT.out]; omega) (by have := HT16.out; omega)
          rw [hT3] at KAL
          unfold fnV at KAL
          rw [HTT.out] at hmm
          have hzm : decide ((T : Int) + 3 < (mm : Int)) = false := by rw [decide_eq_false_iff_not]; omega
          have HEB : Hid (e ≤ 3 + (j + 1) ∧ 3 ≤ e) := by have := HNJ.out; show e ≤ 3 + (j + 1) ∧ 3 ≤ e; omega
          clear HE1 HA1 hk hy0 hy1 hT3 hmm
          have HE1 := HEy
          have HA1 := HA2
          clear HEy HLG
          generalize e = e2 at KAL HA2 HEB
          generalize act = act2 at KAL HA2
          generalize past = past2 at KAL HA2
          go_wp2_with fail
          refine KAL.mono ?_
          clear KAL
          rintro r z ⟨rfl, i2, s2, hme2, hths, hgo2⟩
          have HE2 := Lib.hid hme2
          have HA3 := Lib.hid (HA2.out.go hgo2)
          have ht2 := set_at hths HT1.out
          obtain ⟨ti2, hti2, hpa, hret⟩ := ses_at HE2.out.hm ht2
          rw [HE2.out.hr.pastI k _ ht2] at hpa
          have hret2 : z.cell? ⟨ti2.tb, 0, none⟩ = some (.int .u64 0) := hret
          have KT := fun W (hW : MachAt W i2 s2) => m_thread hW k ti2 hti2
          rw [HE2.out.im] at KT
          have HKT2 := Lib.hid KT
          have KN := fun W (hW : MachAt W i2 s2) => law18_now hW (by rw [HE2.out.hr.conf]; exact HE2.out.hr.w.len)
          rw [HE2.out.im, HE2.out.hr.ep, HE2.out.hr.conf, HTT.out] at KN
          have HKN := Lib.hid KN
          have HAC : Hid (actsOf s2.mem.ws T = act2) := by rw [← HTT.out]; exact acts_eq HE2.out.hr
          obtain ⟨vA, hF, hRA⟩ := HA3.out.hf
          obtain ⟨xt, hP⟩ := HA3.out.hp
          obtain ⟨bA, oA, capA, rfl⟩ := hRA.form2
          have hA2l := HE2.out.hr.actL
          have hP2l := HE2.out.hr.pastL
          rw [HTT.out] at hA2l hP2l
          have HA2L : Hid (act2.length = T) := hA2l
          have hy0 : z.cell? ⟨fb, 0, none⟩ = some (.int .u64 (e2 : Nat)) := hF.cell 0
          have hy1 : z.cell? ⟨fb, 1, none⟩ = some (.slice (some ⟨bA, oA, none⟩) act2.length capA) := hF.cell 1
          have hyp := word_at hP k (by rw [hP2l]; exact HKT.out)
          generalize past2.getD k 0 = pk at hpa hyp
          have hzk : ((k : Nat) : Int) < (T : Int) := by have := HKT.out; omega
          have hzk0 : (0 : Int) ≤ ((k : Nat) : Int) := by omega
          clear hme2 hths hgo2 hti2 hret KT KN hF hP hA2l hP2l hx2 hx3 HE1 HA1 HA2 HT1 ht2
          have HEc := Lib.hid (HE2.out.keep0 (Keep.refl [] z).drew)
          have HAc := Lib.hid (HA3.out.keep0 (Keep.refl [] z).drew)
          have HRAc := Lib.hid (hRA.keep0 (Keep.refl [] z).drew)
          have HVc : Hid (Five z.drew ti2.tb fb pb k 0 (e2 : Nat) (pk : Nat) (.slice (some ⟨bA, oA, none⟩) act2.length capA)) := Five.keep ⟨hret2, hy0, hy1, hpa, hyp⟩ (Keep.refl [] z).drew
          clear hRA HCL HBW HKT hret2 hy0 hy1 hpa hyp
          go_upto_region 31 with fail
          have hret2 := HVc.out.c0
          have hy0 := HVc.out.c1
          have hy1 := HVc.out.c2
          have hpa := HVc.out.c3
          have hyp := HVc.out.c4
          go_region_held3 (fun w' => w'.cell? ⟨ti2.tb, 0, none⟩ = some (.int .u64 0) ∧ w'.cell? ⟨fb, 0, none⟩ = some (.int .u64 (e2 : Nat)) ∧ w'.cell? ⟨fb, 1, none⟩ = some (.slice (some ⟨bA, oA, none⟩) act2.length capA) ∧ w'.cell? ⟨ti2.tb, 15, none⟩ = some (.int .u64 (pk : Nat)) ∧ w'.cell? ⟨pb, k, none⟩ = some (.int .u64 (pk : Nat))) (first | exact ⟨hret2, hy0, hy1, hpa, hyp⟩ | go_keep) (first
            | (go_at_call 14; refine (HKT2.out _ HEc.out.hm).mono ?_; rintro r x ⟨rfl, rfl⟩)
            | (go_at_call 39; refine (HKN.out _ HEc.out.hm).mono ?_; rintro r x ⟨hk, v, rfl, hown⟩; rw [HAC.out] at hown; have HRV := Lib.hid (RowI.of_own hown (by have := HT16.out; omega)); obtain ⟨bV, oV, capV, rfl⟩ := HRV.out.form2; have HEc := Lib.hid (HEc.out.keep0 hk); have HAc := Lib.hid (HAc.out.keep0 hk); have HRAc := Lib.hid (HRAc.out.keep0 hk); have HVc := Lib.hid (HVc.out.keep hk); have hret2 := HVc.out.c0; have hy0 := HVc.out.c1; have hy1 := HVc.out.c2; have hpa := HVc.out.c3; have hyp := HVc.out.c4; clear hown hk)
            | (go_at_call 38; refine (law18_same _ _ _ e2 _ _ act2 HRV.out HRAc.out (by rw [HA2L.out]; have := HT16.out; omega)).mono ?_; rintro r x ⟨rfl, hk⟩; have HEc := Lib.hid (HEc.out.keep0 hk); have HAc := Lib.hid (HAc.out.keep0 hk); have HVc := Lib.hid (HVc.out.keep hk); have hret2 := HVc.out.c0; have hy0 := HVc.out.c1; have hy1 := HVc.out.c2; have hpa := HVc.out.c3; have hyp := HVc.out.c4; clear hk))
          have HEf := Lib.hid (And.intro HEc.out HAc.out)
          clear hret2 hy0 hy1 hpa hyp
          go_wp2_with fail
          go_roundg (n - (j + 1))
          case measure => omega
          case rel => exact ⟨j + 1, e2, nn + 1, act2, past2, i2, s2, by omega, rfl, by go_num, by have := HNJ.out; omega, HEB.out.1, HEB.out.2, HEf.out.1, HEf.out.2⟩
        | false =>
          rw [hlag] at KL
          have HLG := Lib.hid hlag
          clear hlag
          go_wp2_with fail
          refine KL.mono ?_
          clear KL
          rintro r z0 ⟨rfl, hk⟩
          have HAz := Lib.hid (HA1.out.keep0 hk)
          have HEz := Lib.hid (HE1.out.keep0 hk)
          obtain ⟨vz, hFz, hRz2⟩ := HAz.out.hf
          have hz0 : z0.cell? ⟨fb, 0, none⟩ = some (.int .u64 (e : Nat)) := hFz.cell 0
          have hzf0 := hFz.frozen 0
          clear hk hy0 hy1 hFz hRz2 HA1 HE1
          go_upto_region 30 with fail
          have HA2 := Lib.hid (HAz.out.putN (e' := e + 1))
          have HEy := Lib.hid (HEz.out.otherE HAz.out 0 (.int .u64 ((e + 1 : Nat) : Int)))
          have ee : ((e + 1 : Nat) : Int) = (e : Int) + 1 := by omega
          rw [ee] at HA2 HEy
          generalize z0.setCell ⟨fb, 0, none⟩ (.int .u64 ((e : Int) + 1)) = y3 at HA2 HEy ⊢
          have KAL := me_advance HEy.out HT1.out (by have := HNJ.out; omega) HLG.out (T + 3) (by rw [HTT.out]; omega) (by have := HT16.out; omega)
          rw [hT3, HTT.out] at KAL
          unfold fnV at KAL
          have hT2 : ((T + 2 : Nat) : Int) = (T : Int) + 2 := by omega
          have HEB : Hid (e + 1 ≤ 3 + (j + 1) ∧ 3 ≤ e + 1) := by have := HNJ.out; show e + 1 ≤ 3 + (j + 1) ∧ 3 ≤ e + 1; omega
          clear hz0 hzf0 hT3 HAz HEz ee
          have HE1 := HEy
          have HA1 := HA2
          clear HEy HLG
          generalize e + 1 = e2 at KAL HA2 HEB
          generalize act = act2 at KAL HA2
          generalize past = past2 at KAL HA2
          go_wp2_with fail
          refine KAL.mono ?_
          clear KAL
          rintro r z ⟨rfl, i2, s2, hme2, hths, hgo2⟩
          have HE2 := Lib.hid hme2
          have HA3 := Lib.hid (HA2.out.go hgo2)
          have ht2 := set_at hths HT1.out
          obtain ⟨ti2, hti2, hpa, hret⟩ := ses_at HE2.out.hm ht2
          rw [HE2.out.hr.pastI k _ ht2] at hpa
          have hret2 : z.cell? ⟨ti2.tb, 0, none⟩ = some (.int .u64 1) := hret
          have KT := fun W (hW : MachAt W i2 s2) => m_thread hW k ti2 hti2
          rw [HE2.out.im] at KT
          have HKT2 := Lib.hid KT
          have KN := fun W (hW : MachAt W i2 s2) => law18_now hW (by rw [HE2.out.hr.conf]; exact HE2.out.hr.w.len)
          rw [HE2.out.im, HE2.out.hr.ep, HE2.out.hr.conf, HTT.out] at KN
          have HKN := Lib.hid KN
          have HAC : Hid (actsOf s2.mem.ws T = act2) := by rw [← HTT.out]; exact acts_eq HE2.out.hr
          obtain ⟨vA, hF, hRA⟩ := HA3.out.hf
          obtain ⟨xt, hP⟩ := HA3.out.hp
          obtain ⟨bA, oA, capA, rfl⟩ := hRA.form2
          have hA2l := HE2.out.hr.actL
          have hP2l := HE2.out.hr.pastL
          rw [HTT.out] at hA2l hP2l
          have HA2L : Hid (act2.length = T) := hA2l
          have hy0 : z.cell? ⟨fb, 0, none⟩ = some (.int .u64 (e2 : Nat)) := hF.cell 0
          have hy1 : z.cell? ⟨fb, 1, none⟩ = some (.slice (some ⟨bA, oA, none⟩) act2.length capA) := hF.cell 1
          have hyp := word_at hP k (by rw [hP2l]; exact HKT.out)
          generalize past2.getD k 0 = pk at hpa hyp
          have hzk : ((k : Nat) : Int) < (T : Int) := by have := HKT.out; omega
          have hzk0 : (0 : Int) ≤ ((k : Nat) : Int) := by omega
          clear hme2 hths hgo2 hti2 hret KT KN hF hP hA2l hP2l hx2 hx3 HE1 HA1 HA2 HT1 ht2
          have HEc := Lib.hid (HE2.out.keep0 (Keep.refl [] z).drew)
          have HAc := Lib.hid (HA3.out.keep0 (Keep.refl [] z).drew)
          have HRAc := Lib.hid (hRA.keep0 (Keep.refl [] z).drew)
          have HVc : Hid (Five z.drew ti2.tb fb pb k 1 (e2 : Nat) (pk : Nat) (.slice (some ⟨bA, oA, none⟩) act2.length capA)) := Five.keep ⟨hret2, hy0, hy1, hpa, hyp⟩ (Keep.refl [] z).drew
          clear hRA HCL HBW HKT hret2 hy0 hy1 hpa hyp
          go_upto_region 31 with fail
          have hret2 := HVc.out.c0
          have hy0 := HVc.out.c1
          have hy1 := HVc.out.c2
          have hpa := HVc.out.c3
          have hyp := HVc.out.c4
          go_region_held3 (fun w' => w'.cell? ⟨ti2.tb, 0, none⟩ = some (.int .u64 1) ∧ w'.cell? ⟨fb, 0, none⟩ = some (.int .u64 (e2 : Nat)) ∧ w'.cell? ⟨fb, 1, none⟩ = some (.slice (some ⟨bA, oA, none⟩) act2.length capA) ∧ w'.cell? ⟨ti2.tb, 15, none⟩ = some (.int .u64 (pk : Nat)) ∧ w'.cell? ⟨pb, k, none⟩ = some (.int .u64 (pk : Nat))) (first | exact ⟨hret2, hy0, hy1, hpa, hyp⟩ | go_keep) (first
            | (go_at_call 14; refine (HKT2.out _ HEc.out.hm).mono ?_; rintro r x ⟨rfl, rfl⟩)
            | (go_at_call 39; refine (HKN.out _ HEc.out.hm).mono ?_; rintro r x ⟨hk, v, rfl, hown⟩; rw [HAC.out] at hown; have HRV := Lib.hid (RowI.of_own hown (by have := HT16.out; omega)); obtain ⟨bV, oV, capV, rfl⟩ := HRV.out.form2; have HEc := Lib.hid (HEc.out.keep0 hk); have HAc := Lib.hid (HAc.out.keep0 hk); have HRAc := Lib.hid (HRAc.out.keep0 hk); have HVc := Lib.hid (HVc.out.keep hk); have hret2 := HVc.out.c0; have hy0 := HVc.out.c1; have hy1 := HVc.out.c2; have hpa := HVc.out.c3; have hyp := HVc.out.c4; clear hown hk)
            | (go_at_call 38; refine (law18_same _ _ _ e2 _ _ act2 HRV.out HRAc.out (by rw [HA2L.out]; have := HT16.out; omega)).mono ?_; rintro r x ⟨rfl, hk⟩; have HEc := Lib.hid (HEc.out.keep0 hk); have HAc := Lib.hid (HAc.out.keep0 hk); have HVc := Lib.hid (HVc.out.keep hk); have hret2 := HVc.out.c0; have hy0 := HVc.out.c1; have hy1 := HVc.out.c2; have hpa := HVc.out.c3; have hyp := HVc.out.c4; clear hk))
          have HEf := Lib.hid (And.intro HEc.out HAc.out)
          clear hret2 hy0 hy1 hpa hyp
          go_wp2_with fail
          go_roundg (n - (j + 1))
          case measure => omega
          case rel => exact ⟨j + 1, e2, nn + 1, act2, past2, i2, s2, by omega, rfl, by go_num, by have := HNJ.out; omega, HEB.out.1, HEB.out.2, HEf.out.1, HEf.out.2⟩
    · obtain rfl : j = n := by omega
      have KF := m_fault HE.out.hm
      rw [HE.out.hr.f1, HE.out.hr.f2, HE.out.hr.w.slips, HE.out.im] at KF
      have HKr := Lib.hid HE.out.hk
      go_wp2_with fail
      refine KF.mono ?_
      clear KF
      rintro r y ⟨rfl, rfl⟩
      go_wp2_with fail
      refine (lives18 _).mono ?_
      rintro r z ⟨rfl, hk⟩
      have HKz := Lib.hid (HKr.out.trans hk (by simp))
      clear hk
      go_wp2_with fail
      go_ret
      exact ⟨rfl, HKz.out⟩
end Go.Proofs.Ytlbhjahmgdghoaa
