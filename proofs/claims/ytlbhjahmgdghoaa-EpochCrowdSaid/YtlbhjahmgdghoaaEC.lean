/- EpochCrowd's walk. No condition. -/
import Derived.Test.YtlbhjahmgdghoaaEcB
import Derived.Test.YtlbhjahmgdghoaaEG
namespace Go.Proofs.Ytlbhjahmgdghoaa
open Go.RowKit

set_option maxRecDepth 100000 in
set_option maxHeartbeats 1000000 in
theorem ec_no (t : Int) (A : Option Addr) (n cap : Nat) (w : World) (h : t < 1 ∨ 6 < t) : Calls Try.prog 7 #[.int .i64 t, .slice A n cap] w (TrueOut w) := by
  have HN := Lib.hid (fun w => core_new_no (confE t) w (confE_no h))
  rw [show (confE t).cells = #[.int .i64 t, .int .i64 7, .int .u64 5] from rfl] at HN
  go_enter Try.func7, Try.ntmps7
  go_wp2_with fail
  refine (HN.out _).mono ?_
  rintro r x ⟨rfl, hk⟩
  have HK := Lib.hid hk
  clear hk HN
  rcases h with h | h
  · go_wp2_with fail
    refine (lives18 _).mono ?_
    rintro r y ⟨rfl, hk⟩
    have HK3 := Lib.hid (HK.out.trans hk (by simp))
    clear hk
    go_wp2_with fail
    go_ret
    exact ⟨rfl, HK3.out⟩
  · have h2 : ¬ t < 1 := by omega
    go_wp2_with fail
    refine (lives18 _).mono ?_
    rintro r y ⟨rfl, hk⟩
    have HK3 := Lib.hid (HK.out.trans hk (by simp))
    clear hk
    go_wp2_with fail
    go_ret
    exact ⟨rfl, HK3.out⟩
set_option maxRecDepth 100000 in
set_option maxHeartbeats 1000000 in
theorem ec_long (t : Int) (A : Option Addr) (n cap : Nat) (w : World) (h0 : 1 ≤ t) (h1 : t ≤ 6) (hn : 1500 < n) : Calls Try.prog 7 #[.int .i64 t, .slice A n cap] w (TrueOut w) := by
  have HN := Lib.hid (fun w => core_new (confE t) w (confE_ok h0 h1))
  rw [show (confE t).cells = #[.int .i64 t, .int .i64 7, .int .u64 5] from rfl] at HN
  have hz : (1500 : Int) < (n : Int) := by omega
  go_enter Try.func7, Try.ntmps7
  go_wp2_with fail
  refine (HN.out _).mono ?_
  rintro r x ⟨i, rfl, hn⟩
  have HK := Lib.hid hn.hk
  clear hn HN
  unfold ptr
  go_wp2_with fail
  refine (lives18 _).mono ?_
  rintro r y ⟨rfl, hk⟩
  have HK3 := Lib.hid (HK.out.trans hk (by simp))
  clear hk
  go_wp2_with fail
  go_ret
  exact ⟨rfl, HK3.out⟩
set_option maxRecDepth 100000 in
set_option maxHeartbeats 40000000 in
theorem ec_yes (t : Int) (A : Option Addr) (ds : List (Int × Int × Bool)) (cap : Nat) (w : World) (h0 : 1 ≤ t) (h1 : t ≤ 6) (hn : ds.length ≤ 1500) (hA : DeedsAt w A ds) :
    Calls Try.prog 7 #[.int .i64 t, .slice A ds.length cap] w (TrueOut w) := by
  have ho := confE_ok h0 h1
  obtain ⟨T, rfl⟩ : ∃ T : Nat, t = (T : Int) := ⟨t.toNat, by omega⟩
  have HN := Lib.hid (fun w => core_new (confE T) w ho)
  rw [show (confE T).cells = #[.int .i64 (T : Int), .int .i64 7, .int .u64 5] from rfl] at HN
  have HO := Lib.hid ho
  have HA0 := Lib.hid hA
  have HTT : Hid ((confE T).thr.toNat = T) := Int.toNat_natCast T
  have HT2 : Hid ((confE T).thr = (T : Int)) := rfl
  have HT16 : Hid (1 ≤ T ∧ T ≤ 6) := by show 1 ≤ T ∧ T ≤ 6; omega
  have hz : ¬ (1500 : Int) < (ds.length : Int) := by omega
  generalize hlen : ds.length = n at *
  have HLEN := Lib.hid hlen
  clear hlen ho hA
  go_enter Try.func7, Try.ntmps7
  go_wp2_with fail
  refine (HN.out _).mono ?_
  rintro r x ⟨i0, rfl, hn0⟩
  have HI0 := Lib.hid (start_mc (Keep.refl [] w) hn0)
  have HC0 := Lib.hid (cr_start HO.out)
  rw [HTT.out] at HI0 HC0
  clear hn0 HN
  generalize hc : confE T = c at *
  clear hc
  unfold ptr
  go_upto_region 7 with (at_make; obtain ⟨i1, hi, hz0, hz1, hz2⟩ := info_parts info93; refine wpList_make_full _ rfl _ _ 91 rfl x.heap.size 93 i1 (.agg #[.bool false, .int .u64 0]) 2 Try.underlying91 hi hz0 hz1 .i64 .i64 T T T rfl rfl rfl rfl (by rw [hz2]; omega) (by unfold maxLen; omega) (Nat.le_refl _) ?_; clear hi hz0 hz1 hz2; intro w2 hown hg; have HM := Lib.hid (made_about HT16.out.1 HT16.out.2 hown); have HG := Lib.hid (Keep.of_grown (row := none) hg); clear hown hg)
  have HI1 := Lib.hid (HI0.out.keep0 HG.out)
  have HX2 : Hid (w.heap.size ≤ x.heap.size ∧ ∀ b, b ∈ i0.foot → b < x.heap.size) := ⟨HI0.out.hk.size, HI0.out.hm.foot_lt⟩
  have HX3 : Hid (x.heap.size ≤ w2.heap.size) := (Keep.size (S := []) HG.out)
  generalize hbb : x.heap.size = bb at HM HX2 HX3 ⊢
  clear hbb HI0 HG
  go_upto_region 8 with (at_make; obtain ⟨i1, hi, hz0, hz1, hz2⟩ := info_parts info4; refine wpList_make_full _ rfl _ _ 66 rfl w2.heap.size 4 i1 (.bool false) 1 Try.underlying66 hi hz0 hz1 .i64 .i64 T T T rfl rfl rfl rfl (by rw [hz2]; omega) (by unfold maxLen; omega) (Nat.le_refl _) ?_; clear hi hz0 hz1 hz2; intro w4 hown hg; have HMI := Lib.hid (made_bool HT16.out.1 HT16.out.2 hown); have HG := Lib.hid (Keep.of_grown (row := none) hg); clear hown hg)
  have HI2 := Lib.hid (HI1.out.keep0 HG.out)
  have HX4 : Hid (∀ b, b ∈ i0.foot → b < w2.heap.size) := HI1.out.hm.foot_lt
  have HX5 : Hid (w2.heap.size ≤ w4.heap.size) := (Keep.size (S := []) HG.out)
  have HM2 : Hid (∃ xt, Blk w4 bb 93 (abCells (List.replicate T (false, 0)) ++ xt).toArray) := by
    obtain ⟨xt, h⟩ := HM.out
    exact ⟨xt, h.keep HG.out (by simp)⟩
  generalize hnb : w2.heap.size = nb at HMI HX3 HX4 HX5 ⊢
  clear hnb HM HG HI1
  generalize him : i0.m = m0 at HI2 ⊢
  have HIM := Lib.hid him
  clear him
  have KN := law18_now HI2.out.hm (by rw [HC0.out.conf]; exact HC0.out.w.len)
  rw [HI2.out.im, HC0.out.ep, HC0.out.conf, HTT.out] at KN
  have HAC : Hid (actsOf (MS.start c (gdK c 5) T).mem.ws T = List.replicate T 0) := by
    have := acts_cr HC0.out
    rw [HTT.out] at this
    exact this
  go_wp2_with fail
  refine KN.mono ?_
  clear KN
  rintro r z ⟨hk, v, rfl, hown⟩
  rw [HAC.out] at hown
  have HRV := Lib.hid ((RowI.of_own hown (by have := HT16.out; omega)).mono (ok' := (· ∉ i0.foot)) (fun b _ hb hm => by have h1 := HX4.out b hm; have h2 := HX5.out; omega))
  obtain ⟨bV, oV, capV, rfl⟩ := HRV.out.form2
  have HI3 := Lib.hid (HI2.out.keep0 hk)
  have hfl : ∀ b, b ∈ i0.foot → b < z.heap.size := HI3.out.hm.foot_lt
  have hzs := hk.size
  have HM3 : Hid (∃ xt, Blk z bb 93 (abCells (List.replicate T (false, 0)) ++ xt).toArray) := by
    obtain ⟨xt, h⟩ := HM2.out
    exact ⟨xt, h.keep hk (by simp)⟩
  have HMI3 : Hid (∃ xt, Blk z nb 4 (boolsL (List.replicate T false) ++ xt).toArray) := by
    obtain ⟨xt, h⟩ := HMI.out
    exact ⟨xt, h.keep hk (by simp)⟩
  have HFL := Lib.hid hfl
  have HZS : Hid (w4.heap.size ≤ z.heap.size) := hzs
  clear hk hown hfl hzs HM2 HMI HI2 HAC
  go_upto_region 9 with fail
  have hk5 := ((Keep.refl [] z).alloc (.cells #[.int .u64 3, .slice (some ⟨bV, oV, none⟩) T capV] 83))
  have HI4 := Lib.hid (HI3.out.keep0 hk5)
  have HMC : Hid (MemC (z.alloc (.cells #[.int .u64 3, .slice (some ⟨bV, oV, none⟩) T capV] 83)) w i0 z.heap.size bb nb 3 (List.replicate T 0) (List.replicate T (false, 0)) (List.replicate T false)) := by
    have hr := HRV.out
    simp only [List.length_replicate] at hr
    obtain ⟨xt, hq1⟩ := HM3.out
    obtain ⟨xu, hq2⟩ := HMI3.out
    have q1 := HX2.out
    have q2 := HX3.out
    have q3 := HX4.out
    have q4 := HX5.out
    have q5 := HFL.out
    have q6 := HZS.out
    refine ⟨⟨_, Blk.new _ _ _, hr.keep0 hk5⟩, fun hm => Nat.lt_irrefl _ (q5 _ hm), by omega, ⟨xt, hq1.keep hk5 (by simp)⟩, fun hm => Nat.lt_irrefl _ (q1.2 _ hm), q1.1, ⟨xu, hq2.keep hk5 (by simp)⟩, fun hm => Nat.lt_irrefl _ (q3 _ hm), by omega⟩
  generalize hfb : z.heap.size = fb at HMC ⊢
  clear hfb hk5 HI3 HM3 HMI3 HX2 HX3 HX4 HX5 HFL HZS HRV
  go_wp2_with fail
  go_loopg [10] n (fun gg q wr => ∃ (j e nn : Nat) (act : List Nat) (ab : List (Bool × Nat)) (ins : List Bool) (i : MI) (s : MS), j ≤ n ∧ gg = n - j ∧ q = .int .i64 (j : Nat) ∧ nn ≤ j ∧ CrE c s e act ab ins nn ∧ MachC w m0 wr i s ∧ MemC wr w i fb bb nb e act ab ins)
  case atStart => exact ⟨0, 3, 0, _, _, _, _, _, Nat.zero_le _, rfl, rfl, Nat.le_refl _, HC0.out, HI4.out, HMC.out⟩
  case round =>
    obtain ⟨j, e, nn, act, ab, ins, i, s, hj, rfl, rfl, hnn, hcr, hma, hme⟩ := hrel
    have HCR := Lib.hid hcr
    have HMA := Lib.hid hma
    have HME := Lib.hid hme
    have HNJ : Hid (nn ≤ j ∧ j ≤ n) := ⟨hnn, hj⟩
    have HMT := Lib.hid hma.hm
    clear hcr hma hme HC0 HI4 HMC
    by_cases hlt : j < n
    · obtain ⟨b, o, rfl, hbw, hcells⟩ := HA0.out (by rw [HLEN.out]; omega)
      have HCL : Hid (∀ W : World, Keep [] w W → W.cell? ⟨b, o + j * 3, none⟩ = some (.int .i64 (ds.getD j (0, 0, false)).1) ∧ W.cell? ⟨b, o + j * 3 + 1, none⟩ = some (.int .i64 (ds.getD j (0, 0, false)).2.1)) := fun W hW => by
        obtain ⟨q0, q1, q2⟩ := hcells j (by rw [HLEN.out]; exact hlt)
        exact ⟨(hW.cell hbw (by simp)).trans q0, (hW.cell hbw (by simp)).trans q1⟩
      clear hbw hcells
      generalize (ds.getD j (0, 0, false)).1 = x1 at HCL
      generalize (ds.getD j (0, 0, false)).2.1 = x2 at HCL
      obtain ⟨hx1, hx2⟩ := HCL.out wr HMA.out.hk
      have hzj : ((j : Nat) : Int) < (n : Int) := by omega
      have hzj0 : (0 : Int) ≤ ((j : Nat) : Int) := by omega
      by_cases hout : x1 < 0 ∨ (T : Int) ≤ x1
      · have KT := m_thread_no HMT.out x1 (by rw [HCR.out.thl, HTT.out]; exact hout)
        rw [HMA.out.im] at KT
        clear hout
        go_wp2_with fail
        refine KT.mono ?_
        rintro r y ⟨rfl, rfl⟩
        go_wp2_with fail
        go_roundg (n - (j + 1))
        case measure => omega
        case rel => exact ⟨j + 1, e, nn, act, ab, ins, i, s, by omega, rfl, by go_num, by have := HNJ.out; omega, HCR.out, HMA.out, HME.out⟩
      obtain ⟨k, rfl⟩ : ∃ k : Nat, x1 = (k : Int) := ⟨x1.toNat, by omega⟩
      have HKT : Hid (k < T) := by show k < T; omega
      have hkl : k < s.ths.length := by
        rw [HCR.out.thl, HTT.out]
        exact HKT.out
      obtain ⟨th, hth⟩ : ∃ th, s.ths[k]? = some th := ⟨_, List.getElem?_eq_getElem hkl⟩
      obtain ⟨ti, hti⟩ := HMT.out.thAt hth
      have HTH := Lib.hid hth
      have HTI := Lib.hid hti
      have KT := m_thread HMT.out k ti hti
      rw [HMA.out.im] at KT
      have KD := m_depth HMT.out hti hth
      clear hkl hth hti hout
      go_wp2_with fail
      refine KT.mono ?_
      rintro r y ⟨rfl, rfl⟩
      generalize hdl : th.frs.length = d at KD
      have HDL := Lib.hid hdl
      clear hdl
      go_upto_if 67 with fail
      refine KD.mono ?_
      clear KD KT
      rintro r y ⟨rfl, rfl⟩
      go_upto_if 67 with fail
      go_cut [13] (fun _ wx => ∃ (i' : MI) (s' : MS) (th' : ThS) (f' : FrS) (ti' : ThI), CrE c s' e act ab ins nn ∧ MachC w m0 wx i' s' ∧ MemC wx w i' fb bb nb e act ab ins ∧ s'.ths[k]? = some th' ∧ th'.frs = [f'] ∧ i'.tis[k]? = some ti' ∧ ti'.tb = ti.tb)
      case first =>
       as_aux_lemma =>
        rcases (HCR.out.th k th HTH.out).st with ⟨hf, hio⟩ | ⟨f, hf, _⟩
        · obtain rfl : d = 0 := by rw [← HDL.out, hf]; rfl
          have hcall := fun (fn : Int) (h : fn = 12 ∨ (fn = 10 ∧ ins.getD k false = false) ∨ (fn = 11 ∧ ins.getD k false = true)) => cr_call HCR.out HTH.out hf h
          have KC := fun fn : Int => m_call HMT.out HTI.out HTH.out (by rw [hf]; decide) fn (.slice none 0 0) [] (.inl ⟨rfl, rfl⟩) (by simp)
          have hnb := HME.out.in0 (k := k) (by rw [HCR.out.insL, HTT.out]; exact HKT.out)
          have hzk : ((k : Nat) : Int) < (T : Int) := by have := HKT.out; omega
          have hzk0 : (0 : Int) ≤ ((k : Nat) : Int) := by omega
          have HTB := Lib.hid (fun (y : World) (i2 : MI) (hg : Goes wr y i i2) => hg.tb HTI.out)
          have HCALL := Lib.hid hcall
          have HKC := Lib.hid KC
          generalize ins.getD k false = inb at hnb HCALL
          clear hf hcall KC hio
          by_cases hw0 : x2 = 0
          · subst hw0
            cases inb with
            | false =>
              have KA := HKC.out 10
              have HR := Lib.hid (HCALL.out 10 (.inr (.inl ⟨rfl, rfl⟩)))
              clear HCALL HKC
              go_wp2_with fail
              refine KA.mono ?_
              rintro r y ⟨rfl, i2, hm2, hg2⟩
              have HM2 := Lib.hid hm2
              have HG2 := Lib.hid hg2
              clear hm2 hg2
              go_wp2_with fail
              go_meet
              obtain ⟨ti2, h3, h4⟩ := HTB.out _ _ HG2.out
              exact ⟨i2, _, _, _, ti2, HR.out.1, HMA.out.go HM2.out HG2.out, HME.out.go HG2.out, HR.out.2.1, HR.out.2.2, h3, h4⟩
            | true =>
              have KA := HKC.out 12
              have HR := Lib.hid (HCALL.out 12 (.inl rfl))
              clear HCALL HKC
              go_wp2_with fail
              refine KA.mono ?_
              rintro r y ⟨rfl, i2, hm2, hg2⟩
              have HM2 := Lib.hid hm2
              have HG2 := Lib.hid hg2
              clear hm2 hg2
              go_wp2_with fail
              go_meet
              obtain ⟨ti2, h3, h4⟩ := HTB.out _ _ HG2.out
              exact ⟨i2, _, _, _, ti2, HR.out.1, HMA.out.go HM2.out HG2.out, HME.out.go HG2.out, HR.out.2.1, HR.out.2.2, h3, h4⟩
          by_cases hw1 : x2 = 1
          · subst hw1
            cases inb with
            | true =>
              have KA := HKC.out 11
              have HR := Lib.hid (HCALL.out 11 (.inr (.inr ⟨rfl, rfl⟩)))
              clear HCALL HKC
              go_wp2_with fail
              refine KA.mono ?_
              rintro r y ⟨rfl, i2, hm2, hg2⟩
              have HM2 := Lib.hid hm2
              have HG2 := Lib.hid hg2
              clear hm2 hg2
              go_wp2_with fail
              go_meet
              obtain ⟨ti2, h3, h4⟩ := HTB.out _ _ HG2.out
              exact ⟨i2, _, _, _, ti2, HR.out.1, HMA.out.go HM2.out HG2.out, HME.out.go HG2.out, HR.out.2.1, HR.out.2.2, h3, h4⟩
            | false =>
              have KA := HKC.out 12
              have HR := Lib.hid (HCALL.out 12 (.inl rfl))
              clear HCALL HKC
              go_wp2_with fail
              refine KA.mono ?_
              rintro r y ⟨rfl, i2, hm2, hg2⟩
              have HM2 := Lib.hid hm2
              have HG2 := Lib.hid hg2
              clear hm2 hg2
              go_wp2_with fail
              go_meet
              obtain ⟨ti2, h3, h4⟩ := HTB.out _ _ HG2.out
              exact ⟨i2, _, _, _, ti2, HR.out.1, HMA.out.go HM2.out HG2.out, HME.out.go HG2.out, HR.out.2.1, HR.out.2.2, h3, h4⟩
          have hb0 : (x2 == 0) = false := by simpa using hw0
          have hb1 : (x2 == 1) = false := by simpa using hw1
          have KA := HKC.out 12
          have HR := Lib.hid (HCALL.out 12 (.inl rfl))
          clear HCALL HKC hw0 hw1
          go_wp2_with fail
          refine KA.mono ?_
          rintro r y ⟨rfl, i2, hm2, hg2⟩
          have HM2 := Lib.hid hm2
          have HG2 := Lib.hid hg2
          clear hm2 hg2
          go_wp2_with fail
          go_meet
          obtain ⟨ti2, h3, h4⟩ := HTB.out _ _ HG2.out
          exact ⟨i2, _, _, _, ti2, HR.out.1, HMA.out.go HM2.out HG2.out, HME.out.go HG2.out, HR.out.2.1, HR.out.2.2, h3, h4⟩
        · obtain rfl : d = 1 := by rw [← HDL.out, hf]; rfl
          have HF1 := Lib.hid hf
          clear hf
          go_wp2_with fail
          go_meet
          exact ⟨i, s, th, f, ti, HCR.out, HMA.out, HME.out, HTH.out, HF1.out, HTI.out, rfl⟩
      case rest =>
       as_aux_lemma =>
        obtain ⟨i1, s1, th1, f1, ti1, hcr, hma, hme, hth, hfr, hti, htb⟩ := hcut
        have hp1 : 0 < th1.frs.length := by rw [hfr]; show 0 < 1; decide
        obtain ⟨hok, hroom, hout, _⟩ := cr_step hcr (by have := HNJ.out; omega) hth hfr
        obtain ⟨e', act', ab', ins', hcr', he0, he1, hflow⟩ := hout.flow (by rw [hcr.actL, HTT.out]; exact HKT.out)
        have HC1 := Lib.hid hcr
        have HC2 := Lib.hid hcr'
        have HM1 := Lib.hid hma
        have HE1 := Lib.hid hme
        have HE01 : Hid (e ≤ e' ∧ e' ≤ e + 1) := ⟨he0, he1⟩
        have HFN := Lib.hid (fun (y : World) (h : MachAt y i1 s1) => show y.cell? ⟨ti1.topB, 0, none⟩ = some (.int .i64 f1.fn) from by
          have h2 := ((h.th k ti1 th1 hti hth).top_at hp1).c0
          have h3 : th1.top = f1 := by unfold ThS.top; rw [hfr]; rfl
          rw [h3] at h2
          exact h2)
        have KTop := t_top hma.hm hti hth hp1
        rw [htb] at KTop
        have KS := fun (W : World) (hW : MachAt W i1 s1) => core_step_at (epoch_do k) enter_epoch W i1 s1 hW (by show s1.ths.length = s1.conf.thr.toNat; rw [hcr.conf]; exact hcr.thl) ti1 th1 hti hth hp1 hok hroom
        rw [hma.im] at KS
        unfold fnV at KS
        have HKS := Lib.hid KS
        have HTB := Lib.hid (fun (y : World) (i2 : MI) (hg : Goes wc y i1 i2) => (hg.tb hti).elim fun ti2 h => (⟨ti2, h.1, h.2.trans htb⟩ : ∃ ti2, i2.tis[k]? = some ti2 ∧ ti2.tb = ti.tb))
        have HFL := Lib.hid hflow
        have HTI1 := Lib.hid hti
        have HTH1 := Lib.hid hth
        have HXC : Hid (Keep [] wc wc) := Keep.refl _ _
        unfold RanOut at HKS
        generalize MS.ran s1 k th1 (PS.epoch k) = s2 at HC2 HFL HKS
        generalize MS.left s1 th1 (PS.epoch k) = left at HFL HKS
        generalize f1.fn = fn at HFL HFN
        clear hcr hcr' hma hme hth hfr hti htb hp1 hok hroom hout hflow KS he0 he1 HCR HMA HME HMT HTH HTI hx1 hx2 HDL
        go_wp2_with fail
        refine KTop.mono ?_
        clear KTop
        rintro r y ⟨rfl, hd⟩
        have HD := Lib.hid (Keep.of_drawn (S := []) hd)
        have HM2 := Lib.hid (HM1.out.keep0 HD.out)
        have HE2 := Lib.hid (HE1.out.keep0 HD.out)
        have hfn := HFN.out y HM2.out.hm
        have KS := HKS.out y HM2.out.hm
        clear hd HKS HFN
        go_wp2_with fail
        refine KS.mono ?_
        clear KS hfn
        rintro r z ⟨rfl, i2, hm2, hg2⟩
        have HM3 := Lib.hid (HM2.out.go hm2 hg2)
        have HE3 := Lib.hid (HE2.out.go hg2)
        obtain ⟨tk, htk, htkb⟩ := HTB.out z i2 (Goes.trans ⟨rfl, rfl, rfl, rfl, fun _ h => .inl h, HD.out.mono (by simp)⟩ hg2)
        have HTK : Hid (∃ tk, i2.tis[k]? = some tk ∧ tk.tb = ti.tb) := ⟨tk, htk, htkb⟩
        have KN := law18_now HM3.out.hm (by rw [HC2.out.conf]; exact HC2.out.w.len)
        have hac := acts_cr HC2.out
        rw [HTT.out] at hac
        rw [HM3.out.im, HC2.out.ep, HC2.out.conf, HTT.out] at KN
        have HAC := Lib.hid hac
        clear hm2 hg2 hac htk htkb HTB HM1 HE1 HM2 HE2 HD
        go_wp2_with fail
        refine KN.mono ?_
        clear KN
        rintro r z2 ⟨hk, v, rfl, hown⟩
        rw [HAC.out] at hown
        have hrv := (RowI.of_own hown (by have := HT16.out; omega)).mono (ok' := (· ∉ i2.foot)) (fun b _ hb hm => by have h1 := HM3.out.hm.foot_lt b hm; omega)
        have hl2 : act'.length = T := by rw [HC2.out.actL]; exact HTT.out
        obtain ⟨bI, oI, capI, rfl⟩ := hrv.form2
        rw [hl2] at hrv ⊢
        have HRV := Lib.hid hrv
        have HL2 := Lib.hid hl2
        have HM4 := Lib.hid (HM3.out.keep0 hk)
        have HE4 := Lib.hid (HE3.out.keep0 hk)
        clear hk hown hrv hl2 HM3 HE3 HAC
        go_upto_region 26 with fail
        have hk5 := ((Keep.refl [] z2).alloc (.cells #[.int .u64 (e' : Nat), .slice (some ⟨bI, oI, none⟩) T capI] 83))
        have HALL : Hid (AllC w m0 (z2.alloc (.cells #[.int .u64 (e' : Nat), .slice (some ⟨bI, oI, none⟩) T capI] 83)) i2 s2 fb bb nb z2.heap.size e act ab ins e' act' (.slice (some ⟨bI, oI, none⟩) T capI)) := ⟨HM4.out.keep0 hk5, HE4.out.keep0 hk5, Blk.new _ _ _, HRV.out.keep0 hk5⟩
        generalize z2.heap.size = ib at HALL ⊢
        generalize z2.alloc (.cells #[.int .u64 (e' : Nat), .slice (some ⟨bI, oI, none⟩) T capI] 83) = y1 at HALL ⊢
        clear hk5 HRV HM4 HE4 HXC
        obtain ⟨vA, hw0, hw1, hrA, hwf0, hwf1⟩ := HALL.out.ha.was
        have hl1 : act.length = T := by rw [HC1.out.actL]; exact HTT.out
        obtain ⟨bA, oA, capA, rfl⟩ := hrA.form2
        rw [hl1] at hw1 hrA
        have hi0 := HALL.out.i0
        have hi1 := HALL.out.i1
        have hze : ((e : Nat) : Int) ≤ 100000 := by have := HC1.out.eb; have := HNJ.out; omega
        have hzA : ¬ ((e' : Nat) : Int) < ((e : Nat) : Int) := by have := HE01.out; omega
        have hzB : ¬ ((e : Nat) : Int) + 1 < ((e' : Nat) : Int) := by have := HE01.out; omega
        have hwI := RowI.word HALL.out.hr (k := k) (by rw [HL2.out]; exact HKT.out)
        have hwA := RowI.word hrA (k := k) (by rw [hl1]; exact HKT.out)
        have HL1 := Lib.hid hl1
        have HANN := Lib.hid HFL.out.ann
        have HENT := Lib.hid HFL.out.ent
        have hzk : ((k : Nat) : Int) < (T : Int) := by have := HKT.out; omega
        have hzk0 : (0 : Int) ≤ ((k : Nat) : Int) := by omega
        have HKA : Hid (k < ab.length) := by show k < ab.length; rw [HC1.out.abL, HTT.out]; exact HKT.out
        have HKI : Hid (k < ins.length) := by show k < ins.length; rw [HC1.out.insL, HTT.out]; exact HKT.out
        have HGONE := Lib.hid (HFL.out.gone HKA.out)
        clear hrA hl1 HFL
        generalize act.getD k 0 = xA at hwA HANN
        generalize hgi : act'.getD k 0 = xI at hwI HANN
        have HXI := Lib.hid hgi
        clear hgi
        go_upto_region 28 with fail
        go_quiet (fail)
        have HB := Lib.hid (HALL.out.keep0 ((Keep.refl [] y1).drewN nq))
        generalize y1.drewN nq = y2 at HB ⊢
        clear hw0 hw1 hwf0 hwf1 hi0 hi1 hwI hwA HALL
        go_upto_if 136 with fail
        go_cut [] (fun wx => AllC w m0 wx i2 s2 fb bb nb ib e act ab' ins e' act' (.slice (some ⟨bI, oI, none⟩) T capI))
        case first =>
          as_aux_lemma =>
            rcases HANN.out with ⟨h1, h2⟩ | ⟨h1, h2⟩
            · rw [h1]
              have HX : Hid (ab' = ab) := h2
              clear h1 h2
              go_wp2_with fail
              go_meet
              rw [HX.out]
              exact HB.out
            · have HX := Lib.hid h2
              have t1 : ((xI : Int) != (xA : Int)) = true := by
                rw [bne_iff_ne]
                omega
              clear h1 h2
              have hi0 := HB.out.i0
              have hi1 := HB.out.i1
              have hwI := RowI.word HB.out.hr (k := k) (by rw [HL2.out]; exact HKT.out)
              rw [HXI.out] at hwI
              have ha0 := HB.out.ha.ab0 HKA.out
              have ha1 := HB.out.ha.ab1 HKA.out
              have hf0 := HB.out.ha.abf (k * 2)
              have hf1 := HB.out.ha.abf (k * 2 + 1)
              generalize hb : ((xI : Int) != 0) = b at HX
              go_upto_region 29 with fail
              refine wp_region_still_tail 12 (by kernel_rfl) (by kernel_rfl) ?_
              simp only [List.take_succ_cons, List.take_zero, List.drop_succ_cons, List.drop_zero]
              iterate 12 still_step
              refine wpStill_nil ?_
              change wpList _ _ _ _ _ y2.drew
              go_wp2_with fail
              go_meet
              rw [HX.out]
              exact (HB.out.putAb (x := b) (g := e') HKA.out).keep0 (Keep.refl [] _).drew
        case rest =>
          as_aux_lemma =>
            have HC := Lib.hid hcut
            clear hcut HB HANN hzA hzB
            have HL3 : Hid (k < ab'.length) := by show k < ab'.length; rw [HC2.out.abL, HTT.out]; exact HKT.out
            go_upto_region 30 with fail
            go_cut [154] (fun sx wx => sx = .bool (!left && (fn == 10)) ∧ AllC w m0 wx i2 s2 fb bb nb ib e act ab' ins e' act' (.slice (some ⟨bI, oI, none⟩) T capI))
            case first =>
              as_aux_lemma =>
                cases left with
                | true =>
                  go_wp2_with fail
                  go_meet
                  exact ⟨rfl, HC.out⟩
                | false =>
                  go_wp2_with fail
                  go_meet
                  refine ⟨?_, HC.out⟩
                  simp
            case rest =>
              as_aux_lemma =>
                obtain ⟨rfl, hcut⟩ := hcut
                clear HC
                have HC := Lib.hid hcut
                clear hcut
                generalize hq : (!left && (fn == 10)) = q
                have HQ := Lib.hid hq
                clear hq
                go_upto_if 154 with fail
                go_cut [] (fun wx => AllC w m0 wx i2 s2 fb bb nb ib e act ab' (insMid left fn k ins) e' act' (.slice (some ⟨bI, oI, none⟩) T capI))
                case first =>
                  as_aux_lemma =>
                    rcases HENT.out with ⟨h1, h2, h3, h4, t2, h5, h6, h7⟩ | ⟨h3, h4⟩
                    · obtain rfl : q = true := by rw [← HQ.out, h1, h2]; rfl
                      have HX := Lib.hid h4
                      have HX2 := Lib.hid h5
                      have HX3 := Lib.hid h6
                      have ha0 := HC.out.ha.ab0 HL3.out
                      have ha1 := HC.out.ha.ab1 HL3.out
                      rw [h3] at ha0
                      obtain ⟨tj, htj, hses, _⟩ := ses_at HC.out.hm.hm h5
                      obtain ⟨tk2, htk2, htb2⟩ := HTK.out
                      have : tj = tk2 := by rw [htj] at htk2; simpa using htk2
                      rw [this, htb2] at hses
                      have hnb := HC.out.ha.in0 HKI.out
                      have hnf := HC.out.ha.inf_ k
                      have hpe : ((t2.ses.past : Nat) : Int) ≤ 100000 := by omega
                      generalize t2.ses.past = past at *
                      generalize (abG ab' k).2 = gg at *
                      obtain ⟨xu, hbI⟩ := HC.out.ha.hi
                      obtain ⟨xa, hbA⟩ := HC.out.ha.ha
                      have n1 : bb ≠ nb := hbA.ne_ hbI (by decide)
                      have hth := (HC.out.hm.hm.th k _ _ htk2 h5).ht
                      rw [htb2] at hth
                      have n2 : ti.tb ≠ nb := hth.ne_ hbI (by decide)
                      have n3 := n1.symm
                      have n4 := n2.symm
                      clear h1 h2 h3 h4 h5 h6 h7 htj htk2 htb2 this hbI hbA hth
                      rcases HX3.out with h | ⟨h, h'⟩
                      · subst h
                        go_wp2_with fail
                        go_meet
                        rw [HX.out]
                        exact HC.out.putIn HKI.out
                      · have hgg : ((gg : Nat) : Int) = (past : Int) + 1 := by omega
                        rw [hgg] at ha1
                        have hne : ((past : Int) != (past : Int) + 1) = true := by
                          rw [bne_iff_ne]
                          omega
                        clear h h' hgg
                        go_wp2_with fail
                        go_meet
                        rw [HX.out]
                        exact HC.out.putIn HKI.out
                    · have HX := Lib.hid h3
                      clear h3
                      obtain rfl : q = false := by
                        rw [← HQ.out]
                        rcases h4 with h4 | ⟨h4, h5⟩
                        · rw [h4]; rfl
                        · rw [h4, h5]; rfl
                      clear h4
                      go_wp2_with fail
                      go_meet
                      rw [HX.out]
                      exact HC.out
                case rest =>
                  as_aux_lemma =>
                    have HD := Lib.hid hcut
                    clear hcut HC HENT
                    go_upto_region 35 with fail
                    go_cut [193] (fun sx wx => sx = .bool (!left && (fn == 11)) ∧ AllC w m0 wx i2 s2 fb bb nb ib e act ab' (insMid left fn k ins) e' act' (.slice (some ⟨bI, oI, none⟩) T capI))
                    case first =>
                      as_aux_lemma =>
                        cases left with
                        | true =>
                          go_wp2_with fail
                          go_meet
                          exact ⟨rfl, HD.out⟩
                        | false =>
                          go_wp2_with fail
                          go_meet
                          refine ⟨?_, HD.out⟩
                          simp
                    case rest =>
                      as_aux_lemma =>
                        obtain ⟨rfl, hcut⟩ := hcut
                        clear HD
                        have HD := Lib.hid hcut
                        clear hcut
                        generalize hq : (!left && (fn == 11)) = q
                        have HQ := Lib.hid hq
                        clear hq
                        go_upto_if 193 with fail
                        go_cut [] (fun wx => AllC w m0 wx i2 s2 fb bb nb ib e act ab' ins' e' act' (.slice (some ⟨bI, oI, none⟩) T capI))
                        case first =>
                          as_aux_lemma =>
                            rcases HGONE.out with ⟨h1, h2, h3, h4⟩ | ⟨h3, h4⟩
                            · obtain rfl : q = true := by rw [← HQ.out, h1, h2]; rfl
                              have hlm : insMid left fn k ins = ins := by
                                unfold insMid
                                rw [h2]
                                simp
                              rw [hlm] at h4
                              have HD2 := HD.out
                              rw [hlm] at HD2
                              have HX := Lib.hid h4
                              have HDD := Lib.hid HD2
                              have ha0 := HD.out.ha.ab0 HL3.out
                              rw [h3] at ha0
                              have hnb := HDD.out.ha.in0 HKI.out
                              have hnf := HDD.out.ha.inf_ k
                              obtain ⟨xu, hbI⟩ := HDD.out.ha.hi
                              obtain ⟨xa, hbA⟩ := HDD.out.ha.ha
                              have n1 : bb ≠ nb := hbA.ne_ hbI (by decide)
                              have n3 := n1.symm
                              clear h1 h2 h3 h4 hlm HD2 HD hbI hbA
                              go_wp2_with fail
                              go_meet
                              rw [HX.out]
                              exact HDD.out.putIn HKI.out
                            · have HX := Lib.hid h3
                              clear h3
                              generalize insMid left fn k ins = insm at *
                              obtain rfl : q = false := by
                                rw [← HQ.out]
                                rcases h4 with h4 | ⟨h4, h5⟩
                                · rw [h4]; rfl
                                · rw [h4, h5]; rfl
                              clear h4
                              go_wp2_with fail
                              go_meet
                              rw [HX.out]
                              exact HD.out
                        case rest =>
                          as_aux_lemma =>
                            have HE := Lib.hid hcut
                            clear hcut HD HGONE
                            go_wp2_with fail
                            go_loopg [17] T (fun gg q wr2 => ∃ j2 : Nat, j2 ≤ T ∧ gg = T - j2 ∧ q = .int .i64 (j2 : Nat) ∧ AllC w m0 wr2 i2 s2 fb bb nb ib e act ab' ins' e' act' (.slice (some ⟨bI, oI, none⟩) T capI))
                            case atStart => exact ⟨0, Nat.zero_le _, rfl, rfl, HE.out⟩
                            case round =>
                              as_aux_lemma =>
                                obtain ⟨j2, hj2, rfl, rfl, hall⟩ := hrel
                                have HR := Lib.hid hall
                                clear hall HE
                                by_cases hlt2 : j2 < T
                                · have ha0 := HR.out.ha.ab0 (k := j2) (by rw [HC2.out.abL, HTT.out]; exact hlt2)
                                  have ha1 := HR.out.ha.ab1 (k := j2) (by rw [HC2.out.abL, HTT.out]; exact hlt2)
                                  have hi0 := HR.out.i0
                                  have han := HC2.out.an j2 (by rw [HT2.out]; omega)
                                  unfold AnC at han
                                  have hz2 : ((j2 : Nat) : Int) < (T : Int) := by omega
                                  have hz20 : (0 : Int) ≤ ((j2 : Nat) : Int) := by omega
                                  have hze2 : ((e' : Nat) : Int) ≤ 100001 := by have := HE01.out; omega
                                  cases hb : (abG ab' j2).1 with
                                  | false =>
                                    rw [hb] at ha0
                                    clear ha1 han hb
                                    go_wp2_with fail
                                    go_quiet (fail)
                                    go_wp2_with fail
                                    go_roundg (T - (j2 + 1))
                                    case measure => omega
                                    case rel => exact ⟨j2 + 1, by omega, rfl, by go_num, HR.out.keep0 ((Keep.refl [] _).drewN _)⟩
                                  | true =>
                                    rw [hb] at ha0
                                    rw [if_pos hb] at han
                                    obtain ⟨_, hg1, hg2⟩ := han
                                    generalize (abG ab' j2).2 = gq at *
                                    have hgz : ((gq : Nat) : Int) ≤ 100001 := by omega
                                    have hgn : ¬ ((gq : Nat) : Int) + 1 < ((e' : Nat) : Int) := by omega
                                    have hgw : IntKind.u64.wrap (((gq : Nat) : Int) + 1) = ((gq : Nat) : Int) + 1 := IntWalk.u64_in _ (by omega)
                                    clear hb hg1 hg2
                                    go_wp2_with fail
                                    go_quiet (fail)
                                    go_wp2_with fail
                                    go_roundg (T - (j2 + 1))
                                    case measure => omega
                                    case rel => exact ⟨j2 + 1, by omega, rfl, by go_num, HR.out.keep0 ((Keep.refl [] _).drewN _)⟩
                                · obtain rfl : j2 = T := by omega
                                  have hi0 := HR.out.i0
                                  have hi1 := HR.out.i1
                                  obtain ⟨vA, hw0, hw1, _, hwf0, hwf1⟩ := HR.out.ha.was
                                  go_wp2_with fail
                                  go_roundg (n - (j + 1))
                                  case measure => omega
                                  case rel => exact ⟨j + 1, e', nn + 1, act', ab', ins', i2, s2, by omega, rfl, by go_num, by have := HNJ.out; omega, HC2.out, HR.out.next.1, HR.out.next.2⟩
    · obtain rfl : j = n := by omega
      have KF := m_fault HMT.out
      rw [HCR.out.f1, HCR.out.f2, HCR.out.w.slips, HMA.out.im] at KF
      have KE := ends_at (fun k => epoch_do k) enter_epoch (crowd_ep c) (by have := HO.out.t1; omega) (by have := HO.out.t2; omega) (by have := HO.out.t2; omega) (n0 := nn) (by rw [HTT.out]; have := HT16.out; have h2 := HNJ.out; have : T * (T + 9) ≤ 6 * 15 := Nat.mul_le_mul (by omega) (by omega); omega) wr i s HMT.out ⟨_, _, _, _, HCR.out⟩
      rw [HMA.out.im, HTT.out, show ((T + 9 : Nat) : Int) = (T : Int) + 9 by omega] at KE
      have HKE := Lib.hid KE
      have hzT : ((T : Nat) : Int) ≤ 6 := by have := HT16.out; omega
      clear hlt KE
      unfold fnV at HKE
      go_wp2_with fail
      refine KF.mono ?_
      clear KF
      rintro r y ⟨rfl, rfl⟩
      go_wp2_with fail
      refine HKE.out.mono ?_
      rintro r y ⟨rfl, i2, s2, n2, ⟨e2, act2, ab2, ins2, hcr2⟩, hm2, hg2⟩
      have HM2 := Lib.hid (HMA.out.go hm2 hg2)
      have KF := m_fault hm2
      rw [hcr2.f1, hcr2.f2, hcr2.w.slips, HM2.out.im] at KF
      clear hcr2 hm2 hg2 HKE
      go_wp2_with fail
      refine KF.mono ?_
      clear KF
      rintro r z ⟨rfl, rfl⟩
      go_wp2_with fail
      refine (lives18 _).mono ?_
      rintro r z ⟨rfl, hk⟩
      have HKz := Lib.hid (HM2.out.hk.trans hk (by simp))
      clear hk
      go_wp2_with fail
      go_ret
      exact ⟨rfl, HKz.out⟩
end Go.Proofs.Ytlbhjahmgdghoaa
