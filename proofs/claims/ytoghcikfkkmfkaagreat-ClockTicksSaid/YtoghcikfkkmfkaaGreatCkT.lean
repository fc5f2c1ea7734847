/- ClockTicks: the walk. No condition. -/
import Derived.Test.YtoghcikfkkmfkaaGreatCkM
import Derived.Test.YtoghcikfkkmfkaaGreatRef05
import Derived.Maps.AppendAt
import Derived.OwnWalk
namespace Go.Proofs.YtoghcikfkkmfkaaGreat
open Go.RowKit

set_option maxRecDepth 100000 in
set_option maxHeartbeats 1000000 in
theorem ck_no (c : ConfS) (A : Option Addr) (n cap : Nat) (w : World) (h : c.may = false) : Calls Tryz.prog 7 #[.agg #[.int .i64 c.thr, .int .i64 c.slots, .int .u64 c.stamps], .slice A n cap] w (LivesOut w) := by
  have HK0 := Lib.hid ((Keep.refl [] w).alloc (.cells #[.int .i64 c.thr, .int .i64 c.slots, .int .u64 c.stamps] 24))
  have KM := Lib.hid (fun w => ref05_may c w)
  rw [h] at KM
  rw [show c.cells = #[.int .i64 c.thr, .int .i64 c.slots, .int .u64 c.stamps] from rfl] at KM
  go_enter Tryz.func7, Tryz.ntmps7
  go_wp2_with fail
  refine (KM.out _).mono ?_
  rintro r x ⟨rfl, hk⟩
  have HK := Lib.hid (HK0.out.trans hk (by simp))
  clear hk KM HK0
  go_wp2_with fail
  refine (lives25 _).mono ?_
  rintro r y ⟨rfl, hk⟩
  have HK3 := Lib.hid (HK.out.trans hk (by simp))
  clear hk
  go_wp2_with fail
  go_ret
  exact ⟨rfl, HK3.out⟩
set_option maxRecDepth 100000 in
set_option maxHeartbeats 1000000 in
theorem ck_long (c : ConfS) (A : Option Addr) (n cap : Nat) (w : World) (h : c.may = true) (hn : 600 < n) : Calls Tryz.prog 7 #[.agg #[.int .i64 c.thr, .int .i64 c.slots, .int .u64 c.stamps], .slice A n cap] w (LivesOut w) := by
  have HK0 := Lib.hid ((Keep.refl [] w).alloc (.cells #[.int .i64 c.thr, .int .i64 c.slots, .int .u64 c.stamps] 24))
  have KM := Lib.hid (fun w => ref05_may c w)
  rw [h] at KM
  rw [show c.cells = #[.int .i64 c.thr, .int .i64 c.slots, .int .u64 c.stamps] from rfl] at KM
  have hz : (600 : Int) < ((n : Nat) : Int) := by omega
  go_enter Tryz.func7, Tryz.ntmps7
  go_wp2_with fail
  refine (KM.out _).mono ?_
  rintro r x ⟨rfl, hk⟩
  have HK := Lib.hid (HK0.out.trans hk (by simp))
  clear hk KM HK0
  go_wp2_with fail
  refine (lives25 _).mono ?_
  rintro r y ⟨rfl, hk⟩
  have HK3 := Lib.hid (HK.out.trans hk (by simp))
  clear hk
  go_wp2_with fail
  go_ret
  exact ⟨rfl, HK3.out⟩
set_option maxRecDepth 100000 in
set_option maxHeartbeats 8000000 in
theorem ck_yes (c : ConfS) (A : Option Addr) (ps : List Int) (cap : Nat) (w : World) (ho : c.Ok) (hn : ps.length ≤ 600) (hA : PicksAt w A ps) : Calls Tryz.prog 7 #[.agg #[.int .i64 c.thr, .int .i64 c.slots, .int .u64 c.stamps], .slice A ps.length cap] w (LivesOut w) := by
  have HBC := Lib.hid (Blk.new w 24 c.cells)
  have HK0 := Lib.hid ((Keep.refl [] w).alloc (.cells c.cells 24))
  have KM := Lib.hid (fun w => ref05_may c w)
  have HN := Lib.hid (fun w => core_new c w ho)
  rw [ConfS.may_iff.2 ho] at KM
  rw [show c.cells = #[.int .i64 c.thr, .int .i64 c.slots, .int .u64 c.stamps] from rfl] at KM HN HBC HK0
  have HO := Lib.hid ho
  have HA := Lib.hid hA
  have HPL := Lib.hid hn
  have hz : ¬ (600 : Int) < ((ps.length : Nat) : Int) := by omega
  clear ho hn hA
  go_enter Tryz.func7, Tryz.ntmps7
  go_wp2_with fail
  generalize hw1 : w.alloc _ = w1 at HBC HK0
  clear hw1
  generalize hcb : w.heap.size = cb at HBC ⊢
  refine (KM.out _).mono ?_
  clear KM
  rintro r x0 ⟨rfl, hk⟩
  have HB0 := Lib.hid (HBC.out.keep hk (by simp))
  have HK1 := Lib.hid (HK0.out.trans hk (by simp))
  clear hk HBC HK0
  have hc0 : x0.cell? ⟨cb, 0, none⟩ = some (.int .i64 c.thr) := HB0.out.cell 0
  have hc1 : x0.cell? ⟨cb, 1, none⟩ = some (.int .i64 c.slots) := HB0.out.cell 1
  have hc2 : x0.cell? ⟨cb, 2, none⟩ = some (.int .u64 c.stamps) := HB0.out.cell 2
  go_wp2_with fail
  refine (HN.out _).mono ?_
  clear HN
  rintro r x ⟨i0, rfl, hn0⟩
  have HMC0 := Lib.hid (start_mc HK1.out hn0)
  have HB1 := Lib.hid (HB0.out.keep hn0.hk (by simp))
  have HC0 := Lib.hid (ck_start HO.out)
  have HSZ : Hid (w.heap.size ≤ x.heap.size) := Lib.hid (Nat.le_trans HK1.out.size hn0.hk.size)
  clear hn0 HK1 HB0 hc0 hc1 hc2
  unfold ptr
  go_upto_region 7 with (at_make; obtain ⟨i1, hi, hz0, hz1, hz2⟩ := info_parts info22k; refine wpList_make_own _ rfl _ _ 43 rfl w.heap.size 22 i1 (.int .u64 0) 1 Tryz.underlying43 hi hz0 hz1 .i64 .i64 600 600 rfl rfl rfl (by rw [hz2]; decide) (by decide) HSZ.out ?_; clear hi hz0 hz1 hz2; intro w2 hown hg; have HOW := Lib.hid hown; have HG := Lib.hid (Keep.of_grown (row := none) hg); clear hown hg)
  have HA0 : Hid (AllK w i0.m w2 i0 (MS.start c (gdK c 5) c.thr.toNat) cb c (.slice (some ⟨x.heap.size, 0, none⟩) 0 600) []) := Lib.hid ⟨HMC0.out.keep0 HG.out, HB1.out.keep HG.out (by simp), HOW.out, fun g hv hm => by
    have := HMC0.out.hm.foot_lt g hm
    injection hv with hv
    have hv2 : x.heap.size = g := hv
    omega⟩
  clear HMC0 HB1 HOW HG HSZ
  generalize him : i0.m = m0 at HA0 ⊢
  clear him
  generalize x.heap.size = tb0 at HA0 ⊢
  go_wp2_with fail
  go_loopg [7, 8] ps.length (fun g v7 v8 wr => ∃ (j K nn : Nat) (L : List Nat) (i : MI) (s : MS), j ≤ ps.length ∧ g = ps.length - j ∧ v8 = .int .i64 (j : Nat) ∧ nn ≤ j ∧ CrK c s K nn ∧ Told L K ∧ AllK w m0 wr i s cb c v7 L)
  case atStart => exact ⟨0, 1, 0, [], i0, _, Nat.zero_le _, rfl, rfl, Nat.le_refl _, HC0.out, told_start, HA0.out⟩
  case round =>
    obtain ⟨j, K, nn, L, i, s, hj, rfl, rfl, hnn, hcr, htd, hak⟩ := hrel
    have HCR := Lib.hid hcr
    have HTD := Lib.hid htd
    have HAK := Lib.hid hak
    have HNN : Hid (nn ≤ j ∧ j ≤ ps.length) := Lib.hid ⟨hnn, hj⟩
    obtain ⟨A7, c7, rfl⟩ := own_frm hak.ho
    have hz0 : (0 : Int) ≤ ((j : Nat) : Int) := by omega
    have hz9 : ((j : Nat) : Int) ≤ 600 := by have := HPL.out; omega
    clear hcr htd hak hnn HC0 HA0
    by_cases hlt : j < ps.length
    · have hzj : ((j : Nat) : Int) < ((ps.length : Nat) : Int) := by omega
      obtain ⟨b, o, hA, hbl, hcl⟩ := HA.out.at_ hlt
      subst hA
      have HCL := Lib.hid hcl
      have hcell := hcl wr HAK.out.hm.hk
      clear hbl hcl hlt
      generalize ps.getD j 0 = pk at hcell HCL
      by_cases hout : pk < 0 ∨ c.thr ≤ pk
      · have KT := m_thread_no HAK.out.hm.hm pk (by rw [HCR.out.thl]; omega)
        rw [HAK.out.hm.im] at KT
        clear hout
        go_wp2_with fail
        refine KT.mono ?_
        clear KT
        rintro r y ⟨rfl, rfl⟩
        go_wp2_with fail
        go_roundg (ps.length - (j + 1))
        case measure => omega
        case rel => exact ⟨j + 1, K, nn, L, i, s, by omega, rfl, by go_num, by have := HNN.out; omega, HCR.out, HTD.out, HAK.out⟩
      · obtain ⟨k, rfl⟩ : ∃ k : Nat, pk = (k : Int) := ⟨pk.toNat, by omega⟩
        have hkl : k < s.ths.length := by
          rw [HCR.out.thl]
          omega
        obtain ⟨th, hth⟩ : ∃ th, s.ths[k]? = some th := ⟨_, List.getElem?_eq_getElem hkl⟩
        obtain ⟨ti, hti⟩ := HAK.out.hm.hm.thAt hth
        have HTH := Lib.hid hth
        have HTI := Lib.hid hti
        have KT := m_thread HAK.out.hm.hm k ti hti
        rw [HAK.out.hm.im] at KT
        have KD := m_depth HAK.out.hm.hm hti hth
        clear hkl hth hti hout
        go_wp2_with fail
        refine KT.mono ?_
        rintro r y ⟨rfl, rfl⟩
        generalize hdl : th.frs.length = d at KD
        have HDL := Lib.hid hdl
        clear hdl
        go_upto_if 49 with fail
        refine KD.mono ?_
        clear KD KT
        rintro r y ⟨rfl, rfl⟩
        go_upto_if 49 with fail
        go_cut [] (fun wx => ∃ (i' : MI) (s' : MS) (th' : ThS) (f' : FrS) (ti' : ThI), CrK c s' K nn ∧ AllK w m0 wx i' s' cb c (.slice A7 L.length c7) L ∧ s'.ths[k]? = some th' ∧ th'.frs = [f'] ∧ i'.tis[k]? = some ti' ∧ ti'.tb = ti.tb)
        case first =>
          rcases HCR.out.th k th HTH.out with hf | ⟨f, hf, hfr⟩
          · obtain rfl : d = 0 := by rw [← HDL.out, hf]; rfl
            have HC2 := Lib.hid (ck_call HCR.out HTH.out hf)
            have KC := m_call HAK.out.hm.hm HTI.out HTH.out (by rw [hf]; decide) 60 (.slice none 0 0) [] (.inl ⟨rfl, rfl⟩) (by simp)
            clear hf
            go_wp2_with fail
            refine KC.mono ?_
            clear KC
            rintro r y ⟨rfl, i2, hm2, hg2⟩
            have HM2 := Lib.hid hm2
            have HG2 := Lib.hid hg2
            clear hm2 hg2
            go_wp2_with fail
            go_meet
            obtain ⟨ti2, h3, h4⟩ := HG2.out.tb HTI.out
            exact ⟨i2, _, _, _, ti2, HC2.out.1, HAK.out.go HM2.out HG2.out, HC2.out.2.1, HC2.out.2.2, h3, h4⟩
          · obtain rfl : d = 1 := by rw [← HDL.out, hf]; rfl
            have HF := Lib.hid hf
            clear hf hfr
            go_wp2_with fail
            go_meet
            exact ⟨i, s, th, f, ti, HCR.out, HAK.out, HTH.out, HF.out, HTI.out, rfl⟩
        case rest =>
          obtain ⟨i1, s1, th1, f1, ti1, hcr, hak, hth, hf, hti, htb⟩ := hcut
          have HCR1 := Lib.hid hcr
          have HAK1 := Lib.hid hak
          have HTH1 := Lib.hid hth
          have HTI1 := Lib.hid hti
          have HF1 := Lib.hid hf
          have HTB := Lib.hid htb
          clear hcr hak hth hf hti htb HCR HAK HTH HTI HDL hcell
          have KM := m_mem HAK1.out.hm.hm
          rw [HAK1.out.hm.im] at KM
          go_wp2_with fail
          refine KM.mono ?_
          clear KM
          rintro r y ⟨rfl, rfl⟩
          have KW := m_words HAK1.out.hm.hm (by have := HCR1.out.w3; omega)
          go_wp2_with fail
          refine KW.mono ?_
          clear KW
          rintro r y ⟨gw, cw, xw, rfl, hbw, _, hkw⟩
          have KC := ref25_clock y gw cw _ xw hbw (by have := HCR1.out.w3; omega) (HAK1.out.hm.hm.hMem.len)
          rw [HCR1.out.ck] at KC
          have HAK2 := Lib.hid (HAK1.out.keep0 hkw)
          have HKY := Lib.hid hkw
          clear hkw hbw
          go_wp2_with fail
          refine KC.mono ?_
          clear KC
          rintro r y2 ⟨rfl, rfl⟩
          obtain ⟨hok, hroom, t2, hth2, hout⟩ := ck_step HCR1.out (by have := HNN.out; have := HPL.out; omega) HTH1.out HF1.out
          have hp1 : 0 < th1.frs.length := by rw [HF1.out]; exact Nat.succ_pos _
          have KS := core_step_at (clock_do.at_ k) enter_clock y i1 s1 HAK2.out.hm.hm trivial ti1 th1 HTI1.out HTH1.out hp1 hok hroom
          rw [HAK2.out.hm.im] at KS
          unfold fnV at KS
          have HKS := Lib.hid KS
          have HTH2 := Lib.hid hth2
          have HOUT := Lib.hid hout
          have hcell := HCL.out y HAK2.out.hm.hk
          clear KS hth2 hout hok hroom hp1
          go_wp2_with fail
          refine HKS.out.mono ?_
          clear HKS
          rintro r y3 ⟨rfl, i3, hm3, hg3⟩
          have HAK3 := Lib.hid (HAK2.out.go hm3 hg3)
          obtain ⟨ti3, hti3, htb3⟩ := hg3.tb HTI1.out
          have hret := m_retAt hm3 hti3 HTH2.out (j := 0) (by decide)
          have hses : y3.cell? ⟨ti3.tb, 16, none⟩ = some (.int .u64 (t2.ses.v : Nat)) := m_sesAt hm3 hti3 HTH2.out 4
          rw [htb3, HTB.out] at hret hses
          have hlt : ti.tb < y3.heap.size := by rw [← HTB.out, ← htb3]; exact (hm3.th k ti3 t2 hti3 HTH2.out).ht.lt
          have HRET : Hid (∀ W, Keep [] y3 W → W.cell? ⟨ti.tb, 0, none⟩ = some (.int .u64 (t2.ret.getD 0 0 : Nat)) ∧ W.cell? ⟨ti.tb, 16, none⟩ = some (.int .u64 (t2.ses.v : Nat))) := Lib.hid (fun W hW => ⟨(hW.cell hlt (by simp)).trans hret, (hW.cell hlt (by simp)).trans hses⟩)
          clear hm3 hg3 hti3 htb3 hret hses hcell HAK2 HTH2 hlt
          generalize s1.ran k th1 PS.tick = s3 at *
          generalize s1.left th1 PS.tick = left at *
          generalize rankT K th1 = rk at *
          cases HOUT.out with
          | on hl hcr3 hfr hrk =>
            subst hl
            have HCR3 := Lib.hid hcr3
            clear hcr3 hfr hrk HOUT
            have KM := m_mem HAK3.out.hm.hm
            rw [HAK3.out.hm.im] at KM
            go_wp2_with fail
            refine KM.mono ?_
            clear KM
            rintro r y ⟨rfl, rfl⟩
            have KW := m_words HAK3.out.hm.hm (by have := HCR3.out.w3; omega)
            go_wp2_with fail
            refine KW.mono ?_
            clear KW
            rintro r y ⟨gw, cw, xw, rfl, hbw, _, hkw⟩
            have KC := ref25_clock y gw cw _ xw hbw (by have := HCR3.out.w3; omega) (HAK3.out.hm.hm.hMem.len)
            rw [HCR3.out.ck] at KC
            have HAK4 := Lib.hid (HAK3.out.keep0 hkw)
            have HKY := Lib.hid hkw
            clear hkw hbw
            go_wp2_with fail
            refine KC.mono ?_
            clear KC
            rintro r y2 ⟨rfl, rfl⟩
            have hks : ¬ c.stamps < ((K : Nat) : Int) := by have := HCR3.out.ks; omega
            have hbb : ((((K : Nat) : Int)) != ((K : Nat) : Int)) = false := by simp
            have hc2 := HAK4.out.c2
            go_wp2_with fail
            go_roundg (ps.length - (j + 1))
            case measure => omega
            case rel => exact ⟨j + 1, K, nn + 1, L, i3, s3, by have := HNN.out; omega, rfl, by go_num, by have := HNN.out; omega, HCR3.out, HTD.out, HAK4.out⟩
          | none hl hcr3 hfr hr0 hst =>
            subst hl
            have HCR3 := Lib.hid hcr3
            have HLL : Hid (L.length ≤ 700) := Lib.hid (by have := HTD.out.len; have := hcr3.kn; have := HNN.out; have := HPL.out; omega)
            have HFR : Hid (freshB L 0 K c.stamps = true) := Lib.hid (fresh_none hst)
            rw [hr0] at HRET
            obtain ⟨v0, hv0⟩ : ∃ v0 : Nat, v0 = 0 := ⟨0, rfl⟩
            have HRET2 : Hid (∀ W, Keep [] y3 W → W.cell? ⟨ti.tb, 0, none⟩ = some (.int .u64 (v0 : Nat)) ∧ W.cell? ⟨ti.tb, 16, none⟩ = some (.int .u64 (t2.ses.v : Nat))) := Lib.hid (by rw [hv0]; exact HRET.out)
            clear HRET
            have HRET := HRET2
            have HFR2 : Hid (freshB L v0 K c.stamps = true) := Lib.hid (by rw [hv0]; exact HFR.out)
            clear HFR HRET2
            have HFR := HFR2
            clear HFR2
            have hvb : (((v0 : Nat) : Int) != 0) = false := by rw [hv0]; rfl
            clear hcr3 hfr hr0 hst HOUT hv0
            have KM := m_mem HAK3.out.hm.hm
            rw [HAK3.out.hm.im] at KM
            go_wp2_with fail
            refine KM.mono ?_
            clear KM
            rintro r y ⟨rfl, rfl⟩
            have KW := m_words HAK3.out.hm.hm (by have := HCR3.out.w3; omega)
            go_wp2_with fail
            refine KW.mono ?_
            clear KW
            rintro r y ⟨gw, cw, xw, rfl, hbw, _, hkw⟩
            have KC := ref25_clock y gw cw _ xw hbw (by have := HCR3.out.w3; omega) (HAK3.out.hm.hm.hMem.len)
            rw [HCR3.out.ck] at KC
            have HAK4 := Lib.hid (HAK3.out.keep0 hkw)
            have HKY := Lib.hid hkw
            clear hkw hbw
            go_wp2_with fail
            refine KC.mono ?_
            clear KC
            rintro r y2 ⟨rfl, rfl⟩
            have hks : ¬ c.stamps < ((K : Nat) : Int) := by have := HCR3.out.ks; omega
            have hbb : ((((K : Nat) : Int)) != ((K : Nat) : Int)) = false := by simp
            have hc2 := HAK4.out.c2
            generalize t2.ses.v = v1 at HRET
            obtain ⟨hr0, hr1⟩ := HRET.out _ HKY.out
            go_upto_region 20 with fail
            refine wp_region_held_drew (S := (fun w' => AllK w m0 w' i3 s3 cb c (.slice A7 L.length c7) L ∧ w'.cell? ⟨ti.tb, 0, none⟩ = some (.int .u64 (v0 : Nat)) ∧ w'.cell? ⟨ti.tb, 16, none⟩ = some (.int .u64 (v1 : Nat)))) (by kernel_rfl) ⟨HAK4.out.keep0 (Keep.refl _ _).drew, hr0, hr1⟩ (fun hHeld => ?_)
            refine wpAnyH_take (i := 0) (oi := { dst := some 82, op := Go.Op.move (Go.Operand.tmp 7), type := 43, pos := "law.go:62", after := #[], guard := none }) (v := ?_) rfl (by kernel_rfl) (by kernel_rfl) (by kernel_rfl) (fun _ _ _ h => h) (Or.inl ⟨by rfl, ?_⟩) (by assumption) ?_
            rotate_left
            · intro w hSw
              (try dsimp only at hSw)
              go_simp
              all_goals with_reducible rfl
            try simp only [Act.put, List.setIfInBounds_toArray, List.set_cons_zero, List.set_cons_succ]
            refine wpAnyH_take (i := 1) (oi := { dst := some 83, op := Go.Op.move (Go.Operand.tmp 9), type := 36, pos := "law.go:62", after := #[], guard := none }) (v := ?_) rfl (by kernel_rfl) (by kernel_rfl) (by kernel_rfl) (fun _ _ _ h => h) (Or.inl ⟨by rfl, ?_⟩) (by assumption) ?_
            rotate_left
            · intro w hSw
              (try dsimp only at hSw)
              go_simp
              all_goals with_reducible rfl
            try simp only [Act.put, List.setIfInBounds_toArray, List.set_cons_zero, List.set_cons_succ]
            refine wpAnyH_take (i := 2) (oi := { dst := some 84, op := Go.Op.nilCheck (Go.Operand.tmp 83), type := 0, pos := "law.go:62", after := #[{ on := 1, ground := Go.Ground.data }], guard := none }) (v := ?_) rfl (by kernel_rfl) (by kernel_rfl) (by kernel_rfl) (fun _ _ _ h => h) (Or.inl ⟨by rfl, ?_⟩) (by assumption) ?_
            rotate_left
            · intro w hSw
              (try dsimp only at hSw)
              go_simp
              all_goals with_reducible rfl
            try simp only [Act.put, List.setIfInBounds_toArray, List.set_cons_zero, List.set_cons_succ]
            refine wpAnyH_take (i := 3) (oi := { dst := some 85, op := Go.Op.fieldAddr 59 (Go.Operand.tmp 84) 0, type := 0, pos := "law.go:62", after := #[{ on := 2, ground := Go.Ground.data }], guard := none }) (v := ?_) rfl (by kernel_rfl) (by kernel_rfl) (by kernel_rfl) (fun _ _ _ h => h) (Or.inl ⟨by rfl, ?_⟩) (by assumption) ?_
            rotate_left
            · intro w hSw
              (try dsimp only at hSw)
              go_simp
              all_goals with_reducible rfl
            try simp only [Act.put, List.setIfInBounds_toArray, List.set_cons_zero, List.set_cons_succ]
            refine wpAnyH_take (i := 4) (oi := { dst := some 86, op := Go.Op.indexAddr 53 (Go.Operand.tmp 85) (Go.Operand.const (Go.Value.int Go.IntKind.i64 0)), type := 0, pos := "law.go:62", after := #[{ on := 3, ground := Go.Ground.data }], guard := none }) (v := ?_) rfl (by kernel_rfl) (by kernel_rfl) (by kernel_rfl) (fun _ _ _ h => h) (Or.inl ⟨by rfl, ?_⟩) (by assumption) ?_
            rotate_left
            · intro w hSw
              (try dsimp only at hSw)
              go_simp
              all_goals with_reducible rfl
            try simp only [Act.put, List.setIfInBounds_toArray, List.set_cons_zero, List.set_cons_succ]
            refine wpAnyH_take (i := 5) (oi := { dst := some 87, op := Go.Op.load 22 (Go.Operand.tmp 86), type := 22, pos := "law.go:62", after := #[{ on := 4, ground := Go.Ground.data }], guard := none }) (v := ?_) rfl (by kernel_rfl) (by kernel_rfl) (by kernel_rfl) (fun _ _ _ h => h) (Or.inl ⟨by rfl, ?_⟩) (by assumption) ?_
            rotate_left
            · intro w hSw
              have hc := hSw.2.1
              go_simp
              all_goals with_reducible rfl
            try simp only [Act.put, List.setIfInBounds_toArray, List.set_cons_zero, List.set_cons_succ]
            refine wpAnyH_take (i := 6) (oi := { dst := some 88, op := Go.Op.move (Go.Operand.tmp 12), type := 22, pos := "law.go:62", after := #[], guard := none }) (v := ?_) rfl (by kernel_rfl) (by kernel_rfl) (by kernel_rfl) (fun _ _ _ h => h) (Or.inl ⟨by rfl, ?_⟩) (by assumption) ?_
            rotate_left
            · intro w hSw
              (try dsimp only at hSw)
              go_simp
              all_goals with_reducible rfl
            try simp only [Act.put, List.setIfInBounds_toArray, List.set_cons_zero, List.set_cons_succ]
            refine wpAnyH_take (i := 7) (oi := { dst := some 89, op := Go.Op.fieldAddr 24 (Go.Operand.tmp 2) 2, type := 0, pos := "law.go:62", after := #[], guard := none }) (v := ?_) rfl (by kernel_rfl) (by kernel_rfl) (by kernel_rfl) (fun _ _ _ h => h) (Or.inl ⟨by rfl, ?_⟩) (by assumption) ?_
            rotate_left
            · intro w hSw
              (try dsimp only at hSw)
              go_simp
              all_goals with_reducible rfl
            try simp only [Act.put, List.setIfInBounds_toArray, List.set_cons_zero, List.set_cons_succ]
            refine wpAnyH_take (i := 8) (oi := { dst := some 90, op := Go.Op.load 22 (Go.Operand.tmp 89), type := 22, pos := "law.go:62", after := #[{ on := 7, ground := Go.Ground.data }], guard := none }) (v := ?_) rfl (by kernel_rfl) (by kernel_rfl) (by kernel_rfl) (fun _ _ _ h => h) (Or.inl ⟨by rfl, ?_⟩) (by assumption) ?_
            rotate_left
            · intro w hSw
              have hc := hSw.1.c2
              go_simp
              all_goals with_reducible rfl
            try simp only [Act.put, List.setIfInBounds_toArray, List.set_cons_zero, List.set_cons_succ]
            refine wpAnyH_ready (rs := [9]) (by kernel_rfl) (by simp) ?_
            refine AllReadyH.cons (o := { dst := some 91, op := Go.Op.call { callee := Go.Callee.value (Go.Operand.func 42), args := #[Go.Operand.tmp 82, Go.Operand.tmp 87, Go.Operand.tmp 88, Go.Operand.tmp 90], argTypes := #[43, 22, 22, 22] }, type := 4, pos := "law.go:62", after := #[{ on := 0, ground := Go.Ground.data }, { on := 5, ground := Go.Ground.data }, { on := 6, ground := Go.Ground.data }, { on := 8, ground := Go.Ground.data }], guard := none }) rfl (fun K hK => ?_) AllReadyH.nil
            go_simp
            refine (law25_fresh _ _ A7 c7 L _ _ c.stamps hHeld.1.ho (by have := HLL.out; omega)).mono ?_
            rw [HFR.out]
            rintro r z ⟨rfl, rfl⟩
            try simp only []
            refine hK.out _ _ hHeld (fun hHeld => ?_)
            clear hK K
            try simp only [Act.put, List.setIfInBounds_toArray, List.set_cons_zero, List.set_cons_succ]
            refine wpAnyH_take (i := 10) (oi := { dst := some 92, op := Go.Op.unOp Go.UnOp.not 4 (Go.Operand.tmp 91), type := 4, pos := "law.go:62", after := #[{ on := 9, ground := Go.Ground.data }], guard := none }) (v := ?_) rfl (by kernel_rfl) (by kernel_rfl) (by kernel_rfl) (fun _ _ _ h => h) (Or.inl ⟨by rfl, ?_⟩) (by assumption) ?_
            rotate_left
            · intro w hSw
              (try dsimp only at hSw)
              go_simp
              all_goals with_reducible rfl
            try simp only [Act.put, List.setIfInBounds_toArray, List.set_cons_zero, List.set_cons_succ]
            refine wpAnyH_take (i := 11) (oi := { dst := some 93, op := Go.Op.move (Go.Operand.tmp 92), type := 4, pos := "law.go:62", after := #[{ on := 10, ground := Go.Ground.data }, { on := 9, ground := Go.Ground.chain }], guard := none }) (v := ?_) rfl (by kernel_rfl) (by kernel_rfl) (by kernel_rfl) (fun _ _ _ h => h) (Or.inl ⟨by rfl, ?_⟩) (by assumption) ?_
            rotate_left
            · intro w hSw
              (try dsimp only at hSw)
              go_simp
              all_goals with_reducible rfl
            try simp only [Act.put, List.setIfInBounds_toArray, List.set_cons_zero, List.set_cons_succ]
            refine wpAnyH_take (i := 12) (oi := { dst := some 94, op := Go.Op.move (Go.Operand.tmp 9), type := 36, pos := "law.go:62", after := #[{ on := 11, ground := Go.Ground.guard }], guard := some (11, false) }) (v := ?_) rfl (by kernel_rfl) (by kernel_rfl) (by kernel_rfl) (fun _ _ _ h => h) (Or.inl ⟨by rfl, ?_⟩) (by assumption) ?_
            rotate_left
            · intro w hSw
              (try dsimp only at hSw)
              go_simp
              all_goals with_reducible rfl
            try simp only [Act.put, List.setIfInBounds_toArray, List.set_cons_zero, List.set_cons_succ]
            refine wpAnyH_take (i := 13) (oi := { dst := some 95, op := Go.Op.nilCheck (Go.Operand.tmp 94), type := 0, pos := "law.go:62", after := #[{ on := 12, ground := Go.Ground.data }, { on := 11, ground := Go.Ground.guard }], guard := some (11, false) }) (v := ?_) rfl (by kernel_rfl) (by kernel_rfl) (by kernel_rfl) (fun _ _ _ h => h) (Or.inl ⟨by rfl, ?_⟩) (by assumption) ?_
            rotate_left
            · intro w hSw
              (try dsimp only at hSw)
              go_simp
              all_goals with_reducible rfl
            try simp only [Act.put, List.setIfInBounds_toArray, List.set_cons_zero, List.set_cons_succ]
            refine wpAnyH_take (i := 14) (oi := { dst := some 96, op := Go.Op.fieldAddr 59 (Go.Operand.tmp 95) 0, type := 0, pos := "law.go:62", after := #[{ on := 13, ground := Go.Ground.data }, { on := 11, ground := Go.Ground.guard }], guard := some (11, false) }) (v := ?_) rfl (by kernel_rfl) (by kernel_rfl) (by kernel_rfl) (fun _ _ _ h => h) (Or.inl ⟨by rfl, ?_⟩) (by assumption) ?_
            rotate_left
            · intro w hSw
              (try dsimp only at hSw)
              go_simp
              all_goals with_reducible rfl
            try simp only [Act.put, List.setIfInBounds_toArray, List.set_cons_zero, List.set_cons_succ]
            refine wpAnyH_take (i := 15) (oi := { dst := some 97, op := Go.Op.indexAddr 53 (Go.Operand.tmp 96) (Go.Operand.const (Go.Value.int Go.IntKind.i64 0)), type := 0, pos := "law.go:62", after := #[{ on := 14, ground := Go.Ground.data }, { on := 11, ground := Go.Ground.guard }], guard := some (11, false) }) (v := ?_) rfl (by kernel_rfl) (by kernel_rfl) (by kernel_rfl) (fun _ _ _ h => h) (Or.inl ⟨by rfl, ?_⟩) (by assumption) ?_
            rotate_left
            · intro w hSw
              (try dsimp only at hSw)
              go_simp
              all_goals with_reducible rfl
            try simp only [Act.put, List.setIfInBounds_toArray, List.set_cons_zero, List.set_cons_succ]
            refine wpAnyH_take (i := 16) (oi := { dst := some 98, op := Go.Op.load 22 (Go.Operand.tmp 97), type := 22, pos := "law.go:62", after := #[{ on := 15, ground := Go.Ground.data }, { on := 11, ground := Go.Ground.guard }], guard := some (11, false) }) (v := ?_) rfl (by kernel_rfl) (by kernel_rfl) (by kernel_rfl) (fun _ _ _ h => h) (Or.inl ⟨by rfl, ?_⟩) (by assumption) ?_
            rotate_left
            · intro w hSw
              have hc := hSw.2.1
              go_simp
              all_goals with_reducible rfl
            try simp only [Act.put, List.setIfInBounds_toArray, List.set_cons_zero, List.set_cons_succ]
            refine wpAnyH_take (i := 17) (oi := { dst := some 99, op := Go.Op.binOp Go.BinOp.neq 22 (Go.Operand.tmp 98) (Go.Operand.const (Go.Value.int Go.IntKind.u64 0)) 22, type := 4, pos := "law.go:62", after := #[{ on := 16, ground := Go.Ground.data }, { on := 11, ground := Go.Ground.guard }], guard := some (11, false) }) (v := ?_) rfl (by kernel_rfl) (by kernel_rfl) (by kernel_rfl) (fun _ _ _ h => h) (Or.inl ⟨by rfl, ?_⟩) (by assumption) ?_
            rotate_left
            · intro w hSw
              (try dsimp only at hSw)
              go_simp
              all_goals with_reducible rfl
            try simp only [Act.put, List.setIfInBounds_toArray, List.set_cons_zero, List.set_cons_succ]
            refine wpAnyH_take (i := 18) (oi := { dst := some 100, op := Go.Op.move (Go.Operand.tmp 99), type := 4, pos := "law.go:62", after := #[{ on := 17, ground := Go.Ground.data }, { on := 11, ground := Go.Ground.chain }, { on := 11, ground := Go.Ground.guard }], guard := some (11, false) }) (v := ?_) rfl (by kernel_rfl) (by kernel_rfl) (by kernel_rfl) (fun _ _ _ h => h) (Or.inl ⟨by rfl, ?_⟩) (by assumption) ?_
            rotate_left
            · intro w hSw
              (try dsimp only at hSw)
              go_simp
              all_goals with_reducible rfl
            try simp only [Act.put, List.setIfInBounds_toArray, List.set_cons_zero, List.set_cons_succ]
            refine wpAnyH_take (i := 19) (oi := { dst := some 101, op := Go.Op.move (Go.Operand.tmp 9), type := 36, pos := "law.go:62", after := #[{ on := 18, ground := Go.Ground.guard }], guard := some (18, true) }) (v := _) rfl (by kernel_rfl) (by kernel_rfl) (by kernel_rfl) (fun _ _ _ h => h) (Or.inr ⟨by rfl, rfl⟩) (by assumption) ?_
            try simp only [Act.put, List.setIfInBounds_toArray, List.set_cons_zero, List.set_cons_succ]
            refine wpAnyH_take (i := 20) (oi := { dst := some 102, op := Go.Op.nilCheck (Go.Operand.tmp 101), type := 0, pos := "law.go:62", after := #[{ on := 19, ground := Go.Ground.data }, { on := 18, ground := Go.Ground.guard }], guard := some (18, true) }) (v := _) rfl (by kernel_rfl) (by kernel_rfl) (by kernel_rfl) (fun _ _ _ h => h) (Or.inr ⟨by rfl, rfl⟩) (by assumption) ?_
            try simp only [Act.put, List.setIfInBounds_toArray, List.set_cons_zero, List.set_cons_succ]
            refine wpAnyH_take (i := 21) (oi := { dst := some 103, op := Go.Op.fieldAddr 59 (Go.Operand.tmp 102) 1, type := 0, pos := "law.go:62", after := #[{ on := 20, ground := Go.Ground.data }, { on := 18, ground := Go.Ground.guard }], guard := some (18, true) }) (v := _) rfl (by kernel_rfl) (by kernel_rfl) (by kernel_rfl) (fun _ _ _ h => h) (Or.inr ⟨by rfl, rfl⟩) (by assumption) ?_
            try simp only [Act.put, List.setIfInBounds_toArray, List.set_cons_zero, List.set_cons_succ]
            refine wpAnyH_take (i := 22) (oi := { dst := some 104, op := Go.Op.fieldAddr 55 (Go.Operand.tmp 103) 4, type := 0, pos := "law.go:62", after := #[{ on := 21, ground := Go.Ground.data }, { on := 18, ground := Go.Ground.guard }], guard := some (18, true) }) (v := _) rfl (by kernel_rfl) (by kernel_rfl) (by kernel_rfl) (fun _ _ _ h => h) (Or.inr ⟨by rfl, rfl⟩) (by assumption) ?_
            try simp only [Act.put, List.setIfInBounds_toArray, List.set_cons_zero, List.set_cons_succ]
            refine wpAnyH_take (i := 23) (oi := { dst := some 105, op := Go.Op.load 22 (Go.Operand.tmp 104), type := 22, pos := "law.go:62", after := #[{ on := 22, ground := Go.Ground.data }, { on := 18, ground := Go.Ground.guard }], guard := some (18, true) }) (v := _) rfl (by kernel_rfl) (by kernel_rfl) (by kernel_rfl) (fun _ _ _ h => h) (Or.inr ⟨by rfl, rfl⟩) (by assumption) ?_
            try simp only [Act.put, List.setIfInBounds_toArray, List.set_cons_zero, List.set_cons_succ]
            refine wpAnyH_take (i := 24) (oi := { dst := some 106, op := Go.Op.move (Go.Operand.tmp 9), type := 36, pos := "law.go:62", after := #[{ on := 18, ground := Go.Ground.guard }], guard := some (18, true) }) (v := _) rfl (by kernel_rfl) (by kernel_rfl) (by kernel_rfl) (fun _ _ _ h => h) (Or.inr ⟨by rfl, rfl⟩) (by assumption) ?_
            try simp only [Act.put, List.setIfInBounds_toArray, List.set_cons_zero, List.set_cons_succ]
            refine wpAnyH_take (i := 25) (oi := { dst := some 107, op := Go.Op.nilCheck (Go.Operand.tmp 106), type := 0, pos := "law.go:62", after := #[{ on := 24, ground := Go.Ground.data }, { on := 18, ground := Go.Ground.guard }], guard := some (18, true) }) (v := _) rfl (by kernel_rfl) (by kernel_rfl) (by kernel_rfl) (fun _ _ _ h => h) (Or.inr ⟨by rfl, rfl⟩) (by assumption) ?_
            try simp only [Act.put, List.setIfInBounds_toArray, List.set_cons_zero, List.set_cons_succ]
            refine wpAnyH_take (i := 26) (oi := { dst := some 108, op := Go.Op.fieldAddr 59 (Go.Operand.tmp 107) 0, type := 0, pos := "law.go:62", after := #[{ on := 25, ground := Go.Ground.data }, { on := 18, ground := Go.Ground.guard }], guard := some (18, true) }) (v := _) rfl (by kernel_rfl) (by kernel_rfl) (by kernel_rfl) (fun _ _ _ h => h) (Or.inr ⟨by rfl, rfl⟩) (by assumption) ?_
            try simp only [Act.put, List.setIfInBounds_toArray, List.set_cons_zero, List.set_cons_succ]
            refine wpAnyH_take (i := 27) (oi := { dst := some 109, op := Go.Op.indexAddr 53 (Go.Operand.tmp 108) (Go.Operand.const (Go.Value.int Go.IntKind.i64 0)), type := 0, pos := "law.go:62", after := #[{ on := 26, ground := Go.Ground.data }, { on := 18, ground := Go.Ground.guard }], guard := some (18, true) }) (v := _) rfl (by kernel_rfl) (by kernel_rfl) (by kernel_rfl) (fun _ _ _ h => h) (Or.inr ⟨by rfl, rfl⟩) (by assumption) ?_
            try simp only [Act.put, List.setIfInBounds_toArray, List.set_cons_zero, List.set_cons_succ]
            refine wpAnyH_take (i := 28) (oi := { dst := some 110, op := Go.Op.load 22 (Go.Operand.tmp 109), type := 22, pos := "law.go:62", after := #[{ on := 27, ground := Go.Ground.data }, { on := 18, ground := Go.Ground.guard }], guard := some (18, true) }) (v := _) rfl (by kernel_rfl) (by kernel_rfl) (by kernel_rfl) (fun _ _ _ h => h) (Or.inr ⟨by rfl, rfl⟩) (by assumption) ?_
            try simp only [Act.put, List.setIfInBounds_toArray, List.set_cons_zero, List.set_cons_succ]
            refine wpAnyH_take (i := 29) (oi := { dst := some 111, op := Go.Op.binOp Go.BinOp.neq 22 (Go.Operand.tmp 105) (Go.Operand.tmp 110) 22, type := 4, pos := "law.go:62", after := #[{ on := 23, ground := Go.Ground.data }, { on := 28, ground := Go.Ground.data }, { on := 18, ground := Go.Ground.guard }], guard := some (18, true) }) (v := _) rfl (by kernel_rfl) (by kernel_rfl) (by kernel_rfl) (fun _ _ _ h => h) (Or.inr ⟨by rfl, rfl⟩) (by assumption) ?_
            try simp only [Act.put, List.setIfInBounds_toArray, List.set_cons_zero, List.set_cons_succ]
            refine wpAnyH_take (i := 30) (oi := { dst := some 112, op := Go.Op.pick (Go.Operand.tmp 100) (Go.Operand.tmp 111) (Go.Operand.const (Go.Value.bool false)), type := 4, pos := "law.go:62", after := #[{ on := 18, ground := Go.Ground.data }, { on := 29, ground := Go.Ground.data }, { on := 11, ground := Go.Ground.guard }], guard := some (11, false) }) (v := ?_) rfl (by kernel_rfl) (by kernel_rfl) (by kernel_rfl) (fun _ _ _ h => h) (Or.inl ⟨by rfl, ?_⟩) (by assumption) ?_
            rotate_left
            · intro w hSw
              (try dsimp only at hSw)
              go_simp
              all_goals with_reducible rfl
            try simp only [Act.put, List.setIfInBounds_toArray, List.set_cons_zero, List.set_cons_succ]
            refine wpAnyH_take (i := 31) (oi := { dst := some 113, op := Go.Op.pick (Go.Operand.tmp 93) (Go.Operand.const (Go.Value.bool true)) (Go.Operand.tmp 112), type := 4, pos := "law.go:62", after := #[{ on := 11, ground := Go.Ground.data }, { on := 30, ground := Go.Ground.data }], guard := none }) (v := ?_) rfl (by kernel_rfl) (by kernel_rfl) (by kernel_rfl) (fun _ _ _ h => h) (Or.inl ⟨by rfl, ?_⟩) (by assumption) ?_
            rotate_left
            · intro w hSw
              (try dsimp only at hSw)
              go_simp
              all_goals with_reducible rfl
            try simp only [Act.put, List.setIfInBounds_toArray, List.set_cons_zero, List.set_cons_succ]
            refine wpAnyH_done (by kernel_rfl) ?_ _
            have HAK5 := Lib.hid hHeld.1
            have hr5 := hHeld.2.1
            clear hHeld hr0 hr1 hc2
            go_wp2_with fail
            go_roundg (ps.length - (j + 1))
            case measure => omega
            case rel => exact ⟨j + 1, K, nn + 1, L, i3, s3, by have := HNN.out; omega, rfl, by go_num, by have := HNN.out; omega, HCR3.out, HTD.out, HAK5.out⟩
          | told hl hcr3 hfr hr0 hv =>
            subst hl
            have HFR : Hid (freshB L K (K + 1) c.stamps = true) := Lib.hid HTD.out.fresh
            have HTD2 := Lib.hid HTD.out.add
            have HLL : Hid (L.length ≤ 700) := Lib.hid (by have := HTD.out.len; have := hcr3.kn; have := HNN.out; have := HPL.out; omega)
            rw [hr0, hv] at HRET
            obtain ⟨v0, hv0⟩ : ∃ v0 : Nat, v0 = K := ⟨_, rfl⟩
            obtain ⟨K1, hK1⟩ : ∃ K1 : Nat, K1 = K + 1 := ⟨_, rfl⟩
            have hwk : IntKind.u64.wrap (((K : Nat) : Int) + 1) = ((K1 : Nat) : Int) := by
              have h1 := hcr3.kn
              have h2 := HNN.out
              have h3 := HPL.out
              rw [hK1, show IntKind.u64.wrap (((K : Nat) : Int) + 1) = (((K : Nat) : Int) + 1) % 18446744073709551616 from rfl]
              omega
            have hb1 : (((K1 : Nat) : Int) != ((K : Nat) : Int)) = true := by rw [bne_iff_ne]; omega
            have hb2 : (((K1 : Nat) : Int) != ((K1 : Nat) : Int)) = false := by simp
            have hk1 : 1 ≤ K := by have := hcr3.k1; have := HTD.out.len; omega
            have hvb : (((v0 : Nat) : Int) != 0) = true := by rw [bne_iff_ne]; omega
            have hvv : (((v0 : Nat) : Int) != ((v0 : Nat) : Int)) = false := by simp
            rw [← hK1] at hcr3 HFR HTD2
            rw [← hv0] at HRET HTD2
            have HCR3 := Lib.hid hcr3
            have HFR2 : Hid (freshB L v0 K1 c.stamps = true) := Lib.hid (by rw [hv0]; exact HFR.out)
            clear HFR
            have HFR := HFR2
            clear HFR2 hcr3 hfr hr0 hv HOUT hv0 hK1 hk1
            have KM := m_mem HAK3.out.hm.hm
            rw [HAK3.out.hm.im] at KM
            go_wp2_with fail
            refine KM.mono ?_
            clear KM
            rintro r y ⟨rfl, rfl⟩
            have KW := m_words HAK3.out.hm.hm (by have := HCR3.out.w3; omega)
            go_wp2_with fail
            refine KW.mono ?_
            clear KW
            rintro r y ⟨gw, cw, xw, rfl, hbw, _, hkw⟩
            have KC := ref25_clock y gw cw _ xw hbw (by have := HCR3.out.w3; omega) (HAK3.out.hm.hm.hMem.len)
            rw [HCR3.out.ck] at KC
            have HAK4 := Lib.hid (HAK3.out.keep0 hkw)
            have HKY := Lib.hid hkw
            clear hkw hbw
            go_wp2_with fail
            refine KC.mono ?_
            clear KC
            rintro r y2 ⟨rfl, rfl⟩
            have hks : ¬ c.stamps < ((K1 : Nat) : Int) := by have := HCR3.out.ks; omega
            have hc2 := HAK4.out.c2
            obtain ⟨v1, hv1⟩ : ∃ v1 : Nat, v1 = v0 := ⟨_, rfl⟩
            obtain ⟨hr0, hr1⟩ := HRET.out _ HKY.out
            go_upto_region 20 with fail
            refine wp_region_held_drew (S := (fun w' => AllK w m0 w' i3 s3 cb c (.slice A7 L.length c7) L ∧ w'.cell? ⟨ti.tb, 0, none⟩ = some (.int .u64 (v0 : Nat)) ∧ w'.cell? ⟨ti.tb, 16, none⟩ = some (.int .u64 (v0 : Nat)))) (by kernel_rfl) ⟨HAK4.out.keep0 (Keep.refl _ _).drew, hr0, hr1⟩ (fun hHeld => ?_)
            refine wpAnyH_take (i := 0) (oi := { dst := some 82, op := Go.Op.move (Go.Operand.tmp 7), type := 43, pos := "law.go:62", after := #[], guard := none }) (v := ?_) rfl (by kernel_rfl) (by kernel_rfl) (by kernel_rfl) (fun _ _ _ h => h) (Or.inl ⟨by rfl, ?_⟩) (by assumption) ?_
            rotate_left
            · intro w hSw
              (try dsimp only at hSw)
              go_simp
              all_goals with_reducible rfl
            try simp only [Act.put, List.setIfInBounds_toArray, List.set_cons_zero, List.set_cons_succ]
            refine wpAnyH_take (i := 1) (oi := { dst := some 83, op := Go.Op.move (Go.Operand.tmp 9), type := 36, pos := "law.go:62", after := #[], guard := none }) (v := ?_) rfl (by kernel_rfl) (by kernel_rfl) (by kernel_rfl) (fun _ _ _ h => h) (Or.inl ⟨by rfl, ?_⟩) (by assumption) ?_
            rotate_left
            · intro w hSw
              (try dsimp only at hSw)
              go_simp
              all_goals with_reducible rfl
            try simp only [Act.put, List.setIfInBounds_toArray, List.set_cons_zero, List.set_cons_succ]
            refine wpAnyH_take (i := 2) (oi := { dst := some 84, op := Go.Op.nilCheck (Go.Operand.tmp 83), type := 0, pos := "law.go:62", after := #[{ on := 1, ground := Go.Ground.data }], guard := none }) (v := ?_) rfl (by kernel_rfl) (by kernel_rfl) (by kernel_rfl) (fun _ _ _ h => h) (Or.inl ⟨by rfl, ?_⟩) (by assumption) ?_
            rotate_left
            · intro w hSw
              (try dsimp only at hSw)
              go_simp
              all_goals with_reducible rfl
            try simp only [Act.put, List.setIfInBounds_toArray, List.set_cons_zero, List.set_cons_succ]
            refine wpAnyH_take (i := 3) (oi := { dst := some 85, op := Go.Op.fieldAddr 59 (Go.Operand.tmp 84) 0, type := 0, pos := "law.go:62", after := #[{ on := 2, ground := Go.Ground.data }], guard := none }) (v := ?_) rfl (by kernel_rfl) (by kernel_rfl) (by kernel_rfl) (fun _ _ _ h => h) (Or.inl ⟨by rfl, ?_⟩) (by assumption) ?_
            rotate_left
            · intro w hSw
              (try dsimp only at hSw)
              go_simp
              all_goals with_reducible rfl
            try simp only [Act.put, List.setIfInBounds_toArray, List.set_cons_zero, List.set_cons_succ]
            refine wpAnyH_take (i := 4) (oi := { dst := some 86, op := Go.Op.indexAddr 53 (Go.Operand.tmp 85) (Go.Operand.const (Go.Value.int Go.IntKind.i64 0)), type := 0, pos := "law.go:62", after := #[{ on := 3, ground := Go.Ground.data }], guard := none }) (v := ?_) rfl (by kernel_rfl) (by kernel_rfl) (by kernel_rfl) (fun _ _ _ h => h) (Or.inl ⟨by rfl, ?_⟩) (by assumption) ?_
            rotate_left
            · intro w hSw
              (try dsimp only at hSw)
              go_simp
              all_goals with_reducible rfl
            try simp only [Act.put, List.setIfInBounds_toArray, List.set_cons_zero, List.set_cons_succ]
            refine wpAnyH_take (i := 5) (oi := { dst := some 87, op := Go.Op.load 22 (Go.Operand.tmp 86), type := 22, pos := "law.go:62", after := #[{ on := 4, ground := Go.Ground.data }], guard := none }) (v := ?_) rfl (by kernel_rfl) (by kernel_rfl) (by kernel_rfl) (fun _ _ _ h => h) (Or.inl ⟨by rfl, ?_⟩) (by assumption) ?_
            rotate_left
            · intro w hSw
              have hc := hSw.2.1
              go_simp
              all_goals with_reducible rfl
            try simp only [Act.put, List.setIfInBounds_toArray, List.set_cons_zero, List.set_cons_succ]
            refine wpAnyH_take (i := 6) (oi := { dst := some 88, op := Go.Op.move (Go.Operand.tmp 12), type := 22, pos := "law.go:62", after := #[], guard := none }) (v := ?_) rfl (by kernel_rfl) (by kernel_rfl) (by kernel_rfl) (fun _ _ _ h => h) (Or.inl ⟨by rfl, ?_⟩) (by assumption) ?_
            rotate_left
            · intro w hSw
              (try dsimp only at hSw)
              go_simp
              all_goals with_reducible rfl
            try simp only [Act.put, List.setIfInBounds_toArray, List.set_cons_zero, List.set_cons_succ]
            refine wpAnyH_take (i := 7) (oi := { dst := some 89, op := Go.Op.fieldAddr 24 (Go.Operand.tmp 2) 2, type := 0, pos := "law.go:62", after := #[], guard := none }) (v := ?_) rfl (by kernel_rfl) (by kernel_rfl) (by kernel_rfl) (fun _ _ _ h => h) (Or.inl ⟨by rfl, ?_⟩) (by assumption) ?_
            rotate_left
            · intro w hSw
              (try dsimp only at hSw)
              go_simp
              all_goals with_reducible rfl
            try simp only [Act.put, List.setIfInBounds_toArray, List.set_cons_zero, List.set_cons_succ]
            refine wpAnyH_take (i := 8) (oi := { dst := some 90, op := Go.Op.load 22 (Go.Operand.tmp 89), type := 22, pos := "law.go:62", after := #[{ on := 7, ground := Go.Ground.data }], guard := none }) (v := ?_) rfl (by kernel_rfl) (by kernel_rfl) (by kernel_rfl) (fun _ _ _ h => h) (Or.inl ⟨by rfl, ?_⟩) (by assumption) ?_
            rotate_left
            · intro w hSw
              have hc := hSw.1.c2
              go_simp
              all_goals with_reducible rfl
            try simp only [Act.put, List.setIfInBounds_toArray, List.set_cons_zero, List.set_cons_succ]
            refine wpAnyH_ready (rs := [9]) (by kernel_rfl) (by simp) ?_
            refine AllReadyH.cons (o := { dst := some 91, op := Go.Op.call { callee := Go.Callee.value (Go.Operand.func 42), args := #[Go.Operand.tmp 82, Go.Operand.tmp 87, Go.Operand.tmp 88, Go.Operand.tmp 90], argTypes := #[43, 22, 22, 22] }, type := 4, pos := "law.go:62", after := #[{ on := 0, ground := Go.Ground.data }, { on := 5, ground := Go.Ground.data }, { on := 6, ground := Go.Ground.data }, { on := 8, ground := Go.Ground.data }], guard := none }) rfl (fun K hK => ?_) AllReadyH.nil
            go_simp
            refine (law25_fresh _ _ A7 c7 L _ _ c.stamps hHeld.1.ho (by have := HLL.out; omega)).mono ?_
            rw [HFR.out]
            rintro r z ⟨rfl, rfl⟩
            try simp only []
            refine hK.out _ _ hHeld (fun hHeld => ?_)
            clear hK K
            try simp only [Act.put, List.setIfInBounds_toArray, List.set_cons_zero, List.set_cons_succ]
            refine wpAnyH_take (i := 10) (oi := { dst := some 92, op := Go.Op.unOp Go.UnOp.not 4 (Go.Operand.tmp 91), type := 4, pos := "law.go:62", after := #[{ on := 9, ground := Go.Ground.data }], guard := none }) (v := ?_) rfl (by kernel_rfl) (by kernel_rfl) (by kernel_rfl) (fun _ _ _ h => h) (Or.inl ⟨by rfl, ?_⟩) (by assumption) ?_
            rotate_left
            · intro w hSw
              (try dsimp only at hSw)
              go_simp
              all_goals with_reducible rfl
            try simp only [Act.put, List.setIfInBounds_toArray, List.set_cons_zero, List.set_cons_succ]
            refine wpAnyH_take (i := 11) (oi := { dst := some 93, op := Go.Op.move (Go.Operand.tmp 92), type := 4, pos := "law.go:62", after := #[{ on := 10, ground := Go.Ground.data }, { on := 9, ground := Go.Ground.chain }], guard := none }) (v := ?_) rfl (by kernel_rfl) (by kernel_rfl) (by kernel_rfl) (fun _ _ _ h => h) (Or.inl ⟨by rfl, ?_⟩) (by assumption) ?_
            rotate_left
            · intro w hSw
              (try dsimp only at hSw)
              go_simp
              all_goals with_reducible rfl
            try simp only [Act.put, List.setIfInBounds_toArray, List.set_cons_zero, List.set_cons_succ]
            refine wpAnyH_take (i := 12) (oi := { dst := some 94, op := Go.Op.move (Go.Operand.tmp 9), type := 36, pos := "law.go:62", after := #[{ on := 11, ground := Go.Ground.guard }], guard := some (11, false) }) (v := ?_) rfl (by kernel_rfl) (by kernel_rfl) (by kernel_rfl) (fun _ _ _ h => h) (Or.inl ⟨by rfl, ?_⟩) (by assumption) ?_
            rotate_left
            · intro w hSw
              (try dsimp only at hSw)
              go_simp
              all_goals with_reducible rfl
            try simp only [Act.put, List.setIfInBounds_toArray, List.set_cons_zero, List.set_cons_succ]
            refine wpAnyH_take (i := 13) (oi := { dst := some 95, op := Go.Op.nilCheck (Go.Operand.tmp 94), type := 0, pos := "law.go:62", after := #[{ on := 12, ground := Go.Ground.data }, { on := 11, ground := Go.Ground.guard }], guard := some (11, false) }) (v := ?_) rfl (by kernel_rfl) (by kernel_rfl) (by kernel_rfl) (fun _ _ _ h => h) (Or.inl ⟨by rfl, ?_⟩) (by assumption) ?_
            rotate_left
            · intro w hSw
              (try dsimp only at hSw)
              go_simp
              all_goals with_reducible rfl
            try simp only [Act.put, List.setIfInBounds_toArray, List.set_cons_zero, List.set_cons_succ]
            refine wpAnyH_take (i := 14) (oi := { dst := some 96, op := Go.Op.fieldAddr 59 (Go.Operand.tmp 95) 0, type := 0, pos := "law.go:62", after := #[{ on := 13, ground := Go.Ground.data }, { on := 11, ground := Go.Ground.guard }], guard := some (11, false) }) (v := ?_) rfl (by kernel_rfl) (by kernel_rfl) (by kernel_rfl) (fun _ _ _ h => h) (Or.inl ⟨by rfl, ?_⟩) (by assumption) ?_
            rotate_left
            · intro w hSw
              (try dsimp only at hSw)
              go_simp
              all_goals with_reducible rfl
            try simp only [Act.put, List.setIfInBounds_toArray, List.set_cons_zero, List.set_cons_succ]
            refine wpAnyH_take (i := 15) (oi := { dst := some 97, op := Go.Op.indexAddr 53 (Go.Operand.tmp 96) (Go.Operand.const (Go.Value.int Go.IntKind.i64 0)), type := 0, pos := "law.go:62", after := #[{ on := 14, ground := Go.Ground.data }, { on := 11, ground := Go.Ground.guard }], guard := some (11, false) }) (v := ?_) rfl (by kernel_rfl) (by kernel_rfl) (by kernel_rfl) (fun _ _ _ h => h) (Or.inl ⟨by rfl, ?_⟩) (by assumption) ?_
            rotate_left
            · intro w hSw
              (try dsimp only at hSw)
              go_simp
              all_goals with_reducible rfl
            try simp only [Act.put, List.setIfInBounds_toArray, List.set_cons_zero, List.set_cons_succ]
            refine wpAnyH_take (i := 16) (oi := { dst := some 98, op := Go.Op.load 22 (Go.Operand.tmp 97), type := 22, pos := "law.go:62", after := #[{ on := 15, ground := Go.Ground.data }, { on := 11, ground := Go.Ground.guard }], guard := some (11, false) }) (v := ?_) rfl (by kernel_rfl) (by kernel_rfl) (by kernel_rfl) (fun _ _ _ h => h) (Or.inl ⟨by rfl, ?_⟩) (by assumption) ?_
            rotate_left
            · intro w hSw
              have hc := hSw.2.1
              go_simp
              all_goals with_reducible rfl
            try simp only [Act.put, List.setIfInBounds_toArray, List.set_cons_zero, List.set_cons_succ]
            refine wpAnyH_take (i := 17) (oi := { dst := some 99, op := Go.Op.binOp Go.BinOp.neq 22 (Go.Operand.tmp 98) (Go.Operand.const (Go.Value.int Go.IntKind.u64 0)) 22, type := 4, pos := "law.go:62", after := #[{ on := 16, ground := Go.Ground.data }, { on := 11, ground := Go.Ground.guard }], guard := some (11, false) }) (v := ?_) rfl (by kernel_rfl) (by kernel_rfl) (by kernel_rfl) (fun _ _ _ h => h) (Or.inl ⟨by rfl, ?_⟩) (by assumption) ?_
            rotate_left
            · intro w hSw
              (try dsimp only at hSw)
              go_simp
              all_goals with_reducible rfl
            try simp only [Act.put, List.setIfInBounds_toArray, List.set_cons_zero, List.set_cons_succ]
            refine wpAnyH_take (i := 18) (oi := { dst := some 100, op := Go.Op.move (Go.Operand.tmp 99), type := 4, pos := "law.go:62", after := #[{ on := 17, ground := Go.Ground.data }, { on := 11, ground := Go.Ground.chain }, { on := 11, ground := Go.Ground.guard }], guard := some (11, false) }) (v := ?_) rfl (by kernel_rfl) (by kernel_rfl) (by kernel_rfl) (fun _ _ _ h => h) (Or.inl ⟨by rfl, ?_⟩) (by assumption) ?_
            rotate_left
            · intro w hSw
              (try dsimp only at hSw)
              go_simp
              all_goals with_reducible rfl
            try simp only [Act.put, List.setIfInBounds_toArray, List.set_cons_zero, List.set_cons_succ]
            refine wpAnyH_take (i := 19) (oi := { dst := some 101, op := Go.Op.move (Go.Operand.tmp 9), type := 36, pos := "law.go:62", after := #[{ on := 18, ground := Go.Ground.guard }], guard := some (18, true) }) (v := ?_) rfl (by kernel_rfl) (by kernel_rfl) (by kernel_rfl) (fun _ _ _ h => h) (Or.inl ⟨by rfl, ?_⟩) (by assumption) ?_
            rotate_left
            · intro w hSw
              (try dsimp only at hSw)
              go_simp
              all_goals with_reducible rfl
            try simp only [Act.put, List.setIfInBounds_toArray, List.set_cons_zero, List.set_cons_succ]
            refine wpAnyH_take (i := 20) (oi := { dst := some 102, op := Go.Op.nilCheck (Go.Operand.tmp 101), type := 0, pos := "law.go:62", after := #[{ on := 19, ground := Go.Ground.data }, { on := 18, ground := Go.Ground.guard }], guard := some (18, true) }) (v := ?_) rfl (by kernel_rfl) (by kernel_rfl) (by kernel_rfl) (fun _ _ _ h => h) (Or.inl ⟨by rfl, ?_⟩) (by assumption) ?_
            rotate_left
            · intro w hSw
              (try dsimp only at hSw)
              go_simp
              all_goals with_reducible rfl
            try simp only [Act.put, List.setIfInBounds_toArray, List.set_cons_zero, List.set_cons_succ]
            refine wpAnyH_take (i := 21) (oi := { dst := some 103, op := Go.Op.fieldAddr 59 (Go.Operand.tmp 102) 1, type := 0, pos := "law.go:62", after := #[{ on := 20, ground := Go.Ground.data }, { on := 18, ground := Go.Ground.guard }], guard := some (18, true) }) (v := ?_) rfl (by kernel_rfl) (by kernel_rfl) (by kernel_rfl) (fun _ _ _ h => h) (Or.inl ⟨by rfl, ?_⟩) (by assumption) ?_
            rotate_left
            · intro w hSw
              (try dsimp only at hSw)
              go_simp
              all_goals with_reducible rfl
            try simp only [Act.put, List.setIfInBounds_toArray, List.set_cons_zero, List.set_cons_succ]
            refine wpAnyH_take (i := 22) (oi := { dst := some 104, op := Go.Op.fieldAddr 55 (Go.Operand.tmp 103) 4, type := 0, pos := "law.go:62", after := #[{ on := 21, ground := Go.Ground.data }, { on := 18, ground := Go.Ground.guard }], guard := some (18, true) }) (v := ?_) rfl (by kernel_rfl) (by kernel_rfl) (by kernel_rfl) (fun _ _ _ h => h) (Or.inl ⟨by rfl, ?_⟩) (by assumption) ?_
            rotate_left
            · intro w hSw
              (try dsimp only at hSw)
              go_simp
              all_goals with_reducible rfl
            try simp only [Act.put, List.setIfInBounds_toArray, List.set_cons_zero, List.set_cons_succ]
            refine wpAnyH_take (i := 23) (oi := { dst := some 105, op := Go.Op.load 22 (Go.Operand.tmp 104), type := 22, pos := "law.go:62", after := #[{ on := 22, ground := Go.Ground.data }, { on := 18, ground := Go.Ground.guard }], guard := some (18, true) }) (v := ?_) rfl (by kernel_rfl) (by kernel_rfl) (by kernel_rfl) (fun _ _ _ h => h) (Or.inl ⟨by rfl, ?_⟩) (by assumption) ?_
            rotate_left
            · intro w hSw
              have hc := hSw.2.2
              go_simp
              all_goals with_reducible rfl
            try simp only [Act.put, List.setIfInBounds_toArray, List.set_cons_zero, List.set_cons_succ]
            refine wpAnyH_take (i := 24) (oi := { dst := some 106, op := Go.Op.move (Go.Operand.tmp 9), type := 36, pos := "law.go:62", after := #[{ on := 18, ground := Go.Ground.guard }], guard := some (18, true) }) (v := ?_) rfl (by kernel_rfl) (by kernel_rfl) (by kernel_rfl) (fun _ _ _ h => h) (Or.inl ⟨by rfl, ?_⟩) (by assumption) ?_
            rotate_left
            · intro w hSw
              (try dsimp only at hSw)
              go_simp
              all_goals with_reducible rfl
            try simp only [Act.put, List.setIfInBounds_toArray, List.set_cons_zero, List.set_cons_succ]
            refine wpAnyH_take (i := 25) (oi := { dst := some 107, op := Go.Op.nilCheck (Go.Operand.tmp 106), type := 0, pos := "law.go:62", after := #[{ on := 24, ground := Go.Ground.data }, { on := 18, ground := Go.Ground.guard }], guard := some (18, true) }) (v := ?_) rfl (by kernel_rfl) (by kernel_rfl) (by kernel_rfl) (fun _ _ _ h => h) (Or.inl ⟨by rfl, ?_⟩) (by assumption) ?_
            rotate_left
            · intro w hSw
              (try dsimp only at hSw)
              go_simp
              all_goals with_reducible rfl
            try simp only [Act.put, List.setIfInBounds_toArray, List.set_cons_zero, List.set_cons_succ]
            refine wpAnyH_take (i := 26) (oi := { dst := some 108, op := Go.Op.fieldAddr 59 (Go.Operand.tmp 107) 0, type := 0, pos := "law.go:62", after := #[{ on := 25, ground := Go.Ground.data }, { on := 18, ground := Go.Ground.guard }], guard := some (18, true) }) (v := ?_) rfl (by kernel_rfl) (by kernel_rfl) (by kernel_rfl) (fun _ _ _ h => h) (Or.inl ⟨by rfl, ?_⟩) (by assumption) ?_
            rotate_left
            · intro w hSw
              (try dsimp only at hSw)
              go_simp
              all_goals with_reducible rfl
            try simp only [Act.put, List.setIfInBounds_toArray, List.set_cons_zero, List.set_cons_succ]
            refine wpAnyH_take (i := 27) (oi := { dst := some 109, op := Go.Op.indexAddr 53 (Go.Operand.tmp 108) (Go.Operand.const (Go.Value.int Go.IntKind.i64 0)), type := 0, pos := "law.go:62", after := #[{ on := 26, ground := Go.Ground.data }, { on := 18, ground := Go.Ground.guard }], guard := some (18, true) }) (v := ?_) rfl (by kernel_rfl) (by kernel_rfl) (by kernel_rfl) (fun _ _ _ h => h) (Or.inl ⟨by rfl, ?_⟩) (by assumption) ?_
            rotate_left
            · intro w hSw
              (try dsimp only at hSw)
              go_simp
              all_goals with_reducible rfl
            try simp only [Act.put, List.setIfInBounds_toArray, List.set_cons_zero, List.set_cons_succ]
            refine wpAnyH_take (i := 28) (oi := { dst := some 110, op := Go.Op.load 22 (Go.Operand.tmp 109), type := 22, pos := "law.go:62", after := #[{ on := 27, ground := Go.Ground.data }, { on := 18, ground := Go.Ground.guard }], guard := some (18, true) }) (v := ?_) rfl (by kernel_rfl) (by kernel_rfl) (by kernel_rfl) (fun _ _ _ h => h) (Or.inl ⟨by rfl, ?_⟩) (by assumption) ?_
            rotate_left
            · intro w hSw
              have hc := hSw.2.1
              go_simp
              all_goals with_reducible rfl
            try simp only [Act.put, List.setIfInBounds_toArray, List.set_cons_zero, List.set_cons_succ]
            refine wpAnyH_take (i := 29) (oi := { dst := some 111, op := Go.Op.binOp Go.BinOp.neq 22 (Go.Operand.tmp 105) (Go.Operand.tmp 110) 22, type := 4, pos := "law.go:62", after := #[{ on := 23, ground := Go.Ground.data }, { on := 28, ground := Go.Ground.data }, { on := 18, ground := Go.Ground.guard }], guard := some (18, true) }) (v := ?_) rfl (by kernel_rfl) (by kernel_rfl) (by kernel_rfl) (fun _ _ _ h => h) (Or.inl ⟨by rfl, ?_⟩) (by assumption) ?_
            rotate_left
            · intro w hSw
              (try dsimp only at hSw)
              go_simp
              all_goals with_reducible rfl
            try simp only [Act.put, List.setIfInBounds_toArray, List.set_cons_zero, List.set_cons_succ]
            refine wpAnyH_take (i := 30) (oi := { dst := some 112, op := Go.Op.pick (Go.Operand.tmp 100) (Go.Operand.tmp 111) (Go.Operand.const (Go.Value.bool false)), type := 4, pos := "law.go:62", after := #[{ on := 18, ground := Go.Ground.data }, { on := 29, ground := Go.Ground.data }, { on := 11, ground := Go.Ground.guard }], guard := some (11, false) }) (v := ?_) rfl (by kernel_rfl) (by kernel_rfl) (by kernel_rfl) (fun _ _ _ h => h) (Or.inl ⟨by rfl, ?_⟩) (by assumption) ?_
            rotate_left
            · intro w hSw
              (try dsimp only at hSw)
              go_simp
              all_goals with_reducible rfl
            try simp only [Act.put, List.setIfInBounds_toArray, List.set_cons_zero, List.set_cons_succ]
            refine wpAnyH_take (i := 31) (oi := { dst := some 113, op := Go.Op.pick (Go.Operand.tmp 93) (Go.Operand.const (Go.Value.bool true)) (Go.Operand.tmp 112), type := 4, pos := "law.go:62", after := #[{ on := 11, ground := Go.Ground.data }, { on := 30, ground := Go.Ground.data }], guard := none }) (v := ?_) rfl (by kernel_rfl) (by kernel_rfl) (by kernel_rfl) (fun _ _ _ h => h) (Or.inl ⟨by rfl, ?_⟩) (by assumption) ?_
            rotate_left
            · intro w hSw
              (try dsimp only at hSw)
              go_simp
              all_goals with_reducible rfl
            try simp only [Act.put, List.setIfInBounds_toArray, List.set_cons_zero, List.set_cons_succ]
            refine wpAnyH_done (by kernel_rfl) ?_ _
            have HAK5 := Lib.hid hHeld.1
            have hr5 := hHeld.2.1
            clear hHeld hr0 hr1 hc2
            go_wp2_with (at_builtin; obtain ⟨i5, hi, hy0, hy1, hy2⟩ := info_parts info22k; refine wpList_append_own_at _ rfl (.tmp 120) (.tmp 126) 43 rfl w.heap.size 22 i5 (.int .u64 0) 1 8 Tryz.underlying43 hi hy0 hy1 hy2 rfl (by decide) (.slice A7 L.length c7) L.length (u64s L) rfl (own_keep HAK4.out.ho (((Keep.refl [] _).alloc _).drew) (by simp)) ⟨_, 0, none⟩ 1 1 [.int .u64 (v0 : Nat)] rfl rfl (World.news_of_block (heap_alloc_new _ _)) (by simp [Value.oneCell']) (by have := HLL.out; unfold maxLen; omega) (by have := HLL.out; omega) (Nat.le_trans HAK4.out.hm.hk.size (((Keep.refl [] _).alloc _).drew).size) ?_; clear hi hy0 hy1 hy2; intro v4 w4 hown hg hnil hat; have HAD := Lib.hid (HAK4.out.add (((Keep.refl [] _).alloc _).drew) hg hown hat); clear hown hg hnil hat)
            go_roundg (ps.length - (j + 1))
            case measure => omega
            case rel => exact ⟨j + 1, K1, nn + 1, L ++ [v0], i3, s3, by have := HNN.out; omega, rfl, by go_num, by have := HNN.out; omega, HCR3.out, HTD2.out, HAD.out⟩
    · have hzj : ¬ ((j : Nat) : Int) < ((ps.length : Nat) : Int) := by omega
      have HN6 : Hid (nn ≤ 600) := Lib.hid (by have := HNN.out; have := HPL.out; omega)
      have HT6 : Hid (1 ≤ c.thr.toNat ∧ c.thr.toNat ≤ 6 ∧ c.thr = ((c.thr.toNat : Nat) : Int)) := Lib.hid (by have := HO.out.t1; have := HO.out.t2; omega)
      clear hlt
      go_upto_region 24 with fail
      generalize hT : c.thr.toNat = T at HT6
      have HTT := Lib.hid hT
      clear hT hzj
      go_wp2_with fail
      go_loopg [7, 13] T (fun g v7 v13 wr2 => ∃ (t K nn : Nat) (L : List Nat) (i : MI) (s : MS), t ≤ T ∧ g = T - t ∧ v13 = .int .i64 (t : Nat) ∧ nn ≤ 600 + 20 * t ∧ CrK c s K nn ∧ Told L K ∧ AllK w m0 wr2 i s cb c v7 L)
      case atStart => exact ⟨0, K, nn, L, i, s, Nat.zero_le _, rfl, rfl, by have := HN6.out; omega, HCR.out, HTD.out, HAK.out⟩
      case round =>
        clear HCR HTD HAK HN6 HNN HA
        obtain ⟨t, K, nn, L, i, s, ht, rfl, rfl, hnn, hcr, htd, hak⟩ := hrel
        have HCR := Lib.hid hcr
        have HTD := Lib.hid htd
        have HAK := Lib.hid hak
        have HNN : Hid (nn ≤ 600 + 20 * t ∧ t ≤ T) := Lib.hid ⟨hnn, ht⟩
        obtain ⟨A7, c7, rfl⟩ := own_frm hak.ho
        have hz0 : (0 : Int) ≤ ((t : Nat) : Int) := by omega
        have hz9 : ((t : Nat) : Int) ≤ 6 := by have := HT6.out; omega
        have hc0 := hak.c0
        rw [HT6.out.2.2] at hc0
        clear hcr htd hak hnn
        by_cases hlt : t < T
        · have hzt : ((t : Nat) : Int) < ((T : Nat) : Int) := by omega
          have hkl : t < s.ths.length := by
            rw [HCR.out.thl, HTT.out]
            exact hlt
          obtain ⟨th, hth⟩ : ∃ th, s.ths[t]? = some th := ⟨_, List.getElem?_eq_getElem hkl⟩
          obtain ⟨ti, hti⟩ := HAK.out.hm.hm.thAt hth
          have HTH := Lib.hid hth
          have HTI := Lib.hid hti
          have HLT : Hid (t < T) := Lib.hid hlt
          have KT := m_thread HAK.out.hm.hm t ti hti
          rw [HAK.out.hm.im] at KT
          have KD := m_depth HAK.out.hm.hm hti hth
          clear hkl hth hti hlt
          go_wp2_with fail
          refine KT.mono ?_
          rintro r y ⟨rfl, rfl⟩
          rcases HCR.out.th t th HTH.out with hf | ⟨f, hf, hfr⟩
          · rw [hf] at KD
            clear hf KT
            go_wp2_with fail
            refine KD.mono ?_
            clear KD
            rintro r y ⟨rfl, rfl⟩
            go_wp2_with fail
            go_roundg (T - (t + 1))
            case measure => have := HLT.out; omega
            case rel => exact ⟨t + 1, K, nn, L, i, s, by have := HLT.out; omega, rfl, by go_num, by have := HNN.out; omega, HCR.out, HTD.out, HAK.out⟩
          · have HF := Lib.hid hf
            rw [hf] at KD
            clear hf hfr KT
            go_wp2_with fail
            refine KD.mono ?_
            clear KD
            rintro r y ⟨rfl, rfl⟩
            go_wp2_with fail
            go_loopg [15] 4 (fun g v15 wr3 => ∃ (q K2 : Nat) (i2 : MI) (s2 : MS) (th2 : ThS) (ti2 : ThI), q ≤ 3 ∧ g = 4 - q ∧ v15 = .int .i64 (q : Nat) ∧ CrK c s2 K2 (nn + q) ∧ AllK w m0 wr3 i2 s2 cb c (.slice A7 L.length c7) L ∧ s2.ths[t]? = some th2 ∧ i2.tis[t]? = some ti2 ∧ ti2.tb = ti.tb ∧ FinK c K K2 th2 q)
            case atStart => exact ⟨0, K, i, s, th, ti, by omega, rfl, rfl, HCR.out, HAK.out, HTH.out, HTI.out, rfl, .run _ HF.out rfl (by have := rankT_le K th; omega)⟩
            case round =>
              obtain ⟨q, K2, i2, s2, th2, ti2, hq, rfl, rfl, hcr2, hak2, hth2, hti2, htb2, hfin⟩ := hrel
              have HCR2 := Lib.hid hcr2
              have HAK2 := Lib.hid hak2
              have HTH2 := Lib.hid hth2
              have HTI2 := Lib.hid hti2
              have HTB2 := Lib.hid htb2
              have HFIN := Lib.hid hfin
              have hzq0 : (0 : Int) ≤ ((q : Nat) : Int) := by omega
              have hzq : ((q : Nat) : Int) < 20 := by omega
              have KD := m_depth hak2.hm.hm hti2 hth2
              rw [htb2] at KD
              clear hcr2 hak2 hth2 hti2 htb2 hfin HCR HAK HTH HTI
              by_cases hrun : ∃ f, th2.frs = [f]
              · obtain ⟨f2, hf2⟩ := hrun
                rw [hf2] at KD
                have HF2 := Lib.hid hf2
                clear hf2
                go_wp2_with fail
                refine KD.mono ?_
                clear KD
                rintro r y ⟨rfl, rfl⟩
                obtain ⟨rfl, hrk⟩ : K2 = K ∧ q + rankT K th2 ≤ 3 := by
                  cases HFIN.out with
                  | run f h1 h2 h3 => exact ⟨h2, h3⟩
                  | none h1 => rw [HF2.out] at h1; cases h1
                  | told h1 => rw [HF2.out] at h1; cases h1
                obtain ⟨hok, hroom, t3, hth3, hout⟩ := ck_step HCR2.out (by have := HNN.out; have := HT6.out; omega) HTH2.out HF2.out
                have hp1 : 0 < th2.frs.length := by rw [HF2.out]; exact Nat.succ_pos _
                have KS := core_step_at (clock_do.at_ t) enter_clock _ i2 s2 HAK2.out.hm.hm trivial ti2 th2 HTI2.out HTH2.out hp1 hok hroom
                rw [HAK2.out.hm.im] at KS
                unfold fnV at KS
                have HKS := Lib.hid KS
                have HTH3 := Lib.hid hth3
                have HOUT := Lib.hid hout
                have HRK := Lib.hid hrk
                have HRP := Lib.hid (rankT_pos (K := K2) HF2.out)
                clear KS hth3 hout hok hroom hp1 hrk HFIN
                go_wp2_with fail
                refine HKS.out.mono ?_
                clear HKS
                rintro r y3 ⟨rfl, i3, hm3, hg3⟩
                have HAK3 := Lib.hid (HAK2.out.go hm3 hg3)
                obtain ⟨ti3, hti3, htb3⟩ := hg3.tb HTI2.out
                have HTI3 := Lib.hid hti3
                have HTB3 : Hid (ti3.tb = ti.tb) := Lib.hid (htb3.trans HTB2.out)
                clear hm3 hg3 hti3 htb3
                go_wp2_with fail
                go_roundg (4 - (q + 1))
                case measure => have := HRK.out; have := HRP.out; omega
                case rel =>
                  cases HOUT.out with
                  | on hl h3 hfr hrk => exact ⟨q + 1, K2, i3, _, t3, ti3, by have := HRK.out; have := HRP.out; omega, rfl, by go_num, h3, HAK3.out, HTH3.out, HTI3.out, HTB3.out, .run _ hfr.choose_spec rfl (by have := HRK.out; omega)⟩
                  | none hl h3 hfr h0 hst => exact ⟨q + 1, K2, i3, _, t3, ti3, by have := HRK.out; have := HRP.out; omega, rfl, by go_num, h3, HAK3.out, HTH3.out, HTI3.out, HTB3.out, .none hfr rfl h0 hst (by have := HRK.out; have := HRP.out; omega)⟩
                  | told hl h3 hfr h0 hv => exact ⟨q + 1, K2 + 1, i3, _, t3, ti3, by have := HRK.out; have := HRP.out; omega, rfl, by go_num, h3, HAK3.out, HTH3.out, HTI3.out, HTB3.out, .told hfr rfl h0 (by have := HRK.out; have := HRP.out; omega)⟩
              · have hf0 : th2.frs = [] := by
                  cases HFIN.out with
                  | run f h1 => exact absurd ⟨f, h1⟩ hrun
                  | none h1 => exact h1
                  | told h1 => exact h1
                have HF0 := Lib.hid hf0
                rw [hf0] at KD
                have HRET : Hid (∀ W, AllK w m0 W i2 s2 cb c (.slice A7 L.length c7) L → W.cell? ⟨ti.tb, 0, none⟩ = some (.int .u64 (th2.ret.getD 0 0 : Nat))) := Lib.hid (fun W hW => by
                  have h1 := m_retAt hW.hm.hm HTI2.out HTH2.out (j := 0) (by decide)
                  rw [HTB2.out] at h1
                  exact h1)
                clear hrun hf0
                go_wp2_with fail
                refine KD.mono ?_
                clear KD
                rintro r y ⟨rfl, rfl⟩
                obtain ⟨v0, HV0⟩ : ∃ v0 : Nat, Hid (th2.ret.getD 0 0 = v0) := ⟨_, Lib.hid rfl⟩
                rw [HV0.out] at HRET
                have HLL : Hid (L.length ≤ 800) := Lib.hid (by have := HTD.out.len; have := HCR2.out.kn; have := HNN.out; have := HT6.out; have := HCR2.out.k1; cases HFIN.out with
                  | run f h1 => rw [HF0.out] at h1; cases h1
                  | none h1 h2 => omega
                  | told h1 h2 => omega)
                have HFR : Hid (freshB L v0 K2 c.stamps = true) := Lib.hid (by
                  rw [← HV0.out]
                  cases HFIN.out with
                  | run f h1 => rw [HF0.out] at h1; cases h1
                  | none h1 h2 h3 h4 => rw [h2, h3]; exact fresh_none h4
                  | told h1 h2 h3 => rw [h2, h3]; exact HTD.out.fresh)
                have KD2 := Lib.hid (fun (W : World) (hW : AllK w m0 W i2 s2 cb c (.slice A7 L.length c7) L) => m_depth hW.hm.hm HTI2.out HTH2.out)
                rw [HTB2.out] at KD2
                rw [HF0.out] at KD2
                go_upto_region 33 with fail
                refine wp_region_held_drew (S := (fun w' => AllK w m0 w' i2 s2 cb c (.slice A7 L.length c7) L ∧ w'.cell? ⟨ti.tb, 0, none⟩ = some (.int .u64 (v0 : Nat)))) (by kernel_rfl) ⟨HAK2.out.keep0 (Keep.refl _ _).drew, HRET.out _ (HAK2.out.keep0 (Keep.refl _ _).drew)⟩ (fun hHeld => ?_)
                refine wpAnyH_take (i := 0) (oi := { dst := some 152, op := Go.Op.move (Go.Operand.tmp 14), type := 36, pos := "law.go:77", after := #[], guard := none }) (v := ?_) rfl (by kernel_rfl) (by kernel_rfl) (by kernel_rfl) (fun _ _ _ h => h) (Or.inl ⟨by rfl, ?_⟩) (by assumption) ?_
                rotate_left
                · intro w hSw
                  (try dsimp only at hSw)
                  go_simp
                  all_goals with_reducible rfl
                try simp only [Act.put, List.setIfInBounds_toArray, List.set_cons_zero, List.set_cons_succ]
                refine wpAnyH_ready (rs := [1]) (by kernel_rfl) (by simp) ?_
                refine AllReadyH.cons (o := { dst := some 153, op := Go.Op.call { callee := Go.Callee.value (Go.Operand.func 14), args := #[Go.Operand.tmp 152], argTypes := #[36] }, type := 3, pos := "law.go:77", after := #[{ on := 0, ground := Go.Ground.data }], guard := none }) rfl (fun K hK => ?_) AllReadyH.nil
                go_simp
                refine (KD2.out _ hHeld.1).mono ?_
                rintro r z ⟨rfl, rfl⟩
                try simp only []
                refine hK.out _ _ hHeld (fun hHeld => ?_)
                clear hK K
                try simp only [Act.put, List.setIfInBounds_toArray, List.set_cons_zero, List.set_cons_succ]
                refine wpAnyH_take (i := 2) (oi := { dst := some 154, op := Go.Op.binOp Go.BinOp.gtr 3 (Go.Operand.tmp 153) (Go.Operand.const (Go.Value.int Go.IntKind.i64 0)) 3, type := 4, pos := "law.go:77", after := #[{ on := 1, ground := Go.Ground.data }], guard := none }) (v := ?_) rfl (by kernel_rfl) (by kernel_rfl) (by kernel_rfl) (fun _ _ _ h => h) (Or.inl ⟨by rfl, ?_⟩) (by assumption) ?_
                rotate_left
                · intro w hSw
                  (try dsimp only at hSw)
                  go_simp
                  all_goals with_reducible rfl
                try simp only [Act.put, List.setIfInBounds_toArray, List.set_cons_zero, List.set_cons_succ]
                refine wpAnyH_take (i := 3) (oi := { dst := some 155, op := Go.Op.move (Go.Operand.tmp 154), type := 4, pos := "law.go:77", after := #[{ on := 2, ground := Go.Ground.data }, { on := 1, ground := Go.Ground.chain }], guard := none }) (v := ?_) rfl (by kernel_rfl) (by kernel_rfl) (by kernel_rfl) (fun _ _ _ h => h) (Or.inl ⟨by rfl, ?_⟩) (by assumption) ?_
                rotate_left
                · intro w hSw
                  (try dsimp only at hSw)
                  go_simp
                  all_goals with_reducible rfl
                try simp only [Act.put, List.setIfInBounds_toArray, List.set_cons_zero, List.set_cons_succ]
                refine wpAnyH_take (i := 4) (oi := { dst := some 156, op := Go.Op.move (Go.Operand.tmp 7), type := 43, pos := "law.go:77", after := #[{ on := 3, ground := Go.Ground.guard }], guard := some (3, false) }) (v := ?_) rfl (by kernel_rfl) (by kernel_rfl) (by kernel_rfl) (fun _ _ _ h => h) (Or.inl ⟨by rfl, ?_⟩) (by assumption) ?_
                rotate_left
                · intro w hSw
                  (try dsimp only at hSw)
                  go_simp
                  all_goals with_reducible rfl
                try simp only [Act.put, List.setIfInBounds_toArray, List.set_cons_zero, List.set_cons_succ]
                refine wpAnyH_take (i := 5) (oi := { dst := some 157, op := Go.Op.move (Go.Operand.tmp 14), type := 36, pos := "law.go:77", after := #[{ on := 3, ground := Go.Ground.guard }], guard := some (3, false) }) (v := ?_) rfl (by kernel_rfl) (by kernel_rfl) (by kernel_rfl) (fun _ _ _ h => h) (Or.inl ⟨by rfl, ?_⟩) (by assumption) ?_
                rotate_left
                · intro w hSw
                  (try dsimp only at hSw)
                  go_simp
                  all_goals with_reducible rfl
                try simp only [Act.put, List.setIfInBounds_toArray, List.set_cons_zero, List.set_cons_succ]
                refine wpAnyH_take (i := 6) (oi := { dst := some 158, op := Go.Op.nilCheck (Go.Operand.tmp 157), type := 0, pos := "law.go:77", after := #[{ on := 5, ground := Go.Ground.data }, { on := 3, ground := Go.Ground.guard }], guard := some (3, false) }) (v := ?_) rfl (by kernel_rfl) (by kernel_rfl) (by kernel_rfl) (fun _ _ _ h => h) (Or.inl ⟨by rfl, ?_⟩) (by assumption) ?_
                rotate_left
                · intro w hSw
                  (try dsimp only at hSw)
                  go_simp
                  all_goals with_reducible rfl
                try simp only [Act.put, List.setIfInBounds_toArray, List.set_cons_zero, List.set_cons_succ]
                refine wpAnyH_take (i := 7) (oi := { dst := some 159, op := Go.Op.fieldAddr 59 (Go.Operand.tmp 158) 0, type := 0, pos := "law.go:77", after := #[{ on := 6, ground := Go.Ground.data }, { on := 3, ground := Go.Ground.guard }], guard := some (3, false) }) (v := ?_) rfl (by kernel_rfl) (by kernel_rfl) (by kernel_rfl) (fun _ _ _ h => h) (Or.inl ⟨by rfl, ?_⟩) (by assumption) ?_
                rotate_left
                · intro w hSw
                  (try dsimp only at hSw)
                  go_simp
                  all_goals with_reducible rfl
                try simp only [Act.put, List.setIfInBounds_toArray, List.set_cons_zero, List.set_cons_succ]
                refine wpAnyH_take (i := 8) (oi := { dst := some 160, op := Go.Op.indexAddr 53 (Go.Operand.tmp 159) (Go.Operand.const (Go.Value.int Go.IntKind.i64 0)), type := 0, pos := "law.go:77", after := #[{ on := 7, ground := Go.Ground.data }, { on := 3, ground := Go.Ground.guard }], guard := some (3, false) }) (v := ?_) rfl (by kernel_rfl) (by kernel_rfl) (by kernel_rfl) (fun _ _ _ h => h) (Or.inl ⟨by rfl, ?_⟩) (by assumption) ?_
                rotate_left
                · intro w hSw
                  (try dsimp only at hSw)
                  go_simp
                  all_goals with_reducible rfl
                try simp only [Act.put, List.setIfInBounds_toArray, List.set_cons_zero, List.set_cons_succ]
                refine wpAnyH_take (i := 9) (oi := { dst := some 161, op := Go.Op.load 22 (Go.Operand.tmp 160), type := 22, pos := "law.go:77", after := #[{ on := 8, ground := Go.Ground.data }, { on := 3, ground := Go.Ground.guard }], guard := some (3, false) }) (v := ?_) rfl (by kernel_rfl) (by kernel_rfl) (by kernel_rfl) (fun _ _ _ h => h) (Or.inl ⟨by rfl, ?_⟩) (by assumption) ?_
                rotate_left
                · intro w hSw
                  have hc := hSw.2
                  go_simp
                  all_goals with_reducible rfl
                try simp only [Act.put, List.setIfInBounds_toArray, List.set_cons_zero, List.set_cons_succ]
                refine wpAnyH_take (i := 10) (oi := { dst := some 162, op := Go.Op.move (Go.Operand.tmp 5), type := 28, pos := "law.go:77", after := #[{ on := 3, ground := Go.Ground.guard }], guard := some (3, false) }) (v := ?_) rfl (by kernel_rfl) (by kernel_rfl) (by kernel_rfl) (fun _ _ _ h => h) (Or.inl ⟨by rfl, ?_⟩) (by assumption) ?_
                rotate_left
                · intro w hSw
                  (try dsimp only at hSw)
                  go_simp
                  all_goals with_reducible rfl
                try simp only [Act.put, List.setIfInBounds_toArray, List.set_cons_zero, List.set_cons_succ]
                refine wpAnyH_take (i := 14) (oi := { dst := some 166, op := Go.Op.fieldAddr 24 (Go.Operand.tmp 2) 2, type := 0, pos := "law.go:77", after := #[{ on := 3, ground := Go.Ground.guard }], guard := some (3, false) }) (v := ?_) rfl (by kernel_rfl) (by kernel_rfl) (by kernel_rfl) (fun _ _ _ h => h) (Or.inl ⟨by rfl, ?_⟩) (by assumption) ?_
                rotate_left
                · intro w hSw
                  (try dsimp only at hSw)
                  go_simp
                  all_goals with_reducible rfl
                try simp only [Act.put, List.setIfInBounds_toArray, List.set_cons_zero, List.set_cons_succ]
                refine wpAnyH_take (i := 15) (oi := { dst := some 167, op := Go.Op.load 22 (Go.Operand.tmp 166), type := 22, pos := "law.go:77", after := #[{ on := 14, ground := Go.Ground.data }, { on := 3, ground := Go.Ground.guard }], guard := some (3, false) }) (v := ?_) rfl (by kernel_rfl) (by kernel_rfl) (by kernel_rfl) (fun _ _ _ h => h) (Or.inl ⟨by rfl, ?_⟩) (by assumption) ?_
                rotate_left
                · intro w hSw
                  have hc := hSw.1.c2
                  go_simp
                  all_goals with_reducible rfl
                try simp only [Act.put, List.setIfInBounds_toArray, List.set_cons_zero, List.set_cons_succ]
                refine wpAnyH_ready (rs := [11]) (by kernel_rfl) (by simp) ?_
                refine AllReadyH.cons (o := { dst := some 163, op := Go.Op.call { callee := Go.Callee.value (Go.Operand.func 12), args := #[Go.Operand.tmp 162], argTypes := #[28] }, type := 38, pos := "law.go:77", after := #[{ on := 10, ground := Go.Ground.data }, { on := 3, ground := Go.Ground.chain }, { on := 3, ground := Go.Ground.guard }], guard := some (3, false) }) rfl (fun K hK => ?_) AllReadyH.nil
                go_simp
                have KM := m_mem hHeld.1.hm.hm
                rw [hHeld.1.hm.im] at KM
                refine KM.mono ?_
                rintro r z ⟨rfl, rfl⟩
                try simp only []
                refine hK.out _ _ hHeld (fun hHeld => ?_)
                clear hK K
                try simp only [Act.put, List.setIfInBounds_toArray, List.set_cons_zero, List.set_cons_succ]
                refine wpAnyH_ready (rs := [12]) (by kernel_rfl) (by simp) ?_
                refine AllReadyH.cons (o := { dst := some 164, op := Go.Op.call { callee := Go.Callee.value (Go.Operand.func 31), args := #[Go.Operand.tmp 163], argTypes := #[38] }, type := 43, pos := "law.go:77", after := #[{ on := 11, ground := Go.Ground.data }, { on := 11, ground := Go.Ground.chain }, { on := 3, ground := Go.Ground.guard }], guard := some (3, false) }) rfl (fun K hK => ?_) AllReadyH.nil
                go_simp
                refine (m_words hHeld.1.hm.hm (by have := HCR2.out.w3; omega)).mono ?_
                rintro r z ⟨gw, cw, xw, rfl, hbw, _, hkw⟩
                have HBW := Lib.hid hbw
                try simp only []
                refine hK.out _ _ ⟨hHeld.1.keep0 hkw, HRET.out _ (hHeld.1.keep0 hkw)⟩ (fun hHeld => ?_)
                clear hK K
                try simp only [Act.put, List.setIfInBounds_toArray, List.set_cons_zero, List.set_cons_succ]
                refine wpAnyH_ready (rs := [13]) (by kernel_rfl) (by simp) ?_
                refine AllReadyH.cons (o := { dst := some 165, op := Go.Op.call { callee := Go.Callee.value (Go.Operand.func 40), args := #[Go.Operand.tmp 164], argTypes := #[43] }, type := 22, pos := "law.go:77", after := #[{ on := 12, ground := Go.Ground.data }, { on := 12, ground := Go.Ground.chain }, { on := 3, ground := Go.Ground.guard }], guard := some (3, false) }) rfl (fun K hK => ?_) AllReadyH.nil
                go_simp
                have KC := ref25_clock _ gw cw _ xw HBW.out (by have := HCR2.out.w3; omega) (HAK2.out.hm.hm.hMem.len)
                rw [HCR2.out.ck] at KC
                refine KC.mono ?_
                rintro r z ⟨rfl, rfl⟩
                try simp only []
                refine hK.out _ _ hHeld (fun hHeld => ?_)
                clear hK K
                try simp only [Act.put, List.setIfInBounds_toArray, List.set_cons_zero, List.set_cons_succ]
                refine wpAnyH_ready (rs := [16]) (by kernel_rfl) (by simp) ?_
                refine AllReadyH.cons (o := { dst := some 168, op := Go.Op.call { callee := Go.Callee.value (Go.Operand.func 42), args := #[Go.Operand.tmp 156, Go.Operand.tmp 161, Go.Operand.tmp 165, Go.Operand.tmp 167], argTypes := #[43, 22, 22, 22] }, type := 4, pos := "law.go:77", after := #[{ on := 4, ground := Go.Ground.data }, { on := 9, ground := Go.Ground.data }, { on := 13, ground := Go.Ground.data }, { on := 15, ground := Go.Ground.data }, { on := 13, ground := Go.Ground.chain }, { on := 3, ground := Go.Ground.guard }], guard := some (3, false) }) rfl (fun K hK => ?_) AllReadyH.nil
                go_simp
                refine (law25_fresh _ _ A7 c7 L _ _ c.stamps hHeld.1.ho (by have := HLL.out; omega)).mono ?_
                rw [HFR.out]
                rintro r z ⟨rfl, rfl⟩
                try simp only []
                refine hK.out _ _ hHeld (fun hHeld => ?_)
                clear hK K
                try simp only [Act.put, List.setIfInBounds_toArray, List.set_cons_zero, List.set_cons_succ]
                refine wpAnyH_take (i := 17) (oi := { dst := some 169, op := Go.Op.unOp Go.UnOp.not 4 (Go.Operand.tmp 168), type := 4, pos := "law.go:77", after := #[{ on := 16, ground := Go.Ground.data }, { on := 3, ground := Go.Ground.guard }], guard := some (3, false) }) (v := ?_) rfl (by kernel_rfl) (by kernel_rfl) (by kernel_rfl) (fun _ _ _ h => h) (Or.inl ⟨by rfl, ?_⟩) (by assumption) ?_
                rotate_left
                · intro w hSw
                  (try dsimp only at hSw)
                  go_simp
                  all_goals with_reducible rfl
                try simp only [Act.put, List.setIfInBounds_toArray, List.set_cons_zero, List.set_cons_succ]
                refine wpAnyH_take (i := 18) (oi := { dst := some 170, op := Go.Op.pick (Go.Operand.tmp 155) (Go.Operand.const (Go.Value.bool true)) (Go.Operand.tmp 169), type := 4, pos := "law.go:77", after := #[{ on := 3, ground := Go.Ground.data }, { on := 17, ground := Go.Ground.data }], guard := none }) (v := ?_) rfl (by kernel_rfl) (by kernel_rfl) (by kernel_rfl) (fun _ _ _ h => h) (Or.inl ⟨by rfl, ?_⟩) (by assumption) ?_
                rotate_left
                · intro w hSw
                  (try dsimp only at hSw)
                  go_simp
                  all_goals with_reducible rfl
                try simp only [Act.put, List.setIfInBounds_toArray, List.set_cons_zero, List.set_cons_succ]
                refine wpAnyH_done (by kernel_rfl) ?_ _
                have HAK5 := Lib.hid hHeld.1
                have hr5 := hHeld.2
                clear hHeld KD2 HRET
                have HLT2 : Hid (nn + 3 ≤ 600 + 20 * (t + 1) ∧ t + 1 ≤ T) := Lib.hid (by have := HNN.out; have := HLT.out; omega)
                have HNQ : Hid (nn + q ≤ 600 + 20 * (t + 1)) := Lib.hid (by have := HLT2.out; omega)
                rcases (by
                  rw [← HV0.out]
                  cases HFIN.out with
                  | run f h1 => rw [HF0.out] at h1; cases h1
                  | none h1 h2 h3 h4 => exact .inl ⟨h3, by rw [h2]; exact HTD.out⟩
                  | told h1 h2 h3 => exact .inr ⟨by rw [h3]; have := HTD.out.len; omega, by rw [h2, h3]; exact HTD.out.add⟩ : (v0 = 0 ∧ Told L K2) ∨ (v0 ≠ 0 ∧ Told (L ++ [v0]) K2)) with ⟨hv0, htd⟩ | ⟨hv0, htd⟩
                · have hvb : (((v0 : Nat) : Int) != 0) = false := by rw [hv0]; rfl
                  have HTD2 := Lib.hid htd
                  clear hv0 htd HTD HFIN HV0
                  go_wp2_with fail
                  go_roundg (T - (t + 1))
                  case measure => have := HLT.out; omega
                  case rel => exact ⟨t + 1, K2, nn + q, L, i2, s2, HLT2.out.2, rfl, by go_num, HNQ.out, HCR2.out, HTD2.out, HAK5.out⟩
                · have hvb : (((v0 : Nat) : Int) != 0) = true := by rw [bne_iff_ne]; omega
                  have HTD2 := Lib.hid htd
                  clear hv0 htd HTD HFIN HV0
                  go_wp2_with (at_builtin; obtain ⟨i5, hi, hy0, hy1, hy2⟩ := info_parts info22k; refine wpList_append_own_at _ rfl (.tmp 177) (.tmp 183) 43 rfl w.heap.size 22 i5 (.int .u64 0) 1 8 Tryz.underlying43 hi hy0 hy1 hy2 rfl (by decide) (.slice A7 L.length c7) L.length (u64s L) rfl (own_keep (S := []) HAK5.out.ho ((Keep.refl [] _).alloc _) (by simp)) ⟨_, 0, none⟩ 1 1 [.int .u64 (v0 : Nat)] rfl rfl (World.news_of_block (heap_alloc_new _ _)) (by simp [Value.oneCell']) (by have := HLL.out; unfold maxLen; omega) (by have := HLL.out; omega) (Nat.le_trans HAK5.out.hm.hk.size ((Keep.refl [] _).alloc _).size) ?_; clear hi hy0 hy1 hy2; intro v4 w4 hown hg hnil hat; have HAD := Lib.hid (HAK5.out.add ((Keep.refl [] _).alloc _) hg hown hat); clear hown hg hnil hat)
                  go_roundg (T - (t + 1))
                  case measure => have := HLT.out; omega
                  case rel => exact ⟨t + 1, K2, nn + q, L ++ [v0], i2, s2, HLT2.out.2, rfl, by go_num, HNQ.out, HCR2.out, HTD2.out, HAD.out⟩
        · have hzt : ¬ ((t : Nat) : Int) < ((T : Nat) : Int) := by omega
          clear hlt
          have hlk := HTD.out.len
          have hle : L.length ≤ 1000 := by have := HCR.out.kn; have := HNN.out; have := HT6.out; omega
          have hw1 : IntKind.u64.wrap ((L.length : Nat) : Int) = ((L.length : Nat) : Int) := by
            rw [show IntKind.u64.wrap ((L.length : Nat) : Int) = ((L.length : Nat) : Int) % 18446744073709551616 from rfl]
            omega
          have hw2 : IntKind.u64.wrap (((L.length : Nat) : Int) + 1) = ((K : Nat) : Int) := by
            rw [show IntKind.u64.wrap (((L.length : Nat) : Int) + 1) = (((L.length : Nat) : Int) + 1) % 18446744073709551616 from rfl]
            omega
          have hkk : (((K : Nat) : Int) == ((K : Nat) : Int)) = true := by simp
          clear hlk hle
          have KM := m_mem HAK.out.hm.hm
          rw [HAK.out.hm.im] at KM
          go_wp2_with fail
          refine KM.mono ?_
          clear KM
          rintro r y ⟨rfl, rfl⟩
          have KW := m_words HAK.out.hm.hm (by have := HCR.out.w3; omega)
          go_wp2_with fail
          refine KW.mono ?_
          clear KW
          rintro r y ⟨gw, cw, xw, rfl, hbw, _, hkw⟩
          have KC := ref25_clock y gw cw _ xw hbw (by have := HCR.out.w3; omega) (HAK.out.hm.hm.hMem.len)
          rw [HCR.out.ck] at KC
          have HAK4 := Lib.hid (HAK.out.keep0 hkw)
          have HKY := Lib.hid hkw
          clear hkw hbw
          go_wp2_with fail
          refine KC.mono ?_
          clear KC
          rintro r y2 ⟨rfl, rfl⟩
          have KF := m_fault HAK4.out.hm.hm
          rw [HCR.out.f1, HCR.out.f2, HCR.out.slips, HAK4.out.hm.im] at KF
          go_wp2_with fail
          refine KF.mono ?_
          clear KF
          rintro r z ⟨rfl, rfl⟩
          go_wp2_with fail
          refine (lives25 _).mono ?_
          rintro r z ⟨rfl, hk⟩
          have HKz := Lib.hid (HAK4.out.hm.hk.trans hk (by simp))
          clear hk
          go_wp2_with fail
          go_ret
          exact ⟨rfl, HKz.out⟩
end Go.Proofs.YtoghcikfkkmfkaaGreat
