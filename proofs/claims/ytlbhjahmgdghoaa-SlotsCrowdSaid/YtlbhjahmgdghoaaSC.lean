/- SlotsCrowd's walk. No condition. -/
import Derived.Test.YtlbhjahmgdghoaaSc5
import Derived.Test.YtlbhjahmgdghoaaLast
namespace Go.Proofs.Ytlbhjahmgdghoaa
open Go.RowKit

theorem may_ok {c : ConfS} (h : c.Ok) : c.may = true := by
  unfold ConfS.may
  simp [h.t1, h.t2, h.s1, h.s2, h.p1, h.p2]
theorem ok_may {c : ConfS} (h : c.may = true) : c.Ok := by
  unfold ConfS.may at h
  simp only [Bool.and_eq_true, decide_eq_true_eq] at h
  exact ⟨h.1.1.1.1.1, h.1.1.1.1.2, h.1.1.1.2, h.1.1.2, h.1.2, h.2⟩
theorem u64s_snoc (l : List Nat) (x : Nat) : u64s (l ++ [x]) = u64s l ++ [.int .u64 (x : Nat)] := by simp [u64s]
set_option maxRecDepth 100000 in
set_option maxHeartbeats 1000000 in
theorem crowd_no (c : ConfS) (A : Option Addr) (n cap : Nat) (w : World) (h : c.may = false ∨ 600 < n) : Calls Try.prog 5 #[.agg c.cells, .slice A n cap] w (TrueOut w) := by
  have HM := Lib.hid (fun w => ref05_may c w)
  have HB := Lib.hid (Blk.new w 24 c.cells)
  have HK := Lib.hid ((Keep.refl [] w).alloc (.cells c.cells 24))
  have HH := Lib.hid h
  have hcs : c.cells = #[.int .i64 c.thr, .int .i64 c.slots, .int .u64 c.stamps] := rfl
  rw [hcs] at HM HK HB ⊢
  clear hcs h
  go_enter Try.func5, Try.ntmps5
  go_upto_region 1 with fail
  generalize hcb : w.heap.size = cb at HB ⊢
  generalize w.alloc (.cells #[.int .i64 c.thr, .int .i64 c.slots, .int .u64 c.stamps] 24) = w1 at HB HK ⊢
  have hl0 : w1.cell? ⟨cb, 0, none⟩ = some (.int .i64 c.thr) := HB.out.cell 0
  have hl1 : w1.cell? ⟨cb, 1, none⟩ = some (.int .i64 c.slots) := HB.out.cell 1
  have hl2 : w1.cell? ⟨cb, 2, none⟩ = some (.int .u64 c.stamps) := HB.out.cell 2
  go_wp2_with fail
  refine (HM.out _).mono ?_
  rintro r x ⟨rfl, hk⟩
  have HK2 := Lib.hid (HK.out.trans hk (by simp))
  clear hk
  generalize hm : c.may = b at HH ⊢
  cases b with
  | false =>
    go_wp2_with fail
    refine (lives17 _).mono ?_
    rintro r y ⟨rfl, hk⟩
    have HK3 := Lib.hid (HK2.out.trans hk (by simp))
    clear hk
    go_wp2_with fail
    go_ret
    exact ⟨rfl, HK3.out⟩
  | true =>
    have hz : (600 : Int) < (n : Int) := by
      rcases HH.out with h | h
      · cases h
      · omega
    go_wp2_with fail
    refine (lives17 _).mono ?_
    rintro r y ⟨rfl, hk⟩
    have HK3 := Lib.hid (HK2.out.trans hk (by simp))
    clear hk
    go_wp2_with fail
    go_ret
    exact ⟨rfl, HK3.out⟩
set_option maxRecDepth 100000 in
set_option maxHeartbeats 40000000 in
theorem crowd_yes (c : ConfS) (A : Option Addr) (ds : List (Int × Int)) (cap : Nat) (w : World) (ho : c.Ok) (hn : ds.length ≤ 600) (hA : PairsAt w A ds) :
    Calls Try.prog 5 #[.agg c.cells, .slice A ds.length cap] w (TrueOut w) := by
  have HM := Lib.hid (fun w => ref05_may c w)
  have HN := Lib.hid (fun w => core_new c w ho)
  have HB := Lib.hid (Blk.new w 24 c.cells)
  have HK := Lib.hid ((Keep.refl [] w).alloc (.cells c.cells 24))
  have HO := Lib.hid ho
  have HA0 := Lib.hid hA
  have hcs : c.cells = #[.int .i64 c.thr, .int .i64 c.slots, .int .u64 c.stamps] := rfl
  have hmay : c.may = true := may_ok ho
  rw [hmay] at HM
  obtain ⟨T, hT⟩ : ∃ T : Nat, c.thr = (T : Int) := ⟨c.thr.toNat, by have := ho.t1; omega⟩
  have HTT : Hid (c.thr.toNat = T) := by show c.thr.toNat = T; omega
  have HT2 : Hid (c.thr = (T : Int)) := hT
  have HT16 : Hid (1 ≤ T ∧ T ≤ 6) := by have h1 := ho.t1; have h2 := ho.t2; show 1 ≤ T ∧ T ≤ 6; omega
  have h600 : Hid (ds.length ≤ 600) := hn
  have hcs2 : c.cells = #[.int .i64 (T : Int), .int .i64 c.slots, .int .u64 c.stamps] := by rw [hcs, hT]
  rw [hcs2] at HM HN HK HB ⊢
  have HCS := Lib.hid hcs2
  clear hcs hcs2 ho hA hmay hT
  have hz : ¬ (600 : Int) < (ds.length : Int) := by omega
  go_enter Try.func5, Try.ntmps5
  go_upto_region 1 with fail
  generalize hcb : w.heap.size = cb at HB ⊢
  clear hcb
  generalize w.alloc (.cells #[.int .i64 (T : Int), .int .i64 c.slots, .int .u64 c.stamps] 24) = w1 at HB HK ⊢
  have hl0 : w1.cell? ⟨cb, 0, none⟩ = some (.int .i64 (T : Int)) := HB.out.cell 0
  have hl1 : w1.cell? ⟨cb, 1, none⟩ = some (.int .i64 c.slots) := HB.out.cell 1
  have hl2 : w1.cell? ⟨cb, 2, none⟩ = some (.int .u64 c.stamps) := HB.out.cell 2
  generalize hlen : ds.length = n at *
  have HLEN := Lib.hid hlen
  clear hlen
  go_wp2_with fail
  refine (HM.out _).mono ?_
  rintro r w2 ⟨rfl, hk⟩
  have HK2 := Lib.hid (HK.out.trans hk (by simp))
  have HB2 := Lib.hid (HB.out.keep hk (by simp))
  clear hk hl0 hl1 hl2 HM HK HB
  have hl0 : w2.cell? ⟨cb, 0, none⟩ = some (.int .i64 (T : Int)) := HB2.out.cell 0
  have hl1 : w2.cell? ⟨cb, 1, none⟩ = some (.int .i64 c.slots) := HB2.out.cell 1
  have hl2 : w2.cell? ⟨cb, 2, none⟩ = some (.int .u64 c.stamps) := HB2.out.cell 2
  go_wp2_with fail
  refine (HN.out _).mono ?_
  rintro r x ⟨i0, rfl, hn0⟩
  have HI0 := Lib.hid (start_mc HK2.out hn0)
  have HB3 := Lib.hid (HB2.out.keep hn0.hk (by simp))
  have HC0 := Lib.hid (sc_start HO.out)
  rw [HTT.out] at HI0 HC0
  clear hn0 HN hl0 hl1 hl2 HB2 HK2
  have hl0 : x.cell? ⟨cb, 0, none⟩ = some (.int .i64 (T : Int)) := HB3.out.cell 0
  have hT16a : 1 ≤ T ∧ T ≤ 6 := HT16.out
  unfold ptr
  go_upto_region 7 with (at_make; obtain ⟨i1, hi, hz0, hz1, hz2⟩ := info_parts infoEdges; refine wpList_make_full _ rfl _ _ 65 rfl x.heap.size 45 i1 (.slice none 0 0) 1 Try.underlying65 hi hz0 hz1 .i64 .i64 T T T rfl rfl rfl rfl (by rw [hz2]; omega) (by unfold maxLen; omega) (Nat.le_refl _) ?_; clear hi hz0 hz1 hz2; intro w2 hown hg; have HM := Lib.hid (made_rows HT16.out.1 HT16.out.2 hown); have HG := Lib.hid (Keep.of_grown (row := none) hg); clear hown hg)
  have HI1 := Lib.hid (HI0.out.keep0 HG.out)
  have HB4 := Lib.hid (HB3.out.keep (S := []) HG.out (by simp))
  have HX1 : Hid (w.heap.size ≤ x.heap.size) := HI0.out.hk.size
  generalize x.heap.size = hb at HM HX1 ⊢
  clear HI0 HB3 HG hl0
  have hl0 : w2.cell? ⟨cb, 0, none⟩ = some (.int .i64 (T : Int)) := HB4.out.cell 0
  go_upto_region 8 with (at_make; obtain ⟨i1, hi, hz0, hz1, hz2⟩ := info_parts info4; refine wpList_make_full _ rfl _ _ 66 rfl w2.heap.size 4 i1 (.bool false) 1 Try.underlying66 hi hz0 hz1 .i64 .i64 T T T rfl rfl rfl rfl (by rw [hz2]; omega) (by unfold maxLen; omega) (Nat.le_refl _) ?_; clear hi hz0 hz1 hz2; intro w4 hown hg; have HME := Lib.hid (made_bool HT16.out.1 HT16.out.2 hown); have HG := Lib.hid (Keep.of_grown (row := none) hg); clear hown hg)
  have HI2 := Lib.hid (HI1.out.keep0 HG.out)
  have HX2 : Hid (w.heap.size ≤ w2.heap.size) := HI1.out.hk.size
  have HR0 : Hid (MemR w4 w c cb hb w2.heap.size (List.replicate T []) (List.replicate T (.slice none 0 0)) (List.replicate T false)) := by
    obtain ⟨xt, q1⟩ := HM.out
    refine ⟨by rw [HCS.out]; exact HB4.out.keep (S := []) HG.out (by simp), ⟨xt, q1.keep (S := []) HG.out (by simp)⟩, HX1.out, HME.out, HX2.out, by simp, fun k v l hv hl => ?_, fun k j v v' b hv _ _ hb => ?_⟩
    · have e1 := List.eq_of_mem_replicate (List.mem_of_getElem? hv)
      have e2 := List.eq_of_mem_replicate (List.mem_of_getElem? hl)
      subst e1 e2
      exact ⟨rfl, .inl ⟨rfl, rfl⟩⟩
    · rw [List.eq_of_mem_replicate (List.mem_of_getElem? hv)] at hb
      cases hb
  generalize w2.heap.size = eb at HR0 ⊢
  clear HI1 HB4 HG HM HME HX1 HX2 hl0
  generalize him : i0.m = m0 at HI2 ⊢
  clear him
  go_wp2_with fail
  go_loopg [9] n (fun gg q wr => ∃ (j nn : Nat) (own : Nat → Own) (L G : List Nat) (had : List (List Nat)) (vs : List Value) (emp : List Bool) (i : MI) (s : MS), j ≤ n ∧ gg = n - j ∧ q = .int .i64 (j : Nat) ∧ nn ≤ j ∧ (∀ k, (had.getD k []).length ≤ j) ∧ CrS c s own L G had emp nn ∧ MachC w m0 wr i s ∧ MemR wr w c cb hb eb had vs emp)
  case atStart => exact ⟨0, 0, _, _, _, _, _, _, _, _, Nat.zero_le _, rfl, rfl, Nat.le_refl _, fun k => by rw [getD_rep_nil]; exact Nat.le_refl 0, HC0.out, HI2.out, HR0.out⟩
  case round =>
    obtain ⟨j, nn, own, L, G, had, vs, emp, i, s, hj, rfl, rfl, hnn, hhl, hcr, hma, hme⟩ := hrel
    have HCR := Lib.hid hcr
    have HMAa := Lib.hid hma
    have HMEa := Lib.hid hme
    have HNJ : Hid (nn ≤ j ∧ j ≤ n) := ⟨hnn, hj⟩
    have HHL := Lib.hid hhl
    clear hcr hma hme hhl HC0 HI2 HR0
    by_cases hlt : j < n
    · obtain ⟨b, o, rfl, hbw, hcells⟩ := HA0.out (by rw [HLEN.out]; omega)
      obtain ⟨hx1, hx2⟩ : wr.cell? ⟨b, o + j * 2, none⟩ = some (.int .i64 (ds.getD j (0, 0)).1) ∧ wr.cell? ⟨b, o + j * 2 + 1, none⟩ = some (.int .i64 (ds.getD j (0, 0)).2) := by
        obtain ⟨q0, q1⟩ := hcells j (by rw [HLEN.out]; exact hlt)
        exact ⟨(HMAa.out.hk.cell hbw (by simp)).trans q0, (HMAa.out.hk.cell hbw (by simp)).trans q1⟩
      clear hbw hcells
      generalize (ds.getD j (0, 0)).1 = x1 at hx1
      generalize (ds.getD j (0, 0)).2 = x2 at hx2
      have hzj : ((j : Nat) : Int) < (n : Int) := by omega
      have hzj0 : (0 : Int) ≤ ((j : Nat) : Int) := by omega
      go_wp2_with fail
      go_quiet (fail)
      have HMA := Lib.hid (HMAa.out.keep0 ((Keep.refl [] wr).drewN nq))
      have HME := Lib.hid (HMEa.out.keep0 ((Keep.refl [] wr).drewN nq))
      have HMT := Lib.hid HMA.out.hm
      generalize wr.drewN nq = wr at HMA HME HMT ⊢
      clear hx1 hx2 HMAa HMEa
      by_cases hout : x1 < 0 ∨ (T : Int) ≤ x1
      · have KT := m_thread_no HMT.out x1 (by rw [HCR.out.thl, HTT.out]; exact hout)
        rw [HMA.out.im] at KT
        clear hout
        go_wp2_with fail
        refine KT.mono ?_
        rintro r y ⟨rfl, rfl⟩
        go_wp2_with fail
        go_roundg (n - (j + 1))
        case measure => omega
        case rel => exact ⟨j + 1, nn, own, L, G, had, vs, emp, i, s, by omega, rfl, by go_num, by have := HNJ.out; omega, fun k => Nat.le_succ_of_le (HHL.out k), HCR.out, HMA.out, HME.out⟩
      obtain ⟨k, rfl⟩ : ∃ k : Nat, x1 = (k : Int) := ⟨x1.toNat, by omega⟩
      have HKT : Hid (k < T) := by show k < T; omega
      have hkl : k < s.ths.length := by
        rw [HCR.out.thl, HTT.out]
        exact HKT.out
      obtain ⟨th, hth⟩ : ∃ th, s.ths[k]? = some th := ⟨_, List.getElem?_eq_getElem hkl⟩
      obtain ⟨ti, hti⟩ := HMT.out.thAt hth
      have HTH := Lib.hid hth
      have HTI := Lib.hid hti
      have KT := m_thread HMT.out k ti hti
      rw [HMA.out.im] at KT
      have KD := m_depth HMT.out hti hth
      clear hkl hth hti hout
      go_wp2_with fail
      refine KT.mono ?_
      rintro r y ⟨rfl, rfl⟩
      generalize hdl : th.frs.length = d at KD
      have HDL := Lib.hid hdl
      clear hdl
      have HKH : Hid (k < had.length) := by show k < had.length; rw [HCR.out.hadL, HTT.out]; exact HKT.out
      have HKE : Hid (k < emp.length) := by show k < emp.length; rw [HCR.out.empL, HTT.out]; exact HKT.out
      have hzk : ((k : Nat) : Int) < (T : Int) := by have := HKT.out; omega
      have hzk0 : (0 : Int) ≤ ((k : Nat) : Int) := by omega
      go_upto_if 65 with fail
      refine KD.mono ?_
      clear KD KT
      rintro r y ⟨rfl, rfl⟩
      go_upto_if 65 with fail
      go_cut [] (fun wx => ∃ (own' : Nat → Own) (had' : List (List Nat)) (vs' : List Value) (emp' : List Bool) (i' : MI) (s' : MS) (th' : ThS) (f' : FrS) (ti' : ThI), CrS c s' own' L G had' emp' nn ∧ MachC w m0 wx i' s' ∧ MemR wx w c cb hb eb had' vs' emp' ∧ s'.ths[k]? = some th' ∧ th'.frs = [f'] ∧ i'.tis[k]? = some ti' ∧ ti'.tb = ti.tb ∧ (∀ k, (had'.getD k []).length ≤ j))
      case first =>
       as_aux_lemma =>
        rcases HCR.out.th k th HTH.out with hf | ⟨f, hf, _⟩
        · obtain rfl : d = 0 := by rw [← HDL.out, hf]; rfl
          have HF := Lib.hid hf
          have HTB := Lib.hid (fun (y : World) (i2 : MI) (hg : Goes wr y i i2) => hg.tb HTI.out)
          obtain ⟨v, hvs, hcv, hcf, hown⟩ := HME.out.at_ HKH.out
          obtain ⟨Av, capv, rfl, hle, hAg⟩ := own_slice hown
          have HVS := Lib.hid hvs
          have HAG := Lib.hid hAg
          have HLC : Hid ((had.getD k []).length ≤ j ∧ (had.getD k []).length ≤ capv) := ⟨HHL.out k, hle⟩
          have HJ6 : Hid (j < 600) := by have h1 := h600.out; have h2 := HLEN.out; show j < 600; omega
          clear hf hvs hown hle hAg
          generalize hl : had.getD k [] = l at *
          have HL := Lib.hid hl
          clear hl
          by_cases hw : (l.length : Int) ≤ x2
          · go_wp2_with fail
            go_roundg (n - (j + 1))
            case measure => omega
            case rel => exact ⟨j + 1, nn, own, L, G, had, vs, emp, i, s, by omega, rfl, by go_num, by have := HNJ.out; omega, fun k => Nat.le_succ_of_le (HHL.out k), HCR.out, HMA.out, HME.out⟩
          by_cases hneg : x2 < 0
          · have KA := m_call HMT.out HTI.out HTH.out (by rw [HF.out]; decide) 1 (.slice none 0 0) [] (.inl ⟨rfl, rfl⟩) (by simp)
            have HS := Lib.hid (sc_call_take HCR.out HTH.out HF.out)
            go_wp2_with fail
            refine KA.mono ?_
            clear KA
            rintro r y ⟨rfl, i2, hm2, hg2⟩
            have HM2 := Lib.hid (HMA.out.go hm2 hg2)
            have HR2 := Lib.hid (HME.out.go HMA.out.hm hg2)
            have HT2b := Lib.hid (HTB.out _ _ hg2)
            have he0 := HR2.out.e0 HKE.out
            have hef := HR2.out.ef k
            clear hm2 hg2 hcv hcf
            go_wp2_with fail
            go_meet
            obtain ⟨ti2, h3, h4⟩ := HT2b.out
            exact ⟨own, had, vs, emp.set k false, i2, _, _, _, ti2, HS.out.1, HM2.out.putE HR2.out, HR2.out.putE HKE.out, HS.out.2.1, HS.out.2.2, h3, h4, HHL.out⟩
          · obtain ⟨p, rfl⟩ : ∃ p : Nat, x2 = (p : Int) := ⟨x2.toNat, by omega⟩
            have hpl : p < l.length := by omega
            have HPL := Lib.hid hpl
            have hzp0 : (0 : Int) ≤ ((p : Nat) : Int) := by omega
            obtain ⟨gh, rfl⟩ := HAG.out (by omega)
            have hrow := (HME.out.get HKH.out HVS.out).2.2
            rw [HL.out] at hrow
            have hce := hrow.cells (g := gh) rfl p (.int .u64 (l.getD p 0 : Nat)) (by simp [u64s, hpl])
            rw [Addr_add_zero] at hce
            generalize hee : l.getD p 0 = e at hce
            have HEE := Lib.hid hee
            have HJE : Hid ((had.getD k [])[p]? = some e) := by
              show (had.getD k [])[p]? = some e
              rw [HL.out, ← HEE.out, List.getD_eq_getElem?_getD, List.getElem?_eq_getElem hpl]
              rfl
            have HS := Lib.hid (sc_call_give HCR.out HTH.out HF.out HJE.out)
            have KA := m_call (HMT.out.alloc (.cells #[.int .u64 (e : Nat)] 22)) HTI.out HTH.out (by rw [HF.out]; decide) 2 (.slice (some ⟨wr.heap.size, 0, none⟩) 1 1) [e] (.inr ⟨_, 1, _, rfl, Blk.new wr 22 #[.int .u64 (e : Nat)], fun q x hq => by
              cases q with
              | zero => simp at hq; subst hq; rfl
              | succ q => simp at hq⟩) (by simp)
            have hzpl : ((p : Nat) : Int) < (l.length : Int) := by omega
            have HHE : Hid (e < 2 ^ 64) := HCR.out.had_at HJE.out
            clear hrow hee hw hneg
            go_wp2_with fail
            refine KA.mono ?_
            clear KA
            rintro r y ⟨rfl, i2, hm2, hg2⟩
            have hkA : Keep [] wr (wr.alloc (.cells #[.int .u64 (e : Nat)] 22)) := (Keep.refl [] wr).alloc _
            have HM2 := Lib.hid ((HMA.out.keep0 hkA).go hm2 hg2)
            have HR2 := Lib.hid ((HME.out.keep0 hkA).go (HMA.out.keep0 hkA).hm hg2)
            have HT2b := Lib.hid (HTB.out y i2 (Goes.trans ⟨rfl, rfl, rfl, rfl, fun _ h => .inl h, hkA.mono (by simp)⟩ hg2))
            clear hm2 hg2 hcv hcf hce hkA HMT
            obtain ⟨hcv, hcf, hrow⟩ := HR2.out.get HKH.out HVS.out
            rw [HL.out] at hrow
            have HROW := Lib.hid hrow
            have HYW : Hid (w.heap.size ≤ y.heap.size) := HM2.out.hk.size
            have HBL : Hid (hb < y.heap.size) := by
              obtain ⟨xt, h1⟩ := HR2.out.hh
              exact h1.lt
            have HBX := Lib.hid hcv
            have HBF := Lib.hid hcf
            have hxB : (y.drew.alloc (.cells #[] 50)).cell? ⟨hb, k, none⟩ = some (.slice (some ⟨gh, 0, none⟩) l.length capv) := (((Keep.refl [] y).drew.alloc (.cells #[] 50)).cell HBL.out (by simp)).trans hcv
            have hzw : IntKind.i64.wrap ((p : Int) + 1) = (p : Int) + 1 := IntWalk.i64_in _ (by have := HJ6.out; have := HLC.out; omega)
            have hzq : (0 : Int) ≤ (p : Int) + 1 := by omega
            have htn : ((p : Int) + 1).toNat = p + 1 := by omega
            have hzl : ((p : Nat) : Int) + 1 ≤ (l.length : Int) := by omega
            have hzc : ((p : Nat) : Int) ≤ (capv : Int) := by have := HLC.out; omega
            have hc0 : ¬ capv = 0 := by have := HLC.out; omega
            have HNT : Hid (∀ (W : World), Keep [] y W → ∀ q u, (u64s (l.take p))[q]? = some u → W.cell? ((⟨gh, 0, none⟩ : Addr).add q) = some u) := fun W hkW q u hq => by
              have h1 := (own_keep HROW.out hkW (by simp)).cells (g := gh) rfl q u
              refine h1 ?_
              have hq2 : q < p := by
                have := (List.getElem?_eq_some_iff.1 hq).1
                simp [u64s] at this
                omega
              simp only [u64s, List.map_take] at hq ⊢
              rw [List.getElem?_take_of_lt hq2] at hq
              exact hq
            have HND : Hid (∃ ad, (if capv = p + 1 then some (⟨gh, 0, none⟩ : Addr) else some ⟨gh, p + 1, none⟩) = some ad ∧ ∀ (W : World), Keep [] y W → ∀ q u, (u64s (l.drop (p + 1)))[q]? = some u → W.cell? (ad.add q) = some u) := by
              by_cases hcp : capv = p + 1
              · rw [if_pos hcp]
                refine ⟨_, rfl, fun W _ q u hq => ?_⟩
                have := (List.getElem?_eq_some_iff.1 hq).1
                have h2 := HLC.out
                simp [u64s] at this
                omega
              · rw [if_neg hcp]
                refine ⟨_, rfl, fun W hkW q u hq => ?_⟩
                have h1 := (own_keep HROW.out hkW (by simp)).cells (g := gh) rfl (p + 1 + q) u (by
                  simp only [u64s, List.map_drop, List.getElem?_drop] at hq ⊢
                  exact hq)
                rw [Addr_add_zero] at h1
                rw [show (⟨gh, p + 1, none⟩ : Addr).add q = ⟨gh, p + 1 + q, none⟩ by
                  unfold Addr.add
                  split
                  · subst_vars; rfl
                  · rfl]
                exact h1
            have hxB2 : (y.alloc (.cells #[] 50)).drew.cell? ⟨hb, k, none⟩ = some (.slice (some ⟨gh, 0, none⟩) l.length capv) := hxB
            have hxA : y.drew.cell? ⟨hb, k, none⟩ = some (.slice (some ⟨gh, 0, none⟩) l.length capv) := hcv
            clear hrow
            go_upto_region 20 with fail
            refine wp_region_till (S := (fun w' => w'.cell? ⟨hb, k, none⟩ = some (.slice (some ⟨gh, 0, none⟩) l.length capv))) 19 19 (by kernel_rfl) (by kernel_rfl) hxA (fun hHeld => ?_)
            refine tillT_take (i := 0) (oi := { dst := some 90, op := Go.Op.move (Go.Operand.tmp 7), type := 65, pos := "law.go:165", after := #[], guard := none }) (v := ?_) rfl (by kernel_rfl) (by kernel_rfl) (by kernel_rfl) (by kernel_rfl) (fun _ _ _ h => h) (Or.inl ⟨by rfl, ?_⟩) (by assumption) ?_
            rotate_left
            · intro w hSw
              (try dsimp only at hSw)
              go_simp
              all_goals with_reducible rfl
            try simp only [Act.put, List.setIfInBounds_toArray, List.set_cons_zero, List.set_cons_succ]
            refine tillT_take (i := 1) (oi := { dst := some 91, op := Go.Op.move (Go.Operand.tmp 10), type := 3, pos := "law.go:165", after := #[], guard := none }) (v := ?_) rfl (by kernel_rfl) (by kernel_rfl) (by kernel_rfl) (by kernel_rfl) (fun _ _ _ h => h) (Or.inl ⟨by rfl, ?_⟩) (by assumption) ?_
            rotate_left
            · intro w hSw
              (try dsimp only at hSw)
              go_simp
              all_goals with_reducible rfl
            try simp only [Act.put, List.setIfInBounds_toArray, List.set_cons_zero, List.set_cons_succ]
            refine tillT_take (i := 3) (oi := { dst := some 93, op := Go.Op.move (Go.Operand.tmp 7), type := 65, pos := "law.go:165", after := #[], guard := none }) (v := ?_) rfl (by kernel_rfl) (by kernel_rfl) (by kernel_rfl) (by kernel_rfl) (fun _ _ _ h => h) (Or.inl ⟨by rfl, ?_⟩) (by assumption) ?_
            rotate_left
            · intro w hSw
              (try dsimp only at hSw)
              go_simp
              all_goals with_reducible rfl
            try simp only [Act.put, List.setIfInBounds_toArray, List.set_cons_zero, List.set_cons_succ]
            refine tillT_take (i := 4) (oi := { dst := some 94, op := Go.Op.move (Go.Operand.tmp 10), type := 3, pos := "law.go:165", after := #[], guard := none }) (v := ?_) rfl (by kernel_rfl) (by kernel_rfl) (by kernel_rfl) (by kernel_rfl) (fun _ _ _ h => h) (Or.inl ⟨by rfl, ?_⟩) (by assumption) ?_
            rotate_left
            · intro w hSw
              (try dsimp only at hSw)
              go_simp
              all_goals with_reducible rfl
            try simp only [Act.put, List.setIfInBounds_toArray, List.set_cons_zero, List.set_cons_succ]
            refine tillT_take (i := 5) (oi := { dst := some 95, op := Go.Op.indexAddr 65 (Go.Operand.tmp 93) (Go.Operand.tmp 94), type := 0, pos := "law.go:165", after := #[{ on := 3, ground := Go.Ground.data }, { on := 4, ground := Go.Ground.data }], guard := none }) (v := ?_) rfl (by kernel_rfl) (by kernel_rfl) (by kernel_rfl) (by kernel_rfl) (fun _ _ _ h => h) (Or.inl ⟨by rfl, ?_⟩) (by assumption) ?_
            rotate_left
            · intro w hSw
              (try dsimp only at hSw)
              go_simp
              all_goals with_reducible rfl
            try simp only [Act.put, List.setIfInBounds_toArray, List.set_cons_zero, List.set_cons_succ]
            refine tillT_take (i := 6) (oi := { dst := some 96, op := Go.Op.load 45 (Go.Operand.tmp 95), type := 45, pos := "law.go:165", after := #[{ on := 5, ground := Go.Ground.data }], guard := none }) (v := ?_) rfl (by kernel_rfl) (by kernel_rfl) (by kernel_rfl) (by kernel_rfl) (fun _ _ _ h => h) (Or.inl ⟨by rfl, ?_⟩) (by assumption) ?_
            rotate_left
            · intro w hSw
              (try dsimp only at hSw)
              go_simp
              all_goals with_reducible rfl
            try simp only [Act.put, List.setIfInBounds_toArray, List.set_cons_zero, List.set_cons_succ]
            refine tillT_take (i := 7) (oi := { dst := some 97, op := Go.Op.move (Go.Operand.tmp 11), type := 3, pos := "law.go:165", after := #[], guard := none }) (v := ?_) rfl (by kernel_rfl) (by kernel_rfl) (by kernel_rfl) (by kernel_rfl) (fun _ _ _ h => h) (Or.inl ⟨by rfl, ?_⟩) (by assumption) ?_
            rotate_left
            · intro w hSw
              (try dsimp only at hSw)
              go_simp
              all_goals with_reducible rfl
            try simp only [Act.put, List.setIfInBounds_toArray, List.set_cons_zero, List.set_cons_succ]
            refine tillT_take (i := 8) (oi := { dst := some 98, op := Go.Op.slice 45 (Go.Operand.tmp 96) none (some (Go.Operand.tmp 97)) none, type := 45, pos := "law.go:165", after := #[{ on := 6, ground := Go.Ground.data }, { on := 7, ground := Go.Ground.data }], guard := none }) (v := ?_) rfl (by kernel_rfl) (by kernel_rfl) (by kernel_rfl) (by kernel_rfl) (fun _ _ _ h => h) (Or.inl ⟨by rfl, ?_⟩) (by assumption) ?_
            rotate_left
            · intro w hSw
              (try dsimp only at hSw)
              go_simp
              all_goals with_reducible rfl
            try simp only [Act.put, List.setIfInBounds_toArray, List.set_cons_zero, List.set_cons_succ]
            refine tillT_take (i := 10) (oi := { dst := some 100, op := Go.Op.move (Go.Operand.tmp 7), type := 65, pos := "law.go:165", after := #[], guard := none }) (v := ?_) rfl (by kernel_rfl) (by kernel_rfl) (by kernel_rfl) (by kernel_rfl) (fun _ _ _ h => h) (Or.inl ⟨by rfl, ?_⟩) (by assumption) ?_
            rotate_left
            · intro w hSw
              (try dsimp only at hSw)
              go_simp
              all_goals with_reducible rfl
            try simp only [Act.put, List.setIfInBounds_toArray, List.set_cons_zero, List.set_cons_succ]
            refine tillT_take (i := 11) (oi := { dst := some 101, op := Go.Op.move (Go.Operand.tmp 10), type := 3, pos := "law.go:165", after := #[], guard := none }) (v := ?_) rfl (by kernel_rfl) (by kernel_rfl) (by kernel_rfl) (by kernel_rfl) (fun _ _ _ h => h) (Or.inl ⟨by rfl, ?_⟩) (by assumption) ?_
            rotate_left
            · intro w hSw
              (try dsimp only at hSw)
              go_simp
              all_goals with_reducible rfl
            try simp only [Act.put, List.setIfInBounds_toArray, List.set_cons_zero, List.set_cons_succ]
            refine tillT_take (i := 12) (oi := { dst := some 102, op := Go.Op.indexAddr 65 (Go.Operand.tmp 100) (Go.Operand.tmp 101), type := 0, pos := "law.go:165", after := #[{ on := 10, ground := Go.Ground.data }, { on := 11, ground := Go.Ground.data }], guard := none }) (v := ?_) rfl (by kernel_rfl) (by kernel_rfl) (by kernel_rfl) (by kernel_rfl) (fun _ _ _ h => h) (Or.inl ⟨by rfl, ?_⟩) (by assumption) ?_
            rotate_left
            · intro w hSw
              (try dsimp only at hSw)
              go_simp
              all_goals with_reducible rfl
            try simp only [Act.put, List.setIfInBounds_toArray, List.set_cons_zero, List.set_cons_succ]
            refine tillT_take (i := 13) (oi := { dst := some 103, op := Go.Op.load 45 (Go.Operand.tmp 102), type := 45, pos := "law.go:165", after := #[{ on := 12, ground := Go.Ground.data }], guard := none }) (v := ?_) rfl (by kernel_rfl) (by kernel_rfl) (by kernel_rfl) (by kernel_rfl) (fun _ _ _ h => h) (Or.inl ⟨by rfl, ?_⟩) (by assumption) ?_
            rotate_left
            · intro w hSw
              (try dsimp only at hSw)
              go_simp
              all_goals with_reducible rfl
            try simp only [Act.put, List.setIfInBounds_toArray, List.set_cons_zero, List.set_cons_succ]
            refine tillT_take (i := 14) (oi := { dst := some 104, op := Go.Op.move (Go.Operand.tmp 11), type := 3, pos := "law.go:165", after := #[], guard := none }) (v := ?_) rfl (by kernel_rfl) (by kernel_rfl) (by kernel_rfl) (by kernel_rfl) (fun _ _ _ h => h) (Or.inl ⟨by rfl, ?_⟩) (by assumption) ?_
            rotate_left
            · intro w hSw
              (try dsimp only at hSw)
              go_simp
              all_goals with_reducible rfl
            try simp only [Act.put, List.setIfInBounds_toArray, List.set_cons_zero, List.set_cons_succ]
            refine tillT_take (i := 15) (oi := { dst := some 105, op := Go.Op.binOp Go.BinOp.add 3 (Go.Operand.tmp 104) (Go.Operand.const (Go.Value.int Go.IntKind.i64 1)) 3, type := 3, pos := "law.go:165", after := #[{ on := 14, ground := Go.Ground.data }], guard := none }) (v := ?_) rfl (by kernel_rfl) (by kernel_rfl) (by kernel_rfl) (by kernel_rfl) (fun _ _ _ h => h) (Or.inl ⟨by rfl, ?_⟩) (by assumption) ?_
            rotate_left
            · intro w hSw
              (try dsimp only at hSw)
              go_simp
              all_goals with_reducible rfl
            try simp only [Act.put, List.setIfInBounds_toArray, List.set_cons_zero, List.set_cons_succ]
            refine tillT_take (i := 16) (oi := { dst := some 106, op := Go.Op.slice 45 (Go.Operand.tmp 103) (some (Go.Operand.tmp 105)) none none, type := 45, pos := "law.go:165", after := #[{ on := 13, ground := Go.Ground.data }, { on := 15, ground := Go.Ground.data }], guard := none }) (v := ?_) rfl (by kernel_rfl) (by kernel_rfl) (by kernel_rfl) (by kernel_rfl) (fun _ _ _ h => h) (Or.inl ⟨by rfl, ?_⟩) (by assumption) ?_
            rotate_left
            · intro w hSw
              (try dsimp only at hSw)
              go_simp
              all_goals with_reducible rfl
            try simp only [Act.put, List.setIfInBounds_toArray, List.set_cons_zero, List.set_cons_succ]
            refine tillT_only (i := 2) (o := { dst := some 92, op := Go.Op.buildSlice 45 0 #[], type := 45, pos := "law.go:165", after := #[], guard := none }) (by kernel_rfl) rfl (fun K hK => ?_)
            go_simp
            refine hK.out _ _ hxB2 (fun hHeld => ?_)
            clear hK K
            try simp only [Act.put, List.setIfInBounds_toArray, List.set_cons_zero, List.set_cons_succ]
            refine tillT_only (i := 9) (o := { dst := some 99, op := Go.Op.call { callee := Go.Callee.builtin Go.Builtin.append, args := #[Go.Operand.tmp 92, Go.Operand.tmp 98], argTypes := #[45, 45] }, type := 45, pos := "law.go:165", after := #[{ on := 2, ground := Go.Ground.data }, { on := 8, ground := Go.Ground.data }], guard := none }) (by kernel_rfl) rfl (fun K hK => ?_)
            (obtain ⟨i0, hi, hz0, hz1, hz2⟩ := info_parts infoEdge; (refine step_append_at rfl (.tmp 92) (.tmp 98) 45 rfl w.heap.size 50 i0 (.int .u64 0) 1 8 Try.underlying45 hi hz0 hz1 hz2 rfl (by decide) (.slice (some ⟨y.heap.size, 0, none⟩) 0 0) 0 [] rfl (World.ownsRow_made y.drew #[] 0 HYW.out (by unfold maxLen; omega) rfl) ⟨gh, 0, none⟩ p _ (u64s (l.take p)) rfl (by rw [u64s_len, List.length_take]; omega) (HNT.out _ ((Keep.refl [] y).drew.alloc _)) (u64s_one _) (by have := HJ6.out; have := HLC.out; unfold maxLen; omega) (by have := HJ6.out; have := HLC.out; omega) (Nat.le_trans HYW.out ((Keep.refl [] y).drew.alloc (.cells #[] 50)).size) ?_); clear hi hz0 hz1 hz2; intro v5 w6 hown hg hnil hat; clear hnil; rw [Nat.zero_add, List.nil_append] at hown; have HO5 := Lib.hid hown; have HK5 := Lib.hid (((Keep.refl [] y).drew.alloc (.cells #[] 50)).trans (Keep.of_grown hg) (fun x hx => by simp [Value.ownBlock] at hx; right; omega)); have HN5 := Lib.hid (own_new5 hat); have hxC := ((HK5.out).cell HBL.out (by simp)).trans HBX.out; clear hown hg hat)
            refine hK.out _ _ hxC (fun hHeld => ?_)
            clear hK K
            try simp only [Act.put, List.setIfInBounds_toArray, List.set_cons_zero, List.set_cons_succ]
            refine tillT_only (i := 17) (o := { dst := some 107, op := Go.Op.call { callee := Go.Callee.builtin Go.Builtin.append, args := #[Go.Operand.tmp 99, Go.Operand.tmp 106], argTypes := #[45, 45] }, type := 45, pos := "law.go:165", after := #[{ on := 9, ground := Go.Ground.data }, { on := 16, ground := Go.Ground.data }, { on := 9, ground := Go.Ground.chain }], guard := none }) (by kernel_rfl) rfl (fun K hK => ?_)
            (obtain ⟨i0, hi, hz0, hz1, hz2⟩ := info_parts infoEdge; obtain ⟨ad, hade, hnd⟩ := HND.out; (refine step_append_at rfl (.tmp 99) (.tmp 106) 45 rfl w.heap.size 50 i0 (.int .u64 0) 1 8 Try.underlying45 hi hz0 hz1 hz2 rfl (by decide) v5 p (u64s (l.take p)) rfl HO5.out ad (l.length - (p + 1)) _ (u64s (l.drop (p + 1))) (congrArg (fun q => Value.slice q _ _) hade) (by rw [u64s_len, List.length_drop]; omega) (hnd _ HK5.out) (u64s_one _) (by have := HJ6.out; have := HLC.out; unfold maxLen; omega) (by have := HJ6.out; have := HLC.out; omega) (Nat.le_trans HYW.out HK5.out.size) ?_); clear hi hz0 hz1 hz2 hade hnd; intro v7 w8 hown hg hnil hat; clear hnil; obtain ⟨A7, cap7, rfl, _⟩ := own_slice hown; have HO7 := Lib.hid hown; have HN7 := Lib.hid (own_new7 HN5.out hat HK5.out); have HK7 := Lib.hid (HK5.out.trans (Keep.of_grown hg) (fun x hx => .inr (HN5.out x (by simpa using hx)))); have hxD := ((HK7.out).cell HBL.out (by simp)).trans HBX.out; have hxF := ((HK7.out).frozen HBL.out (by simp)).trans HBF.out; clear hown hg hat)
            refine hK.out _ _ hxD (fun hHeld => ?_)
            clear hK K
            try simp only [Act.put, List.setIfInBounds_toArray, List.set_cons_zero, List.set_cons_succ]
            refine tillT_take (i := 18) (oi := { dst := some 108, op := Go.Op.indexAddr 65 (Go.Operand.tmp 90) (Go.Operand.tmp 91), type := 0, pos := "law.go:165", after := #[{ on := 0, ground := Go.Ground.data }, { on := 1, ground := Go.Ground.data }, { on := 0, ground := Go.Ground.phase }, { on := 1, ground := Go.Ground.phase }, { on := 2, ground := Go.Ground.phase }, { on := 3, ground := Go.Ground.phase }, { on := 4, ground := Go.Ground.phase }, { on := 5, ground := Go.Ground.phase }, { on := 6, ground := Go.Ground.phase }, { on := 7, ground := Go.Ground.phase }, { on := 8, ground := Go.Ground.phase }, { on := 9, ground := Go.Ground.phase }, { on := 10, ground := Go.Ground.phase }, { on := 11, ground := Go.Ground.phase }, { on := 12, ground := Go.Ground.phase }, { on := 13, ground := Go.Ground.phase }, { on := 14, ground := Go.Ground.phase }, { on := 15, ground := Go.Ground.phase }, { on := 16, ground := Go.Ground.phase }, { on := 17, ground := Go.Ground.phase }], guard := none }) (v := ?_) rfl (by kernel_rfl) (by kernel_rfl) (by kernel_rfl) (by kernel_rfl) (fun _ _ _ h => h) (Or.inl ⟨by rfl, ?_⟩) (by assumption) ?_
            rotate_left
            · intro w hSw
              (try dsimp only at hSw)
              go_simp
              all_goals with_reducible rfl
            try simp only [Act.put, List.setIfInBounds_toArray, List.set_cons_zero, List.set_cons_succ]
            refine tillT_last (o := { dst := none, op := Go.Op.store 45 (Go.Operand.tmp 108) (Go.Operand.tmp 107), type := 0, pos := "law.go:165", after := #[{ on := 18, ground := Go.Ground.data }, { on := 17, ground := Go.Ground.data }, { on := 17, ground := Go.Ground.chain }, { on := 0, ground := Go.Ground.phase }, { on := 1, ground := Go.Ground.phase }, { on := 2, ground := Go.Ground.phase }, { on := 3, ground := Go.Ground.phase }, { on := 4, ground := Go.Ground.phase }, { on := 5, ground := Go.Ground.phase }, { on := 6, ground := Go.Ground.phase }, { on := 7, ground := Go.Ground.phase }, { on := 8, ground := Go.Ground.phase }, { on := 9, ground := Go.Ground.phase }, { on := 10, ground := Go.Ground.phase }, { on := 11, ground := Go.Ground.phase }, { on := 12, ground := Go.Ground.phase }, { on := 13, ground := Go.Ground.phase }, { on := 14, ground := Go.Ground.phase }, { on := 15, ground := Go.Ground.phase }, { on := 16, ground := Go.Ground.phase }, { on := 17, ground := Go.Ground.phase }], guard := none }) (by kernel_rfl) (by kernel_rfl) rfl (fun K hK => ?_)
            go_simp
            refine hK.out _ _ ?_
            clear hK K
            generalize (if capv = p + 1 then (some ⟨gh, 0, none⟩ : Option Addr) else some ⟨gh, p + 1, none⟩) = adq
            have HKV : Hid (Keep (Value.slice (some ⟨gh, 0, none⟩) l.length capv).ownBlock.toList y w8) := HK7.out.mono (by simp)
            have HO8 : Hid (w8.ownsRow w.heap.size 50 1 (.slice A7 (p + (l.length - (p + 1))) cap7) ((had.getD k []).take p ++ (had.getD k []).drop (p + 1)).length (u64s ((had.getD k []).take p ++ (had.getD k []).drop (p + 1)))) := by
              rw [HL.out]
              have e1 : (l.take p ++ l.drop (p + 1)).length = p + (l.length - (p + 1)) := by simp; omega
              have e2 : u64s (l.take p ++ l.drop (p + 1)) = u64s (l.take p) ++ u64s (l.drop (p + 1)) := by simp [u64s]
              rw [e1, e2]
              exact HO7.out
            have HMp := Lib.hid (HM2.out.put HR2.out HKH.out HVS.out HKV.out (.slice A7 (p + (l.length - (p + 1))) cap7))
            have HRp := Lib.hid (HR2.out.put HKH.out HVS.out HKV.out HO8.out (.inr HN7.out))
            have HHp : Hid (∀ i, ((had.set k ((had.getD k []).take p ++ (had.getD k []).drop (p + 1))).getD i []).length ≤ j) := fun i => by
              by_cases ei : k = i
              · subst ei
                rw [getD_nil_eq HKH.out, HL.out]
                have := HLC.out.1
                simp
                omega
              · rw [getD_nil_ne ei]
                exact HHL.out i
            generalize w8.setCell ⟨hb, k, none⟩ (.slice A7 (p + (l.length - (p + 1))) cap7) = w9 at HMp HRp ⊢
            clear hcv hcf hxA hxB hxB2 hxC hxD hxF hzw hzq htn hzl hzc hc0 HNT HND HO5 HO7 HK5 HK7 HN5 HN7 HBX HBF HO8 HKV
            go_wp2_with fail
            go_meet
            obtain ⟨own3, h1, h2, h3⟩ := HS.out
            obtain ⟨ti2, h4, h5⟩ := HT2b.out
            exact ⟨own3, _, _, emp, i2, _, _, _, ti2, h1, HMp.out, HRp.out, h2, h3, h4, h5, HHp.out⟩
        · obtain rfl : d = 1 := by rw [← HDL.out, hf]; rfl
          have HF1 := Lib.hid hf
          clear hf
          go_wp2_with fail
          go_meet
          exact ⟨own, had, vs, emp, i, s, th, f, ti, HCR.out, HMA.out, HME.out, HTH.out, HF1.out, HTI.out, rfl, HHL.out⟩
      case rest =>
       as_aux_lemma =>
        obtain ⟨own1, had1, vs1, emp1, i1, s1, th1, f1, ti1, hcr, hma, hme, hth, hfr, hti, htb, hhl⟩ := hcut
        have hp1 : 0 < th1.frs.length := by rw [hfr]; show 0 < 1; decide
        obtain ⟨hfn12, hok, hroom, ⟨own2, L2, G2, hout⟩, _⟩ := sc_step hcr (by have := HNJ.out; have := h600.out; have := HLEN.out; omega) hth hfr
        obtain ⟨had2, hcr2, hflow⟩ := hout.flow hcr
        have HC1 := Lib.hid hcr
        have HC2 := Lib.hid hcr2
        have HM1 := Lib.hid hma
        have HE1 := Lib.hid hme
        have HHL1 := Lib.hid hhl
        have HFN := Lib.hid (fun (y : World) (h : MachAt y i1 s1) => show y.cell? ⟨ti1.topB, 0, none⟩ = some (.int .i64 f1.fn) from by
          have h2 := ((h.th k ti1 th1 hti hth).top_at hp1).c0
          have h3 : th1.top = f1 := by unfold ThS.top; rw [hfr]; rfl
          rw [h3] at h2
          exact h2)
        have KTop := fun (W : World) (hW : MachAt W i1 s1) => t_top hW hti hth hp1
        rw [htb] at KTop
        have HKTop := Lib.hid KTop
        have KS := fun (W : World) (hW : MachAt W i1 s1) => core_step_at (slots_do.at_ k) enter_slots W i1 s1 hW trivial ti1 th1 hti hth hp1 hok hroom
        rw [hma.im] at KS
        unfold fnV at KS
        have HKS := Lib.hid KS
        have HTB1 := Lib.hid (fun (y : World) (i2 : MI) (hg : Goes wc y i1 i2) => (hg.tb hti).elim fun ti2 h => (⟨ti2, h.1, h.2.trans htb⟩ : ∃ ti2, i2.tis[k]? = some ti2 ∧ ti2.tb = ti.tb))
        have HFL := Lib.hid hflow
        have HF12 := Lib.hid hfn12
        have HXC : Hid (Keep [] wc wc) := Keep.refl _ _
        unfold RanOut at HKS
        generalize MS.ran s1 k th1 PS.slots = s2 at HC2 HFL HKS
        generalize MS.left s1 th1 PS.slots = left at HFL HKS
        generalize f1.fn = fn at HFL HFN HF12
        clear hcr hcr2 hma hme hth hfr hti htb hhl hp1 hok hroom hout hflow hfn12 KS KTop HCR HMA HME HMT HTH HTI HDL HHL
        have HTK1 := Lib.hid (And.intro HC1.out.hp.len (And.intro HC1.out.hp.sm HC1.out.hp.chained))
        go_upto_region 21 with fail
        go_cut [13] (fun s13 wx => s13 = .bool (fn == 1) ∧ Keep [] wc wx ∧ MachC w m0 wx i1 s1 ∧ MemR wx w c cb hb eb had1 vs1 emp1)
        case first =>
         as_aux_lemma =>
          go_wp2_with fail
          refine (HKTop.out _ HM1.out.hm).mono ?_
          rintro r y ⟨rfl, hd⟩
          have HD := Lib.hid (Keep.of_drawn (S := []) hd)
          clear hd
          go_wp2_with fail
          refine (HKTop.out _ (HM1.out.hm.keep0 HD.out)).mono ?_
          rintro r y2 ⟨rfl, hd⟩
          have HD2 := Lib.hid (HD.out.trans (Keep.of_drawn (S := []) hd) (by simp))
          have hfn := HFN.out y2 (HM1.out.hm.keep0 HD2.out)
          clear hd HD HKTop HKS
          rcases HF12.out with rfl | rfl
          · go_wp2_with fail
            go_meet
            exact ⟨rfl, HD2.out, HM1.out.keep0 HD2.out, HE1.out.keep0 HD2.out⟩
          · go_wp2_with fail
            go_meet
            exact ⟨rfl, HD2.out, HM1.out.keep0 HD2.out, HE1.out.keep0 HD2.out⟩
        case rest =>
         as_aux_lemma =>
          obtain ⟨rfl, hkx, hma, hme⟩ := hcut
          have HMa := Lib.hid hma
          have HEa := Lib.hid hme
          have HKx := Lib.hid hkx
          clear hma hme hkx HM1 HE1 HKTop HFN
          generalize htk : (fn == 1) = tk
          have HTKB : Hid ((fn == 1) = tk) := htk
          clear htk
          go_upto_region 22 with fail
          go_cut [14] (fun s14 wx => s14 = .bool (decide (L.length = 0)) ∧ Keep [] wc wx ∧ MachC w m0 wx i1 s1 ∧ MemR wx w c cb hb eb had1 vs1 emp1)
          case first =>
           as_aux_lemma =>
            have KB := law17_bare HMa.out.hm (by rw [HC1.out.conf]; exact HTK1.out.1) HTK1.out.2.1 (by rw [HC1.out.conf]; exact HTK1.out.2.2)
            rw [HMa.out.im] at KB
            go_wp2_with fail
            refine KB.mono ?_
            clear KB
            rintro r y ⟨hk, A1, cap1, rfl⟩
            have HK := Lib.hid hk
            clear hk
            by_cases hl0 : L.length = 0
            · have HZ0 : Hid (decide (L.length = 0) = true) := decide_eq_true hl0
              rw [hl0]
              go_wp2_with fail
              go_meet
              exact ⟨by rw [HZ0.out], HK.out, HMa.out.keep0 HK.out, HEa.out.keep0 HK.out⟩
            · have HD0 : Hid (decide (L.length = 0) = false) := decide_eq_false hl0
              have hz : ¬ ((L.length : Nat) : Int) = 0 := by omega
              have hzb : (((L.length : Nat) : Int) == 0) = false := by rw [beq_eq_false_iff_ne]; exact hz
              generalize L.length = ln at hz hzb ⊢
              go_wp2_with fail
              go_meet
              exact ⟨by rw [HD0.out], HK.out, HMa.out.keep0 HK.out, HEa.out.keep0 HK.out⟩
          case rest =>
           as_aux_lemma =>
            obtain ⟨rfl, hkx, hma, hme⟩ := hcut
            have HMb := Lib.hid hma
            have HEb := Lib.hid hme
            have HKy := Lib.hid (HKx.out.trans hkx (by simp))
            clear hma hme hkx HMa HEa HKx
            generalize hb0 : decide (L.length = 0) = b0
            have HB0 : Hid (decide (L.length = 0) = b0) := hb0
            clear hb0
            have KS := HKS.out _ HMb.out.hm
            go_wp2_with fail
            refine KS.mono ?_
            clear KS HKS
            rintro r z ⟨rfl, i2, hm2, hg2⟩
            have HM2 := Lib.hid (HMb.out.go hm2 hg2)
            have HE2 := Lib.hid (HEb.out.go HMb.out.hm hg2)
            have HTK : Hid (∃ tk2, i2.tis[k]? = some tk2 ∧ tk2.tb = ti.tb) := HTB1.out z i2 (Goes.trans ⟨rfl, rfl, rfl, rfl, fun _ h => .inl h, HKy.out.mono (by simp)⟩ hg2)
            clear hm2 hg2 HMb HEb HTB1 HTK1
            go_upto_region 24 with fail
            go_cut [14] (fun s14 wx => s14 = .bool (b0 || decide (L2.length = 0)) ∧ MachC w m0 wx i2 s2 ∧ MemR wx w c cb hb eb had1 vs1 emp1)
            case first =>
             as_aux_lemma =>
              cases b0 with
              | true =>
                go_wp2_with fail
                go_meet
                exact ⟨rfl, HM2.out, HE2.out⟩
              | false =>
                have KB := law17_bare HM2.out.hm (by rw [HC2.out.conf]; exact HC2.out.hp.len) HC2.out.hp.sm (by rw [HC2.out.conf]; exact HC2.out.hp.chained)
                rw [HM2.out.im] at KB
                go_wp2_with fail
                refine KB.mono ?_
                clear KB
                rintro r y ⟨hk, A1, cap1, rfl⟩
                have HK := Lib.hid hk
                clear hk
                by_cases hl0 : L2.length = 0
                · have HZ0 : Hid (decide (L2.length = 0) = true) := decide_eq_true hl0
                  rw [hl0]
                  go_wp2_with fail
                  go_meet
                  exact ⟨by rw [HZ0.out]; rfl, HM2.out.keep0 HK.out, HE2.out.keep0 HK.out⟩
                · have HD0 : Hid (decide (L2.length = 0) = false) := decide_eq_false hl0
                  have hz : ¬ ((L2.length : Nat) : Int) = 0 := by omega
                  have hzb : (((L2.length : Nat) : Int) == 0) = false := by rw [beq_eq_false_iff_ne]; exact hz
                  generalize L2.length = ln at hz hzb ⊢
                  go_wp2_with fail
                  go_meet
                  exact ⟨by rw [HD0.out]; rfl, HM2.out.keep0 HK.out, HE2.out.keep0 HK.out⟩
            case rest =>
             as_aux_lemma =>
              obtain ⟨rfl, hma, hme⟩ := hcut
              have HM3 := Lib.hid hma
              have HE3 := Lib.hid hme
              clear hma hme HM2 HE2
              generalize hbb : (b0 || decide (L2.length = 0)) = bb
              have HBB : Hid (bareE L L2 emp1 = emp1.map (· || bb)) := by
                show bareE L L2 emp1 = emp1.map (· || bb)
                rw [bareE_or, HB0.out, hbb]
              clear hbb HB0
              have HKE1 : Hid (emp1.length = T) := by show emp1.length = T; rw [HC1.out.empL, HTT.out]
              go_wp2_with fail
              go_loopg [16] T (fun gg q wx => ∃ j2 : Nat, j2 ≤ T ∧ gg = T - j2 ∧ q = .int .i64 (j2 : Nat) ∧ MachC w m0 wx i2 s2 ∧ MemR wx w c cb hb eb had1 vs1 (orUp bb j2 emp1))
              case atStart => exact ⟨0, Nat.zero_le _, rfl, rfl, HM3.out, by rw [orUp_zero]; exact HE3.out⟩
              case round =>
                obtain ⟨j2, hj2, rfl, rfl, hma, hme⟩ := hrel
                have HMr := Lib.hid hma
                have HEr := Lib.hid hme
                clear hma hme HM3 HE3
                have hc0 := HEr.out.c0
                rw [HT2.out] at hc0
                by_cases hlt2 : j2 < T
                · have hj2e : j2 < emp1.length := by rw [HKE1.out]; exact hlt2
                  have HJE : Hid (j2 < (orUp bb j2 emp1).length) := by show j2 < (orUp bb j2 emp1).length; rw [orUp_len]; exact hj2e
                  have he0 := HEr.out.e0 HJE.out
                  have hef := HEr.out.ef j2
                  rw [orUp_get hj2e] at he0
                  have HOS := Lib.hid (orUp_set (b := bb) hj2e)
                  have hz2 : ((j2 : Nat) : Int) < (T : Int) := by omega
                  have hz20 : (0 : Int) ≤ ((j2 : Nat) : Int) := by omega
                  generalize emp1.getD j2 false = ev at he0 HOS
                  cases ev with
                  | true =>
                    go_wp2_with fail
                    go_roundg (T - (j2 + 1))
                    case measure => omega
                    case rel => exact ⟨j2 + 1, by omega, rfl, by go_num, HMr.out.putE HEr.out, by rw [← HOS.out]; exact HEr.out.putE HJE.out⟩
                  | false =>
                    go_wp2_with fail
                    go_roundg (T - (j2 + 1))
                    case measure => omega
                    case rel => exact ⟨j2 + 1, by omega, rfl, by go_num, HMr.out.putE HEr.out, by rw [← HOS.out]; exact HEr.out.putE HJE.out⟩
                · obtain rfl : j2 = T := by omega
                  have HE4 : Hid (MemR wr w c cb hb eb had1 vs1 (bareE L L2 emp1)) := by
                    have := HEr.out
                    rw [HBB.out, ← orUp_all bb emp1, HKE1.out]
                    exact this
                  have HM4 := HMr
                  clear HEr HMr HBB
                  generalize bareE L L2 emp1 = emp2 at HE4 HC2 HFL
                  have KF := m_fault HM4.out.hm
                  rw [HC2.out.f1, HC2.out.f2, HC2.out.hp.slips, HM4.out.im] at KF
                  have HKF := Lib.hid KF
                  clear KF
                  go_upto_region 29 with fail
                  clear hc0
                  go_cut [158] (fun s158 wx => s158 = .bool (left || !tk) ∧ MachC w m0 wx i2 s2 ∧ MemR wx w c cb hb eb had1 vs1 emp2)
                  case first =>
                   as_aux_lemma =>
                    cases left with
                    | true =>
                      go_wp2_with fail
                      refine HKF.out.mono ?_
                      rintro r y ⟨rfl, rfl⟩
                      go_wp2_with fail
                      go_meet
                      exact ⟨rfl, HM4.out, HE4.out⟩
                    | false =>
                      cases tk with
                      | true =>
                        go_wp2_with fail
                        refine HKF.out.mono ?_
                        rintro r y ⟨rfl, rfl⟩
                        go_wp2_with fail
                        go_meet
                        exact ⟨rfl, HM4.out, HE4.out⟩
                      | false =>
                        go_wp2_with fail
                        refine HKF.out.mono ?_
                        rintro r y ⟨rfl, rfl⟩
                        go_wp2_with fail
                        go_meet
                        exact ⟨rfl, HM4.out, HE4.out⟩
                  case rest =>
                   as_aux_lemma =>
                    obtain ⟨rfl, hma, hme⟩ := hcut
                    have HM5 := Lib.hid hma
                    have HE5 := Lib.hid hme
                    clear hma hme HM4 HE4 HKF
                    have KF := m_fault HM5.out.hm
                    rw [HC2.out.f1, HC2.out.f2, HC2.out.hp.slips, HM5.out.im] at KF
                    generalize hq : (left || !tk) = q
                    have HQ : Hid ((left || !tk) = q) := hq
                    clear hq
                    cases q with
                    | true =>
                      have HHD : Hid (had2 = had1) := by
                        rcases HFL.out with ⟨_, h⟩ | ⟨h1, h2, _⟩
                        · exact h
                        · have := HQ.out
                          rw [← HTKB.out, h1, h2] at this
                          cases this
                      go_wp2_with fail
                      refine KF.mono ?_
                      clear KF
                      rintro r y ⟨rfl, rfl⟩
                      go_wp2_with fail
                      go_roundg (n - (j + 1))
                      case measure => omega
                      case rel => exact ⟨j + 1, nn + 1, own2, L2, G2, had2, vs1, emp2, i2, s2, by omega, rfl, by go_num, by have := HNJ.out; omega, fun k => by rw [HHD.out]; exact Nat.le_succ_of_le (HHL1.out k), HC2.out, HM5.out, by rw [HHD.out]; exact HE5.out⟩
                    | false =>
                      obtain ⟨h1, h2, t2, e, h3, h4, h5⟩ : left = false ∧ fn = 1 ∧ ∃ t2 e, s2.ths[k]? = some t2 ∧ t2.ret.getD 0 0 = e ∧ ((e = 0 ∧ emp2.getD k false = true ∧ had2 = had1) ∨ (e ≠ 0 ∧ e < 2 ^ 64 ∧ s2.gd.leads e = true ∧ nodeE e = e ∧ (∀ j x, x ∈ had1.getD j [] → slotE x ≠ slotE e ∧ x < 2 ^ 64) ∧ had2 = had1.set k (had1.getD k [] ++ [e]))) := by
                        rcases HFL.out with ⟨h | h, _⟩ | h
                        · have := HQ.out
                          rw [h] at this
                          cases this
                        · have := HQ.out
                          rw [← HTKB.out, h] at this
                          simp at this
                        · exact h
                      obtain ⟨tk2, htk2, hret⟩ := ret_at HM5.out.hm h3 h4
                      obtain ⟨tk3, htk3, htb3⟩ := HTK.out
                      have htt : tk2 = tk3 := by rw [htk2] at htk3; simpa using htk3
                      rw [htt, htb3] at hret
                      have HWAY := Lib.hid h5
                      have HKE2 : Hid (k < emp2.length) := by show k < emp2.length; rw [HC2.out.empL, HTT.out]; exact HKT.out
                      clear h1 h2 h3 h4 h5 htk2 htk3 htb3 htt KF HQ HFL HTKB HF12
                      rcases HWAY.out with ⟨rfl, hem, hhd⟩ | ⟨he0, he64, hld, hpl, hsl, hhd⟩
                      · have he1 := HE5.out.e0 HKE2.out
                        rw [hem] at he1
                        have HHD := Lib.hid hhd
                        have hc0 := HE5.out.c0
                        rw [HT2.out] at hc0
                        have hz0T : (0 : Int) < (j2 : Int) := by omega
                        clear hem hhd HWAY
                        go_wp2_with fail
                        go_loopg [18] 0 (fun gg q wx => gg = 0 ∧ q = .int .i64 0 ∧ MachC w m0 wx i2 s2 ∧ MemR wx w c cb hb eb had1 vs1 emp2)
                        case atStart => exact ⟨rfl, rfl, HM5.out, HE5.out⟩
                        case round =>
                          obtain ⟨rfl, rfl, hma, hme⟩ := hrel
                          have HMr := Lib.hid hma
                          have HEr := Lib.hid hme
                          clear hma hme HM5 HE5 hc0 he1 hret
                          have hc0 := HEr.out.c0
                          rw [HT2.out] at hc0
                          go_wp2_with fail
                          go_roundg (n - (j + 1))
                          case measure => omega
                          case rel => exact ⟨j + 1, nn + 1, own2, L2, G2, had2, vs1, emp2, i2, s2, by omega, rfl, by go_num, by have := HNJ.out; omega, fun k => by rw [HHD.out]; exact Nat.le_succ_of_le (HHL1.out k), HC2.out, HMr.out, by rw [HHD.out]; exact HEr.out⟩
                      · have HHD := Lib.hid hhd
                        have HSL := Lib.hid hsl
                        have HE64 : Hid (e < 2 ^ 64) := he64
                        have HLD := Lib.hid hld
                        have HPL := Lib.hid hpl
                        have hez : ((e : Nat) : Int) ≠ 0 := by omega
                        have hez2 : (((e : Nat) : Int) == 0) = false := by rw [beq_eq_false_iff_ne]; exact hez
                        have hez3 : (((e : Nat) : Int) != 0) = true := by rw [bne_iff_ne]; exact hez
                        clear hhd hsl he64 hld hpl HWAY he0
                        have KG := m_guard HM5.out.hm
                        have KL := guard_leads _ i2.gi s2.gd e HM5.out.hm.hG HE64.out
                        have KP : ∀ W, Calls Try.prog 32 #[.int .u64 (e : Nat)] W fun r w' => r = .returned (.bool true) ∧ W = w' := fun W => by
                          have h := edge_plain e W HE64.out
                          rw [HPL.out, beq_self_eq_true] at h
                          exact h
                        have HKP := Lib.hid KP
                        rw [HLD.out] at KL
                        rw [HM5.out.im] at KG
                        have HKG := Lib.hid KG
                        have HKL := Lib.hid KL
                        clear KG KL KP
                        go_wp2_with fail
                        refine HKG.out.mono ?_
                        rintro r y ⟨rfl, rfl⟩
                        go_wp2_with fail
                        refine HKL.out.mono ?_
                        rintro r y ⟨rfl, hd⟩
                        have HM6 := Lib.hid (HM5.out.keep0 (Keep.of_drawn hd))
                        have HE6 := Lib.hid (HE5.out.keep0 (Keep.of_drawn hd))
                        clear hd HKG HKL HM5 HE5 hret
                        go_wp2_with fail
                        refine (HKP.out _).mono ?_
                        rintro r y2 ⟨rfl, rfl⟩
                        have hc0 := HE6.out.c0
                        rw [HT2.out] at hc0
                        go_wp2_with fail
                        clear hc0
                        go_loopg [18] j2 (fun gg q wx => ∃ a : Nat, a ≤ j2 ∧ gg = j2 - a ∧ q = .int .i64 (a : Nat) ∧ MachC w m0 wx i2 s2 ∧ MemR wx w c cb hb eb had1 vs1 emp2)
                        case atStart => exact ⟨0, Nat.zero_le _, rfl, rfl, HM6.out, HE6.out⟩
                        case round =>
                          obtain ⟨a, ha, rfl, rfl, hma, hme⟩ := hrel
                          have HMr := Lib.hid hma
                          have HEr := Lib.hid hme
                          clear hma hme HM6 HE6 HKP
                          have hc0 := HEr.out.c0
                          rw [HT2.out] at hc0
                          by_cases hlta : a < j2
                          · have HAH : Hid (a < had1.length) := by show a < had1.length; rw [HC1.out.hadL, HTT.out]; exact hlta
                            obtain ⟨v, hvs, hcv, hcf, hown⟩ := HEr.out.at_ HAH.out
                            obtain ⟨Av, capv, rfl, hle, hAg⟩ := own_slice hown
                            have HVS := Lib.hid hvs
                            have HAG := Lib.hid hAg
                            have hza : ((a : Nat) : Int) < (j2 : Int) := by omega
                            have hza0 : (0 : Int) ≤ ((a : Nat) : Int) := by omega
                            have HHLa : Hid ((had1.getD a []).length ≤ j) := HHL1.out a
                            have HSLa := Lib.hid (HSL.out a)
                            clear hvs hown hle hAg hcf
                            generalize hl : had1.getD a [] = l at *
                            have HLL := Lib.hid hl
                            clear hl hcv
                            go_wp2_with fail
                            go_loopg [19] l.length (fun gg q wx => ∃ b2 : Nat, b2 ≤ l.length ∧ gg = l.length - b2 ∧ q = .int .i64 (b2 : Nat) ∧ MachC w m0 wx i2 s2 ∧ MemR wx w c cb hb eb had1 vs1 emp2)
                            case atStart => exact ⟨0, Nat.zero_le _, rfl, rfl, HMr.out, HEr.out⟩
                            case round =>
                              obtain ⟨b2, hb2, rfl, rfl, hma, hme⟩ := hrel
                              have HMq := Lib.hid hma
                              have HEq := Lib.hid hme
                              clear hma hme HMr HEr hc0
                              have hcv := (HEq.out.get HAH.out HVS.out).1
                              by_cases hltb : b2 < l.length
                              · have HLB : Hid (b2 + 1 ≤ l.length) := hltb
                                obtain ⟨ga, rfl⟩ := HAG.out (by omega)
                                have hrow := (HEq.out.get HAH.out HVS.out).2.2
                                rw [HLL.out] at hrow
                                have hce := hrow.cells (g := ga) rfl b2 (.int .u64 (l.getD b2 0 : Nat)) (by simp [u64s, hltb])
                                rw [Addr_add_zero] at hce
                                obtain ⟨hne, hx64⟩ := HSLa.out (l.getD b2 0) (by rw [List.getD_eq_getElem?_getD, List.getElem?_eq_getElem hltb]; exact List.getElem_mem hltb)
                                generalize l.getD b2 0 = xx at hce hne hx64
                                have KS1 := Lib.hid (fun W => edge_slot xx W hx64)
                                have KS2 := Lib.hid (fun W => edge_slot e W HE64.out)
                                have hzb : ((b2 : Nat) : Int) < (l.length : Int) := by omega
                                have hzb6 : (l.length : Int) ≤ 600 := by have h1 := HHLa.out; have h2 := HNJ.out; have h3 := h600.out; omega
                                have hzb0 : (0 : Int) ≤ ((b2 : Nat) : Int) := by omega
                                generalize slotE xx = sx at KS1 hne
                                generalize slotE e = se at KS2 hne
                                have hsn : (((sx : Nat) : Int) == ((se : Nat) : Int)) = false := by
                                  rw [beq_eq_false_iff_ne]
                                  omega
                                have hsn2 : ¬ ((sx : Nat) : Int) = ((se : Nat) : Int) := by omega
                                clear hne hx64 hrow
                                go_wp2_with fail
                                refine (KS1.out _).mono ?_
                                rintro r y ⟨rfl, rfl⟩
                                go_wp2_with fail
                                refine (KS2.out _).mono ?_
                                rintro r y ⟨rfl, rfl⟩
                                go_wp2_with fail
                                go_roundg (l.length - (b2 + 1))
                                case measure => omega
                                case rel => exact ⟨b2 + 1, HLB.out, rfl, by go_num, HMq.out, HEq.out⟩
                              · obtain rfl : b2 = l.length := by omega
                                go_wp2_with fail
                                go_roundg (j2 - (a + 1))
                                case measure => omega
                                case rel => exact ⟨a + 1, by omega, rfl, by go_num, HMq.out, HEq.out⟩
                          · obtain rfl : a = j2 := by omega
                            have HKH1 : Hid (k < had1.length) := by show k < had1.length; rw [HC1.out.hadL, HTT.out]; exact HKT.out
                            obtain ⟨v, hvs, hcv, hcf, hown⟩ := HEr.out.at_ HKH1.out
                            obtain ⟨Av, capv, rfl, hle, hAg⟩ := own_slice hown
                            have HVS := Lib.hid hvs
                            have HOWN := Lib.hid hown
                            have HHLa : Hid ((had1.getD k []).length ≤ j) := HHL1.out k
                            have HJ6 : Hid (j < 600) := by have h1 := h600.out; have h2 := HLEN.out; show j < 600; omega
                            have HWR : Hid (w.heap.size ≤ wr.heap.size) := HMr.out.hk.size
                            have HBL : Hid (hb < wr.heap.size) := by
                              obtain ⟨xt, h1⟩ := HEr.out.hh
                              exact h1.lt
                            have HBN : Hid (hb ∉ (Value.slice Av (had1.getD k []).length capv).ownBlock.toList) := by
                              obtain ⟨xt, h1⟩ := HEr.out.hh
                              exact fun hm => own_ne HOWN.out h1 (by decide) (by simpa using hm)
                            have HCV := Lib.hid hcv
                            have HCF := Lib.hid hcf
                            clear hvs hown hle hAg hcf
                            generalize hl : had1.getD k [] = l at *
                            have HLL := Lib.hid hl
                            clear hl
                            have hzk : ((k : Nat) : Int) < (a : Int) := by have := HKT.out; omega
                            go_wp2_with (at_builtin; obtain ⟨i0, hi, hz0, hz1, hz2⟩ := info_parts infoEdge; go_loud (refine wpList_append_own_at _ rfl (.tmp 228) (.tmp 230) 45 rfl w.heap.size 50 i0 (.int .u64 0) 1 8 Try.underlying45 hi hz0 hz1 hz2 rfl (by decide) (.slice Av l.length capv) l.length (u64s l) rfl (own_keep HOWN.out ((Keep.refl [] _).alloc _) (by simp)) ⟨_, 0, none⟩ 1 1 [.int .u64 (e : Nat)] rfl rfl (World.news_of_block (heap_alloc_new _ _)) (by simp [Value.oneCell']) (by have := HJ6.out; have := HHLa.out; unfold maxLen; omega) (by have := HJ6.out; have := HHLa.out; omega) (by have := HWR.out; simp; omega) ?_); clear hi hz0 hz1 hz2; intro v2 w4 hown2 hg _ hat; obtain ⟨A4, cap4, rfl, _⟩ := own_slice hown2; have HO4 := Lib.hid hown2; have HKV := Lib.hid ((((Keep.refl [] wr).alloc (.cells #[.int .u64 (e : Nat)] 50)).mono (S' := (Value.slice Av l.length capv).ownBlock.toList) (by simp)).trans (Keep.of_grown hg) (fun x hx => .inl hx)); have HAT := Lib.hid (own_at2 hat); have hx1 := (HKV.out.cell HBL.out HBN.out).trans HCV.out; have hx2 := (HKV.out.frozen HBL.out HBN.out).trans HCF.out; clear hown2 hg hat hcv)
                            have HMp := Lib.hid (HMr.out.put HEr.out HKH1.out HVS.out HKV.out (.slice A4 (l.length + 1) cap4))
                            have HRp := Lib.hid (HEr.out.put (l' := l ++ [e]) HKH1.out HVS.out HKV.out (by rw [u64s_snoc, List.length_append]; exact HO4.out) HAT.out)
                            have HHp : Hid (∀ q, ((had1.set k (l ++ [e])).getD q []).length ≤ j + 1) := fun q => by
                              by_cases eq : k = q
                              · subst eq
                                rw [getD_nil_eq HKH1.out, List.length_append]
                                have := HHLa.out
                                simp only [List.length_cons, List.length_nil]
                                omega
                              · rw [getD_nil_ne eq]
                                exact Nat.le_succ_of_le (HHL1.out q)
                            have HH2 : Hid (had2 = had1.set k (l ++ [e])) := HHD.out
                            go_wp2_with fail
                            go_roundg (n - (j + 1))
                            case measure => omega
                            case rel => exact ⟨j + 1, nn + 1, own2, L2, G2, had2, _, emp2, i2, s2, by omega, rfl, by go_num, by have := HNJ.out; omega, by rw [HH2.out]; exact HHp.out, HC2.out, HMp.out, by rw [HH2.out]; exact HRp.out⟩
    · obtain rfl : j = n := by omega
      have KE := ends_at (fun k => slots_do.at_ k) enter_slots (crowd_sl c) (by have := HO.out.t1; omega) (by have := HO.out.t2; omega) (by decide) (n0 := nn) (by rw [HTT.out]; have := HT16.out; have h2 := HNJ.out; have h3 := h600.out; omega) wr i s HMAa.out.hm ⟨by have h2 := HNJ.out; have h3 := h600.out; omega, _, _, _, _, _, HCR.out⟩
      rw [HMAa.out.im] at KE
      have HKE := Lib.hid KE
      clear hlt KE
      unfold fnV at HKE
      go_wp2_with fail
      refine HKE.out.mono ?_
      rintro r y ⟨rfl, i2, s2, n2, ⟨hn2, own2, L2, G2, had2, emp2, hcr2⟩, hm2, hg2, hid⟩
      have HM2 := Lib.hid (HMAa.out.go hm2 hg2)
      have KF := m_fault hm2
      rw [hcr2.f1, hcr2.f2, hcr2.hp.slips, HM2.out.im] at KF
      have HFR : Hid (Free s2.conf s2.mem.ws s2.gd L2 G2) := by rw [hcr2.conf]; exact hcr2.rest (by omega) hid
      have KW := law17_whole hm2 HFR.out
      rw [HM2.out.im] at KW
      have HKW := Lib.hid KW
      clear hcr2 hm2 hg2 hid HKE KW hn2
      go_wp2_with fail
      refine KF.mono ?_
      clear KF
      rintro r z ⟨rfl, rfl⟩
      go_wp2_with fail
      refine HKW.out.mono ?_
      rintro r z ⟨rfl, hk⟩
      have HKy := Lib.hid (HM2.out.hk.trans hk (by simp))
      clear hk HKW
      go_wp2_with fail
      refine (lives17 _).mono ?_
      rintro r z2 ⟨rfl, hk⟩
      have HKz := Lib.hid (HKy.out.trans hk (by simp))
      clear hk
      go_wp2_with fail
      go_ret
      exact ⟨rfl, HKz.out⟩
end Go.Proofs.Ytlbhjahmgdghoaa
