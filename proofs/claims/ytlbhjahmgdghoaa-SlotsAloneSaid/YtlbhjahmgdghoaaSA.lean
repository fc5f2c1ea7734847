/- SlotsAlone's walk. No condition. -/
import Derived.Test.YtlbhjahmgdghoaaLoop17
namespace Go.Proofs.Ytlbhjahmgdghoaa
open Go.RowKit

/-- The row of deeds that came in. -/
def IntsAt (w : World) (A : Option Addr) (ls : List Int) : Prop := 0 < ls.length → ∃ b o, A = some ⟨b, o, none⟩ ∧ b < w.heap.size ∧ ∀ k, k < ls.length → w.cell? ⟨b, o + k, none⟩ = some (.int .i64 (ls.getD k 0))
theorem IntsAt.keep {w w' : World} {A : Option Addr} {ls : List Int} (h : IntsAt w A ls) (hk : Keep [] w w') : IntsAt w' A ls := fun hl => by
  obtain ⟨b, o, h1, h2, h3⟩ := h hl
  exact ⟨b, o, h1, Nat.lt_of_lt_of_le h2 hk.size, fun k hk' => by rw [hk.cell h2 (by simp)]; exact h3 k hk'⟩
theorem may_ok {c : ConfS} (h : c.Ok) : c.may = true := by
  unfold ConfS.may
  simp [h.t1, h.t2, h.s1, h.s2, h.p1, h.p2]
theorem ok_may {c : ConfS} (h : c.may = true) : c.Ok := by
  unfold ConfS.may at h
  simp only [Bool.and_eq_true, decide_eq_true_eq] at h
  exact ⟨h.1.1.1.1.1, h.1.1.1.1.2, h.1.1.1.2, h.1.1.2, h.1.2, h.2⟩
theorem LoopS.form {c : ConfS} {w0 : World} {m0 cb fb : Nat} {wr : World} {i : MI} {s : MS} {L G had : List Nat} {n : Nat} {vh : Value} (h : LoopS c w0 m0 cb fb wr i s L G had n vh) : ∃ A cap, vh = .slice A had.length cap := by
  obtain ⟨hl, ⟨h1, h2⟩ | ⟨g, cap, cur, hv, _⟩⟩ := h.hh
  · have h2' : had.length = 0 := h2
    exact ⟨none, 0, by rw [h1, h2']⟩
  · exact ⟨_, _, hv⟩
theorem u64s_snoc (l : List Nat) (x : Nat) : u64s (l ++ [x]) = u64s l ++ [.int .u64 (x : Nat)] := by simp [u64s]
theorem RowI.form {w : World} {ok : Nat → Prop} {t : TypeId} {v : Value} {xs : List Value} (h : RowI w ok t v xs) : ∃ b o cap, v = .slice (some ⟨b, o, none⟩) xs.length cap := by
  obtain ⟨b, o, cap, cs, h1, _⟩ := h
  exact ⟨b, o, cap, h1⟩
set_option maxRecDepth 100000 in
set_option maxHeartbeats 1000000 in
theorem alone_no (c : ConfS) (A : Option Addr) (n cap : Nat) (w : World) (h : c.may = false ∨ 60 < n) : Calls Try.prog 4 #[.agg c.cells, .slice A n cap] w (TrueOut w) := by
  have HM := Lib.hid (fun w => ref05_may c w)
  have HB := Lib.hid (Blk.new w 24 c.cells)
  have HK := Lib.hid ((Keep.refl [] w).alloc (.cells c.cells 24))
  have HH := Lib.hid h
  have hcs : c.cells = #[.int .i64 c.thr, .int .i64 c.slots, .int .u64 c.stamps] := rfl
  rw [hcs] at HM HK HB ⊢
  clear hcs h
  go_enter Try.func4, Try.ntmps4
  go_upto_region 1 with fail
  generalize hcb : w.heap.size = cb at HB ⊢
  generalize w.alloc (.cells #[.int .i64 c.thr, .int .i64 c.slots, .int .u64 c.stamps] 24) = w1 at HB HK ⊢
  have hl0 : w1.cell? ⟨cb, 0, none⟩ = some (.int .i64 c.thr) := HB.out.cell 0
  have hl1 : w1.cell? ⟨cb, 1, none⟩ = some (.int .i64 c.slots) := HB.out.cell 1
  have hl2 : w1.cell? ⟨cb, 2, none⟩ = some (.int .u64 c.stamps) := HB.out.cell 2
  go_wp2_with fail
  refine (HM.out _).mono ?_
  rintro r x ⟨rfl, hk⟩
  have HK2 := Lib.hid (HK.out.trans hk (by simp))
  clear hk
  generalize hm : c.may = b at HH ⊢
  cases b with
  | false =>
    go_wp2_with fail
    refine (lives17 _).mono ?_
    rintro r y ⟨rfl, hk⟩
    have HK3 := Lib.hid (HK2.out.trans hk (by simp))
    clear hk
    go_wp2_with fail
    go_ret
    exact ⟨rfl, HK3.out⟩
  | true =>
    have hz : (60 : Int) < (n : Int) := by
      rcases HH.out with h | h
      · cases h
      · omega
    go_wp2_with fail
    refine (lives17 _).mono ?_
    rintro r y ⟨rfl, hk⟩
    have HK3 := Lib.hid (HK2.out.trans hk (by simp))
    clear hk
    go_wp2_with fail
    go_ret
    exact ⟨rfl, HK3.out⟩
set_option maxRecDepth 100000 in
set_option maxHeartbeats 1000000 in
theorem alone_yes (c : ConfS) (A : Option Addr) (ls : List Int) (cap : Nat) (w : World) (ho : c.Ok) (hn : ls.length ≤ 60) (hA : IntsAt w A ls) (hb : ∀ k, k < ls.length → -9223372036854775808 ≤ ls.getD k 0 ∧ ls.getD k 0 ≤ 9223372036854775807) :
    Calls Try.prog 4 #[.agg c.cells, .slice A ls.length cap] w (TrueOut w) := by
  have HM := Lib.hid (fun w => ref05_may c w)
  have HN := Lib.hid (fun w => core_new c w ho)
  have HRN := Lib.hid (fun w => ref17_new c w ho)
  have HB := Lib.hid (Blk.new w 24 c.cells)
  have HK := Lib.hid ((Keep.refl [] w).alloc (.cells c.cells 24))
  have HO := Lib.hid ho
  have HL60 : Hid (ls.length ≤ 60) := hn
  have HBD := Lib.hid hb
  have HA0 := Lib.hid hA
  have hcs : c.cells = #[.int .i64 c.thr, .int .i64 c.slots, .int .u64 c.stamps] := rfl
  have hmay : c.may = true := may_ok ho
  rw [hmay] at HM
  rw [hcs] at HM HN HK HB ⊢
  clear hcs ho hA hb hmay
  go_enter Try.func4, Try.ntmps4
  go_upto_region 1 with fail
  generalize hcb : w.heap.size = cb at HB ⊢
  have HCB := Lib.hid hcb
  clear hcb
  generalize w.alloc (.cells #[.int .i64 c.thr, .int .i64 c.slots, .int .u64 c.stamps] 24) = w1 at HB HK ⊢
  have hl0 : w1.cell? ⟨cb, 0, none⟩ = some (.int .i64 c.thr) := HB.out.cell 0
  have hl1 : w1.cell? ⟨cb, 1, none⟩ = some (.int .i64 c.slots) := HB.out.cell 1
  have hl2 : w1.cell? ⟨cb, 2, none⟩ = some (.int .u64 c.stamps) := HB.out.cell 2
  have hz : ¬ (60 : Int) < (ls.length : Int) := by omega
  generalize hlen : ls.length = n at *
  have HLEN := Lib.hid hlen
  clear hlen
  go_wp2_with fail
  refine (HM.out _).mono ?_
  rintro r w2 ⟨rfl, hk⟩
  have HK2 := Lib.hid (HK.out.trans hk (by simp))
  have HB2 := Lib.hid (HB.out.keep hk (by simp))
  clear hk hl0 hl1 hl2 HM HK HB
  have hl0 : w2.cell? ⟨cb, 0, none⟩ = some (.int .i64 c.thr) := HB2.out.cell 0
  have hl1 : w2.cell? ⟨cb, 1, none⟩ = some (.int .i64 c.slots) := HB2.out.cell 1
  have hl2 : w2.cell? ⟨cb, 2, none⟩ = some (.int .u64 c.stamps) := HB2.out.cell 2
  go_wp2_with fail
  refine (HN.out _).mono ?_
  rintro r w3 ⟨i0, rfl, hn⟩
  have HA := Lib.hid hn
  have HB3 := Lib.hid (HB2.out.keep hn.hk (by simp))
  clear hn HN hl0 hl1 hl2
  have hl1 : w3.cell? ⟨cb, 1, none⟩ = some (.int .i64 c.slots) := HB3.out.cell 1
  unfold ptr
  go_wp2_with fail
  refine (HRN.out _).mono ?_
  rintro r w4 ⟨hk, vL, vG, rfl, hL, hG⟩
  have HLx := Lib.hid hL
  have HGx := Lib.hid hG
  have HK4 := Lib.hid hk
  obtain ⟨bL, oL, capL, rfl⟩ := hL.form
  obtain ⟨bG, oG, capG, rfl⟩ := hG.form
  clear hL hG hk hl1 HRN
  go_wp2_with fail
  have hm0lt : ∀ x, x ∈ i0.foot → x < w3.heap.size := HA.out.hm.foot_lt
  have HI0 : Hid (LoopS c w i0.m cb w4.heap.size (w4.alloc (.cells #[.slice (some ⟨bL, oL, none⟩) (ints (L0 (c.slots.toNat - 5))).length capL, .slice (some ⟨bG, oG, none⟩) (u64s (List.replicate c.slots.toNat 0)).length capG] 43)) i0 (MS.start c (gdK c 5) c.thr.toNat) (L0 (c.slots.toNat - 5)) (List.replicate c.slots.toNat 0) [] 0 (.slice none 0 0)) := by
    have hk3 : Keep [] w w3 := HK2.out.trans HA.out.hk (by simp)
    have hk4 : Keep [] w w4 := hk3.trans HK4.out (by simp)
    have hfar : ∀ b, w3.heap.size ≤ b → b ∉ i0.foot := fun b hb hx => by have := hm0lt b hx; omega
    refine ⟨(HA.out.hm.keep0 HK4.out).alloc _, rfl, start_rest17 HO.out, hk4.alloc _, fun x hx => Nat.le_trans HK2.out.size (HA.out.new x hx), (HB3.out.keep HK4.out (by simp)).alloc _, fun hx => ?_, ⟨_, _, Blk.new _ _ _, ?_, ?_⟩, hfar _ HK4.out.size, hk4.size, World.ownsRow_nil _ _ _ _, fun b hb => by simp [Value.ownBlock] at hb⟩
    · have h1 := HA.out.new cb hx
      have h2 := HB2.out.lt
      omega
    · exact (HLx.out.mono (fun b _ hb => hfar b hb)).keep0 ((Keep.refl [] w4).alloc _)
    · exact (HGx.out.mono (fun b _ hb => hfar b hb)).keep0 ((Keep.refl [] w4).alloc _)
  generalize w4.alloc (.cells #[.slice (some ⟨bL, oL, none⟩) (ints (L0 (c.slots.toNat - 5))).length capL, .slice (some ⟨bG, oG, none⟩) (u64s (List.replicate c.slots.toNat 0)).length capG] 43) = w5 at HI0 ⊢
  generalize hfb : w4.heap.size = fb at HI0 ⊢
  generalize him : i0.m = m0 at HI0 ⊢
  clear hm0lt HA HB2 HB3 HK2 HK4 HLx HGx hfb him
  generalize (ints (L0 (c.slots.toNat - 5))).length = q1
  generalize (u64s (List.replicate c.slots.toNat 0)).length = q2
  go_loopg [8, 9] n (fun gg vh q wr => ∃ (j nn : Nat) (i : MI) (s : MS) (L G had : List Nat), j ≤ n ∧ gg = n - j ∧ q = .int .i64 (j : Nat) ∧ nn ≤ j ∧ had.length ≤ j ∧ LoopS c w m0 cb fb wr i s L G had nn vh)
  case atStart => exact ⟨0, 0, _, _, _, _, [], Nat.zero_le _, rfl, rfl, Nat.le_refl _, Nat.le_refl _, HI0.out⟩
  case round =>
    obtain ⟨j, nn, i, s, L, G, had, hj, rfl, rfl, hnn, hhj, hls⟩ := hrel
    have HS := Lib.hid hls
    have HNJ := Lib.hid (And.intro hnn hhj)
    obtain ⟨Ah, caph, rfl⟩ := hls.form
    have hlc0 : wr.cell? ⟨cb, 0, none⟩ = some (.int .i64 c.thr) := hls.hc.cell 0
    have ht1 := HO.out.t1
    have ht2 := HO.out.t2
    clear hls HI0
    by_cases hlt : j < n
    · obtain ⟨b, o, rfl, hbw, hcells⟩ := HA0.out (by rw [HLEN.out]; omega)
      have hx : wr.cell? ⟨b, o + j, none⟩ = some (.int .i64 (ls.getD j 0)) := by
        rw [HS.out.hk.cell hbw (by simp)]
        exact hcells j (by rw [HLEN.out]; exact hlt)
      have hxb := HBD.out j hlt
      have HBW := Lib.hid hbw
      have HCL := Lib.hid hcells
      clear hbw hcells
      generalize ls.getD j 0 = x at hx hxb
      have HX0 := Lib.hid hx
      obtain ⟨hxb0, hxb1⟩ := hxb
      have hzj : ((j : Nat) : Int) < (n : Int) := by omega
      have hzj0 : (0 : Int) ≤ ((j : Nat) : Int) := by omega
      have hhl : ((had.length : Nat) : Int) ≤ 60 := by omega
      have hts : 0 ≤ c.thr := by omega
      have htz : ¬ c.thr = 0 := by omega
      by_cases hge : (had.length : Int) ≤ x
      · have hz2 : ¬ x < (had.length : Int) := by omega
        go_wp2_with fail
        go_roundg (n - (j + 1))
        case measure => omega
        case rel => exact ⟨j + 1, nn, i, s, L, G, had, by omega, rfl, by go_num, by omega, by omega, HS.out⟩
      · obtain ⟨k, hk, hkt⟩ : ∃ k : Nat, (j : Int) % c.thr = (k : Int) ∧ k < c.thr.toNat := by
          have h1 := Int.emod_nonneg (j : Int) htz
          have h2 := Int.emod_lt_of_pos (j : Int) (show 0 < c.thr by omega)
          exact ⟨((j : Int) % c.thr).toNat, by omega, by omega⟩
        have HKT := Lib.hid hkt
        clear hkt
        have hglen := HS.out.hr.free.glen
        have hos2 := HO.out.s2
        have HGL : Hid (G.length ≤ 300) := by show G.length ≤ 300; omega
        clear hglen hos2
        by_cases hneg : x < 0
        · cases L with
          | nil =>
            have KT := gone_take0 HS.out HKT.out (by have := HNJ.out; omega)
            unfold fnV at KT
            go_wp2_with fail
            refine KT.mono ?_
            clear KT
            rintro r y ⟨rfl, i2, s2, hgo, hret⟩
            obtain ⟨vL, vG, hF, hL, hG⟩ := hgo.hf
            have KR := fun w' (hk : Keep [] y w') => ref17_take0 w' (· ∉ i2.foot) vL vG G (hL.keep0 hk) (hG.keep0 hk) HGL.out
            have HL := Lib.hid hL
            have HG := Lib.hid hG
            have HKR := Lib.hid KR
            obtain ⟨bL', oL', capL', rfl⟩ := hL.form
            obtain ⟨bG', oG', capG', rfl⟩ := hG.form
            have HGO := Lib.hid hgo
            have HRET := Lib.hid hret
            have hy0 := hF.cell 0
            have hy1 := hF.cell 1
            clear hgo hret hF hL hG KR hlc0 hx
            have hlc0 : y.cell? ⟨cb, 0, none⟩ = some (.int .i64 c.thr) := HGO.out.hc.cell 0
            go_wp2_with fail
            refine (HKR.out y (Keep.refl _ _)).mono ?_
            rintro r z ⟨rfl, hk⟩
            have hk2 := hk.alloc (.cells #[.slice (some ⟨bL', oL', none⟩) (ints []).length capL', .slice (some ⟨bG', oG', none⟩) (u64s G).length capG'] 43)
            have HGa := Lib.hid (HGO.out.keep0 hk2)
            have HLa := Lib.hid (HL.out.keep0 hk2)
            have HGGa := Lib.hid (HG.out.keep0 hk2)
            have HRa := Lib.hid (HGO.out.ret0 HRET.out hk2)
            have HNB := Lib.hid (Blk.new z 43 #[.slice (some ⟨bL', oL', none⟩) (ints []).length capL', .slice (some ⟨bG', oG', none⟩) (u64s G).length capG'])
            clear hk hk2 hy0 hy1 hlc0 HKR HGO HL HG HRET
            go_upto_region 16 with fail
            generalize z.alloc (.cells #[.slice (some ⟨bL', oL', none⟩) (ints []).length capL', .slice (some ⟨bG', oG', none⟩) (u64s G).length capG'] 43) = z1 at HGa HLa HGGa HRa HNB ⊢
            generalize z.heap.size = nb at HNB ⊢
            have hn0 := HNB.out.cell 0
            have hn1 := HNB.out.cell 1
            obtain ⟨xL, xG, hF, hxL, hxG⟩ := HGa.out.hf
            obtain ⟨_, _, _, rfl⟩ := hxL.form
            obtain ⟨_, _, _, rfl⟩ := hxG.form
            have hf0 := hF.frozen 0
            have hf1 := hF.frozen 1
            have hy0 := hF.cell 0
            have hy1 := hF.cell 1
            clear hF hxL hxG
            have HGb := Lib.hid (HGa.out.put HLa.out HGGa.out)
            have HRb := Lib.hid (HGa.out.ret1 HRa.out (.slice (some ⟨bL', oL', none⟩) (ints []).length capL') (.slice (some ⟨bG', oG', none⟩) (u64s G).length capG'))
            go_upto_region 17 with fail
            generalize (z1.setCell ⟨fb, 0, none⟩ (.slice (some ⟨bL', oL', none⟩) (ints []).length capL')).setCell ⟨fb, 1, none⟩ (.slice (some ⟨bG', oG', none⟩) (u64s G).length capG') = z2 at HGb HRb ⊢
            clear hn0 hn1 hf0 hf1 hy0 hy1 HNB HGa HLa HGGa HRa
            go_wp2_with fail
            refine (edge_make_z 0 z2).mono ?_
            rintro r z2' ⟨rfl, rfl⟩
            rw [show mkE 0 0 = 0 by decide]
            obtain ⟨ti, hti, hret⟩ := HRb.out
            have KT := m_thread HGb.out.hm k ti hti
            rw [HGb.out.im] at KT
            clear hti
            go_wp2_with fail
            refine KT.mono ?_
            clear KT
            rintro r z2' ⟨rfl, rfl⟩
            have HEX : ∃ L2 G2 had2, had2.length ≤ j + 1 ∧ Gone c w m0 cb fb z2 i2 s2 L2 G2 had2 L2 G2 had2 (nn + 1) (.slice Ah had.length caph) := ⟨_, _, _, by have := HNJ.out; omega, HGb.out⟩
            obtain ⟨L2, G2, had2, hh2, hgo⟩ := HEX
            have HG2 := Lib.hid hgo
            have HH2 : Hid (had2.length ≤ j + 1) := hh2
            have HFR : Hid (Free s2.conf s2.mem.ws s2.gd L2 G2) := by rw [hgo.hr.conf]; exact hgo.hr.free
            have KC := law17_chain hgo.hm HFR.out
            rw [hgo.im] at KC
            have HL2 : Hid (L2.length ≤ 251) := HFR.out.few hgo.hm.ok
            clear hgo hh2
            go_wp2_with fail
            refine KC.mono ?_
            clear KC
            rintro r z3 ⟨hk, v, rfl, hown⟩
            have HG3 := Lib.hid (HG2.out.keep0 hk)
            clear hk
            obtain ⟨A3, cap3, rfl⟩ : ∃ A3 cap3, v = .slice A3 L2.length cap3 := by
              obtain ⟨hl, ⟨h1, h2⟩ | ⟨g, cap, cur, hv, _⟩⟩ := hown
              · have h2' : L2.length = 0 := h2
                exact ⟨none, 0, by rw [h1, h2']⟩
              · exact ⟨_, _, hv⟩
            have HA3 : Hid (0 < L2.length → ∃ g, A3 = some ⟨g, 0, none⟩) := fun hl => by
              obtain ⟨g, cap, e, _⟩ := World.ownsRow.form hown hl
              injection e with e
              exact ⟨g, e⟩
            have HOW := Lib.hid hown
            obtain ⟨vL3, vG3, hF, hxL, hxG⟩ := HG3.out.hf
            obtain ⟨b3, o3, cpL3, cs3, rfl, hle3, hB3, hC3, _⟩ := hxL
            have HB3 := Lib.hid hB3
            have HC3 := Lib.hid hC3
            have HF3 := Lib.hid hF
            rw [ints_length] at HF3 hF
            have hy0 := hF.cell 0
            have KF := m_fault HG3.out.hm
            rw [HG3.out.hr.f1, HG3.out.hr.f2, HG3.out.hr.free.slips, HG3.out.im] at KF
            clear hF hxG hB3 hC3 hle3 hown
            generalize hlen2 : L2.length = len2 at HOW HA3 HF3 HL2 hy0 ⊢
            have HN2 := Lib.hid hlen2
            clear hlen2
            have hz251 : (len2 : Int) ≤ 251 := by have := HL2.out; omega
            go_wp2_with fail
            refine KF.mono ?_
            clear KF
            rintro r y4 ⟨rfl, rfl⟩
            go_wp2_with fail
            go_loopg [22] len2 (fun gg q wx => ∃ k2 : Nat, k2 ≤ len2 ∧ gg = len2 - k2 ∧ q = .int .i64 (k2 : Nat) ∧ Drawn z3 wx)
            case atStart => exact ⟨0, Nat.zero_le _, rfl, rfl, Drawn.refl _⟩
            case round =>
              obtain ⟨k2, hk2, rfl, rfl, hdr⟩ := hrel
              have HD := Lib.hid hdr
              clear hdr hy0
              by_cases hlk : k2 < len2
              · obtain ⟨g3, rfl⟩ := HA3.out (by omega)
                have hzk : ((k2 : Nat) : Int) < (len2 : Int) := by omega
                have hzk0 : (0 : Int) ≤ ((k2 : Nat) : Int) := by omega
                have hk0 : Hid (Keep [] z3 wr) := Keep.of_drawn HD.out
                have hc1 : wr.cell? ⟨g3, k2, none⟩ = some (.int .i64 (L2.getD k2 0 : Nat)) := int_at (L := L2) (cap := cap3) (by rw [HN2.out]; exact own_keep HOW.out hk0.out (by simp)) k2 (by rw [HN2.out]; exact hlk)
                have hc2 : wr.cell? ⟨fb, 0, none⟩ = some (.slice (some ⟨b3, o3, none⟩) len2 cpL3) := (HF3.out.keep hk0.out (by simp)).cell 0
                have hc3 : wr.cell? ⟨b3, o3 + k2, none⟩ = some (.int .i64 (L2.getD k2 0 : Nat)) := by
                  rw [(HB3.out.keep hk0.out (by simp)).cell]
                  exact HC3.out k2 _ (by simp [ints, HN2.out, hlk])
                generalize L2.getD k2 0 = v2 at hc1 hc3
                go_wp2_with fail
                go_quiet (fail)
                go_wp2_with fail
                go_roundg (len2 - (k2 + 1))
                case measure => omega
                case rel => exact ⟨k2 + 1, by omega, rfl, by go_num, HD.out.trans (Drawn.n _ _)⟩
              · obtain rfl : k2 = len2 := by omega
                go_wp2_with fail
                go_roundg (n - (j + 1))
                case measure => omega
                case rel => exact ⟨j + 1, nn + 1, i2, s2, L2, G2, had2, by omega, rfl, by go_num, by have := HNJ.out; omega, HH2.out, (HG3.out.keep0 (Keep.of_drawn HD.out)).loop⟩
          | cons a L' =>
            have KT := gone_take HS.out HKT.out (by have := HNJ.out; omega)
            unfold fnV at KT
            have hra := HS.out.hr.free.rng a (by simp)
            have hgl2 := HS.out.hr.free.glen
            have hos2 := HO.out.s2
            have hfew := HS.out.hr.free.few HO.out
            simp only [List.length_cons] at hfew
            have HAR : Hid (1 ≤ a ∧ a ≤ G.length ∧ L'.length ≤ 300 ∧ a < 4096) := by
              show 1 ≤ a ∧ a ≤ G.length ∧ L'.length ≤ 300 ∧ a < 4096
              omega
            have ha0 : ¬ ((a : Nat) : Int) = 0 := by omega
            generalize hge : G.getD (a - 1) 0 = g at KT
            have HGE := Lib.hid hge
            clear hra hgl2 hos2 hfew hge
            go_wp2_with fail
            refine KT.mono ?_
            clear KT
            rintro r y ⟨rfl, i2, s2, hgo, hret⟩
            obtain ⟨vL, vG, hF, hL, hG⟩ := hgo.hf
            have KR := ref17_take y (· ∉ i2.foot) vL vG a L' G hL hG HAR.out.1 HAR.out.2.1 HGL.out HAR.out.2.2.1
            rw [HGE.out] at KR
            have HG := Lib.hid hG
            have HKR := Lib.hid KR
            obtain ⟨bL', oL', capL', rfl⟩ := hL.form
            obtain ⟨bG', oG', capG', rfl⟩ := hG.form
            have HGO := Lib.hid hgo
            have HRET := Lib.hid hret
            have hy0 := hF.cell 0
            have hy1 := hF.cell 1
            clear hgo hret hF hL hG KR hlc0 hx
            go_wp2_with fail
            refine HKR.out.mono ?_
            rintro r z ⟨hk, vL2, rfl, hL2⟩
            obtain ⟨bN, oN, capN, rfl⟩ := hL2.form
            have hk2 := hk.alloc (.cells #[.slice (some ⟨bN, oN, none⟩) (ints L').length capN, .slice (some ⟨bG', oG', none⟩) (u64s G).length capG'] 43)
            have HGa := Lib.hid (HGO.out.keep0 hk2)
            have HLa := Lib.hid (hL2.keep0 ((Keep.refl [] z).alloc (.cells #[.slice (some ⟨bN, oN, none⟩) (ints L').length capN, .slice (some ⟨bG', oG', none⟩) (u64s G).length capG'] 43)))
            have HGGa := Lib.hid (HG.out.keep0 hk2)
            have HRa := Lib.hid (HGO.out.ret0 HRET.out hk2)
            have HNB := Lib.hid (Blk.new z 43 #[.slice (some ⟨bN, oN, none⟩) (ints L').length capN, .slice (some ⟨bG', oG', none⟩) (u64s G).length capG'])
            clear hk hk2 hy0 hy1 HKR HGO HG HRET hL2
            go_upto_region 16 with fail
            generalize z.alloc (.cells #[.slice (some ⟨bN, oN, none⟩) (ints L').length capN, .slice (some ⟨bG', oG', none⟩) (u64s G).length capG'] 43) = z1 at HGa HLa HGGa HRa HNB ⊢
            generalize z.heap.size = nb at HNB ⊢
            have hn0 := HNB.out.cell 0
            have hn1 := HNB.out.cell 1
            obtain ⟨xL, xG, hF, hxL, hxG⟩ := HGa.out.hf
            obtain ⟨_, _, _, rfl⟩ := hxL.form
            obtain ⟨_, _, _, rfl⟩ := hxG.form
            have hf0 := hF.frozen 0
            have hf1 := hF.frozen 1
            have hy0 := hF.cell 0
            have hy1 := hF.cell 1
            clear hF hxL hxG
            have HGb := Lib.hid (HGa.out.put HLa.out HGGa.out)
            have HRb := Lib.hid (HGa.out.ret1 HRa.out (.slice (some ⟨bN, oN, none⟩) (ints L').length capN) (.slice (some ⟨bG', oG', none⟩) (u64s G).length capG'))
            go_upto_region 17 with fail
            generalize (z1.setCell ⟨fb, 0, none⟩ (.slice (some ⟨bN, oN, none⟩) (ints L').length capN)).setCell ⟨fb, 1, none⟩ (.slice (some ⟨bG', oG', none⟩) (u64s G).length capG') = z2 at HGb HRb ⊢
            clear hn0 hn1 hf0 hf1 hy0 hy1 HNB HGa HLa HGGa HRa
            have KE := edge_make a g z2 HAR.out.2.2.2
            generalize mkE a g = e at *
            go_wp2_with fail
            refine KE.mono ?_
            clear KE
            rintro r z2' ⟨rfl, rfl⟩
            obtain ⟨ti, hti, hret⟩ := HRb.out
            have KT := m_thread HGb.out.hm k ti hti
            rw [HGb.out.im] at KT
            clear hti
            have HH60 : Hid (had.length ≤ 60) := by have := HNJ.out; show had.length ≤ 60; omega
            have HZ2 : Hid (w.heap.size ≤ z2.heap.size) := HGb.out.hk.size
            go_wp2_with fail
            refine KT.mono ?_
            clear KT
            rintro r z2' ⟨rfl, rfl⟩
            go_wp2_with (at_builtin; obtain ⟨i0, hi, hz0, hz1, hz2⟩ := info_parts infoEdge; go_loud (refine wpList_append_own_at _ rfl (.tmp 99) (.tmp 101) 45 rfl w.heap.size 50 i0 (.int .u64 0) 1 8 Try.underlying45 hi hz0 hz1 hz2 rfl (by decide) (.slice Ah had.length caph) had.length (u64s had) rfl (own_keep HGb.out.hh ((Keep.refl [] _).alloc _) (by simp)) ⟨_, 0, none⟩ 1 1 [.int .u64 (e : Nat)] rfl rfl (World.news_of_block (heap_alloc_new _ _)) (by simp [Value.oneCell']) (by have := HH60.out; unfold maxLen; omega) (by have := HH60.out; omega) (by have := HZ2.out; simp; omega) ?_); clear hi hz0 hz1 hz2; intro v2 w4 hown hg _ hat; obtain ⟨gq, cq, rfl, _, _⟩ := World.ownsRow.form hown (by omega); have HGc := Lib.hid (HGb.out.grow (had3 := had ++ [e]) (by rw [u64s_snoc, List.length_append]; exact hown) hg hat); clear hown hg hat)
            have HEX : ∃ L2 G2 had2, had2.length ≤ j + 1 ∧ Gone c w m0 cb fb w4 i2 s2 L2 G2 had2 L2 G2 had2 (nn + 1) (.slice (some ⟨gq, 0, none⟩) (had.length + 1) cq) := ⟨_, _, _, by rw [List.length_append]; have := HNJ.out; simp only [List.length_cons, List.length_nil]; omega, HGc.out⟩
            obtain ⟨L2, G2, had2, hh2, hgo⟩ := HEX
            generalize had.length + 1 = nh2 at hgo ⊢
            have HG2 := Lib.hid hgo
            have HH2 : Hid (had2.length ≤ j + 1) := hh2
            have HFR : Hid (Free s2.conf s2.mem.ws s2.gd L2 G2) := by rw [hgo.hr.conf]; exact hgo.hr.free
            have KC := law17_chain hgo.hm HFR.out
            rw [hgo.im] at KC
            have HL2 : Hid (L2.length ≤ 251) := HFR.out.few hgo.hm.ok
            clear hgo hh2
            go_wp2_with fail
            refine KC.mono ?_
            clear KC
            rintro r z3 ⟨hk, v, rfl, hown⟩
            have HG3 := Lib.hid (HG2.out.keep0 hk)
            clear hk
            obtain ⟨A3, cap3, rfl⟩ : ∃ A3 cap3, v = .slice A3 L2.length cap3 := by
              obtain ⟨hl, ⟨h1, h2⟩ | ⟨g, cap, cur, hv, _⟩⟩ := hown
              · have h2' : L2.length = 0 := h2
                exact ⟨none, 0, by rw [h1, h2']⟩
              · exact ⟨_, _, hv⟩
            have HA3 : Hid (0 < L2.length → ∃ g, A3 = some ⟨g, 0, none⟩) := fun hl => by
              obtain ⟨g, cap, e, _⟩ := World.ownsRow.form hown hl
              injection e with e
              exact ⟨g, e⟩
            have HOW := Lib.hid hown
            obtain ⟨vL3, vG3, hF, hxL, hxG⟩ := HG3.out.hf
            obtain ⟨b3, o3, cpL3, cs3, rfl, hle3, hB3, hC3, _⟩ := hxL
            have HB3 := Lib.hid hB3
            have HC3 := Lib.hid hC3
            have HF3 := Lib.hid hF
            rw [ints_length] at HF3 hF
            have hy0 := hF.cell 0
            have KF := m_fault HG3.out.hm
            rw [HG3.out.hr.f1, HG3.out.hr.f2, HG3.out.hr.free.slips, HG3.out.im] at KF
            clear hF hxG hB3 hC3 hle3 hown
            generalize hlen2 : L2.length = len2 at HOW HA3 HF3 HL2 hy0 ⊢
            have HN2 := Lib.hid hlen2
            clear hlen2
            have hz251 : (len2 : Int) ≤ 251 := by have := HL2.out; omega
            go_wp2_with fail
            refine KF.mono ?_
            clear KF
            rintro r y4 ⟨rfl, rfl⟩
            go_wp2_with fail
            go_loopg [22] len2 (fun gg q wx => ∃ k2 : Nat, k2 ≤ len2 ∧ gg = len2 - k2 ∧ q = .int .i64 (k2 : Nat) ∧ Drawn z3 wx)
            case atStart => exact ⟨0, Nat.zero_le _, rfl, rfl, Drawn.refl _⟩
            case round =>
              obtain ⟨k2, hk2, rfl, rfl, hdr⟩ := hrel
              have HD := Lib.hid hdr
              clear hdr hy0
              by_cases hlk : k2 < len2
              · obtain ⟨g3, rfl⟩ := HA3.out (by omega)
                have hzk : ((k2 : Nat) : Int) < (len2 : Int) := by omega
                have hzk0 : (0 : Int) ≤ ((k2 : Nat) : Int) := by omega
                have hk0 : Hid (Keep [] z3 wr) := Keep.of_drawn HD.out
                have hc1 : wr.cell? ⟨g3, k2, none⟩ = some (.int .i64 (L2.getD k2 0 : Nat)) := int_at (L := L2) (cap := cap3) (by rw [HN2.out]; exact own_keep HOW.out hk0.out (by simp)) k2 (by rw [HN2.out]; exact hlk)
                have hc2 : wr.cell? ⟨fb, 0, none⟩ = some (.slice (some ⟨b3, o3, none⟩) len2 cpL3) := (HF3.out.keep hk0.out (by simp)).cell 0
                have hc3 : wr.cell? ⟨b3, o3 + k2, none⟩ = some (.int .i64 (L2.getD k2 0 : Nat)) := by
                  rw [(HB3.out.keep hk0.out (by simp)).cell]
                  exact HC3.out k2 _ (by simp [ints, HN2.out, hlk])
                generalize L2.getD k2 0 = v2 at hc1 hc3
                go_wp2_with fail
                go_quiet (fail)
                go_wp2_with fail
                go_roundg (len2 - (k2 + 1))
                case measure => omega
                case rel => exact ⟨k2 + 1, by omega, rfl, by go_num, HD.out.trans (Drawn.n _ _)⟩
              · obtain rfl : k2 = len2 := by omega
                go_wp2_with fail
                go_roundg (n - (j + 1))
                case measure => omega
                case rel => exact ⟨j + 1, nn + 1, i2, s2, L2, G2, had2, by omega, rfl, by go_num, by have := HNJ.out; omega, HH2.out, (HG3.out.keep0 (Keep.of_drawn HD.out)).loop⟩
        · obtain ⟨p, rfl⟩ : ∃ p : Nat, x = (p : Int) := ⟨x.toNat, by omega⟩
          have hpl : p < had.length := by omega
          have HPL := Lib.hid hpl
          have hzp : ((p : Nat) : Int) < (had.length : Int) := by omega
          have hzp0 : (0 : Int) ≤ ((p : Nat) : Int) := by omega
          have hzp1 : ¬ (had.length : Int) ≤ ((p : Nat) : Int) := by omega
          obtain ⟨gh, chh, heq, hle⟩ := own_form HS.out.hh (by omega)
          injection heq with hAh _ hch
          subst hAh hch
          have hcell := HS.out.hh.cells (g := gh) rfl p (.int .u64 (had.getD p 0 : Nat)) (by simp [u64s, hpl])
          rw [Addr_add_zero] at hcell
          generalize hee : had.getD p 0 = e at hcell
          have HEE := Lib.hid hee
          have HLE2 : Hid (had.length ≤ caph) := hle
          have HH60 : Hid (had.length ≤ 60) := by have := HNJ.out; show had.length ≤ 60; omega
          have hzc : ((p : Nat) : Int) ≤ (caph : Int) := by omega
          have hzl : ((p : Nat) : Int) + 1 ≤ (had.length : Int) := by omega
          have hc0 : ¬ caph = 0 := by omega
          clear hee
          go_upto_region 23 with fail
          have HBX : Hid (wr.drew.cell? ⟨b, o + j, none⟩ = some (.int .i64 (p : Nat))) := hx
          have hxB : (wr.drew.alloc (.cells #[] 50)).cell? ⟨b, o + j, none⟩ = some (.int .i64 (p : Nat)) := by
            have hbl : b < wr.heap.size := Nat.lt_of_lt_of_le HBW.out HS.out.hk.size
            exact (((Keep.refl [] wr).drew.alloc (.cells #[] 50)).cell hbl (by simp)).trans hx
          have hzw : IntKind.i64.wrap ((p : Int) + 1) = (p : Int) + 1 := IntWalk.i64_in _ (by omega)
          have hzq : (0 : Int) ≤ (p : Int) + 1 := by omega
          have htn : ((p : Int) + 1).toNat = p + 1 := by omega
          have HZW : Hid (w.heap.size ≤ wr.heap.size) := HS.out.hk.size
          have HNT : Hid (∀ (W : World), Keep [] wr W → ∀ q u, (u64s (had.take p))[q]? = some u → W.cell? ((⟨gh, 0, none⟩ : Addr).add q) = some u) := fun W hkW q u hq => by
            have h1 := (own_keep HS.out.hh hkW (by simp)).cells (g := gh) rfl q u
            refine h1 ?_
            have hq2 : q < p := by
              have := (List.getElem?_eq_some_iff.1 hq).1
              simp [u64s] at this
              omega
            simp only [u64s, List.map_take] at hq ⊢
            rw [List.getElem?_take_of_lt hq2] at hq
            exact hq
          have HND : Hid (∃ ad, (if caph = p + 1 then some (⟨gh, 0, none⟩ : Addr) else some ⟨gh, p + 1, none⟩) = some ad ∧ ∀ (W : World), Keep [] wr W → ∀ q u, (u64s (had.drop (p + 1)))[q]? = some u → W.cell? (ad.add q) = some u) := by
            by_cases hcp : caph = p + 1
            · rw [if_pos hcp]
              refine ⟨_, rfl, fun W _ q u hq => ?_⟩
              have := (List.getElem?_eq_some_iff.1 hq).1
              have h2 := HLE2.out
              simp [u64s] at this
              omega
            · rw [if_neg hcp]
              refine ⟨_, rfl, fun W hkW q u hq => ?_⟩
              have h1 := (own_keep HS.out.hh hkW (by simp)).cells (g := gh) rfl (p + 1 + q) u (by
                simp only [u64s, List.map_drop, List.getElem?_drop] at hq ⊢
                exact hq)
              rw [Addr_add_zero] at h1
              rw [show (⟨gh, p + 1, none⟩ : Addr).add q = ⟨gh, p + 1 + q, none⟩ by
                unfold Addr.add
                split
                · subst_vars; rfl
                · rfl]
              exact h1
          go_region_held3 (fun w' => w'.cell? ⟨b, o + j, none⟩ = some (.int .i64 (p : Nat))) (first | exact hx | exact hxB | exact HBX.out | go_keep) (first
            | (obtain ⟨i0, hi, hz0, hz1, hz2⟩ := info_parts infoEdge; (refine step_append_at rfl (.tmp 110) (.tmp 116) 45 rfl w.heap.size 50 i0 (.int .u64 0) 1 8 Try.underlying45 hi hz0 hz1 hz2 rfl (by decide) (.slice (some ⟨wr.heap.size, 0, none⟩) 0 0) 0 [] rfl (World.ownsRow_made wr.drew #[] 0 HZW.out (by unfold maxLen; omega) rfl) ⟨gh, 0, none⟩ p _ (u64s (had.take p)) rfl (by rw [u64s_len, List.length_take]; omega) (HNT.out _ ((Keep.refl [] wr).drew.alloc _)) (u64s_one _) (by have := HH60.out; unfold maxLen; omega) (by have := HH60.out; omega) (Nat.le_trans HZW.out ((Keep.refl [] wr).drew.alloc (.cells #[] 50)).size) ?_); clear hi hz0 hz1 hz2; intro v5 w6 hown hg hnil hat; clear hnil; rw [Nat.zero_add, List.nil_append] at hown; have HO5 := Lib.hid hown; have HK5 := Lib.hid (((Keep.refl [] wr).drew.alloc (.cells #[] 50)).trans (Keep.of_grown hg) (fun x hx => by simp [Value.ownBlock] at hx; right; omega)); have HN5 := Lib.hid (own_new5 hat); have hbl : b < wr.heap.size := Nat.lt_of_lt_of_le HBW.out HS.out.hk.size; have hxB := ((HK5.out).cell hbl (by simp)).trans hx; clear hown hg hat hbl)
            | (obtain ⟨i0, hi, hz0, hz1, hz2⟩ := info_parts infoEdge; obtain ⟨ad, hade, hnd⟩ := HND.out; (refine step_append_at rfl (.tmp 117) (.tmp 124) 45 rfl w.heap.size 50 i0 (.int .u64 0) 1 8 Try.underlying45 hi hz0 hz1 hz2 rfl (by decide) v5 p (u64s (had.take p)) rfl HO5.out ad (had.length - (p + 1)) _ (u64s (had.drop (p + 1))) (congrArg (fun q => Value.slice q _ _) hade) (by rw [u64s_len, List.length_drop]; omega) (hnd _ HK5.out) (u64s_one _) (by have := HH60.out; unfold maxLen; omega) (by have := HH60.out; omega) (Nat.le_trans HZW.out HK5.out.size) ?_); clear hi hz0 hz1 hz2 hade hnd; intro v7 w8 hown hg hnil hat; clear hnil; have HO7 := Lib.hid hown; have HN7 := Lib.hid (own_new7 HN5.out hat HK5.out); have HK7 := Lib.hid (HK5.out.trans (Keep.of_grown hg) (fun x hx => .inr (HN5.out x (by simpa using hx)))); have hbl : b < wr.heap.size := Nat.lt_of_lt_of_le HBW.out HS.out.hk.size; have hxB := ((HK7.out).cell hbl (by simp)).trans hx; clear hown hg hat hbl))
          generalize (if caph = p + 1 then (some ⟨gh, 0, none⟩ : Option Addr) else some ⟨gh, p + 1, none⟩) = adq
          have HJE : Hid (had[p]? = some e) := by
            show had[p]? = some e
            rw [← HEE.out, List.getD_eq_getElem?_getD, List.getElem?_eq_getElem hpl]
            rfl
          have HFA := Lib.hid (give_facts HS.out.hr HKT.out (by have := HNJ.out; omega) HJE.out)
          have hO8 : w8.ownsRow w.heap.size 50 1 v7 (had.take p ++ had.drop (p + 1)).length (u64s (had.take p ++ had.drop (p + 1))) := by
            have e1 : (had.take p ++ had.drop (p + 1)).length = p + (had.length - (p + 1)) := by simp; omega
            have e2 : u64s (had.take p ++ had.drop (p + 1)) = u64s (had.take p) ++ u64s (had.drop (p + 1)) := by simp [u64s]
            rw [e1, e2]
            exact HO7.out
          have HO8 := Lib.hid hO8
          have HL8 : Hid ((had.take p ++ had.drop (p + 1)).length ≤ j + 1) := by have := HNJ.out; show (had.take p ++ had.drop (p + 1)).length ≤ j + 1; simp; omega
          have KT := gone_give (j := p) HS.out HKT.out (by have := HNJ.out; omega) HJE.out (HK7.out.alloc (.cells #[.int .u64 (e : Nat)] 22)) (v := .slice (some ⟨w8.heap.size, 0, none⟩) 1 1) (.inr ⟨_, 1, _, rfl, Blk.new w8 22 #[.int .u64 (e : Nat)], fun q x hq => by
            cases q with
            | zero => simp at hq; subst hq; rfl
            | succ q => simp at hq⟩)
          unfold fnV at KT
          have HF7 : Hid (∀ b, v7.ownBlock = some b → b ∉ i.foot) := fun b hb hx => by
            have h1 := HS.out.hm.foot_lt b hx
            have h2 := HN7.out b hb
            omega
          generalize had.take p ++ had.drop (p + 1) = had2 at KT HO8 HL8
          generalize hsl : slotE e = a at KT HFA
          have HSL := Lib.hid hsl
          generalize hG2 : G.set (a - 1) (G.getD (a - 1) 0 + 1) = G2 at KT
          have HG2e := Lib.hid hG2
          clear hO8 hsl hG2 hx hxB HBX HNT HND HO5 HO7 HN5 HK5 hcell hzc hzl hc0 hzw hzq htn hpl
          go_wp2_with fail
          refine KT.mono ?_
          clear KT
          rintro r y ⟨rfl, i2, s2, hgo, hgg⟩
          have HGO := Lib.hid (hgo.row (own_keep (own_keep HO8.out ((Keep.refl [] w8).alloc (.cells #[.int .u64 (e : Nat)] 22)) (by simp)) hgg.keep HF7.out) (fun b hb => hgg.far (by have := (HO8.out.lt b hb).2; simp; omega) (HF7.out b hb)))
          clear hgo hgg
          go_upto_region 25 with fail
          obtain ⟨vL, vG, hF, hL, hG⟩ := HGO.out.hf
          have HFW : Hid (L.length ≤ 300) := by have := HS.out.hr.free.few HO.out; show L.length ≤ 300; omega
          have KR := ref17_give y.drew (· ∉ i2.foot) vL vG a L G (hL.keep0 (Keep.refl _ _).drew) (hG.keep0 (Keep.refl _ _).drew) HFA.out.1 HFA.out.2.1 HGL.out HFW.out HFA.out.2.2.1
          rw [HG2e.out] at KR
          have HKR := Lib.hid KR
          have HKS : Hid (∀ w, Calls Try.prog 24 #[.int .u64 (e : Nat)] w fun r w' => r = .returned (.int .i64 (a : Nat)) ∧ w = w') := fun w => by
            have := edge_slot e w HFA.out.2.2.2
            rw [HSL.out] at this
            exact this
          obtain ⟨bL', oL', capL', rfl⟩ := hL.form
          obtain ⟨bG', oG', capG', rfl⟩ := hG.form
          have hy0 : y.cell? ⟨fb, 0, none⟩ = some (.slice (some ⟨bL', oL', none⟩) (ints L).length capL') := hF.cell 0
          have hy1 : y.cell? ⟨fb, 1, none⟩ = some (.slice (some ⟨bG', oG', none⟩) (u64s G).length capG') := hF.cell 1
          have hyf0 := hF.frozen 0
          have hyf1 := hF.frozen 1
          clear hF hL hG KR
          refine wp_region_still_tail 3 (by kernel_rfl) (by kernel_rfl) ?_
          simp only [List.take_succ_cons, List.take_zero, List.drop_succ_cons, List.drop_zero]
          iterate 2 still_step
          still_call ((HKS.out _).mono (fun _ _ h => ⟨h.1, h.2.symm⟩))
          refine wpStill_nil ?_
          change wpList _ _ _ _ _ y.drew
          go_wp2_with fail
          refine HKR.out.mono ?_
          rintro r z ⟨hk, vL2, vG2, rfl, hL2, hG2⟩
          obtain ⟨bM, oM, capM, rfl⟩ := hL2.form
          obtain ⟨bH, oH, capH, rfl⟩ := hG2.form
          have hkz := ((Keep.refl [] y).drew).trans hk (by simp)
          have HGz := Lib.hid (HGO.out.keep0 hkz)
          have HLz := Lib.hid (hL2.mono (ok' := (· ∉ i2.foot)) (fun q _ hq hx => absurd (HGO.out.hm.foot_lt q hx) (Nat.not_lt.2 hq)))
          have HGGz := Lib.hid (hG2.mono (ok' := (· ∉ i2.foot)) (fun q _ hq hx => absurd (HGO.out.hm.foot_lt q hx) (Nat.not_lt.2 hq)))
          obtain ⟨hz0, hz1, hzf0, hzf1⟩ := HGO.out.fcells hkz hy0 hy1
          clear hk hL2 hG2 hkz hy0 hy1 hyf0 hyf1
          have HGb := Lib.hid (HGz.out.put HLz.out HGGz.out)
          go_upto_region 26 with fail
          generalize (z.setCell ⟨fb, 0, none⟩ (.slice (some ⟨bM, oM, none⟩) (ints (a :: L)).length capM)).setCell ⟨fb, 1, none⟩ (.slice (some ⟨bH, oH, none⟩) (u64s G2).length capH) = z2 at HGb ⊢
          have hgo := HGb.out
          clear HLz HGGz HGz HGO hz0 hz1 hzf0 hzf1 HKR HKS HS HO8 HF7 HN7 HK7 HJE HG2e HSL
          generalize a :: L = L2 at hgo
          have hh2 := HL8.out
          clear HGb HL8
          have HG2 := Lib.hid hgo
          have HH2 : Hid (had2.length ≤ j + 1) := hh2
          have HFR : Hid (Free s2.conf s2.mem.ws s2.gd L2 G2) := by rw [hgo.hr.conf]; exact hgo.hr.free
          have KC := law17_chain hgo.hm HFR.out
          rw [hgo.im] at KC
          have HL2 : Hid (L2.length ≤ 251) := HFR.out.few hgo.hm.ok
          clear hgo hh2
          go_wp2_with fail
          refine KC.mono ?_
          clear KC
          rintro r z3 ⟨hk, v, rfl, hown⟩
          have HG3 := Lib.hid (HG2.out.keep0 hk)
          clear hk
          obtain ⟨A3, cap3, rfl⟩ : ∃ A3 cap3, v = .slice A3 L2.length cap3 := by
            obtain ⟨hl, ⟨h1, h2⟩ | ⟨g, cap, cur, hv, _⟩⟩ := hown
            · have h2' : L2.length = 0 := h2
              exact ⟨none, 0, by rw [h1, h2']⟩
            · exact ⟨_, _, hv⟩
          have HA3 : Hid (0 < L2.length → ∃ g, A3 = some ⟨g, 0, none⟩) := fun hl => by
            obtain ⟨g, cap, e, _⟩ := World.ownsRow.form hown hl
            injection e with e
            exact ⟨g, e⟩
          have HOW := Lib.hid hown
          obtain ⟨vL3, vG3, hF, hxL, hxG⟩ := HG3.out.hf
          obtain ⟨b3, o3, cpL3, cs3, rfl, hle3, hB3, hC3, _⟩ := hxL
          have HB3 := Lib.hid hB3
          have HC3 := Lib.hid hC3
          have HF3 := Lib.hid hF
          rw [ints_length] at HF3 hF
          have hy0 := hF.cell 0
          have KF := m_fault HG3.out.hm
          rw [HG3.out.hr.f1, HG3.out.hr.f2, HG3.out.hr.free.slips, HG3.out.im] at KF
          clear hF hxG hB3 hC3 hle3 hown
          generalize hlen2 : L2.length = len2 at HOW HA3 HF3 HL2 hy0 ⊢
          have HN2 := Lib.hid hlen2
          clear hlen2
          have hz251 : (len2 : Int) ≤ 251 := by have := HL2.out; omega
          go_wp2_with fail
          refine KF.mono ?_
          clear KF
          rintro r y4 ⟨rfl, rfl⟩
          go_wp2_with fail
          go_loopg [22] len2 (fun gg q wx => ∃ k2 : Nat, k2 ≤ len2 ∧ gg = len2 - k2 ∧ q = .int .i64 (k2 : Nat) ∧ Drawn z3 wx)
          case atStart => exact ⟨0, Nat.zero_le _, rfl, rfl, Drawn.refl _⟩
          case round =>
            obtain ⟨k2, hk2, rfl, rfl, hdr⟩ := hrel
            have HD := Lib.hid hdr
            clear hdr hy0
            by_cases hlk : k2 < len2
            · obtain ⟨g3, rfl⟩ := HA3.out (by omega)
              have hzk : ((k2 : Nat) : Int) < (len2 : Int) := by omega
              have hzk0 : (0 : Int) ≤ ((k2 : Nat) : Int) := by omega
              have hk0 : Hid (Keep [] z3 wr) := Keep.of_drawn HD.out
              have hc1 : wr.cell? ⟨g3, k2, none⟩ = some (.int .i64 (L2.getD k2 0 : Nat)) := int_at (L := L2) (cap := cap3) (by rw [HN2.out]; exact own_keep HOW.out hk0.out (by simp)) k2 (by rw [HN2.out]; exact hlk)
              have hc2 : wr.cell? ⟨fb, 0, none⟩ = some (.slice (some ⟨b3, o3, none⟩) len2 cpL3) := (HF3.out.keep hk0.out (by simp)).cell 0
              have hc3 : wr.cell? ⟨b3, o3 + k2, none⟩ = some (.int .i64 (L2.getD k2 0 : Nat)) := by
                rw [(HB3.out.keep hk0.out (by simp)).cell]
                exact HC3.out k2 _ (by simp [ints, HN2.out, hlk])
              generalize L2.getD k2 0 = v2 at hc1 hc3
              go_wp2_with fail
              go_quiet (fail)
              go_wp2_with fail
              go_roundg (len2 - (k2 + 1))
              case measure => omega
              case rel => exact ⟨k2 + 1, by omega, rfl, by go_num, HD.out.trans (Drawn.n _ _)⟩
            · obtain rfl : k2 = len2 := by omega
              go_wp2_with fail
              go_roundg (n - (j + 1))
              case measure => omega
              case rel => exact ⟨j + 1, nn + 1, i2, s2, L2, G2, had2, by omega, rfl, by go_num, by have := HNJ.out; omega, HH2.out, (HG3.out.keep0 (Keep.of_drawn HD.out)).loop⟩
    · obtain rfl : j = n := by omega
      have HF : Hid (Free s.conf s.mem.ws s.gd L G) := by rw [HS.out.hr.conf]; exact HS.out.hr.free
      have KW := law17_whole HS.out.hm HF.out
      rw [HS.out.im] at KW
      have HKr := Lib.hid HS.out.hk
      clear hlc0 ht1 ht2
      go_wp2_with fail
      refine KW.mono ?_
      clear KW
      rintro r y ⟨rfl, hk⟩
      have HKy := Lib.hid (HKr.out.trans hk (by simp))
      clear hk
      go_wp2_with fail
      refine (lives17 _).mono ?_
      rintro r z ⟨rfl, hk⟩
      have HKz := Lib.hid (HKy.out.trans hk (by simp))
      clear hk
      go_wp2_with fail
      go_ret
      exact ⟨rfl, HKz.out⟩
end Go.Proofs.Ytlbhjahmgdghoaa
