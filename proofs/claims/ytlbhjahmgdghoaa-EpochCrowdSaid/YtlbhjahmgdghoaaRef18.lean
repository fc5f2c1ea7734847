/- The reference of layers 4 and 18: Epoch, Lags, Set by their contracts; the law's same. Conditions: words of 64 bits; the thread is there. -/
import Derived.Test.YtlbhjahmgdghoaaEpL
import Derived.Test.YtlbhjahmgdghoaaRow
namespace Go.Proofs.Ytlbhjahmgdghoaa
open Go.RowKit

set_option maxRecDepth 100000 in
theorem ref04_epoch (x : Nat) (w : World) (h : x < 2 ^ 64) : Calls Try.prog 65 #[.int .u64 (x : Nat)] w fun r w' => r = .returned (.tuple #[.int .u64 (epN x : Nat), .bool (epB x)]) ∧ w = w' := by
  have hx : ((x : Nat) : Int) < 18446744073709551616 := by omega
  have hf1 : fld x 0 1 = x % 2 := by unfold fld; simp
  have hf2 : fld x 1 63 = x / 2 := by unfold fld; simp only [Nat.reducePow] at h ⊢; omega
  by_cases h0 : x % 2 = 0
  · have e1 : epN x = 0 := by unfold epN; rw [hf1, h0]; rfl
    have e2 : epB x = false := by unfold epB; rw [hf1, h0]; rfl
    rw [e1, e2]
    have hz : ((x : Nat) : Int) % 2 = 0 := by omega
    go_enter Try.func65, Try.ntmps65
    go_wp2_with fail
    go_ret2
    exact ⟨rfl, rfl⟩
  · have e1 : epN x = x / 2 := by unfold epN; rw [hf1, if_pos (by omega), hf2]
    have e2 : epB x = true := by unfold epB; rw [hf1]; simp; omega
    rw [e1, e2]
    have hz : (((x : Nat) : Int) % 2 == 0) = false := by
      rw [beq_eq_false_iff_ne]
      omega
    clear h hf1 hf2 h0 e1 e2
    go_enter Try.func65, Try.ntmps65
    go_wp2_with fail
    go_ret2
    exact ⟨rfl, rfl⟩
theorem lags_of (x e : Nat) : lagsN x e = (epB x && !(epN x == e)) := by
  unfold lagsN epB epN
  by_cases h : fld x 0 1 = 1
  · rw [if_pos h]
  · rw [if_neg h]
    have : (fld x 0 1 == 1) = false := by simpa using h
    rw [this]
    rfl
theorem u64_at {w : World} {ok : Nat → Prop} {b o cap : Nat} {l : List Nat} (h : RowI w ok 22 (.slice (some ⟨b, o, none⟩) l.length cap) (u64s l)) (k : Nat) (hk : k < l.length) : w.cell? ⟨b, o + k, none⟩ = some (.int .u64 (l.getD k 0 : Nat)) := by
  obtain ⟨b', o', cap', cs, e, _, hb, hx, _⟩ := h
  injection e with e1 e2 e3
  injection e1 with e1
  have hbb : b = b' := congrArg Addr.block e1
  have hoo : o = o' := congrArg Addr.off e1
  subst hbb hoo
  rw [hb.cell]
  exact hx k _ (by simp [u64s, hk])
theorem RowI.form2 {w : World} {ok : Nat → Prop} {t : TypeId} {v : Value} {l : List Nat} (h : RowI w ok t v (u64s l)) : ∃ b o cap, v = .slice (some ⟨b, o, none⟩) l.length cap := by
  obtain ⟨b, o, cap, cs, h1, _⟩ := h
  exact ⟨b, o, cap, by rw [h1]; simp [u64s]⟩
theorem RowI.lt {w : World} {ok : Nat → Prop} {t : TypeId} {b o n cap : Nat} {xs : List Value} (h : RowI w ok t (.slice (some ⟨b, o, none⟩) n cap) xs) : b < w.heap.size := by
  obtain ⟨b', o', cap', cs, e1, _, hb, _⟩ := h
  injection e1 with e1
  injection e1 with e1
  have hbb : b = b' := congrArg Addr.block e1
  rw [hbb]
  exact hb.lt
theorem any_step {P : Nat → Bool} {n j : Nat} (h : ∀ t, t < j → P t = false) (hj : ¬ j < n) : ((List.range n).any P) = false := by
  rw [List.any_eq_false]
  intro t ht
  have := List.mem_range.1 ht
  rw [h t (by omega)]
  exact Bool.false_ne_true
set_option maxRecDepth 100000 in
set_option maxHeartbeats 1000000 in
theorem ref18_lags (w : World) (ok : Nat → Prop) (e : Nat) (v : Value) (act : List Nat) (h : RowI w ok 22 v (u64s act)) (hl : act.length ≤ 6) (hs : ∀ a, a ∈ act → a < 2 ^ 64) :
    Calls Try.prog 36 #[.agg #[.int .u64 (e : Nat), v]] w fun r w' => r = .returned (.bool ((List.range act.length).any fun t => lagsN (act.getD t 0) e)) ∧ Keep [] w w' := by
  obtain ⟨b, o, cap, rfl⟩ := h.form2
  have HC : Hid (∀ k, k < act.length → w.cell? ⟨b, o + k, none⟩ = some (.int .u64 (act.getD k 0 : Nat))) := fun k hk => u64_at h k hk
  have HBL : Hid (b < w.heap.size) := h.lt
  have HSM : Hid (∀ k, act.getD k 0 < 2 ^ 64) := fun k => by
    rw [List.getD_eq_getElem?_getD]
    cases hx : act[k]? with
    | none => simp
    | some x => exact hs x (List.mem_of_getElem? hx)
  have HB := Lib.hid (Blk.new w 83 #[.int .u64 (e : Nat), .slice (some ⟨b, o, none⟩) act.length cap])
  have HK := Lib.hid ((Keep.refl [] w).alloc (.cells #[.int .u64 (e : Nat), .slice (some ⟨b, o, none⟩) act.length cap] 83))
  generalize hn : act.length = n at *
  generalize hR : ((List.range n).any fun t => lagsN (act.getD t 0) e) = R
  have HR := Lib.hid hR
  clear h hs hR hn
  go_enter Try.func36, Try.ntmps36
  go_upto_region 1 with fail
  generalize hcb : w.heap.size = cb at HB ⊢
  clear hcb
  generalize w.alloc (.cells #[.int .u64 (e : Nat), .slice (some ⟨b, o, none⟩) n cap] 83) = w1 at HB HK ⊢
  have hl0 : w1.cell? ⟨cb, 0, none⟩ = some (.int .u64 (e : Nat)) := HB.out.cell 0
  have hl1 : w1.cell? ⟨cb, 1, none⟩ = some (.slice (some ⟨b, o, none⟩) n cap) := HB.out.cell 1
  go_wp2_with fail
  go_loopg [3] n (fun gg q wr => ∃ j : Nat, j ≤ n ∧ gg = n - j ∧ q = .int .i64 (j : Nat) ∧ w1 = wr ∧ ∀ t, t < j → lagsN (act.getD t 0) e = false)
  case atStart => exact ⟨0, Nat.zero_le _, rfl, rfl, rfl, fun t ht => absurd ht (Nat.not_lt_zero t)⟩
  case round =>
    obtain ⟨j, hj, rfl, rfl, rfl, hnl⟩ := hrel
    have HNL := Lib.hid hnl
    clear hnl
    by_cases hlt : j < n
    · have hz : ((j : Nat) : Int) < (n : Int) := by omega
      have hz0 : (0 : Int) ≤ ((j : Nat) : Int) := by omega
      have hz6 : ((j : Nat) : Int) ≤ 6 := by omega
      have hx : w1.cell? ⟨b, o + j, none⟩ = some (.int .u64 (act.getD j 0 : Nat)) := by
        rw [HK.out.cell HBL.out (by simp)]
        exact HC.out j hlt
      have KE := ref04_epoch (act.getD j 0) w1 (HSM.out j)
      generalize hxx : act.getD j 0 = x at hx KE
      have HXX := Lib.hid hxx
      clear hxx
      go_wp2_with fail
      refine KE.mono ?_
      clear KE
      rintro r y ⟨rfl, rfl⟩
      cases hb : epB x with
      | false =>
        have hlg : Hid (lagsN x e = false) := by rw [lags_of, hb]; rfl
        go_wp2_with fail
        go_roundg (n - (j + 1))
        case measure => omega
        case rel =>
          refine ⟨j + 1, by omega, rfl, by go_num, rfl, fun t ht => ?_⟩
          by_cases h2 : t = j
          · rw [h2, HXX.out]
            exact hlg.out
          · exact HNL.out t (by omega)
      | true =>
        by_cases he : epN x = e
        · have hlg : Hid (lagsN x e = false) := by
            show lagsN x e = false
            rw [lags_of, hb, he]
            simp
          have he2 : (((epN x : Nat) : Int) == ((e : Nat) : Int)) = true := by rw [he]; simp
          rw [he]
          go_wp2_with fail
          go_roundg (n - (j + 1))
          case measure => omega
          case rel =>
            refine ⟨j + 1, by omega, rfl, by go_num, rfl, fun t ht => ?_⟩
            by_cases h2 : t = j
            · rw [h2, HXX.out]
              exact hlg.out
            · exact HNL.out t (by omega)
        · have hlg : Hid (lagsN x e = true) := by
            rw [lags_of, hb]
            have : (epN x == e) = false := by simpa using he
            rw [this]
            rfl
          have he2 : ¬ ((epN x : Nat) : Int) = ((e : Nat) : Int) := by omega
          have hRt : R = true := by
            rw [← HR.out, List.any_eq_true]
            exact ⟨j, List.mem_range.2 hlt, by rw [HXX.out]; exact hlg.out⟩
          subst hRt
          generalize epN x = p at *
          go_wp2_with fail
          go_ret
          exact ⟨rfl, HK.out⟩
    · have hRf : R = false := by rw [← HR.out]; exact any_step HNL.out hlt
      subst hRf
      obtain rfl : j = n := by omega
      go_wp2_with fail
      go_ret
      exact ⟨rfl, HK.out⟩
set_option maxRecDepth 100000 in
set_option maxHeartbeats 1000000 in
theorem law18_same (w : World) (ok ok' : Nat → Prop) (e : Nat) (v v' : Value) (act : List Nat) (h : RowI w ok 22 v (u64s act)) (h' : RowI w ok' 22 v' (u64s act)) (hl : act.length ≤ 6) :
    Calls Try.prog 38 #[.agg #[.int .u64 (e : Nat), v], .agg #[.int .u64 (e : Nat), v']] w fun r w' => r = .returned (.bool true) ∧ Keep [] w w' := by
  obtain ⟨b, o, cap, rfl⟩ := h.form2
  obtain ⟨b2, o2, cap2, rfl⟩ := h'.form2
  have HC : Hid (∀ k, k < act.length → w.cell? ⟨b, o + k, none⟩ = some (.int .u64 (act.getD k 0 : Nat))) := fun k hk => u64_at h k hk
  have HC2 : Hid (∀ k, k < act.length → w.cell? ⟨b2, o2 + k, none⟩ = some (.int .u64 (act.getD k 0 : Nat))) := fun k hk => u64_at h' k hk
  have HBL : Hid (b < w.heap.size) := h.lt
  have HBL2 : Hid (b2 < w.heap.size) := h'.lt
  have HB := Lib.hid ((Blk.new w 83 #[.int .u64 (e : Nat), .slice (some ⟨b, o, none⟩) act.length cap]).alloc (.cells #[.int .u64 (e : Nat), .slice (some ⟨b2, o2, none⟩) act.length cap2] 83))
  have HB2 : Hid (Blk ((w.alloc (.cells #[.int .u64 (e : Nat), .slice (some ⟨b, o, none⟩) act.length cap] 83)).alloc (.cells #[.int .u64 (e : Nat), .slice (some ⟨b2, o2, none⟩) act.length cap2] 83)) (w.heap.size + 1) 83 #[.int .u64 (e : Nat), .slice (some ⟨b2, o2, none⟩) act.length cap2]) := by
    have := Blk.new (w.alloc (.cells #[.int .u64 (e : Nat), .slice (some ⟨b, o, none⟩) act.length cap] 83)) 83 #[.int .u64 (e : Nat), .slice (some ⟨b2, o2, none⟩) act.length cap2]
    have e1 : (w.alloc (.cells #[.int .u64 (e : Nat), .slice (some ⟨b, o, none⟩) act.length cap] 83)).heap.size = w.heap.size + 1 := by simp
    rw [e1] at this
    exact this
  have HK := Lib.hid (((Keep.refl [] w).alloc (.cells #[.int .u64 (e : Nat), .slice (some ⟨b, o, none⟩) act.length cap] 83)).alloc (.cells #[.int .u64 (e : Nat), .slice (some ⟨b2, o2, none⟩) act.length cap2] 83))
  generalize hn : act.length = n at *
  clear h h' hn
  go_enter Try.func38, Try.ntmps38
  go_upto_region 1 with fail
  generalize hcb : w.heap.size = cb at HB HB2 ⊢
  clear hcb
  generalize (w.alloc (.cells #[.int .u64 (e : Nat), .slice (some ⟨b, o, none⟩) n cap] 83)).alloc (.cells #[.int .u64 (e : Nat), .slice (some ⟨b2, o2, none⟩) n cap2] 83) = w1 at HB HB2 HK ⊢
  have hl0 : w1.cell? ⟨cb, 0, none⟩ = some (.int .u64 (e : Nat)) := HB.out.cell 0
  have hl1 : w1.cell? ⟨cb, 1, none⟩ = some (.slice (some ⟨b, o, none⟩) n cap) := HB.out.cell 1
  have hm0 : w1.cell? ⟨cb + 1, 0, none⟩ = some (.int .u64 (e : Nat)) := HB2.out.cell 0
  have hm1 : w1.cell? ⟨cb + 1, 1, none⟩ = some (.slice (some ⟨b2, o2, none⟩) n cap2) := HB2.out.cell 1
  go_wp2_with fail
  go_loopg [5] n (fun gg q wr => ∃ j : Nat, j ≤ n ∧ gg = n - j ∧ q = .int .i64 (j : Nat) ∧ Drawn w1 wr)
  case atStart => exact ⟨0, Nat.zero_le _, rfl, rfl, Drawn.refl _⟩
  case round =>
    obtain ⟨j, hj, rfl, rfl, hdr⟩ := hrel
    have HD := Lib.hid hdr
    have HKr : Hid (Keep [] w1 wr) := Keep.of_drawn hdr
    have hr1 : wr.cell? ⟨cb, 1, none⟩ = some (.slice (some ⟨b, o, none⟩) n cap) := (HB.out.keep HKr.out (by simp)).cell 1
    have hr2 : wr.cell? ⟨cb + 1, 1, none⟩ = some (.slice (some ⟨b2, o2, none⟩) n cap2) := (HB2.out.keep HKr.out (by simp)).cell 1
    clear hdr hl0 hl1 hm0 hm1
    by_cases hlt : j < n
    · have hz : ((j : Nat) : Int) < (n : Int) := by omega
      have hz0 : (0 : Int) ≤ ((j : Nat) : Int) := by omega
      have hz6 : ((j : Nat) : Int) ≤ 6 := by omega
      have hkk : Keep [] w wr := HK.out.trans HKr.out (by simp)
      have hx : wr.cell? ⟨b, o + j, none⟩ = some (.int .u64 (act.getD j 0 : Nat)) := by
        rw [hkk.cell HBL.out (by simp)]
        exact HC.out j hlt
      have hx2 : wr.cell? ⟨b2, o2 + j, none⟩ = some (.int .u64 (act.getD j 0 : Nat)) := by
        rw [hkk.cell HBL2.out (by simp)]
        exact HC2.out j hlt
      generalize act.getD j 0 = x at hx hx2
      clear hkk
      go_wp2_with fail
      go_quiet (fail)
      go_wp2_with fail
      go_roundg (n - (j + 1))
      case measure => omega
      case rel => exact ⟨j + 1, by omega, rfl, by go_num, HD.out.trans (Drawn.n _ _)⟩
    · obtain rfl : j = n := by omega
      have HKz := Lib.hid (HK.out.trans HKr.out (by simp))
      go_wp2_with fail
      go_ret
      exact ⟨rfl, HKz.out⟩
def SetOut (w : World) (e : Nat) (act : List Nat) (r : Ending) (w' : World) : Prop := Keep [] w w' ∧ ∃ v, r = .returned (.agg #[.int .u64 (e : Nat), v]) ∧ RowI w' (w.heap.size ≤ ·) 22 v (u64s act)
set_option maxRecDepth 100000 in
set_option maxHeartbeats 1000000 in
theorem ref18_set (w : World) (ok : Nat → Prop) (e k x : Nat) (v : Value) (act : List Nat) (h : RowI w ok 22 v (u64s act)) (hk : k < act.length) (hl : act.length ≤ 6) :
    Calls Try.prog 35 #[.agg #[.int .u64 (e : Nat), v], .int .i64 (k : Nat), .int .u64 (x : Nat)] w (SetOut w e (act.set k x)) := by
  obtain ⟨b2, o2, cap2, cs2, rfl, hc2, hb2, hx2, hok2⟩ := h
  rw [u64s_len] at hc2 ⊢
  have HX2 := Lib.hid hx2
  have HB2 := Lib.hid hb2
  have HGL : Hid (act.length ≤ 6) := hl
  clear hx2 hok2 hb2
  generalize hG2 : act.set k x = G2
  have HG2 := Lib.hid hG2
  clear hG2
  have HK1 := Lib.hid (((Keep.refl [] w).alloc (.cells #[.int .u64 (e : Nat), .slice (some ⟨b2, o2, none⟩) act.length cap2] 83)).alloc (.cells #[.int .u64 0, .slice none 0 0] 83))
  have HF := Lib.hid ((Blk.new w 83 #[.int .u64 (e : Nat), .slice (some ⟨b2, o2, none⟩) act.length cap2]).alloc (.cells #[.int .u64 0, .slice none 0 0] 83))
  have HR := Lib.hid (Blk.new (w.alloc (.cells #[.int .u64 (e : Nat), .slice (some ⟨b2, o2, none⟩) act.length cap2] 83)) 83 #[.int .u64 0, .slice none 0 0])
  have HS : Hid ((w.alloc (.cells #[.int .u64 (e : Nat), .slice (some ⟨b2, o2, none⟩) act.length cap2] 83)).heap.size = w.heap.size + 1) := by simp [Hid]
  rw [HS.out] at HR
  go_enter Try.func35, Try.ntmps35
  go_upto_region 1 with fail
  generalize (w.alloc (.cells #[.int .u64 (e : Nat), .slice (some ⟨b2, o2, none⟩) act.length cap2] 83)).alloc (.cells #[.int .u64 0, .slice none 0 0] 83) = w1 at HK1 HF HR ⊢
  clear HS
  have hl1 : (w1.alloc (.cells #[] 22)).cell? ⟨w.heap.size, 1, none⟩ = some (.slice (some ⟨b2, o2, none⟩) act.length cap2) := (HF.out.alloc _).cell 1
  go_upto_region 2 with (at_builtin; obtain ⟨i0, hi, hz0, hz1, hz2⟩ := info_parts info22; go_loud (refine wpList_append_own_at _ rfl (.tmp 8) (.tmp 10) 31 rfl w1.heap.size 22 i0 (.int .u64 0) 1 8 Try.underlying31 hi hz0 hz1 hz2 rfl (by decide) (.slice (some ⟨w1.heap.size, 0, none⟩) 0 0) 0 [] rfl (World.ownsRow_made w1 #[] 0 (Nat.le_refl _) (by unfold maxLen; omega) rfl) ⟨b2, o2, none⟩ act.length cap2 (u64s act) rfl (by rw [u64s_len]; omega) (RowI.news ((HB2.out.keep HK1.out (by simp)).alloc _) HX2.out) (u64s_one act) (by have := HGL.out; unfold maxLen; omega) (by have := HGL.out; omega) (by simp) ?_); clear hi hz0 hz1 hz2; intro v2 w2 hown hg _ _; rw [Nat.zero_add, List.nil_append] at hown; have HO2 := Lib.hid hown; have HKG := Lib.hid (((Keep.refl [] w1).alloc _).trans (Keep.of_grown hg) (fun x hx => by simp [Value.ownBlock] at hx; right; omega)); clear hg)
  obtain ⟨gq, cq, rfl, hgq, hcq, xt, hbq⟩ := own_u64s HO2.out (by omega)
  have HQ := Lib.hid hbq
  have HQN := Lib.hid hgq
  have HCQ := Lib.hid hcq
  have HFx := Lib.hid (HF.out.keep HKG.out (by simp))
  have HRx := Lib.hid (HR.out.keep HKG.out (by simp))
  have HKx := Lib.hid (HK1.out.trans HKG.out (by simp))
  have hs1 : w.heap.size + 2 ≤ w1.heap.size := by have := HR.out.lt; omega
  have HS1 := Lib.hid hs1
  clear hl1 hown HO2 HKG hbq hgq HF HR hs1 HK1
  have hl0 : w2.cell? ⟨w.heap.size, 0, none⟩ = some (.int .u64 (e : Nat)) := HFx.out.cell 0
  have hl1 : w2.cell? ⟨w.heap.size, 1, none⟩ = some (.slice (some ⟨b2, o2, none⟩) act.length cap2) := HFx.out.cell 1
  have hf1 := HFx.out.frozen 1
  have hfq := HQ.out.frozen k
  have hxq := word_at HQ.out k hk
  have hz1 : ((k : Nat) : Int) < (act.length : Int) := by omega
  have hz2 : (0 : Int) ≤ (k : Int) := by omega
  have hne : ¬ gq = w.heap.size := by have := HQN.out; have := HS1.out; omega
  have hne1 : ¬ w.heap.size = gq := fun e => hne e.symm
  go_upto_region 4 with fail
  have HQ3 : Hid (Blk ((w2.setCell ⟨gq, k, none⟩ (.int .u64 (x : Nat))).setCell ⟨w.heap.size, 1, none⟩ (.slice (some ⟨gq, 0, none⟩) act.length cq)) gq 22 (u64s G2 ++ xt).toArray) := by
    have h := blk_word HQ.out k x hk
    rw [HG2.out] at h
    exact h.far (p := ⟨w.heap.size, 1, none⟩) hne _
  have HF3 : Hid (Blk ((w2.setCell ⟨gq, k, none⟩ (.int .u64 (x : Nat))).setCell ⟨w.heap.size, 1, none⟩ (.slice (some ⟨gq, 0, none⟩) act.length cq)) w.heap.size 83 #[.int .u64 (e : Nat), .slice (some ⟨gq, 0, none⟩) act.length cq]) := (HFx.out.far (p := ⟨gq, k, none⟩) hne1 (.int .u64 (x : Nat))).snd _
  have HR3 : Hid (Blk ((w2.setCell ⟨gq, k, none⟩ (.int .u64 (x : Nat))).setCell ⟨w.heap.size, 1, none⟩ (.slice (some ⟨gq, 0, none⟩) act.length cq)) (w.heap.size + 1) 83 #[.int .u64 0, .slice none 0 0]) :=
    (HRx.out.far (p := ⟨gq, k, none⟩) (by show ¬ w.heap.size + 1 = gq; have := HQN.out; have := HS1.out; omega) _).far (p := ⟨w.heap.size, 1, none⟩) (Nat.succ_ne_self _) _
  have HK3 := Lib.hid ((HKx.out.set_ (p := ⟨gq, k, none⟩) (.int .u64 (x : Nat)) (.inr (by show w.heap.size ≤ gq; have := HQN.out; have := HS1.out; omega))).set_ (p := ⟨w.heap.size, 1, none⟩) (.slice (some ⟨gq, 0, none⟩) act.length cq) (.inr (Nat.le_refl _)))
  have HQN2 : Hid (w.heap.size ≤ gq) := by have := HQN.out; have := HS1.out; show w.heap.size ≤ gq; omega
  have hg2l : G2.length = act.length := by rw [← HG2.out]; simp
  have HGL2 := Lib.hid hg2l
  generalize (w2.setCell ⟨gq, k, none⟩ (.int .u64 (x : Nat))).setCell ⟨w.heap.size, 1, none⟩ (.slice (some ⟨gq, 0, none⟩) act.length cq) = w3 at HQ3 HF3 HR3 HK3 ⊢
  have HV2 : Hid (RowI w3 (w.heap.size ≤ ·) 22 (.slice (some ⟨gq, 0, none⟩) act.length cq) (u64s G2)) := by
    refine ⟨gq, 0, cq, _, by rw [u64s_len, HGL2.out], by rw [u64s_len, HGL2.out]; exact HCQ.out, HQ3.out, fun q u hq => ?_, HQN2.out⟩
    have hq' : q < (u64s G2).length := (List.getElem?_eq_some_iff.1 hq).1
    simp only [Nat.zero_add, List.getElem?_toArray]
    rw [List.getElem?_append_left hq']
    exact hq
  clear hl0 hl1 hf1 hfq hxq hz1 hz2 hne hne1 HQ HQN HFx HRx HKx HS1 HCQ HQ3 hg2l
  have hl0 : w3.cell? ⟨w.heap.size, 0, none⟩ = some (.int .u64 (e : Nat)) := HF3.out.cell 0
  have hl1 : w3.cell? ⟨w.heap.size, 1, none⟩ = some (.slice (some ⟨gq, 0, none⟩) act.length cq) := HF3.out.cell 1
  have hf1 := HR3.out.frozen 0
  have hf2 := HR3.out.frozen 1
  have hR0 := HR3.out.cell 0
  have hR1 := HR3.out.cell 1
  have hne : ¬ w.heap.size = w.heap.size + 1 := by omega
  have hne2 : ¬ w.heap.size + 1 = w.heap.size := by omega
  go_wp2_with fail
  refine e_ret rfl (HR3.out.two _ _) rfl (by kernel_rfl) rfl ?_
  refine ⟨(HK3.out.set_ (p := ⟨w.heap.size + 1, 0, none⟩) _ (.inr (Nat.le_succ _))).set_ (p := ⟨w.heap.size + 1, 1, none⟩) _ (.inr (Nat.le_succ _)), _, rfl, ?_⟩
  exact (HV2.out.far HR3.out (by decide) 0 _).far (HR3.out.set_ 0 _) (by decide) 1 _
end Go.Proofs.Ytlbhjahmgdghoaa
