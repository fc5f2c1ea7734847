/- hist.May and the reference's May by their contracts. Conditions: at most 200 events. -/
import Derived.Test.YtofmonknhiggaaaSt1
namespace Go.Proofs.Ytofmonknhiggaaa
open Go.RowKit

def withinC (l : List EvS) : List Value := (List.range 6).map fun (t : Nat) => .bool (cntT (t : Int) l % 2 == 1)
theorem withinC_at (l : List EvS) {t : Nat} (h : t < 6) : (withinC l)[t]? = some (.bool (cntT (t : Int) l % 2 == 1)) := by
  unfold withinC
  rw [List.getElem?_map, List.getElem?_range h]
  rfl
theorem withinC_step {l : List EvS} {e : EvS} {t : Nat} (h : t < 6) (ht : e.thr = (t : Int)) (hb : e.back = (cntT (t : Int) l % 2 == 1)) : (withinC l).set t (.bool (!e.back)) = withinC (l ++ [e]) := by
  apply List.ext_getElem?
  intro k
  rw [List.getElem?_set]
  by_cases hk : k < 6
  · rw [withinC_at _ hk, withinC_at _ hk, cntT_snoc, ht]
    by_cases hkt : t = k
    · subst hkt
      rw [if_pos rfl, if_pos (by simp [withinC]; exact h), if_pos rfl, hb]
      congr 2
      generalize cntT (t : Int) l = c
      by_cases hc : c % 2 = 1
      · have h2 : ¬ (c + 1) % 2 = 1 := by omega
        rw [beq_eq_false_iff_ne.2 h2, beq_iff_eq.2 hc]
        rfl
      · have h2 : (c + 1) % 2 = 1 := by omega
        rw [beq_eq_false_iff_ne.2 hc, beq_iff_eq.2 h2]
        rfl
    · rw [if_neg hkt, if_neg (by omega), Nat.add_zero]
  · have h1 : (withinC l)[k]? = none := List.getElem?_eq_none (by simp [withinC]; omega)
    have h2 : (withinC (l ++ [e]))[k]? = none := List.getElem?_eq_none (by simp [withinC]; omega)
    rw [if_neg (by omega), h1, h2]
def MayOut (l : List EvS) (w : World) (r : Ending) (w' : World) : Prop := Keep [] w w' ∧ ∃ b, r = .returned (.bool b) ∧ (b = true ↔ MayP l l.length)
theorem MayP.no {l : List EvS} {n : Nat} (hn : n < l.length) (h : mayE (l.take n) (l.getD n ev0) = false) : (false = true ↔ MayP l l.length) := ⟨fun h => by (cases h), fun h2 => by
  have := h2 n hn
  rw [h] at this
  exact this⟩
theorem MayP.step {l : List EvS} {n : Nat} (h : MayP l n) (h2 : mayE (l.take n) (l.getD n ev0) = true) : MayP l (n + 1) := fun i hi => by
  by_cases hin : i < n
  · exact h i hin
  · obtain rfl : i = n := by omega
    exact h2
/-- hist.May, before a round. -/
structure MayR (w wr : World) (wb : Nat) (l : List EvS) (n : Nat) : Prop where
  hk : Keep [] w wr
  b : Blk wr wb 60 (withinC (l.take n)).toArray
  new : w.heap.size ≤ wb
  may : MayP l n
set_option maxHeartbeats 1000000 in
theorem hist_may (w : World) (A : Option Addr) (l : List EvS) (cap : Nat) (h : ElAt evC w A l) (hl : l.length ≤ 200) : Calls Try.prog 22 #[.slice A l.length cap] w (MayOut l w) := by
  have HE := Lib.hid h
  have HL := Lib.hid hl
  have HST : Hid (MayR w (w.alloc (.cells #[.bool false, .bool false, .bool false, .bool false, .bool false, .bool false] 60)) w.heap.size l 0) := Lib.hid ⟨(Keep.refl [] w).alloc _, Blk.new _ _ _, Nat.le_refl _, fun i hi => absurd hi (by omega)⟩
  clear h hl
  go_enter Try.func22, Try.ntmps22
  go_wp2_with fail
  go_loopg [5, 8] l.length (fun g v5 v8 wr => ∃ n : Nat, n ≤ l.length ∧ g = l.length - n ∧ v8 = .int .i64 (n : Nat) ∧ MayR w wr w.heap.size l n)
  case atStart => exact ⟨0, Nat.zero_le _, rfl, rfl, HST.out⟩
  case round =>
    obtain ⟨n, hn, rfl, rfl, hr⟩ := hrel
    have HR := Lib.hid hr
    have hz0 : (0 : Int) ≤ ((n : Nat) : Int) := by omega
    have hz9 : ((n : Nat) : Int) ≤ 200 := by have := HL.out; omega
    clear hr
    by_cases hlt : n < l.length
    · have hz : ((n : Nat) : Int) < ((l.length : Nat) : Int) := by omega
      obtain ⟨b, o, rfl, _, c0, c1, c2, c3, c4, c5, c6, c7, c8, c9, c10, c11⟩ := (HE.out.keep HR.out.hk).at_ev hlt
      have HNO := Lib.hid (MayP.no hlt)
      have HYES := Lib.hid (HR.out.may.step)
      have HTK := Lib.hid (take_snoc hlt)
      generalize hee : l.getD n ev0 = e at *
      have HEE := Lib.hid hee
      clear hee
      go_upto_region 5 with fail
      have HB := Lib.hid (Blk.new wr 51 (evC e).toArray)
      have HK := Lib.hid ((Keep.refl [] wr).alloc (.cells (evC e).toArray 51))
      unfold evC at HB HK
      generalize hw2 : wr.alloc _ = w2 at HB HK ⊢
      clear hw2
      generalize wr.heap.size = eb at *
      have HW := Lib.hid (HR.out.b.keep HK.out (by simp))
      have HKN := Lib.hid (HR.out.hk.trans HK.out (by simp))
      have he0 := HB.out.cell 0
      have he1 := HB.out.cell 1
      clear c0 c1 c2 c3 c4 c5 c6 c7 c8 c9 c10 c11
      by_cases g1 : 0 ≤ e.thr
      · by_cases g2 : e.thr ≤ 5
        · obtain ⟨t, ht⟩ : ∃ t : Nat, e.thr = (t : Int) := ⟨e.thr.toNat, by omega⟩
          have ht6 : t < 6 := by omega
          have hwt := HW.out.cell t
          rw [List.getElem?_toArray, withinC_at _ ht6] at hwt
          have hwf := HW.out.frozen t
          rw [ht] at he0
          have HT := Lib.hid ht
          have HT6 := Lib.hid ht6
          have hzt : ((t : Nat) : Int) < 6 := by omega
          have hzt0 : (0 : Int) ≤ ((t : Nat) : Int) := by omega
          clear g1 g2 ht
          obtain ⟨c, hc⟩ : ∃ c, c = (cntT (t : Int) (l.take n) % 2 == 1) := ⟨_, rfl⟩
          rw [← hc] at hwt
          have HC := Lib.hid hc
          clear hc
          obtain ⟨bk, hbk⟩ : ∃ c, c = e.back := ⟨_, rfl⟩
          have he1' : w2.cell? ⟨eb, 1, none⟩ = some (.bool bk) := by rw [hbk]; exact he1
          have HBK := Lib.hid hbk
          clear hbk he1
          by_cases hcb : c = bk
          · have HM : Hid (mayE (l.take n) e = true) := Lib.hid (by
              have h3 := HT6.out
              unfold mayE
              rw [HT.out, ← HC.out, ← HBK.out, hcb, decide_eq_true (by omega), decide_eq_true (by omega)]
              simp)
            have HN2 : Hid (∀ q, MayR w ((w2.drewN q).setCell ⟨w.heap.size, t, none⟩ (.bool (!bk))) w.heap.size l (n + 1)) := Lib.hid fun q => ⟨(HKN.out.drewN q).set_ _ (.inr (Nat.le_refl _)), by
              have h4 := (HW.out.drewN q).set_ t (.bool (!bk))
              rw [List.setIfInBounds_toArray, HBK.out, withinC_step HT6.out HT.out (by rw [← HBK.out, ← hcb]; exact HC.out), ← HTK.out] at h4
              rw [HBK.out]
              exact h4, Nat.le_refl _, HYES.out HM.out⟩
            subst hcb
            clear HC HBK
            cases c <;>
            (go_quiet (fail)
             go_wp2_with fail
             go_roundg (l.length - (n + 1))
             case measure => omega
             case rel => exact ⟨n + 1, by omega, rfl, by go_num, HN2.out _⟩)
          · have HM : Hid (mayE (l.take n) e = false) := Lib.hid (by
              unfold mayE
              rw [HT.out, ← HC.out, ← HBK.out]
              have : (bk == c) = false := beq_eq_false_iff_ne.2 (fun h => hcb h.symm)
              rw [this, Bool.and_false])
            clear HC HBK
            cases c <;> cases bk <;> first
              | exact absurd rfl hcb
              | (clear hcb
                 go_quiet (fail)
                 go_wp2_with fail
                 go_ret
                 exact ⟨HKN.out.drewN _, false, rfl, HNO.out HM.out⟩)
        · have HM : Hid (mayE (l.take n) e = false) := Lib.hid (by
            unfold mayE
            rw [decide_eq_false g2]
            simp)
          have hz6 : (6 : Int) ≤ e.thr := by omega
          clear g2
          go_quiet (fail)
          go_wp2_with fail
          go_ret
          exact ⟨HKN.out.drewN _, false, rfl, HNO.out HM.out⟩
      · have HM : Hid (mayE (l.take n) e = false) := Lib.hid (by
          unfold mayE
          rw [decide_eq_false g1]
          simp)
        have hz6 : e.thr < 0 := by omega
        clear g1
        go_quiet (fail)
        go_wp2_with fail
        go_ret
        exact ⟨HKN.out.drewN _, false, rfl, HNO.out HM.out⟩
    · have hne : n = l.length := by omega
      have hz : ¬ ((n : Nat) : Int) < ((l.length : Nat) : Int) := by omega
      have HM : Hid (MayP l l.length) := Lib.hid (by rw [← hne]; exact HR.out.may)
      clear hne
      go_wp2_with fail
      go_ret
      exact ⟨HR.out.hk, true, rfl, fun _ => HM.out, fun _ => rfl⟩
end Go.Proofs.Ytofmonknhiggaaa
