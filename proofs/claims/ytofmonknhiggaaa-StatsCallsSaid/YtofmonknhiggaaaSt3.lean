/- The reference's May by its contract. Conditions: at most 200 events. -/
import Derived.Test.YtofmonknhiggaaaSt2
namespace Go.Proofs.Ytofmonknhiggaaa
open Go.RowKit

theorem cnt_step {l : List EvS} {k : Nat} (h : k < l.length) (t : Int) : cntT t (l.take (k + 1)) = cntT t (l.take k) + (if (l.getD k ev0).thr = t then 1 else 0) := by
  rw [take_snoc h, cntT_snoc]
theorem cnt_le (t : Int) (l : List EvS) : cntT t l ≤ l.length := List.countP_le_length
set_option maxHeartbeats 2000000 in
theorem ref11_may (w : World) (A : Option Addr) (l : List EvS) (cap : Nat) (h : ElAt evC w A l) (hl : l.length ≤ 200) : Calls Try.prog 18 #[.slice A l.length cap] w (MayOut l w) := by
  have HE := Lib.hid h
  have HL := Lib.hid hl
  clear h hl
  go_enter Try.func18, Try.ntmps18
  go_wp2_with fail
  go_loopg [3, 4, 5] l.length (fun g v3 v4 v5 wr => ∃ n : Nat, n ≤ l.length ∧ g = l.length - n ∧ v3 = .int .i64 (n : Nat) ∧ Drawn w wr ∧ MayP l n)
  case atStart => exact ⟨0, Nat.zero_le _, rfl, rfl, Drawn.refl _, fun i hi => absurd hi (by omega)⟩
  case round =>
    obtain ⟨n, hn, rfl, rfl, hd, hm⟩ := hrel
    have HD := Lib.hid hd
    have hz0 : (0 : Int) ≤ ((n : Nat) : Int) := by omega
    have hz9 : ((n : Nat) : Int) ≤ 200 := by have := HL.out; omega
    by_cases hlt : n < l.length
    · have hz : ((n : Nat) : Int) < ((l.length : Nat) : Int) := by omega
      have HYES := Lib.hid (hm.step)
      have HNO := Lib.hid (MayP.no hlt)
      clear hm hd
      have HEW := Lib.hid (HE.out.keep (Keep.of_drawn HD.out))
      obtain ⟨b, o, hA, _, c0, c1, _⟩ := HEW.out.at_ev hlt
      subst hA
      have HLT := Lib.hid hlt
      generalize hee : l.getD n ev0 = e at *
      have HEE := Lib.hid hee
      clear hee
      have hthr : e.thr < 0 ∨ 5 < e.thr ∨ (0 ≤ e.thr ∧ e.thr ≤ 5) := by omega
      rcases hthr with g | g | g
      · have HM : Hid (mayE (l.take n) e = false) := Lib.hid (by
          unfold mayE
          rw [decide_eq_false (by omega)]
          simp)
        go_wp2_with fail
        go_ret
        exact ⟨Keep.of_drawn HD.out, false, rfl, HNO.out HM.out⟩
      · have HM : Hid (mayE (l.take n) e = false) := Lib.hid (by
          unfold mayE
          rw [decide_eq_false (p := e.thr ≤ 5) (by omega)]
          simp)
        have hz3 : ¬ e.thr < 0 := by omega
        go_wp2_with fail
        go_ret
        exact ⟨Keep.of_drawn HD.out, false, rfl, HNO.out HM.out⟩
      · obtain ⟨g1, g2⟩ := g
        have hz3 : ¬ e.thr < 0 := by omega
        have hz4 : ¬ 5 < e.thr := by omega
        have HG := Lib.hid (And.intro g1 g2)
        clear g1 g2
        go_wp2_with fail
        go_loopg [4, 5] n (fun g v4 v5 wr2 => ∃ k : Nat, k ≤ n ∧ g = n - k ∧ v5 = .int .i64 (k : Nat) ∧ v4 = .int .i64 (cntT e.thr (l.take k) : Nat) ∧ Drawn w wr2)
        case atStart => exact ⟨0, Nat.zero_le _, rfl, rfl, rfl, HD.out⟩
        case round =>
          obtain ⟨k, hk, rfl, rfl, rfl, hd2⟩ := hrel
          have HD2 := Lib.hid hd2
          have hzk : (0 : Int) ≤ ((k : Nat) : Int) := by omega
          obtain ⟨b', o', he, _, d0, d1, _⟩ := (HE.out.keep (Keep.of_drawn HD2.out)).at_ev HLT.out
          cases he
          rw [HEE.out] at d0 d1
          have hcl := cnt_le e.thr (l.take k)
          rw [List.length_take] at hcl
          have hc2 : cntT e.thr (l.take k) ≤ 200 := by have := HL.out; omega
          clear hcl c0 c1 hd2
          by_cases hkn : k < n
          · have hzkn : ((k : Nat) : Int) < ((n : Nat) : Int) := by omega
            have hkl : k < l.length := by omega
            have hzkl : ((k : Nat) : Int) < ((l.length : Nat) : Int) := by omega
            obtain ⟨b', o', he, _, f0, _⟩ := (HE.out.keep (Keep.of_drawn HD2.out)).at_ev hkl
            cases he
            have HST := Lib.hid (cnt_step hkl e.thr)
            generalize l.getD k ev0 = y at *
            generalize cntT e.thr (l.take k) = c at *
            have hzc : (0 : Int) ≤ ((c : Nat) : Int) := by omega
            have hzc2 : ((c : Nat) : Int) ≤ 200 := by omega
            by_cases hq : y.thr = e.thr
            · have HQ := Lib.hid hq
              rw [hq] at f0
              clear hq
              go_wp2_with fail
              go_quiet (fail)
              go_wp2_with fail
              go_roundg (n - (k + 1))
              case measure => omega
              case rel => exact ⟨k + 1, by omega, rfl, by go_num, by rw [HST.out, if_pos HQ.out]; rfl, HD2.out.trans (Drawn.n _ _)⟩
            · have HQ := Lib.hid hq
              have hqb : (y.thr == e.thr) = false := beq_eq_false_iff_ne.2 hq
              clear hq
              go_wp2_with fail
              go_quiet (fail)
              go_wp2_with fail
              go_roundg (n - (k + 1))
              case measure => omega
              case rel => exact ⟨k + 1, by omega, rfl, by go_num, by rw [HST.out, if_neg HQ.out]; rfl, HD2.out.trans (Drawn.n _ _)⟩
          · have hke : k = n := by omega
            have hzkn : ¬ ((k : Nat) : Int) < ((n : Nat) : Int) := by omega
            have HME : Hid (mayE (l.take n) e = (e.back == (cntT e.thr (l.take k) % 2 == 1))) := Lib.hid (by
              have := HG.out
              unfold mayE
              rw [hke, decide_eq_true this.1, decide_eq_true this.2]
              rfl)
            generalize cntT e.thr (l.take k) = c at *
            have hzc : (0 : Int) ≤ ((c : Nat) : Int) := by omega
            have hzc2 : ((c : Nat) : Int) ≤ 200 := by omega
            obtain ⟨bk, hbk⟩ : ∃ c, c = e.back := ⟨_, rfl⟩
            rw [← hbk] at d1 HME
            clear hke hbk
            have hpar : ((c : Nat) : Int) % 2 = 1 ∨ ((c : Nat) : Int) % 2 = 0 := by omega
            rcases hpar with hp | hp
            case' inl => have HPB : Hid ((c % 2 == 1) = true) := Lib.hid (beq_iff_eq.2 (by omega))
            case' inr => have HPB : Hid ((c % 2 == 1) = false) := Lib.hid (beq_eq_false_iff_ne.2 (by omega))
            all_goals
              (rw [HPB.out] at HME
               cases bk
               all_goals
                 (go_wp2_with fail
                  first
                  | (go_ret
                     exact ⟨Keep.of_drawn HD2.out, false, rfl, HNO.out (by rw [HME.out]; rfl)⟩)
                  | (go_roundg (l.length - (n + 1))
                     case measure => omega
                     case rel => exact ⟨n + 1, by omega, rfl, by go_num, HD2.out, HYES.out (by rw [HME.out]; rfl)⟩)))
    · have hne : n = l.length := by omega
      have hz : ¬ ((n : Nat) : Int) < ((l.length : Nat) : Int) := by omega
      have HM : Hid (MayP l l.length) := Lib.hid (by rw [← hne]; exact hm)
      clear hne
      go_wp2_with fail
      go_ret
      exact ⟨Keep.of_drawn HD.out, true, rfl, fun _ => HM.out, fun _ => rfl⟩
end Go.Proofs.Ytofmonknhiggaaa
