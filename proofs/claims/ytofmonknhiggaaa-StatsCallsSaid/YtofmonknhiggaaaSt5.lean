/- The reference's Opers by its contract. Conditions: at most 200 events. -/
import Derived.Test.YtofmonknhiggaaaSt4
namespace Go.Proofs.Ytofmonknhiggaaa
open Go.RowKit

theorem close_cells (e y : EvS) (n j : Nat) (nb : Option (Nat × EvS)) : ((((((opC (mkOp e n nb)).toArray.setIfInBounds 12 (.int .i64 (j : Int))).setIfInBounds 6 (.int .i64 y.kind)).setIfInBounds 7 (.int .i64 y.akey)).setIfInBounds 8 (.int .i64 y.aval)).setIfInBounds 9 (.int .i64 y.an)).setIfInBounds 10 (.slice y.pA y.pn y.pc) = (opC (mkOp e n (some (j, y)))).toArray := by
  cases nb with
  | none => simp [opC, mkOp, closeE]
  | some z => obtain ⟨k, x⟩ := z; simp [opC, mkOp, closeE]
theorem drop_step {l : List EvS} {j : Nat} (h : j < l.length) : l.drop j = l.getD j ev0 :: l.drop (j + 1) := by
  rw [List.drop_eq_getElem_cons h, List.getD_eq_getElem?_getD, List.getElem?_eq_getElem h]
  rfl
theorem next_yes {l : List EvS} {j : Nat} {t : Int} (h : j < l.length) (ht : (l.getD j ev0).thr = t) (hb : (l.getD j ev0).back = true) : nextBack t (l.drop j) j = some (j, l.getD j ev0) := by
  rw [drop_step h]
  unfold nextBack
  rw [if_pos ⟨ht, hb⟩]
theorem next_no {l : List EvS} {j : Nat} {t : Int} (h : j < l.length) (hn : ¬ ((l.getD j ev0).thr = t ∧ (l.getD j ev0).back = true)) : nextBack t (l.drop j) j = nextBack t (l.drop (j + 1)) (j + 1) := by
  rw [drop_step h]
  rw [nextBack, if_neg hn]
theorem opers_step {l : List EvS} {n : Nat} (h : n < l.length) : opersR (l.drop n) n = if (l.getD n ev0).back = true then opersR (l.drop (n + 1)) (n + 1) else mkOp (l.getD n ev0) n (nextBack (l.getD n ev0).thr (l.drop (n + 1)) (n + 1)) :: opersR (l.drop (n + 1)) (n + 1) := by
  rw [drop_step h, opersR]
structure OrR (w wr : World) (l : List EvS) (n : Nat) (v : Value) (acc : List OpS) : Prop where
  hk : Keep [] w wr
  eq : acc ++ opersR (l.drop n) n = opersR l 0
  own : wr.ownsRow w.heap.size 41 13 v acc.length (acc.flatMap opC)
set_option maxHeartbeats 2000000 in
theorem ref11_opers (w : World) (A : Option Addr) (l : List EvS) (cap : Nat) (h : ElAt evC w A l) (hl : l.length ≤ 200) : Calls Try.prog 9 #[.slice A l.length cap] w (OpersOut l w) := by
  have HE := Lib.hid h
  have HL := Lib.hid hl
  have KM := Lib.hid (ref11_may w A l cap h hl)
  clear h hl
  go_enter Try.func9, Try.ntmps9
  go_wp2_with fail
  refine KM.out.mono ?_
  rintro r x ⟨hk, b, rfl, hb⟩
  have HK := Lib.hid hk
  have HB := Lib.hid hb
  clear hk hb
  cases b with
  | false =>
    go_wp2_with fail
    go_ret
    exact ⟨HK.out, [], _, rfl, ⟨fun h => absurd (HB.out.2 h) (by simp), fun _ => rfl⟩, World.ownsRow_nil _ _ _ _⟩
  | true =>
    have HM := Lib.hid (HB.out.1 rfl)
    have HST : Hid (OrR w x l 0 (.slice none 0 0) []) := Lib.hid ⟨HK.out, rfl, World.ownsRow_nil _ _ _ _⟩
    go_wp2_with fail
    go_loopg [3, 4, 5, 6] l.length (fun g v3 v4 v5 v6 wr => ∃ (n : Nat) (acc : List OpS), n ≤ l.length ∧ g = l.length - n ∧ v4 = .int .i64 (n : Nat) ∧ OrR w wr l n v3 acc)
    case atStart => exact ⟨0, _, Nat.zero_le _, rfl, rfl, HST.out⟩
    case round =>
      obtain ⟨n, acc, hn, rfl, rfl, hr⟩ := hrel
      have HR := Lib.hid hr
      have hz0 : (0 : Int) ≤ ((n : Nat) : Int) := by omega
      have hz9 : ((n : Nat) : Int) ≤ 200 := by have := HL.out; omega
      have hlz : ((l.length : Nat) : Int) ≤ 200 := by have := HL.out; omega
      obtain ⟨A3, c3, rfl⟩ := own_form hr.own
      have hfw : acc.length ≤ 200 := by
        have h1 := congrArg List.length hr.eq
        have h2 := opersR_few l 0
        have h3 := HL.out
        rw [List.length_append] at h1
        omega
      have HFW := Lib.hid hfw
      clear hr hfw
      by_cases hlt : n < l.length
      · have hz : ((n : Nat) : Int) < ((l.length : Nat) : Int) := by omega
        obtain ⟨b, o, hA, _, c0, c1, c2, c3', c4, c5, c6, _⟩ := (HE.out.keep HR.out.hk).at_ev hlt
        subst hA
        have HST2 := Lib.hid (opers_step hlt)
        have HLT := Lib.hid hlt
        generalize hee : l.getD n ev0 = e at *
        have HEE := Lib.hid hee
        clear hee
        cases hbk : e.back with
        | true =>
          rw [hbk] at c1
          have HEQ : Hid (acc ++ opersR (l.drop (n + 1)) (n + 1) = opersR l 0) := Lib.hid (by
            have := HR.out.eq
            rw [HST2.out, if_pos hbk] at this
            exact this)
          clear hbk
          go_wp2_with fail
          go_roundg (l.length - (n + 1))
          case measure => omega
          case rel => exact ⟨n + 1, acc, by omega, rfl, by go_num, HR.out.hk, HEQ.out, HR.out.own⟩
        | false =>
          rw [hbk] at c1
          have HEQ : Hid (acc ++ (mkOp e n (nextBack e.thr (l.drop (n + 1)) (n + 1)) :: opersR (l.drop (n + 1)) (n + 1)) = opersR l 0) := Lib.hid (by
            have := HR.out.eq
            rw [HST2.out, if_neg (by simp [hbk])] at this
            exact this)
          clear hbk
          go_upto_region 8 with fail
          go_region
          have HBO : Hid (Blk (wr.alloc (.cells #[.int .i64 e.thr, .int .i64 e.op, .int .i64 e.key, .int .i64 e.val, .int .i64 e.hi, .int .i64 e.lim, .int .i64 0, .int .i64 0, .int .i64 0, .int .i64 0, .slice none 0 0, .int .i64 (n : Nat), .int .i64 (-1)] 41)).drew wr.heap.size 41 (opC (mkOp e n none)).toArray) := Lib.hid (Blk.new wr 41 (opC (mkOp e n none)).toArray).drew
          have HK2 := Lib.hid (((Keep.refl [] wr).alloc (.cells #[.int .i64 e.thr, .int .i64 e.op, .int .i64 e.key, .int .i64 e.val, .int .i64 e.hi, .int .i64 e.lim, .int .i64 0, .int .i64 0, .int .i64 0, .int .i64 0, .slice none 0 0, .int .i64 (n : Nat), .int .i64 (-1)] 41)).drew)
          have HOB : Hid (w.heap.size ≤ wr.heap.size) := Lib.hid HR.out.hk.size
          generalize (wr.alloc (.cells #[.int .i64 e.thr, .int .i64 e.op, .int .i64 e.key, .int .i64 e.val, .int .i64 e.hi, .int .i64 e.lim, .int .i64 0, .int .i64 0, .int .i64 0, .int .i64 0, .slice none 0 0, .int .i64 (n : Nat), .int .i64 (-1)] 41)).drew = w2 at HBO HK2 ⊢
          obtain ⟨ob, hob⟩ : ∃ q, q = wr.heap.size := ⟨_, rfl⟩
          rw [← hob] at HBO HOB ⊢
          have HOBE := Lib.hid hob
          clear hob
          have HKN := Lib.hid (HR.out.hk.trans HK2.out (by simp))
          have HOW := Lib.hid (own_keep HR.out.own HK2.out (by simp))
          clear c0 c1 c2 c3' c4 c5 c6
          go_wp2_with fail
          go_loopg [6] (l.length - 1 - n) (fun g v6 wr => ∃ j : Nat, n ≤ j ∧ j < l.length ∧ g = j - n ∧ v6 = .int .i64 (j : Nat) ∧ Keep [ob] w2 wr ∧ Blk wr ob 41 (opC (mkOp e n (nextBack e.thr (l.drop (j + 1)) (j + 1)))).toArray)
          case atStart => exact ⟨l.length - 1, by have := HLT.out; omega, by have := HLT.out; omega, rfl, congrArg _ (by have := HLT.out; omega), Keep.refl _ _, by
            have e1 : l.length - 1 + 1 = l.length := by have := HLT.out; omega
            rw [e1, List.drop_of_length_le (Nat.le_refl _)]
            exact HBO.out⟩
          case round =>
            obtain ⟨j, hjn, hjl, rfl, rfl, hk2, hb2⟩ := hrel
            have HKJ := Lib.hid hk2
            have HBJ := Lib.hid hb2
            have HKW := Lib.hid (HKN.out.trans hk2 (fun y hy => .inr (by rw [List.mem_singleton.1 hy]; exact HOB.out)))
            have HJL := Lib.hid hjl
            have hzj : (0 : Int) ≤ ((j : Nat) : Int) := by omega
            have hzj2 : ((j : Nat) : Int) < ((l.length : Nat) : Int) := by omega
            have HNY := Lib.hid (next_yes (t := e.thr) hjl)
            have HNN := Lib.hid (next_no (t := e.thr) hjl)
            obtain ⟨nb, hnb⟩ : ∃ nb, nb = nextBack e.thr (l.drop (j + 1)) (j + 1) := ⟨_, rfl⟩
            rw [← hnb] at HNN hb2 HBJ
            have HNB := Lib.hid hnb
            clear hnb
            have m0 : wr.cell? ⟨ob, 0, none⟩ = some (.int .i64 e.thr) := by
              have := hb2.cell 0
              rw [show (opC (mkOp e n nb)).toArray[0]? = some (.int .i64 (mkOp e n nb).thr) from rfl, mkOp_thr] at this
              exact this
            by_cases hgt : n < j
            · have hzgt : ((n : Nat) : Int) < ((j : Nat) : Int) := by omega
              obtain ⟨b', o', he, _, d0, d1, d2, d3, d4, d5, d6, d7, d8, d9, d10, d11⟩ := (HE.out.keep HKW.out).at_ev hjl
              cases he
              clear hk2 hjl d2 d3 d4 d5 d6
              generalize l.getD j ev0 = y at *
              by_cases hq : y.thr = e.thr ∧ y.back = true
              · obtain ⟨hq1, hq2⟩ := hq
                have HNX := Lib.hid (HNY.out hq1 hq2)
                rw [hq1] at d0
                rw [hq2] at d1
                clear hq1 hq2
                have m6 : wr.cell? ⟨ob, 6, none⟩ = some (.int .i64 (mkOp e n nb).kind) := hb2.cell 6
                have m7 : wr.cell? ⟨ob, 7, none⟩ = some (.int .i64 (mkOp e n nb).akey) := hb2.cell 7
                have m8 : wr.cell? ⟨ob, 8, none⟩ = some (.int .i64 (mkOp e n nb).aval) := hb2.cell 8
                have m9 : wr.cell? ⟨ob, 9, none⟩ = some (.int .i64 (mkOp e n nb).an) := hb2.cell 9
                have m10 : wr.cell? ⟨ob, 10, none⟩ = some (.slice (mkOp e n nb).pA (mkOp e n nb).pn (mkOp e n nb).pc) := hb2.cell 10
                have m12 : wr.cell? ⟨ob, 12, none⟩ = some (.int .i64 (mkOp e n nb).to) := hb2.cell 12
                have k6 := hb2.frozen 6
                have k7 := hb2.frozen 7
                have k8 := hb2.frozen 8
                have k9 := hb2.frozen 9
                have k10 := hb2.frozen 10
                have k12 := hb2.frozen 12
                clear hb2
                go_wp2_with fail
                go_quiet (fail)
                go_upto_region 11 with fail
                have HB6 := Lib.hid (((((((HBJ.out.drewN nq).set_ 12 (.int .i64 (j : Nat))).set_ 6 (.int .i64 y.kind)).set_ 7 (.int .i64 y.akey)).set_ 8 (.int .i64 y.aval)).set_ 9 (.int .i64 y.an)).set_ 10 (.slice y.pA y.pn y.pc))
                have HK6 := Lib.hid (((((((HKJ.out.drewN nq).set_ (p := ⟨ob, 12, none⟩) (.int .i64 (j : Nat)) (.inl (by simp))).set_ (p := ⟨ob, 6, none⟩) (.int .i64 y.kind) (.inl (by simp))).set_ (p := ⟨ob, 7, none⟩) (.int .i64 y.akey) (.inl (by simp))).set_ (p := ⟨ob, 8, none⟩) (.int .i64 y.aval) (.inl (by simp))).set_ (p := ⟨ob, 9, none⟩) (.int .i64 y.an) (.inl (by simp))).set_ (p := ⟨ob, 10, none⟩) (.slice y.pA y.pn y.pc) (.inl (by simp)))
                rw [close_cells] at HB6
                clear m0 m6 m7 m8 m9 m10 m12 k6 k7 k8 k9 k10 k12 d0 d1 d7 d8 d9 d10 d11
                go_wp2_with fail
                go_roundg (j - 1 - n)
                case measure => omega
                case rel => exact ⟨j - 1, by omega, by have := HJL.out; omega, rfl, congrArg _ (by go_num), HK6.out, by rw [show j - 1 + 1 = j by omega, HNX.out]; exact HB6.out⟩
              · have HNX := Lib.hid (HNN.out hq)
                have HQ := Lib.hid hq
                clear hb2
                by_cases hq1 : y.thr = e.thr
                · have hq2 : y.back = false := by
                    cases hh : y.back
                    · rfl
                    · exact absurd ⟨hq1, hh⟩ hq
                  rw [hq1] at d0
                  rw [hq2] at d1
                  clear hq hq1 hq2
                  go_wp2_with fail
                  go_quiet (fail)
                  go_wp2_with fail
                  go_roundg (j - 1 - n)
                  case measure => omega
                  case rel => exact ⟨j - 1, by omega, by have := HJL.out; omega, rfl, congrArg _ (by go_num), HKJ.out.drewN _, by rw [show j - 1 + 1 = j by omega, HNX.out]; exact HBJ.out⟩
                · have hqb : (y.thr == e.thr) = false := beq_eq_false_iff_ne.2 hq1
                  clear hq hq1
                  go_wp2_with fail
                  go_quiet (fail)
                  go_wp2_with fail
                  go_roundg (j - 1 - n)
                  case measure => omega
                  case rel => exact ⟨j - 1, by omega, by have := HJL.out; omega, rfl, congrArg _ (by go_num), HKJ.out.drewN _, by rw [show j - 1 + 1 = j by omega, HNX.out]; exact HBJ.out⟩
            · have hje : j = n := by omega
              have HOO : Hid (acc ++ [mkOp e n nb] ++ opersR (l.drop (n + 1)) (n + 1) = opersR l 0) := Lib.hid (by
                have := HEQ.out
                rw [HNB.out, hje, List.append_assoc]
                exact this)
              have HOJ := Lib.hid (own_keep HOW.out HKJ.out (fun g hg hm => by
                have h1 := own_lt HR.out.own hg
                have h2 := HOBE.out
                rw [List.mem_singleton.1 hm] at h1
                omega))
              generalize mkOp e n nb = oo at *
              have q0 : wr.cell? ⟨ob, 0, none⟩ = some (.int .i64 oo.thr) := hb2.cell 0
              have q1 : wr.cell? ⟨ob, 1, none⟩ = some (.int .i64 oo.op) := hb2.cell 1
              have q2 : wr.cell? ⟨ob, 2, none⟩ = some (.int .i64 oo.key) := hb2.cell 2
              have q3 : wr.cell? ⟨ob, 3, none⟩ = some (.int .i64 oo.val) := hb2.cell 3
              have q4 : wr.cell? ⟨ob, 4, none⟩ = some (.int .i64 oo.hi) := hb2.cell 4
              have q5 : wr.cell? ⟨ob, 5, none⟩ = some (.int .i64 oo.lim) := hb2.cell 5
              have q6 : wr.cell? ⟨ob, 6, none⟩ = some (.int .i64 oo.kind) := hb2.cell 6
              have q7 : wr.cell? ⟨ob, 7, none⟩ = some (.int .i64 oo.akey) := hb2.cell 7
              have q8 : wr.cell? ⟨ob, 8, none⟩ = some (.int .i64 oo.aval) := hb2.cell 8
              have q9 : wr.cell? ⟨ob, 9, none⟩ = some (.int .i64 oo.an) := hb2.cell 9
              have q10 : wr.cell? ⟨ob, 10, none⟩ = some (.slice oo.pA oo.pn oo.pc) := hb2.cell 10
              have q11 : wr.cell? ⟨ob, 11, none⟩ = some (.int .i64 oo.frm) := hb2.cell 11
              have q12 : wr.cell? ⟨ob, 12, none⟩ = some (.int .i64 oo.to) := hb2.cell 12
              have hzgt : ¬ ((n : Nat) : Int) < ((j : Nat) : Int) := by omega
              clear hb2 hk2 hjl m0 hje
              go_wp2_with (at_builtin; obtain ⟨i0, hi, hy0, hy1, hy2⟩ := info_parts infoOp; refine wpList_append_own_at _ rfl (.tmp 65) (.tmp 67) 33 rfl w.heap.size 41 i0 (.agg #[.int .i64 0, .int .i64 0, .int .i64 0, .int .i64 0, .int .i64 0, .int .i64 0, .int .i64 0, .int .i64 0, .int .i64 0, .int .i64 0, .slice none 0 0, .int .i64 0, .int .i64 0]) 13 120 Try.underlying33 hi hy0 hy1 hy2 rfl (by decide) (.slice A3 acc.length c3) acc.length (acc.flatMap opC) rfl (own_keep HOJ.out ((Keep.refl [] wr).alloc _) (by simp)) ⟨_, 0, none⟩ 1 1 [.int .i64 oo.thr, .int .i64 oo.op, .int .i64 oo.key, .int .i64 oo.val, .int .i64 oo.hi, .int .i64 oo.lim, .int .i64 oo.kind, .int .i64 oo.akey, .int .i64 oo.aval, .int .i64 oo.an, .slice oo.pA oo.pn oo.pc, .int .i64 oo.frm, .int .i64 oo.to] rfl rfl (World.news_of_block (heap_alloc_new _ _)) (by simp [Value.oneCell']) (by have := HFW.out; unfold maxLen; omega) (by have := HFW.out; omega) (by have := HKW.out.size; simp; omega) ?_; clear hi hy0 hy1 hy2; intro v4 w4 hown hg _ _; have HOW4 := Lib.hid hown; have HK4 := Lib.hid ((HKW.out.alloc (.cells #[.int .i64 oo.thr, .int .i64 oo.op, .int .i64 oo.key, .int .i64 oo.val, .int .i64 oo.hi, .int .i64 oo.lim, .int .i64 oo.kind, .int .i64 oo.akey, .int .i64 oo.aval, .int .i64 oo.an, .slice oo.pA oo.pn oo.pc, .int .i64 oo.frm, .int .i64 oo.to] 41)).trans (Keep.of_grown hg) (fun y hy => .inr (own_ge HOJ.out (by simpa using hy)))); clear hown hg)
              go_roundg (l.length - (n + 1))
              case measure => omega
              case rel => exact ⟨n + 1, acc ++ [oo], by omega, rfl, by go_num, HK4.out, HOO.out, by
                have h4 := HOW4.out
                have e1 : (acc ++ [oo]).length = acc.length + 1 := by simp
                have e2 : (acc ++ [oo]).flatMap opC = acc.flatMap opC ++ [.int .i64 oo.thr, .int .i64 oo.op, .int .i64 oo.key, .int .i64 oo.val, .int .i64 oo.hi, .int .i64 oo.lim, .int .i64 oo.kind, .int .i64 oo.akey, .int .i64 oo.aval, .int .i64 oo.an, .slice oo.pA oo.pn oo.pc, .int .i64 oo.frm, .int .i64 oo.to] := by
                  rw [List.flatMap_append]
                  simp [opC]
                rw [e1, e2]
                exact h4⟩
      · have hne : n = l.length := by omega
        have hz : ¬ ((n : Nat) : Int) < ((l.length : Nat) : Int) := by omega
        have HTA : Hid (acc = opersR l 0) := Lib.hid (by
          have := HR.out.eq
          rw [hne, List.drop_of_length_le (Nat.le_refl _)] at this
          simpa [opersR] using this)
        clear hne
        go_wp2_with fail
        go_ret
        exact ⟨HR.out.hk, acc, _, rfl, ⟨fun _ => HTA.out, fun h => absurd HM.out h⟩, HR.out.own⟩
end Go.Proofs.Ytofmonknhiggaaa
