/- hist.Opers by its contract. Conditions: at most 200 events. -/
import Derived.Test.YtofmonknhiggaaaSt3
namespace Go.Proofs.Ytofmonknhiggaaa
open Go.RowKit

def opsOut (l : List EvS) (os : List OpS) : Prop := (MayP l l.length → os = opersR l 0) ∧ (¬ MayP l l.length → os = [])
def OpersOut (l : List EvS) (w : World) (r : Ending) (w' : World) : Prop := Keep [] w w' ∧ ∃ os v, r = .returned v ∧ opsOut l os ∧ w'.ownsRow w.heap.size 41 13 v os.length (os.flatMap opC)
theorem set_flat (x : OpS) (l : List OpS) (k j : Nat) (v : Value) : ((x :: l).flatMap opC).set ((k + 1) * 13 + j) v = opC x ++ (l.flatMap opC).set (k * 13 + j) v := by
  rw [List.flatMap_cons, List.set_append_right _ _ (by show 13 ≤ _; omega), show (k + 1) * 13 + j - (opC x).length = k * 13 + j by show _ - 13 = _; omega]
theorem close_flat (e : EvS) (j : Nat) : ∀ (l : List OpS) (k : Nat), k < l.length → (l.set k (closeE e j (l.getD k op0))).flatMap opC = ((((((l.flatMap opC).set (k * 13 + 6) (.int .i64 e.kind)).set (k * 13 + 7) (.int .i64 e.akey)).set (k * 13 + 8) (.int .i64 e.aval)).set (k * 13 + 9) (.int .i64 e.an)).set (k * 13 + 10) (.slice e.pA e.pn e.pc)).set (k * 13 + 12) (.int .i64 (j : Int))
  | [], k, h => by simp at h
  | x :: l, 0, h => by
    show opC (closeE e j x) ++ l.flatMap opC = _
    simp only [List.flatMap_cons, Nat.zero_mul, Nat.zero_add]
    rfl
  | x :: l, k + 1, h => by
    have ih := close_flat e j l k (by simpa using h)
    show opC x ++ (l.set k (closeE e j (l.getD k op0))).flatMap opC = _
    rw [ih]
    rw [set_flat]
    have e2 : ∀ (m : List Value) (i : Nat) (v : Value), (opC x ++ m).set ((k + 1) * 13 + i) v = opC x ++ m.set (k * 13 + i) v := fun m i v => by
      rw [List.set_append_right _ _ (by show 13 ≤ _; omega), show (k + 1) * 13 + i - (opC x).length = k * 13 + i by show _ - 13 = _; omega]
    rw [e2, e2, e2, e2, e2]
def lastC (last : List Nat) : List Value := last.map fun (n : Nat) => .int .i64 (n : Int)
theorem lastC_at {last : List Nat} {t : Nat} (h : t < last.length) : (lastC last)[t]? = some (.int .i64 (last.getD t 0 : Nat)) := by
  unfold lastC
  rw [List.getElem?_map, List.getD_eq_getElem?_getD, List.getElem?_eq_getElem h]
  rfl
theorem infoOp : (Try.prog.info? 41).map (fun i => (i.zero, i.size, i.bytes)) = some (some (.agg #[.int .i64 0, .int .i64 0, .int .i64 0, .int .i64 0, .int .i64 0, .int .i64 0, .int .i64 0, .int .i64 0, .int .i64 0, .int .i64 0, .slice none 0 0, .int .i64 0, .int .i64 0]), 13, 120) := by kernel_rfl
theorem opC_one (l : List OpS) : ∀ u ∈ l.flatMap opC, u.oneCell' = true := by
  intro u hu
  simp only [List.mem_flatMap] at hu
  obtain ⟨o, _, ho⟩ := hu
  simp only [opC, List.mem_cons, List.not_mem_nil, or_false] at ho
  rcases ho with rfl | rfl | rfl | rfl | rfl | rfl | rfl | rfl | rfl | rfl | rfl | rfl | rfl <;> rfl
/-- hist.Opers, before a round. -/
structure OpR (w wr : World) (lb : Nat) (l : List EvS) (n : Nat) (v : Value) (last : List Nat) : Prop where
  hk : Keep [] w wr
  b : Blk wr lb 56 (lastC last).toArray
  new : w.heap.size ≤ lb
  last_ : LastOk (l.take n) last
  own : wr.ownsRow w.heap.size 41 13 v (opersR (l.take n) 0).length ((opersR (l.take n) 0).flatMap opC)
theorem opersR_few : ∀ (l : List EvS) (i : Nat), (opersR l i).length ≤ l.length
  | [], _ => Nat.le_refl _
  | e :: l, i => by
    have := opersR_few l (i + 1)
    show (if e.back = true then opersR l (i + 1) else mkOp e i (nextBack e.thr l (i + 1)) :: opersR l (i + 1)).length ≤ _
    split <;> simp <;> omega
theorem lastC_set (last : List Nat) (t k : Nat) : (lastC last).set t (.int .i64 (k : Nat)) = lastC (last.set t k) := by simp [lastC, List.map_set]
set_option maxHeartbeats 2000000 in
theorem hist_opers (w : World) (A : Option Addr) (l : List EvS) (cap : Nat) (h : ElAt evC w A l) (hl : l.length ≤ 200) : Calls Try.prog 14 #[.slice A l.length cap] w (OpersOut l w) := by
  have HE := Lib.hid h
  have HL := Lib.hid hl
  have KM := Lib.hid (hist_may w A l cap h hl)
  clear h hl
  go_enter Try.func14, Try.ntmps14
  go_upto_region 1 with fail
  go_wp2_with fail
  refine KM.out.mono ?_
  rintro r x ⟨hk, b, rfl, hb⟩
  have HK := Lib.hid hk
  have HB := Lib.hid hb
  clear hk hb
  cases b with
  | false =>
    go_wp2_with fail
    go_ret
    exact ⟨HK.out, [], _, rfl, ⟨fun h => absurd (HB.out.2 h) (by simp), fun _ => rfl⟩, World.ownsRow_nil _ _ _ _⟩
  | true =>
    have HM := Lib.hid (HB.out.1 rfl)
    have HST : Hid (OpR w (x.alloc (.cells #[.int .i64 0, .int .i64 0, .int .i64 0, .int .i64 0, .int .i64 0, .int .i64 0] 56)) x.heap.size l 0 (.slice none 0 0) [0, 0, 0, 0, 0, 0]) := Lib.hid ⟨HK.out.alloc _, Blk.new _ _ _, HK.out.size, LastOk.start, World.ownsRow_nil _ _ _ _⟩
    go_wp2_with fail
    go_loopg [3, 5, 6, 7, 13] l.length (fun g v3 v5 v6 v7 v13 wr => ∃ (n : Nat) (last : List Nat), n ≤ l.length ∧ g = l.length - n ∧ v13 = .int .i64 (n : Nat) ∧ OpR w wr x.heap.size l n v3 last)
    case atStart => exact ⟨0, _, Nat.zero_le _, rfl, rfl, HST.out⟩
    case round =>
      obtain ⟨n, last, hn, rfl, rfl, hr⟩ := hrel
      have HR := Lib.hid hr
      have hz0 : (0 : Int) ≤ ((n : Nat) : Int) := by omega
      have hz9 : ((n : Nat) : Int) ≤ 200 := by have := HL.out; omega
      obtain ⟨A3, c3, rfl⟩ := own_form hr.own
      clear hr
      by_cases hlt : n < l.length
      · have hz : ((n : Nat) : Int) < ((l.length : Nat) : Int) := by omega
        obtain ⟨b, o, rfl, _, c0, c1, c2, c3', c4, c5, c6, c7, c8, c9, c10, c11⟩ := (HE.out.keep HR.out.hk).at_ev hlt
        have HME := Lib.hid (HM.out n hlt)
        have HTK := Lib.hid (take_snoc hlt)
        have HFW := Lib.hid (show (opersR (l.take n) 0).length ≤ 200 by
          have := opersR_few (l.take n) 0
          have := HL.out
          rw [List.length_take] at *
          omega)
        have HTN := Lib.hid (show (l.take n).length = n by rw [List.length_take]; omega)
        generalize hee : l.getD n ev0 = e at *
        clear hee
        go_upto_region 8 with fail
        have HBE := Lib.hid (Blk.new wr 51 (evC e).toArray)
        have HK2 := Lib.hid ((Keep.refl [] wr).alloc (.cells (evC e).toArray 51))
        unfold evC at HBE HK2
        generalize hw2 : wr.alloc _ = w2 at HBE HK2 ⊢
        clear hw2
        generalize wr.heap.size = eb at *
        have HW := Lib.hid (HR.out.b.keep HK2.out (by simp))
        have HKN := Lib.hid (HR.out.hk.trans HK2.out (by simp))
        have HOW := Lib.hid (own_keep HR.out.own HK2.out (by simp))
        clear c0 c1 c2 c3' c4 c5 c6 c7 c8 c9 c10 c11
        have HZ6 := Lib.hid HR.out.last_.len
        have hev0 := HBE.out.cell 0
        have hev1 := HBE.out.cell 1
        cases hbk : e.back with
        | false =>
          obtain ⟨t, ht, ht6, hop, hla⟩ := HR.out.last_.begin_ HME.out hbk
          rw [hbk] at hev1
          rw [ht] at hev0
          have HOP := Lib.hid hop
          have HLA := Lib.hid hla
          have HT := Lib.hid ht
          have HT6 := Lib.hid ht6
          have hlc := HW.out.cell t
          rw [List.getElem?_toArray, lastC_at (by rw [HZ6.out]; exact ht6)] at hlc
          have hlf := HW.out.frozen t
          have hzt : ((t : Nat) : Int) < 6 := by omega
          have hzt0 : (0 : Int) ≤ ((t : Nat) : Int) := by omega
          clear hbk ht hop hla
          rw [HTN.out] at HOP
          obtain ⟨os, hos⟩ : ∃ os, os = opersR (l.take n) 0 := ⟨_, rfl⟩
          rw [← hos] at HOW HFW HOP HLA ⊢
          have HOS := Lib.hid hos
          clear hos
          go_upto_region 12 with fail
          have HW3 := Lib.hid (HW.out.set_ t (.int .i64 (os.length : Nat)))
          have HK3 := Lib.hid ((Keep.refl [x.heap.size] w2).set_ (p := ⟨x.heap.size, t, none⟩) (.int .i64 (os.length : Nat)) (.inl (by simp)))
          have HBE3 := Lib.hid (HBE.out.far (p := ⟨x.heap.size, t, none⟩) (HBE.out.ne_ HW.out (by decide)) (.int .i64 (os.length : Nat)))
          have HOW3 := Lib.hid (own_keep HOW.out HK3.out (fun g hg hm => own_ne HOW.out HW.out (by decide) (by rw [hg, List.mem_singleton.1 hm])))
          generalize hw3 : w2.setCell ⟨x.heap.size, t, none⟩ (.int .i64 (os.length : Nat)) = w3 at HW3 HK3 HBE3 HOW3 ⊢
          clear hw3 hev0 hev1 hlc hlf
          have hev0 := HBE3.out.cell 0
          have hev2 := HBE3.out.cell 2
          have hev3 := HBE3.out.cell 3
          have hev4 := HBE3.out.cell 4
          have hev5 := HBE3.out.cell 5
          have hev6 := HBE3.out.cell 6
          go_wp2_with (at_builtin; obtain ⟨i0, hi, hy0, hy1, hy2⟩ := info_parts infoOp; refine wpList_append_own_at _ rfl (.tmp 40) (.tmp 47) 33 rfl w.heap.size 41 i0 (.agg #[.int .i64 0, .int .i64 0, .int .i64 0, .int .i64 0, .int .i64 0, .int .i64 0, .int .i64 0, .int .i64 0, .int .i64 0, .int .i64 0, .slice none 0 0, .int .i64 0, .int .i64 0]) 13 120 Try.underlying33 hi hy0 hy1 hy2 rfl (by decide) (.slice A3 os.length c3) os.length (os.flatMap opC) rfl (own_keep HOW3.out ((Keep.refl [] w3).alloc _) (by simp)) ⟨_, 0, none⟩ 1 1 [.int .i64 e.thr, .int .i64 e.op, .int .i64 e.key, .int .i64 e.val, .int .i64 e.hi, .int .i64 e.lim, .int .i64 0, .int .i64 0, .int .i64 0, .int .i64 0, .slice none 0 0, .int .i64 (n : Nat), .int .i64 (-1)] rfl rfl (World.news_of_block (heap_alloc_new _ _)) (by simp [Value.oneCell']) (by have := HFW.out; unfold maxLen; omega) (by have := HFW.out; omega) (by have := HKN.out.size; have := HK3.out.size; simp; omega) ?_; clear hi hy0 hy1 hy2; intro v4 w4 hown hg _ _; have HOW4 := Lib.hid hown; have HG := Lib.hid (Keep.of_grown hg); clear hown hg)
          have HK34 := Lib.hid ((Keep.refl [] w3).alloc (.cells #[.int .i64 e.thr, .int .i64 e.op, .int .i64 e.key, .int .i64 e.val, .int .i64 e.hi, .int .i64 e.lim, .int .i64 0, .int .i64 0, .int .i64 0, .int .i64 0, .slice none 0 0, .int .i64 (n : Nat), .int .i64 (-1)] 41))
          have HN2 : Hid (OpR w w4 x.heap.size l (n + 1) v4 (last.set t os.length)) := Lib.hid ⟨((HKN.out.trans HK3.out (fun y hy => .inr (by rw [List.mem_singleton.1 hy]; exact HK.out.size))).trans HK34.out (by simp)).trans HG.out (fun y hy => .inr (own_ge HOW3.out (by simpa using hy))), by
            have h4 := (HW3.out.keep HK34.out (by simp)).keep HG.out (fun hm => own_ne HOW.out HW.out (by decide) (by simpa using hm))
            rw [List.setIfInBounds_toArray, lastC_set] at h4
            exact h4, HK.out.size, by rw [HTK.out]; exact HLA.out, by
            rw [HTK.out, HOP.out]
            have h4 := HOW4.out
            have e1 : (os ++ [mkOp e n none]).length = os.length + 1 := by simp
            have e2 : (os ++ [mkOp e n none]).flatMap opC = os.flatMap opC ++ [.int .i64 e.thr, .int .i64 e.op, .int .i64 e.key, .int .i64 e.val, .int .i64 e.hi, .int .i64 e.lim, .int .i64 0, .int .i64 0, .int .i64 0, .int .i64 0, .slice none 0 0, .int .i64 (n : Nat), .int .i64 (-1)] := by
              rw [List.flatMap_append]
              simp [opC, mkOp]
            rw [e1, e2]
            exact h4⟩
          go_wp2_with fail
          go_roundg (l.length - (n + 1))
          case measure => omega
          case rel => exact ⟨n + 1, _, by omega, rfl, by go_num, HN2.out⟩
        | true =>
          obtain ⟨t, ht, ht6, hix, hop, hla⟩ := HR.out.last_.back_ HME.out hbk
          rw [hbk] at hev1
          rw [ht] at hev0
          have HOP := Lib.hid hop
          have HLA := Lib.hid hla
          have HT := Lib.hid ht
          have HT6 := Lib.hid ht6
          have hlc := HW.out.cell t
          rw [List.getElem?_toArray, lastC_at (by rw [HZ6.out]; exact ht6)] at hlc
          have hzt : ((t : Nat) : Int) < 6 := by omega
          have hzt0 : (0 : Int) ≤ ((t : Nat) : Int) := by omega
          clear hbk ht hop hla
          rw [HTN.out] at HOP
          obtain ⟨os, hos⟩ : ∃ os, os = opersR (l.take n) 0 := ⟨_, rfl⟩
          rw [← hos] at HOW HFW HOP hix ⊢
          have HOS := Lib.hid hos
          clear hos
          obtain ⟨ix, hixe⟩ : ∃ i, i = last.getD t 0 := ⟨_, rfl⟩
          rw [← hixe] at hlc hix HOP
          clear hixe
          have HIX := Lib.hid hix
          obtain ⟨g, c, hv, _, hglt⟩ := World.ownsRow.form HOW.out (by omega)
          injection hv with e1 e2 e3
          subst e1 e3
          clear e2
          obtain ⟨b', o', he, _, f0, f1, f2, f3, f4, f5, f6, f7, f8, f9, f10, f11, f12⟩ := (ElAt.of_own (f := opC) HOW.out rfl).at_op hix
          cases he
          simp only [Nat.zero_add] at f6 f7 f8 f9 f10 f12
          have k6 := HOW.out.frozenAt (ix * 13 + 6)
          have k7 := HOW.out.frozenAt (ix * 13 + 7)
          have k8 := HOW.out.frozenAt (ix * 13 + 8)
          have k9 := HOW.out.frozenAt (ix * 13 + 9)
          have k10 := HOW.out.frozenAt (ix * 13 + 10)
          have k12 := HOW.out.frozenAt (ix * 13 + 12)
          have hzi : ((ix : Nat) : Int) < ((os.length : Nat) : Int) := by omega
          have hzi0 : (0 : Int) ≤ ((ix : Nat) : Int) := by omega
          have hev7 := HBE.out.cell 7
          have hev8 := HBE.out.cell 8
          have hev9 := HBE.out.cell 9
          have hev10 := HBE.out.cell 10
          have hev11 := HBE.out.cell 11
          clear f0 f1 f2 f3 f4 f5 f11 hix
          go_upto_region 13 with fail
          have HO6 := Lib.hid ((((((HOW.out.stored (ix * 13 + 6) (.int .i64 e.kind)).1.stored (ix * 13 + 6 + 1) (.int .i64 e.akey)).1.stored (ix * 13 + 6 + 2) (.int .i64 e.aval)).1.stored (ix * 13 + 6 + 3) (.int .i64 e.an)).1.stored (ix * 13 + 6 + 4) (.slice e.pA e.pn e.pc)).1.stored (ix * 13 + 12) (.int .i64 (n : Nat))).1
          have HK6 := Lib.hid (((((((Keep.refl [g] w2).set_ (p := ⟨g, ix * 13 + 6, none⟩) (.int .i64 e.kind) (.inl (by simp))).set_ (p := ⟨g, ix * 13 + 6 + 1, none⟩) (.int .i64 e.akey) (.inl (by simp))).set_ (p := ⟨g, ix * 13 + 6 + 2, none⟩) (.int .i64 e.aval) (.inl (by simp))).set_ (p := ⟨g, ix * 13 + 6 + 3, none⟩) (.int .i64 e.an) (.inl (by simp))).set_ (p := ⟨g, ix * 13 + 6 + 4, none⟩) (.slice e.pA e.pn e.pc) (.inl (by simp))).set_ (p := ⟨g, ix * 13 + 12, none⟩) (.int .i64 (n : Nat)) (.inl (by simp)))
          generalize (((((w2.setCell ⟨g, ix * 13 + 6, none⟩ (.int .i64 e.kind)).setCell ⟨g, ix * 13 + 6 + 1, none⟩ (.int .i64 e.akey)).setCell ⟨g, ix * 13 + 6 + 2, none⟩ (.int .i64 e.aval)).setCell ⟨g, ix * 13 + 6 + 3, none⟩ (.int .i64 e.an)).setCell ⟨g, ix * 13 + 6 + 4, none⟩ (.slice e.pA e.pn e.pc)).setCell ⟨g, ix * 13 + 12, none⟩ (.int .i64 (n : Nat)) = w4 at HO6 HK6 ⊢
          have HN2 : Hid (OpR w w4 x.heap.size l (n + 1) (.slice (some ⟨g, 0, none⟩) os.length c3) last) := Lib.hid ⟨HKN.out.trans HK6.out (fun y hy => .inr (by rw [List.mem_singleton.1 hy]; exact own_ge HOW.out rfl)), HW.out.keep HK6.out (fun hm => own_ne HOW.out HW.out (by decide) (by rw [List.mem_singleton.1 hm]; rfl)), HK.out.size, by rw [HTK.out]; exact HLA.out, by
            rw [HTK.out, HOP.out, close_flat e n os ix HIX.out]
            have h4 := HO6.out
            have e1 : (os.set ix (closeE e n (os.getD ix op0))).length = os.length := by simp
            rw [e1]
            exact h4⟩
          clear f6 f7 f8 f9 f10 f12 k6 k7 k8 k9 k10 k12 hlc hev0 hev1 hev7 hev8 hev9 hev10 hev11
          go_wp2_with fail
          go_roundg (l.length - (n + 1))
          case measure => omega
          case rel => exact ⟨n + 1, _, by omega, rfl, by go_num, HN2.out⟩
      · have hne : n = l.length := by omega
        have hz : ¬ ((n : Nat) : Int) < ((l.length : Nat) : Int) := by omega
        have HTA : Hid (l.take n = l) := Lib.hid (by rw [hne]; exact List.take_of_length_le (Nat.le_refl _))
        clear hne
        go_wp2_with fail
        go_ret
        exact ⟨HR.out.hk, opersR (l.take n) 0, _, rfl, ⟨fun _ => by rw [HTA.out], fun h => absurd HM.out h⟩, HR.out.own⟩
end Go.Proofs.Ytofmonknhiggaaa
