/- The reference's Of by its contract. Conditions: at most 200 events, with at most 1500 pairs each. -/
import Derived.Test.YtofmonknhiggaaaSt8
namespace Go.Proofs.Ytofmonknhiggaaa
open Go.RowKit

def addAq (xs : List Int) (o : OpS) (q : Nat) : List Int := if 0 ≤ o.op ∧ o.op < (q : Int) then (if o.to < 0 then bump (bump xs o.op.toNat) (15 + o.op.toNat) else bump xs o.op.toNat) else xs
def addBq (xs : List Int) (o : OpS) (q : Nat) : List Int := if 0 ≤ o.kind ∧ o.kind < (q : Int) then bump xs (30 + o.kind.toNat) else xs
theorem addAq_0 (xs : List Int) (o : OpS) : addAq xs o 0 = xs := by
  unfold addAq
  rw [if_neg (by omega)]
theorem addAq_15 (xs : List Int) (o : OpS) : addAq xs o 15 = addA xs o := rfl
theorem addAq_eq {xs : List Int} {o : OpS} {q : Nat} (h : o.op = (q : Int)) : addAq xs o q = xs ∧ addAq xs o (q + 1) = if o.to < 0 then bump (bump xs q) (15 + q) else bump xs q := by
  unfold addAq
  rw [if_neg (by omega), if_pos (by omega), h]
  exact ⟨rfl, rfl⟩
theorem addAq_ne {xs : List Int} {o : OpS} {q : Nat} (h : o.op ≠ (q : Int)) : addAq xs o (q + 1) = addAq xs o q := by
  unfold addAq
  by_cases h2 : 0 ≤ o.op ∧ o.op < (q : Int)
  · rw [if_pos h2, if_pos (by omega)]
  · rw [if_neg h2, if_neg (by omega)]
theorem addBq_0 (xs : List Int) (o : OpS) : addBq xs o 0 = xs := by
  unfold addBq
  rw [if_neg (by omega)]
theorem addBq_9 (xs : List Int) (o : OpS) : addBq xs o 9 = addB xs o := rfl
theorem addBq_eq {xs : List Int} {o : OpS} {q : Nat} (h : o.kind = (q : Int)) : addBq xs o q = xs ∧ addBq xs o (q + 1) = bump xs (30 + q) := by
  unfold addBq
  rw [if_neg (by omega), if_pos (by omega), h]
  exact ⟨rfl, rfl⟩
theorem addBq_ne {xs : List Int} {o : OpS} {q : Nat} (h : o.kind ≠ (q : Int)) : addBq xs o (q + 1) = addBq xs o q := by
  unfold addBq
  by_cases h2 : 0 ≤ o.kind ∧ o.kind < (q : Int)
  · rw [if_pos h2, if_pos (by omega)]
  · rw [if_neg h2, if_neg (by omega)]
theorem Low.addA_ {b : Int} {xs : List Int} (h : Low b xs) (o : OpS) : Low (b + 2) (addA xs o) := by
  unfold addA
  split
  · split
    · exact (h.bump_ (Int.le_refl _) _).bump_ (by omega) _
    · exact h.bump_ (by omega) _
  · exact h.more (by omega)
theorem Low.addB_ {b : Int} {xs : List Int} (h : Low b xs) (o : OpS) : Low (b + 1) (addB xs o) := by
  unfold addB
  split
  · exact h.bump_ (Int.le_refl _) _
  · exact h.more (by omega)
/-- So many of the others overlap. -/
def overTo (os : List OpS) (i k : Nat) : Bool := (List.range k).any fun j => condP os i j
theorem overTo_succ (os : List OpS) (i k : Nat) : overTo os i (k + 1) = (overTo os i k || condP os i k) := by
  unfold overTo
  rw [List.range_succ, List.any_append]
  simp
theorem overTo_all (os : List OpS) (i : Nat) : overTo os i os.length = overP os i := rfl
theorem count_snoc {os : List OpS} {k j : Nat} (h : k < os.length) : (os.take (k + 1)).countP (inAt j) = (os.take k).countP (inAt j) + (if inAt j (os.getD k op0) = true then 1 else 0) := by
  rw [List.take_succ_eq_append_getElem h, List.countP_append, List.getD_eq_getElem?_getD, List.getElem?_eq_getElem h]
  simp [List.countP_cons]
theorem sizeS38 : (Try.prog.info? 28).map (·.size) = some 42 := by kernel_rfl
/-- What the reference's Of tells. -/
def ofR (l : List EvS) (os : List OpS) : List Int := (sumTo os os.length).set 41 (mostR os l.length)
def RefOfOut (w : World) (l : List EvS) (r : Ending) (w' : World) : Prop := ∃ os, opsOut l os ∧ r = .returned (.agg (sumC (ofR l os)).toArray) ∧ Keep [] w w'
theorem mostR_le (os : List OpS) : ∀ n : Nat, 0 ≤ mostR os n ∧ mostR os n ≤ (os.length : Int)
  | 0 => by simp [mostR]
  | n + 1 => by
    have ih := mostR_le os n
    have h2 : os.countP (inAt n) ≤ os.length := List.countP_le_length
    unfold mostR
    split <;> omega
/-- The two opers that are held against each other. -/
structure OwS (t : TypeId) (w0 w : World) (rb sb : Nat) (v : Value) (os : List OpS) (xs : List Int) (b o i k : Nat) (x y : OpS) : Prop where
  rx : w.rangeAt b (o + i * 13) (opC x)
  ry : w.rangeAt b (o + k * 13) (opC y)
  el : b < w.heap.size
  hr : OfR t w0 w rb sb v os xs
theorem OwS.keep {t : TypeId} {w0 w w' : World} {rb sb : Nat} {v : Value} {os : List OpS} {xs : List Int} {b o i k : Nat} {x y : OpS} (h : OwS t w0 w rb sb v os xs b o i k x y) (hk : Keep [] w w') : OwS t w0 w' rb sb v os xs b o i k x y :=
  ⟨rangeAt_keep h.rx h.el (by simp) hk, rangeAt_keep h.ry h.el (by simp) hk, Nat.lt_of_lt_of_le h.el hk.size, h.hr.keep0 hk⟩
set_option maxRecDepth 100000 in
set_option maxHeartbeats 8000000 in
theorem ref38_of (w : World) (A : Option Addr) (l : List EvS) (cap : Nat) (h : ElAt evC w A l) (hl : l.length ≤ 200) (hp : ∀ e ∈ l, e.pn ≤ 1500) : Calls Try.prog 8 #[.slice A l.length cap] w (RefOfOut w l) := by
  have HE := Lib.hid h
  have HL := Lib.hid hl
  have HP := Lib.hid hp
  clear h hl hp
  go_enter Try.func8, Try.ntmps8
  go_upto_region 2 with fail
  generalize hw2 : (w.alloc _).alloc _ = w2
  have HB0 : Hid (Blk w2 w.heap.size 28 (sumC zeroS).toArray) := Lib.hid (by rw [← hw2]; exact ((Blk.new w 28 (sumC zeroS).toArray).alloc (.cells (sumC zeroS).toArray 28)))
  have HB1 : Hid (Blk w2 (w.heap.size + 1) 28 (sumC zeroS).toArray) := Lib.hid (by
    have := Blk.new (w.alloc (.cells (sumC zeroS).toArray 28)) 28 (sumC zeroS).toArray
    rw [World.size_alloc] at this
    rw [← hw2]
    exact this)
  have HK2 : Hid (Keep [] w w2) := Lib.hid (by rw [← hw2]; exact (((Keep.refl [] w).alloc (.cells (sumC zeroS).toArray 28)).alloc (.cells (sumC zeroS).toArray 28)))
  have HSB : Hid (w.heap.size ≤ w.heap.size + 1 ∧ w.heap.size ≠ w.heap.size + 1) := Lib.hid (by omega)
  clear hw2
  obtain ⟨rb, hrb⟩ : ∃ b, b = w.heap.size := ⟨_, rfl⟩
  rw [← hrb] at HB0 HB1 HSB ⊢
  have HRB := Lib.hid hrb
  clear hrb
  generalize rb + 1 = sb at HB1 HSB ⊢
  have KO := Lib.hid (ref11_opers w2 A l cap (HE.out.keep HK2.out) HL.out)
  go_wp2_with fail
  refine KO.out.mono ?_
  clear KO
  rintro r x ⟨hk, os, v, rfl, hos, hown⟩
  have HOR := Lib.hid (show OfR 28 w x rb sb v os (sumTo os 0) from ⟨HK2.out.trans hk (by simp), ⟨HB1.out.keep hk (by simp), rfl⟩, ⟨HB0.out.keep hk (by simp), rfl⟩, by decide, own_more hown HK2.out.size, HSB.out.2, by rw [HRB.out]; exact Nat.le_refl _, by rw [← HRB.out]; exact HSB.out.1⟩)
  have HOS := Lib.hid hos
  have HPO : Hid (∀ o ∈ os, o.pn ≤ 1500) := Lib.hid (by
    by_cases hm : MayP l l.length
    · rw [hos.1 hm]
      exact opersR_pn l 0 HP.out
    · rw [hos.2 hm]
      intro o ho
      cases ho)
  have HOL : Hid (os.length ≤ 200) := Lib.hid (by
    by_cases hm : MayP l l.length
    · rw [hos.1 hm]
      have := opersR_few l 0
      have := HL.out
      omega
    · rw [hos.2 hm]
      simp)
  obtain ⟨A3, c3, rfl⟩ := own_form hown
  clear hk hos hown HB0 HB1 HK2 HSB HRB
  go_wp2_with fail
  go_loopg [5, 6, 7, 8, 9] os.length (fun g v5 v6 v7 v8 v9 wr => ∃ n : Nat, n ≤ os.length ∧ g = os.length - n ∧ v5 = .int .i64 (n : Nat) ∧ OfR 28 w wr rb sb (.slice A3 os.length c3) os (sumTo os n))
  case atStart => exact ⟨0, Nat.zero_le _, rfl, rfl, HOR.out⟩
  case round =>
    obtain ⟨n, hn, rfl, rfl, hr⟩ := hrel
    have HR := Lib.hid hr
    clear hr HOR
    have hz0 : (0 : Int) ≤ ((n : Nat) : Int) := by omega
    have hz9 : ((n : Nat) : Int) ≤ 200 := by have := HOL.out; omega
    by_cases hlt : n < os.length
    · have hz : ((n : Nat) : Int) < ((os.length : Nat) : Int) := by omega
      have HLT := Lib.hid hlt
      have HSN : Hid (sumTo os (n + 1) = if overP os n = true then bump (addS (sumTo os n) (os.getD n op0)) 39 else addS (sumTo os n) (os.getD n op0)) := Lib.hid rfl
      have HLO : Hid (Low 300800 (sumTo os n)) := Lib.hid ((Low.sum (getD_pn HPO.out) n).more (by omega))
      have HPY := Lib.hid (getD_pn HPO.out n)
      have HYE : Hid (os.getD n op0 = os.getD n op0) := Lib.hid rfl
      obtain ⟨y, hy⟩ : ∃ y, y = os.getD n op0 := ⟨_, rfl⟩
      have HY := Lib.hid hy
      rw [← hy] at HSN HPY
      clear hlt hy HYE
      have HAS := Lib.hid (addS_parts (sumTo os n) y)
      generalize sumTo os n = xs at *
      go_wp2_with fail
      go_loopg [6] 15 (fun g v6 wr => ∃ q : Nat, q ≤ 15 ∧ g = 15 - q ∧ v6 = .int .i64 (q : Nat) ∧ OfR 28 w wr rb sb (.slice A3 os.length c3) os (addAq xs y q))
      case atStart => exact ⟨0, by omega, rfl, rfl, by rw [addAq_0]; exact HR.out⟩
      case round =>
        obtain ⟨q, hq, rfl, rfl, hr⟩ := hrel
        have HR1 := Lib.hid hr
        clear hr HR
        have hq0 : (0 : Int) ≤ ((q : Nat) : Int) := by omega
        by_cases hlq : q < 15
        · have hq15 : ((q : Nat) : Int) < 15 := by omega
          have HLQ := Lib.hid hlq
          obtain ⟨b, o, hA, _, c0, c1, c2, c3', c4, c5, c6, c7, c8, c9, c10, c11, c12⟩ := (ElAt.of_own (f := opC) HR1.out.own rfl).at_op HLT.out
          subst hA
          rw [← HY.out] at c1 c12
          clear hlq c0 c2 c3' c4 c5 c6 c7 c8 c9 c10 c11
          by_cases hop : y.op = (q : Int)
          · obtain ⟨e1, e2⟩ := addAq_eq (xs := xs) hop
            rw [e1] at HR1
            have HE2 := Lib.hid e2
            have hqb : (y.op == (q : Int)) = true := by rw [beq_iff_eq]; exact hop
            clear e1 e2 hop
            have g1 := HR1.out.s.cell (k := q) (by have := HLQ.out; omega)
            have g2 := HR1.out.s.b.frozen q
            have hlo := HLO.out q
            have HR2 := Lib.hid (HR1.out.put q (xs.getD q 0 + 1))
            generalize hv : xs.getD q 0 = u at g1 hlo HR2
            have HV := Lib.hid hv
            clear hv
            obtain ⟨hlo1, hlo2⟩ := hlo
            by_cases hto : y.to < 0
            · go_upto_region 11 with fail
              have HR2 : Hid (OfR 28 w (wr.setCell ⟨sb, q, none⟩ (.int .i64 (u + 1))) rb sb (.slice (some ⟨b, o, none⟩) os.length c3) os (bump xs q)) := Lib.hid (by unfold bump; rw [HV.out]; exact HR2.out)
              generalize wr.setCell ⟨sb, q, none⟩ (.int .i64 (u + 1)) = w3 at HR2 ⊢
              clear c1 c12 g1 g2 hlo1 hlo2
              obtain ⟨b', o', hA, _, _, _, _, _, _, _, _, _, _, _, _, _, c12⟩ := (ElAt.of_own (f := opC) HR2.out.own rfl).at_op HLT.out
              cases hA
              rw [← HY.out] at c12
              have g1 := HR2.out.s.cell (k := 15 + q) (by have := HLQ.out; omega)
              have g2 := HR2.out.s.b.frozen (15 + q)
              have hlo := (HLO.out.bump_ (Int.le_refl _) q) (15 + q)
              have HR3 := Lib.hid (HR2.out.put (15 + q) ((bump xs q).getD (15 + q) 0 + 1))
              have HE3 : Hid (addAq xs y (q + 1) = (bump xs q).set (15 + q) ((bump xs q).getD (15 + q) 0 + 1)) := Lib.hid (by rw [HE2.out, if_pos hto]; rfl)
              generalize hv : (bump xs q).getD (15 + q) 0 = u2 at g1 hlo HR3 HE3
              clear hv
              obtain ⟨hlo1, hlo2⟩ := hlo
              go_wp2_with fail
              go_roundg (15 - (q + 1))
              case measure => omega
              case rel => exact ⟨q + 1, by omega, rfl, by go_num, by rw [HE3.out]; exact HR3.out⟩
            · have HE3 : Hid (addAq xs y (q + 1) = xs.set q (u + 1)) := Lib.hid (by rw [HE2.out, if_neg hto, ← HV.out]; rfl)
              go_upto_region 11 with fail
              generalize wr.setCell ⟨sb, q, none⟩ (.int .i64 (u + 1)) = w3 at HR2 ⊢
              clear c1 c12 g1 g2 hlo1 hlo2
              obtain ⟨b', o', hA, _, _, _, _, _, _, _, _, _, _, _, _, _, c12⟩ := (ElAt.of_own (f := opC) HR2.out.own rfl).at_op HLT.out
              cases hA
              rw [← HY.out] at c12
              go_wp2_with fail
              go_roundg (15 - (q + 1))
              case measure => omega
              case rel => exact ⟨q + 1, by omega, rfl, by go_num, by rw [HE3.out]; exact HR2.out⟩
          · have HE2 := Lib.hid (addAq_ne (xs := xs) hop)
            have hqb : (y.op == (q : Int)) = false := by rw [beq_eq_false_iff_ne]; exact hop
            clear hop
            go_wp2_with fail
            go_roundg (15 - (q + 1))
            case measure => omega
            case rel => exact ⟨q + 1, by omega, rfl, by go_num, by rw [HE2.out]; exact HR1.out⟩
        · have hqe : q = 15 := by omega
          have hq15 : ¬ ((q : Nat) : Int) < 15 := by omega
          have HRA : Hid (OfR 28 w wr rb sb (.slice A3 os.length c3) os (addA xs y)) := Lib.hid (by have := HR1.out; rw [hqe, addAq_15] at this; exact this)
          have HLA := Lib.hid (HLO.out.addA_ y)
          clear HR1 hqe hlq
          generalize addA xs y = xa at *
          go_wp2_with fail
          have HLO2 : Hid (Low 302303 (addS xs y)) := Lib.hid ((HLO.out.add_ y HPY.out).more (by omega))
          go_loopg [7] 9 (fun g v7 wr => ∃ q : Nat, q ≤ 9 ∧ g = 9 - q ∧ v7 = .int .i64 (q : Nat) ∧ OfR 28 w wr rb sb (.slice A3 os.length c3) os (if y.to < 0 then xa else addBq xa y q))
          case atStart => exact ⟨0, by omega, rfl, rfl, by rw [addBq_0, ite_self]; exact HRA.out⟩
          case round =>
            obtain ⟨q, hq, rfl, rfl, hr⟩ := hrel
            have HR1 := Lib.hid hr
            clear hr HRA
            have hq0 : (0 : Int) ≤ ((q : Nat) : Int) := by omega
            obtain ⟨b, o, hA, _, c0, c1, c2, c3', c4, c5, c6, c7, c8, c9, c10, c11, c12⟩ := (ElAt.of_own (f := opC) HR1.out.own rfl).at_op HLT.out
            subst hA
            rw [← HY.out] at c6 c10 c12
            clear c0 c1 c2 c3' c4 c5 c7 c8 c9 c11
            by_cases hgo : q < 9 ∧ ¬ y.to < 0
            · obtain ⟨hlq, hto⟩ := hgo
              have HLQ := Lib.hid hlq
              have hq9 : ((q : Nat) : Int) < 9 := by omega
              rw [if_neg hto] at HR1
              have HE3 : Hid ((if y.to < 0 then xa else addBq xa y (q + 1)) = addBq xa y (q + 1)) := Lib.hid (if_neg hto)
              clear hlq
              by_cases hop : y.kind = (q : Int)
              · obtain ⟨e1, e2⟩ := addBq_eq (xs := xa) hop
                rw [e1] at HR1
                have HE2 : Hid (addBq xa y (q + 1) = xa.set (30 + q) (xa.getD (30 + q) 0 + 1)) := Lib.hid e2
                have hqb : (y.kind == (q : Int)) = true := by rw [beq_iff_eq]; exact hop
                clear e1 e2 hop
                have g1 := HR1.out.s.cell (k := 30 + q) (by have := HLQ.out; omega)
                have g2 := HR1.out.s.b.frozen (30 + q)
                have hlo := HLA.out (30 + q)
                have HR2 := Lib.hid (HR1.out.put (30 + q) (xa.getD (30 + q) 0 + 1))
                generalize hv : xa.getD (30 + q) 0 = u at g1 hlo HR2 HE2
                clear hv
                obtain ⟨hlo1, hlo2⟩ := hlo
                go_wp2_with fail
                go_roundg (9 - (q + 1))
                case measure => omega
                case rel => exact ⟨q + 1, by omega, rfl, by go_num, by rw [HE3.out, HE2.out]; exact HR2.out⟩
              · have HE2 := Lib.hid (addBq_ne (xs := xa) hop)
                have hqb : (y.kind == (q : Int)) = false := by rw [beq_eq_false_iff_ne]; exact hop
                clear hop
                go_wp2_with fail
                go_roundg (9 - (q + 1))
                case measure => omega
                case rel => exact ⟨q + 1, by omega, rfl, by go_num, by rw [HE3.out, HE2.out]; exact HR1.out⟩
            · have HRB : Hid (OfR 28 w wr rb sb (.slice (some ⟨b, o, none⟩) os.length c3) os (if y.to < 0 then xa else addB xa y)) := Lib.hid (by
                have h1 := HR1.out
                by_cases hto : y.to < 0
                · rw [if_pos hto] at h1 ⊢
                  exact h1
                · rw [if_neg hto] at h1 ⊢
                  obtain rfl : q = 9 := by omega
                  exact h1)
              have HLB : Hid (Low 300803 (if y.to < 0 then xa else addB xa y)) := Lib.hid (by
                split
                · exact HLA.out.more (by omega)
                · exact (HLA.out.addB_ y).more (by omega))
              have HGO := Lib.hid hgo
              clear hgo HR1
              go_upto_region 14 with fail
              go_cut [62] (fun s62 wx => s62 = .bool false ∧ wr = wx)
              case first =>
                by_cases hq9 : ((q : Nat) : Int) < 9
                · have hto : y.to < 0 := by
                    by_cases h : y.to < 0
                    · exact h
                    · exact absurd ⟨by omega, h⟩ HGO.out
                  have HD0 : Hid (decide (0 ≤ y.to) = false) := Lib.hid (decide_eq_false (by omega))
                  go_wp2_with fail
                  go_meet
                  exact ⟨by rw [HD0.out], rfl⟩
                · go_wp2_with fail
                  go_meet
                  exact ⟨rfl, rfl⟩
              case rest =>
                obtain ⟨rfl, rfl⟩ := hcut
                have HAS2 : Hid (addS xs y = if 0 ≤ y.to ∧ y.kind = 3 then (if y.to < 0 then xa else addB xa y).set 40 ((if y.to < 0 then xa else addB xa y).getD 40 0 + (y.pn : Int)) else (if y.to < 0 then xa else addB xa y)) := Lib.hid (by
                  rw [HAS.out]
                  by_cases hto : y.to < 0
                  · rw [if_pos hto, if_neg (by omega), if_pos hto]
                  · rw [if_neg hto, if_neg hto]
                    by_cases hk : y.kind = 3
                    · rw [if_pos hk, if_pos ⟨by omega, hk⟩]
                    · rw [if_neg hk, if_neg (fun h => hk h.2)])
                clear HAS HLA HGO
                generalize (if y.to < 0 then xa else addB xa y) = xb at *
                go_upto_region 18 with fail
                obtain ⟨c94, hc94⟩ : ∃ c, (decide (0 ≤ y.to) && (y.kind == 3)) = c := ⟨_, rfl⟩
                have HC94 := Lib.hid hc94
                clear hc94
                go_cut [94] (fun s94 wx => s94 = .bool c94 ∧ wr = wx)
                case first =>
                  by_cases hto : 0 ≤ y.to
                  · cases hk3 : (y.kind == 3) with
                    | true =>
                      obtain rfl : c94 = true := by rw [← HC94.out, decide_eq_true hto, hk3]; rfl
                      clear HC94
                      go_wp2_with fail
                      go_meet
                      exact ⟨rfl, rfl⟩
                    | false =>
                      obtain rfl : c94 = false := by rw [← HC94.out, hk3, Bool.and_false]
                      clear HC94
                      go_wp2_with fail
                      go_meet
                      exact ⟨rfl, rfl⟩
                  · obtain rfl : c94 = false := by rw [← HC94.out, decide_eq_false hto, Bool.false_and]
                    have hd0 : decide (0 ≤ y.to) = false := decide_eq_false hto
                    have HD0 := Lib.hid hd0
                    clear HC94 hd0
                    go_wp2_with fail
                    go_meet
                    exact ⟨rfl, rfl⟩
                case rest =>
                  obtain ⟨rfl, rfl⟩ := hcut
                  go_upto_if 94 with fail
                  go_cut [] (fun wx => OfR 28 w wx rb sb (.slice (some ⟨b, o, none⟩) os.length c3) os (addS xs y))
                  case first =>
                    cases c94 with
                    | true =>
                      have h94 := HC94.out
                      rw [Bool.and_eq_true, decide_eq_true_eq, beq_iff_eq] at h94
                      have HE3 : Hid (addS xs y = xb.set 40 (xb.getD 40 0 + (y.pn : Int))) := Lib.hid (by rw [HAS2.out, if_pos h94])
                      clear h94
                      have g1 := HRB.out.s.cell (k := 40) (by omega)
                      have g2 := HRB.out.s.b.frozen 40
                      have hlo := HLB.out 40
                      have HR2 := Lib.hid (HRB.out.put 40 (xb.getD 40 0 + (y.pn : Int))).drew
                      have HR2 : Hid (OfR 28 w (wr.setCell ⟨sb, 40, none⟩ (.int .i64 (xb.getD 40 0 + (y.pn : Int)))).drew rb sb (.slice (some ⟨b, o, none⟩) os.length c3) os (xb.set 40 (xb.getD 40 0 + (y.pn : Int)))) := Lib.hid (HRB.out.put 40 (xb.getD 40 0 + (y.pn : Int))).drew
                      have hpn0 : ((y.pn : Nat) : Int) ≤ 1500 := by have := HPY.out; omega
                      generalize hv : xb.getD 40 0 = u at g1 hlo HR2 HE3
                      clear hv
                      obtain ⟨hlo1, hlo2⟩ := hlo
                      go_upto_region 19 with fail
                      go_region
                      go_wp2_with fail
                      go_meet
                      rw [HE3.out]
                      exact HR2.out
                    | false =>
                      have HE3 : Hid (addS xs y = xb) := Lib.hid (by
                        rw [HAS2.out, if_neg]
                        intro h94
                        have := HC94.out
                        rw [decide_eq_true h94.1, Bool.true_and, beq_eq_false_iff_ne] at this
                        exact this h94.2)
                      go_wp2_with fail
                      go_meet
                      rw [HE3.out]
                      exact HRB.out
                  case rest =>
                    have HR5 := Lib.hid hcut
                    clear hcut HRB HC94 HLB HAS2 c6 c10 c12
                    go_wp2_with fail
                    generalize hzs : addS xs y = zs at *
                    clear hzs
                    go_loopg [8, 9] os.length (fun g v8 v9 wr => ∃ k : Nat, k ≤ os.length ∧ g = os.length - k ∧ v9 = .int .i64 (k : Nat) ∧ v8 = .bool (overTo os n k) ∧ OfR 28 w wr rb sb (.slice (some ⟨b, o, none⟩) os.length c3) os zs)
                    case atStart => exact ⟨0, Nat.zero_le _, rfl, rfl, rfl, HR5.out⟩
                    case round =>
                      obtain ⟨k, hk, rfl, rfl, rfl, hr⟩ := hrel
                      have HR6 := Lib.hid hr
                      clear hr HR5
                      have hk0 : (0 : Int) ≤ ((k : Nat) : Int) := by omega
                      have hk9 : ((k : Nat) : Int) ≤ 200 := by have := HOL.out; omega
                      by_cases hlk : k < os.length
                      · have hzk : ((k : Nat) : Int) < ((os.length : Nat) : Int) := by omega
                        have HOV : Hid (OwS 28 w wr rb sb (.slice (some ⟨b, o, none⟩) os.length c3) os zs b o n k y (os.getD k op0)) := Lib.hid (by
                          obtain ⟨b1, o1, h1, h2, h3⟩ := (ElAt.of_own (f := opC) HR6.out.own rfl).range 13 (fun _ => rfl) op0 HLT.out
                          obtain ⟨b2, o2, h4, _, h5⟩ := (ElAt.of_own (f := opC) HR6.out.own rfl).range 13 (fun _ => rfl) op0 hlk
                          cases h1
                          cases h4
                          rw [← HY.out] at h3
                          exact ⟨h3, h5, h2, HR6.out⟩)
                        have HOT := Lib.hid (overTo_succ os n k)
                        have HCP : Hid (condP os n k = (decide (k ≠ n) && (!aheadP y (os.getD k op0) && !aheadP (os.getD k op0) y))) := Lib.hid (by unfold condP; rw [← HY.out])
                        generalize os.getD k op0 = z at *
                        clear hlk
                        generalize overTo os n k = ov at *
                        go_upto_region 24 with fail
                        cases ov with
                        | true =>
                          have HON : Hid (overTo os n (k + 1) = true) := Lib.hid (by rw [HOT.out]; rfl)
                          refine wp_region_held_drew (S := (fun w' => OwS 28 w w' rb sb (.slice (some ⟨b, o, none⟩) os.length c3) os zs b o n k y z)) (by kernel_rfl) (HOV.out.keep (Keep.refl [] wr).drew) (fun hHeld => ?_)
                          refine wpAnyH_take (i := 0) (oi := { dst := some 112, op := Go.Op.move (Go.Operand.tmp 8), type := 4, pos := "ref.go:40", after := #[], guard := none }) (v := ?_) rfl (by kernel_rfl) (by kernel_rfl) (by kernel_rfl) (fun _ _ _ h => h) (Or.inl ⟨by rfl, ?_⟩) (by assumption) ?_
                          rotate_left
                          · intro w hSw
                            (try dsimp only at hSw)
                            go_simp
                            all_goals with_reducible rfl
                          try simp only [Act.put, List.setIfInBounds_toArray, List.set_cons_zero, List.set_cons_succ]
                          refine wpAnyH_take (i := 1) (oi := { dst := some 113, op := Go.Op.move (Go.Operand.tmp 112), type := 4, pos := "ref.go:40", after := #[{ on := 0, ground := Go.Ground.data }], guard := none }) (v := ?_) rfl (by kernel_rfl) (by kernel_rfl) (by kernel_rfl) (fun _ _ _ h => h) (Or.inl ⟨by rfl, ?_⟩) (by assumption) ?_
                          rotate_left
                          · intro w hSw
                            (try dsimp only at hSw)
                            go_simp
                            all_goals with_reducible rfl
                          try simp only [Act.put, List.setIfInBounds_toArray, List.set_cons_zero, List.set_cons_succ]
                          refine wpAnyH_take (i := 2) (oi := { dst := some 114, op := Go.Op.move (Go.Operand.tmp 9), type := 3, pos := "ref.go:40", after := #[{ on := 1, ground := Go.Ground.guard }], guard := some (1, false) }) (v := _) rfl (by kernel_rfl) (by kernel_rfl) (by kernel_rfl) (fun _ _ _ h => h) (Or.inr ⟨by rfl, rfl⟩) (by assumption) ?_
                          try simp only [Act.put, List.setIfInBounds_toArray, List.set_cons_zero, List.set_cons_succ]
                          refine wpAnyH_take (i := 3) (oi := { dst := some 115, op := Go.Op.move (Go.Operand.tmp 5), type := 3, pos := "ref.go:40", after := #[{ on := 1, ground := Go.Ground.guard }], guard := some (1, false) }) (v := _) rfl (by kernel_rfl) (by kernel_rfl) (by kernel_rfl) (fun _ _ _ h => h) (Or.inr ⟨by rfl, rfl⟩) (by assumption) ?_
                          try simp only [Act.put, List.setIfInBounds_toArray, List.set_cons_zero, List.set_cons_succ]
                          refine wpAnyH_take (i := 4) (oi := { dst := some 116, op := Go.Op.binOp Go.BinOp.neq 3 (Go.Operand.tmp 114) (Go.Operand.tmp 115) 3, type := 4, pos := "ref.go:40", after := #[{ on := 2, ground := Go.Ground.data }, { on := 3, ground := Go.Ground.data }, { on := 1, ground := Go.Ground.guard }], guard := some (1, false) }) (v := _) rfl (by kernel_rfl) (by kernel_rfl) (by kernel_rfl) (fun _ _ _ h => h) (Or.inr ⟨by rfl, rfl⟩) (by assumption) ?_
                          try simp only [Act.put, List.setIfInBounds_toArray, List.set_cons_zero, List.set_cons_succ]
                          refine wpAnyH_take (i := 5) (oi := { dst := some 117, op := Go.Op.move (Go.Operand.tmp 116), type := 4, pos := "ref.go:40", after := #[{ on := 4, ground := Go.Ground.data }, { on := 1, ground := Go.Ground.chain }, { on := 1, ground := Go.Ground.guard }], guard := some (1, false) }) (v := _) rfl (by kernel_rfl) (by kernel_rfl) (by kernel_rfl) (fun _ _ _ h => h) (Or.inr ⟨by rfl, rfl⟩) (by assumption) ?_
                          try simp only [Act.put, List.setIfInBounds_toArray, List.set_cons_zero, List.set_cons_succ]
                          refine wpAnyH_take (i := 6) (oi := { dst := some 118, op := Go.Op.move (Go.Operand.tmp 4), type := 33, pos := "ref.go:40", after := #[{ on := 5, ground := Go.Ground.guard }], guard := some (5, true) }) (v := _) rfl (by kernel_rfl) (by kernel_rfl) (by kernel_rfl) (fun _ _ _ h => h) (Or.inr ⟨by rfl, rfl⟩) (by assumption) ?_
                          try simp only [Act.put, List.setIfInBounds_toArray, List.set_cons_zero, List.set_cons_succ]
                          refine wpAnyH_take (i := 7) (oi := { dst := some 119, op := Go.Op.move (Go.Operand.tmp 5), type := 3, pos := "ref.go:40", after := #[{ on := 5, ground := Go.Ground.guard }], guard := some (5, true) }) (v := _) rfl (by kernel_rfl) (by kernel_rfl) (by kernel_rfl) (fun _ _ _ h => h) (Or.inr ⟨by rfl, rfl⟩) (by assumption) ?_
                          try simp only [Act.put, List.setIfInBounds_toArray, List.set_cons_zero, List.set_cons_succ]
                          refine wpAnyH_take (i := 8) (oi := { dst := some 120, op := Go.Op.indexAddr 33 (Go.Operand.tmp 118) (Go.Operand.tmp 119), type := 0, pos := "ref.go:40", after := #[{ on := 6, ground := Go.Ground.data }, { on := 7, ground := Go.Ground.data }, { on := 5, ground := Go.Ground.guard }], guard := some (5, true) }) (v := _) rfl (by kernel_rfl) (by kernel_rfl) (by kernel_rfl) (fun _ _ _ h => h) (Or.inr ⟨by rfl, rfl⟩) (by assumption) ?_
                          try simp only [Act.put, List.setIfInBounds_toArray, List.set_cons_zero, List.set_cons_succ]
                          refine wpAnyH_take (i := 9) (oi := { dst := some 121, op := Go.Op.load 41 (Go.Operand.tmp 120), type := 41, pos := "ref.go:40", after := #[{ on := 8, ground := Go.Ground.data }, { on := 5, ground := Go.Ground.guard }], guard := some (5, true) }) (v := _) rfl (by kernel_rfl) (by kernel_rfl) (by kernel_rfl) (fun _ _ _ h => h) (Or.inr ⟨by rfl, rfl⟩) (by assumption) ?_
                          try simp only [Act.put, List.setIfInBounds_toArray, List.set_cons_zero, List.set_cons_succ]
                          refine wpAnyH_take (i := 10) (oi := { dst := some 122, op := Go.Op.move (Go.Operand.tmp 4), type := 33, pos := "ref.go:40", after := #[{ on := 5, ground := Go.Ground.guard }], guard := some (5, true) }) (v := _) rfl (by kernel_rfl) (by kernel_rfl) (by kernel_rfl) (fun _ _ _ h => h) (Or.inr ⟨by rfl, rfl⟩) (by assumption) ?_
                          try simp only [Act.put, List.setIfInBounds_toArray, List.set_cons_zero, List.set_cons_succ]
                          refine wpAnyH_take (i := 11) (oi := { dst := some 123, op := Go.Op.move (Go.Operand.tmp 9), type := 3, pos := "ref.go:40", after := #[{ on := 5, ground := Go.Ground.guard }], guard := some (5, true) }) (v := _) rfl (by kernel_rfl) (by kernel_rfl) (by kernel_rfl) (fun _ _ _ h => h) (Or.inr ⟨by rfl, rfl⟩) (by assumption) ?_
                          try simp only [Act.put, List.setIfInBounds_toArray, List.set_cons_zero, List.set_cons_succ]
                          refine wpAnyH_take (i := 12) (oi := { dst := some 124, op := Go.Op.indexAddr 33 (Go.Operand.tmp 122) (Go.Operand.tmp 123), type := 0, pos := "ref.go:40", after := #[{ on := 10, ground := Go.Ground.data }, { on := 11, ground := Go.Ground.data }, { on := 5, ground := Go.Ground.guard }], guard := some (5, true) }) (v := _) rfl (by kernel_rfl) (by kernel_rfl) (by kernel_rfl) (fun _ _ _ h => h) (Or.inr ⟨by rfl, rfl⟩) (by assumption) ?_
                          try simp only [Act.put, List.setIfInBounds_toArray, List.set_cons_zero, List.set_cons_succ]
                          refine wpAnyH_take (i := 13) (oi := { dst := some 125, op := Go.Op.load 41 (Go.Operand.tmp 124), type := 41, pos := "ref.go:40", after := #[{ on := 12, ground := Go.Ground.data }, { on := 5, ground := Go.Ground.guard }], guard := some (5, true) }) (v := _) rfl (by kernel_rfl) (by kernel_rfl) (by kernel_rfl) (fun _ _ _ h => h) (Or.inr ⟨by rfl, rfl⟩) (by assumption) ?_
                          try simp only [Act.put, List.setIfInBounds_toArray, List.set_cons_zero, List.set_cons_succ]
                          refine wpAnyH_take (i := 14) (oi := { dst := some 126, op := Go.Op.call { callee := Go.Callee.value (Go.Operand.func 17), args := #[Go.Operand.tmp 121, Go.Operand.tmp 125], argTypes := #[41, 41] }, type := 4, pos := "ref.go:40", after := #[{ on := 9, ground := Go.Ground.data }, { on := 13, ground := Go.Ground.data }, { on := 5, ground := Go.Ground.chain }, { on := 5, ground := Go.Ground.guard }], guard := some (5, true) }) (v := _) rfl (by kernel_rfl) (by kernel_rfl) (by kernel_rfl) (fun _ _ _ h => h) (Or.inr ⟨by rfl, rfl⟩) (by assumption) ?_
                          try simp only [Act.put, List.setIfInBounds_toArray, List.set_cons_zero, List.set_cons_succ]
                          refine wpAnyH_take (i := 15) (oi := { dst := some 127, op := Go.Op.unOp Go.UnOp.not 4 (Go.Operand.tmp 126), type := 4, pos := "ref.go:40", after := #[{ on := 14, ground := Go.Ground.data }, { on := 5, ground := Go.Ground.guard }], guard := some (5, true) }) (v := _) rfl (by kernel_rfl) (by kernel_rfl) (by kernel_rfl) (fun _ _ _ h => h) (Or.inr ⟨by rfl, rfl⟩) (by assumption) ?_
                          try simp only [Act.put, List.setIfInBounds_toArray, List.set_cons_zero, List.set_cons_succ]
                          refine wpAnyH_take (i := 16) (oi := { dst := some 128, op := Go.Op.pick (Go.Operand.tmp 117) (Go.Operand.tmp 127) (Go.Operand.const (Go.Value.bool false)), type := 4, pos := "ref.go:40", after := #[{ on := 5, ground := Go.Ground.data }, { on := 15, ground := Go.Ground.data }, { on := 1, ground := Go.Ground.guard }], guard := some (1, false) }) (v := _) rfl (by kernel_rfl) (by kernel_rfl) (by kernel_rfl) (fun _ _ _ h => h) (Or.inr ⟨by rfl, rfl⟩) (by assumption) ?_
                          try simp only [Act.put, List.setIfInBounds_toArray, List.set_cons_zero, List.set_cons_succ]
                          refine wpAnyH_take (i := 17) (oi := { dst := some 129, op := Go.Op.move (Go.Operand.tmp 128), type := 4, pos := "ref.go:40", after := #[{ on := 16, ground := Go.Ground.data }, { on := 14, ground := Go.Ground.chain }, { on := 1, ground := Go.Ground.guard }], guard := some (1, false) }) (v := _) rfl (by kernel_rfl) (by kernel_rfl) (by kernel_rfl) (fun _ _ _ h => h) (Or.inr ⟨by rfl, rfl⟩) (by assumption) ?_
                          try simp only [Act.put, List.setIfInBounds_toArray, List.set_cons_zero, List.set_cons_succ]
                          refine wpAnyH_take (i := 18) (oi := { dst := some 130, op := Go.Op.move (Go.Operand.tmp 4), type := 33, pos := "ref.go:40", after := #[{ on := 17, ground := Go.Ground.guard }], guard := some (17, true) }) (v := _) rfl (by kernel_rfl) (by kernel_rfl) (by kernel_rfl) (fun _ _ _ h => h) (Or.inr ⟨by rfl, rfl⟩) (by assumption) ?_
                          try simp only [Act.put, List.setIfInBounds_toArray, List.set_cons_zero, List.set_cons_succ]
                          refine wpAnyH_take (i := 19) (oi := { dst := some 131, op := Go.Op.move (Go.Operand.tmp 9), type := 3, pos := "ref.go:40", after := #[{ on := 17, ground := Go.Ground.guard }], guard := some (17, true) }) (v := _) rfl (by kernel_rfl) (by kernel_rfl) (by kernel_rfl) (fun _ _ _ h => h) (Or.inr ⟨by rfl, rfl⟩) (by assumption) ?_
                          try simp only [Act.put, List.setIfInBounds_toArray, List.set_cons_zero, List.set_cons_succ]
                          refine wpAnyH_take (i := 20) (oi := { dst := some 132, op := Go.Op.indexAddr 33 (Go.Operand.tmp 130) (Go.Operand.tmp 131), type := 0, pos := "ref.go:40", after := #[{ on := 18, ground := Go.Ground.data }, { on := 19, ground := Go.Ground.data }, { on := 17, ground := Go.Ground.guard }], guard := some (17, true) }) (v := _) rfl (by kernel_rfl) (by kernel_rfl) (by kernel_rfl) (fun _ _ _ h => h) (Or.inr ⟨by rfl, rfl⟩) (by assumption) ?_
                          try simp only [Act.put, List.setIfInBounds_toArray, List.set_cons_zero, List.set_cons_succ]
                          refine wpAnyH_take (i := 21) (oi := { dst := some 133, op := Go.Op.load 41 (Go.Operand.tmp 132), type := 41, pos := "ref.go:40", after := #[{ on := 20, ground := Go.Ground.data }, { on := 17, ground := Go.Ground.guard }], guard := some (17, true) }) (v := _) rfl (by kernel_rfl) (by kernel_rfl) (by kernel_rfl) (fun _ _ _ h => h) (Or.inr ⟨by rfl, rfl⟩) (by assumption) ?_
                          try simp only [Act.put, List.setIfInBounds_toArray, List.set_cons_zero, List.set_cons_succ]
                          refine wpAnyH_take (i := 22) (oi := { dst := some 134, op := Go.Op.move (Go.Operand.tmp 4), type := 33, pos := "ref.go:40", after := #[{ on := 17, ground := Go.Ground.guard }], guard := some (17, true) }) (v := _) rfl (by kernel_rfl) (by kernel_rfl) (by kernel_rfl) (fun _ _ _ h => h) (Or.inr ⟨by rfl, rfl⟩) (by assumption) ?_
                          try simp only [Act.put, List.setIfInBounds_toArray, List.set_cons_zero, List.set_cons_succ]
                          refine wpAnyH_take (i := 23) (oi := { dst := some 135, op := Go.Op.move (Go.Operand.tmp 5), type := 3, pos := "ref.go:40", after := #[{ on := 17, ground := Go.Ground.guard }], guard := some (17, true) }) (v := _) rfl (by kernel_rfl) (by kernel_rfl) (by kernel_rfl) (fun _ _ _ h => h) (Or.inr ⟨by rfl, rfl⟩) (by assumption) ?_
                          try simp only [Act.put, List.setIfInBounds_toArray, List.set_cons_zero, List.set_cons_succ]
                          refine wpAnyH_take (i := 24) (oi := { dst := some 136, op := Go.Op.indexAddr 33 (Go.Operand.tmp 134) (Go.Operand.tmp 135), type := 0, pos := "ref.go:40", after := #[{ on := 22, ground := Go.Ground.data }, { on := 23, ground := Go.Ground.data }, { on := 17, ground := Go.Ground.guard }], guard := some (17, true) }) (v := _) rfl (by kernel_rfl) (by kernel_rfl) (by kernel_rfl) (fun _ _ _ h => h) (Or.inr ⟨by rfl, rfl⟩) (by assumption) ?_
                          try simp only [Act.put, List.setIfInBounds_toArray, List.set_cons_zero, List.set_cons_succ]
                          refine wpAnyH_take (i := 25) (oi := { dst := some 137, op := Go.Op.load 41 (Go.Operand.tmp 136), type := 41, pos := "ref.go:40", after := #[{ on := 24, ground := Go.Ground.data }, { on := 17, ground := Go.Ground.guard }], guard := some (17, true) }) (v := _) rfl (by kernel_rfl) (by kernel_rfl) (by kernel_rfl) (fun _ _ _ h => h) (Or.inr ⟨by rfl, rfl⟩) (by assumption) ?_
                          try simp only [Act.put, List.setIfInBounds_toArray, List.set_cons_zero, List.set_cons_succ]
                          refine wpAnyH_take (i := 26) (oi := { dst := some 138, op := Go.Op.call { callee := Go.Callee.value (Go.Operand.func 17), args := #[Go.Operand.tmp 133, Go.Operand.tmp 137], argTypes := #[41, 41] }, type := 4, pos := "ref.go:40", after := #[{ on := 21, ground := Go.Ground.data }, { on := 25, ground := Go.Ground.data }, { on := 17, ground := Go.Ground.chain }, { on := 17, ground := Go.Ground.guard }], guard := some (17, true) }) (v := _) rfl (by kernel_rfl) (by kernel_rfl) (by kernel_rfl) (fun _ _ _ h => h) (Or.inr ⟨by rfl, rfl⟩) (by assumption) ?_
                          try simp only [Act.put, List.setIfInBounds_toArray, List.set_cons_zero, List.set_cons_succ]
                          refine wpAnyH_take (i := 27) (oi := { dst := some 139, op := Go.Op.unOp Go.UnOp.not 4 (Go.Operand.tmp 138), type := 4, pos := "ref.go:40", after := #[{ on := 26, ground := Go.Ground.data }, { on := 17, ground := Go.Ground.guard }], guard := some (17, true) }) (v := _) rfl (by kernel_rfl) (by kernel_rfl) (by kernel_rfl) (fun _ _ _ h => h) (Or.inr ⟨by rfl, rfl⟩) (by assumption) ?_
                          try simp only [Act.put, List.setIfInBounds_toArray, List.set_cons_zero, List.set_cons_succ]
                          refine wpAnyH_take (i := 28) (oi := { dst := some 140, op := Go.Op.pick (Go.Operand.tmp 129) (Go.Operand.tmp 139) (Go.Operand.const (Go.Value.bool false)), type := 4, pos := "ref.go:40", after := #[{ on := 17, ground := Go.Ground.data }, { on := 27, ground := Go.Ground.data }, { on := 1, ground := Go.Ground.guard }], guard := some (1, false) }) (v := _) rfl (by kernel_rfl) (by kernel_rfl) (by kernel_rfl) (fun _ _ _ h => h) (Or.inr ⟨by rfl, rfl⟩) (by assumption) ?_
                          try simp only [Act.put, List.setIfInBounds_toArray, List.set_cons_zero, List.set_cons_succ]
                          refine wpAnyH_take (i := 29) (oi := { dst := some 141, op := Go.Op.pick (Go.Operand.tmp 113) (Go.Operand.const (Go.Value.bool true)) (Go.Operand.tmp 140), type := 4, pos := "ref.go:40", after := #[{ on := 1, ground := Go.Ground.data }, { on := 28, ground := Go.Ground.data }], guard := none }) (v := ?_) rfl (by kernel_rfl) (by kernel_rfl) (by kernel_rfl) (fun _ _ _ h => h) (Or.inl ⟨by rfl, ?_⟩) (by assumption) ?_
                          rotate_left
                          · intro w hSw
                            (try dsimp only at hSw)
                            go_simp
                            all_goals with_reducible rfl
                          try simp only [Act.put, List.setIfInBounds_toArray, List.set_cons_zero, List.set_cons_succ]
                          refine wpAnyH_take (i := 30) (oi := { dst := some 8, op := Go.Op.assign (Go.Operand.tmp 141), type := 4, pos := "ref.go:40", after := #[{ on := 29, ground := Go.Ground.data }, { on := 26, ground := Go.Ground.chain }, { on := 0, ground := Go.Ground.phase }, { on := 1, ground := Go.Ground.phase }, { on := 2, ground := Go.Ground.phase }, { on := 3, ground := Go.Ground.phase }, { on := 4, ground := Go.Ground.phase }, { on := 5, ground := Go.Ground.phase }, { on := 6, ground := Go.Ground.phase }, { on := 7, ground := Go.Ground.phase }, { on := 8, ground := Go.Ground.phase }, { on := 9, ground := Go.Ground.phase }, { on := 10, ground := Go.Ground.phase }, { on := 11, ground := Go.Ground.phase }, { on := 12, ground := Go.Ground.phase }, { on := 13, ground := Go.Ground.phase }, { on := 14, ground := Go.Ground.phase }, { on := 15, ground := Go.Ground.phase }, { on := 16, ground := Go.Ground.phase }, { on := 17, ground := Go.Ground.phase }, { on := 18, ground := Go.Ground.phase }, { on := 19, ground := Go.Ground.phase }, { on := 20, ground := Go.Ground.phase }, { on := 21, ground := Go.Ground.phase }, { on := 22, ground := Go.Ground.phase }, { on := 23, ground := Go.Ground.phase }, { on := 24, ground := Go.Ground.phase }, { on := 25, ground := Go.Ground.phase }, { on := 26, ground := Go.Ground.phase }, { on := 27, ground := Go.Ground.phase }, { on := 28, ground := Go.Ground.phase }, { on := 29, ground := Go.Ground.phase }], guard := none }) (v := ?_) rfl (by kernel_rfl) (by kernel_rfl) (by kernel_rfl) (fun _ _ _ h => h) (Or.inl ⟨by rfl, ?_⟩) (by assumption) ?_
                          rotate_left
                          · intro w hSw
                            (try dsimp only at hSw)
                            go_simp
                            all_goals with_reducible rfl
                          try simp only [Act.put, List.setIfInBounds_toArray, List.set_cons_zero, List.set_cons_succ]
                          refine wpAnyH_done (by kernel_rfl) ?_ _
                          have HZ := Lib.hid hHeld
                          clear hHeld
                          go_wp2_with fail
                          go_roundg (os.length - (k + 1))
                          case measure => omega
                          case rel => exact ⟨k + 1, by omega, rfl, by go_num, by rw [HON.out], HZ.out.hr⟩
                        | false =>
                          by_cases hkn : k = n
                          · have HON : Hid (overTo os n (k + 1) = false) := Lib.hid (by rw [HOT.out, HCP.out, decide_eq_false (fun h => h hkn)]; rfl)
                            have hznb : (((k : Nat) : Int) != ((n : Nat) : Int)) = false := by rw [bne_eq_false_iff_eq]; omega
                            clear hkn
                            refine wp_region_held_drew (S := (fun w' => OwS 28 w w' rb sb (.slice (some ⟨b, o, none⟩) os.length c3) os zs b o n k y z)) (by kernel_rfl) (HOV.out.keep (Keep.refl [] wr).drew) (fun hHeld => ?_)
                            refine wpAnyH_take (i := 0) (oi := { dst := some 112, op := Go.Op.move (Go.Operand.tmp 8), type := 4, pos := "ref.go:40", after := #[], guard := none }) (v := ?_) rfl (by kernel_rfl) (by kernel_rfl) (by kernel_rfl) (fun _ _ _ h => h) (Or.inl ⟨by rfl, ?_⟩) (by assumption) ?_
                            rotate_left
                            · intro w hSw
                              (try dsimp only at hSw)
                              go_simp
                              all_goals with_reducible rfl
                            try simp only [Act.put, List.setIfInBounds_toArray, List.set_cons_zero, List.set_cons_succ]
                            refine wpAnyH_take (i := 1) (oi := { dst := some 113, op := Go.Op.move (Go.Operand.tmp 112), type := 4, pos := "ref.go:40", after := #[{ on := 0, ground := Go.Ground.data }], guard := none }) (v := ?_) rfl (by kernel_rfl) (by kernel_rfl) (by kernel_rfl) (fun _ _ _ h => h) (Or.inl ⟨by rfl, ?_⟩) (by assumption) ?_
                            rotate_left
                            · intro w hSw
                              (try dsimp only at hSw)
                              go_simp
                              all_goals with_reducible rfl
                            try simp only [Act.put, List.setIfInBounds_toArray, List.set_cons_zero, List.set_cons_succ]
                            refine wpAnyH_take (i := 2) (oi := { dst := some 114, op := Go.Op.move (Go.Operand.tmp 9), type := 3, pos := "ref.go:40", after := #[{ on := 1, ground := Go.Ground.guard }], guard := some (1, false) }) (v := ?_) rfl (by kernel_rfl) (by kernel_rfl) (by kernel_rfl) (fun _ _ _ h => h) (Or.inl ⟨by rfl, ?_⟩) (by assumption) ?_
                            rotate_left
                            · intro w hSw
                              (try dsimp only at hSw)
                              go_simp
                              all_goals with_reducible rfl
                            try simp only [Act.put, List.setIfInBounds_toArray, List.set_cons_zero, List.set_cons_succ]
                            refine wpAnyH_take (i := 3) (oi := { dst := some 115, op := Go.Op.move (Go.Operand.tmp 5), type := 3, pos := "ref.go:40", after := #[{ on := 1, ground := Go.Ground.guard }], guard := some (1, false) }) (v := ?_) rfl (by kernel_rfl) (by kernel_rfl) (by kernel_rfl) (fun _ _ _ h => h) (Or.inl ⟨by rfl, ?_⟩) (by assumption) ?_
                            rotate_left
                            · intro w hSw
                              (try dsimp only at hSw)
                              go_simp
                              all_goals with_reducible rfl
                            try simp only [Act.put, List.setIfInBounds_toArray, List.set_cons_zero, List.set_cons_succ]
                            refine wpAnyH_take (i := 4) (oi := { dst := some 116, op := Go.Op.binOp Go.BinOp.neq 3 (Go.Operand.tmp 114) (Go.Operand.tmp 115) 3, type := 4, pos := "ref.go:40", after := #[{ on := 2, ground := Go.Ground.data }, { on := 3, ground := Go.Ground.data }, { on := 1, ground := Go.Ground.guard }], guard := some (1, false) }) (v := ?_) rfl (by kernel_rfl) (by kernel_rfl) (by kernel_rfl) (fun _ _ _ h => h) (Or.inl ⟨by rfl, ?_⟩) (by assumption) ?_
                            rotate_left
                            · intro w hSw
                              (try dsimp only at hSw)
                              go_simp
                              all_goals with_reducible rfl
                            try simp only [Act.put, List.setIfInBounds_toArray, List.set_cons_zero, List.set_cons_succ]
                            refine wpAnyH_take (i := 5) (oi := { dst := some 117, op := Go.Op.move (Go.Operand.tmp 116), type := 4, pos := "ref.go:40", after := #[{ on := 4, ground := Go.Ground.data }, { on := 1, ground := Go.Ground.chain }, { on := 1, ground := Go.Ground.guard }], guard := some (1, false) }) (v := ?_) rfl (by kernel_rfl) (by kernel_rfl) (by kernel_rfl) (fun _ _ _ h => h) (Or.inl ⟨by rfl, ?_⟩) (by assumption) ?_
                            rotate_left
                            · intro w hSw
                              (try dsimp only at hSw)
                              go_simp
                              all_goals with_reducible rfl
                            try simp only [Act.put, List.setIfInBounds_toArray, List.set_cons_zero, List.set_cons_succ]
                            refine wpAnyH_take (i := 6) (oi := { dst := some 118, op := Go.Op.move (Go.Operand.tmp 4), type := 33, pos := "ref.go:40", after := #[{ on := 5, ground := Go.Ground.guard }], guard := some (5, true) }) (v := _) rfl (by kernel_rfl) (by kernel_rfl) (by kernel_rfl) (fun _ _ _ h => h) (Or.inr ⟨by rfl, rfl⟩) (by assumption) ?_
                            try simp only [Act.put, List.setIfInBounds_toArray, List.set_cons_zero, List.set_cons_succ]
                            refine wpAnyH_take (i := 7) (oi := { dst := some 119, op := Go.Op.move (Go.Operand.tmp 5), type := 3, pos := "ref.go:40", after := #[{ on := 5, ground := Go.Ground.guard }], guard := some (5, true) }) (v := _) rfl (by kernel_rfl) (by kernel_rfl) (by kernel_rfl) (fun _ _ _ h => h) (Or.inr ⟨by rfl, rfl⟩) (by assumption) ?_
                            try simp only [Act.put, List.setIfInBounds_toArray, List.set_cons_zero, List.set_cons_succ]
                            refine wpAnyH_take (i := 8) (oi := { dst := some 120, op := Go.Op.indexAddr 33 (Go.Operand.tmp 118) (Go.Operand.tmp 119), type := 0, pos := "ref.go:40", after := #[{ on := 6, ground := Go.Ground.data }, { on := 7, ground := Go.Ground.data }, { on := 5, ground := Go.Ground.guard }], guard := some (5, true) }) (v := _) rfl (by kernel_rfl) (by kernel_rfl) (by kernel_rfl) (fun _ _ _ h => h) (Or.inr ⟨by rfl, rfl⟩) (by assumption) ?_
                            try simp only [Act.put, List.setIfInBounds_toArray, List.set_cons_zero, List.set_cons_succ]
                            refine wpAnyH_take (i := 9) (oi := { dst := some 121, op := Go.Op.load 41 (Go.Operand.tmp 120), type := 41, pos := "ref.go:40", after := #[{ on := 8, ground := Go.Ground.data }, { on := 5, ground := Go.Ground.guard }], guard := some (5, true) }) (v := _) rfl (by kernel_rfl) (by kernel_rfl) (by kernel_rfl) (fun _ _ _ h => h) (Or.inr ⟨by rfl, rfl⟩) (by assumption) ?_
                            try simp only [Act.put, List.setIfInBounds_toArray, List.set_cons_zero, List.set_cons_succ]
                            refine wpAnyH_take (i := 10) (oi := { dst := some 122, op := Go.Op.move (Go.Operand.tmp 4), type := 33, pos := "ref.go:40", after := #[{ on := 5, ground := Go.Ground.guard }], guard := some (5, true) }) (v := _) rfl (by kernel_rfl) (by kernel_rfl) (by kernel_rfl) (fun _ _ _ h => h) (Or.inr ⟨by rfl, rfl⟩) (by assumption) ?_
                            try simp only [Act.put, List.setIfInBounds_toArray, List.set_cons_zero, List.set_cons_succ]
                            refine wpAnyH_take (i := 11) (oi := { dst := some 123, op := Go.Op.move (Go.Operand.tmp 9), type := 3, pos := "ref.go:40", after := #[{ on := 5, ground := Go.Ground.guard }], guard := some (5, true) }) (v := _) rfl (by kernel_rfl) (by kernel_rfl) (by kernel_rfl) (fun _ _ _ h => h) (Or.inr ⟨by rfl, rfl⟩) (by assumption) ?_
                            try simp only [Act.put, List.setIfInBounds_toArray, List.set_cons_zero, List.set_cons_succ]
                            refine wpAnyH_take (i := 12) (oi := { dst := some 124, op := Go.Op.indexAddr 33 (Go.Operand.tmp 122) (Go.Operand.tmp 123), type := 0, pos := "ref.go:40", after := #[{ on := 10, ground := Go.Ground.data }, { on := 11, ground := Go.Ground.data }, { on := 5, ground := Go.Ground.guard }], guard := some (5, true) }) (v := _) rfl (by kernel_rfl) (by kernel_rfl) (by kernel_rfl) (fun _ _ _ h => h) (Or.inr ⟨by rfl, rfl⟩) (by assumption) ?_
                            try simp only [Act.put, List.setIfInBounds_toArray, List.set_cons_zero, List.set_cons_succ]
                            refine wpAnyH_take (i := 13) (oi := { dst := some 125, op := Go.Op.load 41 (Go.Operand.tmp 124), type := 41, pos := "ref.go:40", after := #[{ on := 12, ground := Go.Ground.data }, { on := 5, ground := Go.Ground.guard }], guard := some (5, true) }) (v := _) rfl (by kernel_rfl) (by kernel_rfl) (by kernel_rfl) (fun _ _ _ h => h) (Or.inr ⟨by rfl, rfl⟩) (by assumption) ?_
                            try simp only [Act.put, List.setIfInBounds_toArray, List.set_cons_zero, List.set_cons_succ]
                            refine wpAnyH_take (i := 14) (oi := { dst := some 126, op := Go.Op.call { callee := Go.Callee.value (Go.Operand.func 17), args := #[Go.Operand.tmp 121, Go.Operand.tmp 125], argTypes := #[41, 41] }, type := 4, pos := "ref.go:40", after := #[{ on := 9, ground := Go.Ground.data }, { on := 13, ground := Go.Ground.data }, { on := 5, ground := Go.Ground.chain }, { on := 5, ground := Go.Ground.guard }], guard := some (5, true) }) (v := _) rfl (by kernel_rfl) (by kernel_rfl) (by kernel_rfl) (fun _ _ _ h => h) (Or.inr ⟨by rfl, rfl⟩) (by assumption) ?_
                            try simp only [Act.put, List.setIfInBounds_toArray, List.set_cons_zero, List.set_cons_succ]
                            refine wpAnyH_take (i := 15) (oi := { dst := some 127, op := Go.Op.unOp Go.UnOp.not 4 (Go.Operand.tmp 126), type := 4, pos := "ref.go:40", after := #[{ on := 14, ground := Go.Ground.data }, { on := 5, ground := Go.Ground.guard }], guard := some (5, true) }) (v := _) rfl (by kernel_rfl) (by kernel_rfl) (by kernel_rfl) (fun _ _ _ h => h) (Or.inr ⟨by rfl, rfl⟩) (by assumption) ?_
                            try simp only [Act.put, List.setIfInBounds_toArray, List.set_cons_zero, List.set_cons_succ]
                            refine wpAnyH_take (i := 16) (oi := { dst := some 128, op := Go.Op.pick (Go.Operand.tmp 117) (Go.Operand.tmp 127) (Go.Operand.const (Go.Value.bool false)), type := 4, pos := "ref.go:40", after := #[{ on := 5, ground := Go.Ground.data }, { on := 15, ground := Go.Ground.data }, { on := 1, ground := Go.Ground.guard }], guard := some (1, false) }) (v := ?_) rfl (by kernel_rfl) (by kernel_rfl) (by kernel_rfl) (fun _ _ _ h => h) (Or.inl ⟨by rfl, ?_⟩) (by assumption) ?_
                            rotate_left
                            · intro w hSw
                              (try dsimp only at hSw)
                              go_simp
                              all_goals with_reducible rfl
                            try simp only [Act.put, List.setIfInBounds_toArray, List.set_cons_zero, List.set_cons_succ]
                            refine wpAnyH_take (i := 17) (oi := { dst := some 129, op := Go.Op.move (Go.Operand.tmp 128), type := 4, pos := "ref.go:40", after := #[{ on := 16, ground := Go.Ground.data }, { on := 14, ground := Go.Ground.chain }, { on := 1, ground := Go.Ground.guard }], guard := some (1, false) }) (v := ?_) rfl (by kernel_rfl) (by kernel_rfl) (by kernel_rfl) (fun _ _ _ h => h) (Or.inl ⟨by rfl, ?_⟩) (by assumption) ?_
                            rotate_left
                            · intro w hSw
                              (try dsimp only at hSw)
                              go_simp
                              all_goals with_reducible rfl
                            try simp only [Act.put, List.setIfInBounds_toArray, List.set_cons_zero, List.set_cons_succ]
                            refine wpAnyH_take (i := 18) (oi := { dst := some 130, op := Go.Op.move (Go.Operand.tmp 4), type := 33, pos := "ref.go:40", after := #[{ on := 17, ground := Go.Ground.guard }], guard := some (17, true) }) (v := _) rfl (by kernel_rfl) (by kernel_rfl) (by kernel_rfl) (fun _ _ _ h => h) (Or.inr ⟨by rfl, rfl⟩) (by assumption) ?_
                            try simp only [Act.put, List.setIfInBounds_toArray, List.set_cons_zero, List.set_cons_succ]
                            refine wpAnyH_take (i := 19) (oi := { dst := some 131, op := Go.Op.move (Go.Operand.tmp 9), type := 3, pos := "ref.go:40", after := #[{ on := 17, ground := Go.Ground.guard }], guard := some (17, true) }) (v := _) rfl (by kernel_rfl) (by kernel_rfl) (by kernel_rfl) (fun _ _ _ h => h) (Or.inr ⟨by rfl, rfl⟩) (by assumption) ?_
                            try simp only [Act.put, List.setIfInBounds_toArray, List.set_cons_zero, List.set_cons_succ]
                            refine wpAnyH_take (i := 20) (oi := { dst := some 132, op := Go.Op.indexAddr 33 (Go.Operand.tmp 130) (Go.Operand.tmp 131), type := 0, pos := "ref.go:40", after := #[{ on := 18, ground := Go.Ground.data }, { on := 19, ground := Go.Ground.data }, { on := 17, ground := Go.Ground.guard }], guard := some (17, true) }) (v := _) rfl (by kernel_rfl) (by kernel_rfl) (by kernel_rfl) (fun _ _ _ h => h) (Or.inr ⟨by rfl, rfl⟩) (by assumption) ?_
                            try simp only [Act.put, List.setIfInBounds_toArray, List.set_cons_zero, List.set_cons_succ]
                            refine wpAnyH_take (i := 21) (oi := { dst := some 133, op := Go.Op.load 41 (Go.Operand.tmp 132), type := 41, pos := "ref.go:40", after := #[{ on := 20, ground := Go.Ground.data }, { on := 17, ground := Go.Ground.guard }], guard := some (17, true) }) (v := _) rfl (by kernel_rfl) (by kernel_rfl) (by kernel_rfl) (fun _ _ _ h => h) (Or.inr ⟨by rfl, rfl⟩) (by assumption) ?_
                            try simp only [Act.put, List.setIfInBounds_toArray, List.set_cons_zero, List.set_cons_succ]
                            refine wpAnyH_take (i := 22) (oi := { dst := some 134, op := Go.Op.move (Go.Operand.tmp 4), type := 33, pos := "ref.go:40", after := #[{ on := 17, ground := Go.Ground.guard }], guard := some (17, true) }) (v := _) rfl (by kernel_rfl) (by kernel_rfl) (by kernel_rfl) (fun _ _ _ h => h) (Or.inr ⟨by rfl, rfl⟩) (by assumption) ?_
                            try simp only [Act.put, List.setIfInBounds_toArray, List.set_cons_zero, List.set_cons_succ]
                            refine wpAnyH_take (i := 23) (oi := { dst := some 135, op := Go.Op.move (Go.Operand.tmp 5), type := 3, pos := "ref.go:40", after := #[{ on := 17, ground := Go.Ground.guard }], guard := some (17, true) }) (v := _) rfl (by kernel_rfl) (by kernel_rfl) (by kernel_rfl) (fun _ _ _ h => h) (Or.inr ⟨by rfl, rfl⟩) (by assumption) ?_
                            try simp only [Act.put, List.setIfInBounds_toArray, List.set_cons_zero, List.set_cons_succ]
                            refine wpAnyH_take (i := 24) (oi := { dst := some 136, op := Go.Op.indexAddr 33 (Go.Operand.tmp 134) (Go.Operand.tmp 135), type := 0, pos := "ref.go:40", after := #[{ on := 22, ground := Go.Ground.data }, { on := 23, ground := Go.Ground.data }, { on := 17, ground := Go.Ground.guard }], guard := some (17, true) }) (v := _) rfl (by kernel_rfl) (by kernel_rfl) (by kernel_rfl) (fun _ _ _ h => h) (Or.inr ⟨by rfl, rfl⟩) (by assumption) ?_
                            try simp only [Act.put, List.setIfInBounds_toArray, List.set_cons_zero, List.set_cons_succ]
                            refine wpAnyH_take (i := 25) (oi := { dst := some 137, op := Go.Op.load 41 (Go.Operand.tmp 136), type := 41, pos := "ref.go:40", after := #[{ on := 24, ground := Go.Ground.data }, { on := 17, ground := Go.Ground.guard }], guard := some (17, true) }) (v := _) rfl (by kernel_rfl) (by kernel_rfl) (by kernel_rfl) (fun _ _ _ h => h) (Or.inr ⟨by rfl, rfl⟩) (by assumption) ?_
                            try simp only [Act.put, List.setIfInBounds_toArray, List.set_cons_zero, List.set_cons_succ]
                            refine wpAnyH_take (i := 26) (oi := { dst := some 138, op := Go.Op.call { callee := Go.Callee.value (Go.Operand.func 17), args := #[Go.Operand.tmp 133, Go.Operand.tmp 137], argTypes := #[41, 41] }, type := 4, pos := "ref.go:40", after := #[{ on := 21, ground := Go.Ground.data }, { on := 25, ground := Go.Ground.data }, { on := 17, ground := Go.Ground.chain }, { on := 17, ground := Go.Ground.guard }], guard := some (17, true) }) (v := _) rfl (by kernel_rfl) (by kernel_rfl) (by kernel_rfl) (fun _ _ _ h => h) (Or.inr ⟨by rfl, rfl⟩) (by assumption) ?_
                            try simp only [Act.put, List.setIfInBounds_toArray, List.set_cons_zero, List.set_cons_succ]
                            refine wpAnyH_take (i := 27) (oi := { dst := some 139, op := Go.Op.unOp Go.UnOp.not 4 (Go.Operand.tmp 138), type := 4, pos := "ref.go:40", after := #[{ on := 26, ground := Go.Ground.data }, { on := 17, ground := Go.Ground.guard }], guard := some (17, true) }) (v := _) rfl (by kernel_rfl) (by kernel_rfl) (by kernel_rfl) (fun _ _ _ h => h) (Or.inr ⟨by rfl, rfl⟩) (by assumption) ?_
                            try simp only [Act.put, List.setIfInBounds_toArray, List.set_cons_zero, List.set_cons_succ]
                            refine wpAnyH_take (i := 28) (oi := { dst := some 140, op := Go.Op.pick (Go.Operand.tmp 129) (Go.Operand.tmp 139) (Go.Operand.const (Go.Value.bool false)), type := 4, pos := "ref.go:40", after := #[{ on := 17, ground := Go.Ground.data }, { on := 27, ground := Go.Ground.data }, { on := 1, ground := Go.Ground.guard }], guard := some (1, false) }) (v := ?_) rfl (by kernel_rfl) (by kernel_rfl) (by kernel_rfl) (fun _ _ _ h => h) (Or.inl ⟨by rfl, ?_⟩) (by assumption) ?_
                            rotate_left
                            · intro w hSw
                              (try dsimp only at hSw)
                              go_simp
                              all_goals with_reducible rfl
                            try simp only [Act.put, List.setIfInBounds_toArray, List.set_cons_zero, List.set_cons_succ]
                            refine wpAnyH_take (i := 29) (oi := { dst := some 141, op := Go.Op.pick (Go.Operand.tmp 113) (Go.Operand.const (Go.Value.bool true)) (Go.Operand.tmp 140), type := 4, pos := "ref.go:40", after := #[{ on := 1, ground := Go.Ground.data }, { on := 28, ground := Go.Ground.data }], guard := none }) (v := ?_) rfl (by kernel_rfl) (by kernel_rfl) (by kernel_rfl) (fun _ _ _ h => h) (Or.inl ⟨by rfl, ?_⟩) (by assumption) ?_
                            rotate_left
                            · intro w hSw
                              (try dsimp only at hSw)
                              go_simp
                              all_goals with_reducible rfl
                            try simp only [Act.put, List.setIfInBounds_toArray, List.set_cons_zero, List.set_cons_succ]
                            refine wpAnyH_take (i := 30) (oi := { dst := some 8, op := Go.Op.assign (Go.Operand.tmp 141), type := 4, pos := "ref.go:40", after := #[{ on := 29, ground := Go.Ground.data }, { on := 26, ground := Go.Ground.chain }, { on := 0, ground := Go.Ground.phase }, { on := 1, ground := Go.Ground.phase }, { on := 2, ground := Go.Ground.phase }, { on := 3, ground := Go.Ground.phase }, { on := 4, ground := Go.Ground.phase }, { on := 5, ground := Go.Ground.phase }, { on := 6, ground := Go.Ground.phase }, { on := 7, ground := Go.Ground.phase }, { on := 8, ground := Go.Ground.phase }, { on := 9, ground := Go.Ground.phase }, { on := 10, ground := Go.Ground.phase }, { on := 11, ground := Go.Ground.phase }, { on := 12, ground := Go.Ground.phase }, { on := 13, ground := Go.Ground.phase }, { on := 14, ground := Go.Ground.phase }, { on := 15, ground := Go.Ground.phase }, { on := 16, ground := Go.Ground.phase }, { on := 17, ground := Go.Ground.phase }, { on := 18, ground := Go.Ground.phase }, { on := 19, ground := Go.Ground.phase }, { on := 20, ground := Go.Ground.phase }, { on := 21, ground := Go.Ground.phase }, { on := 22, ground := Go.Ground.phase }, { on := 23, ground := Go.Ground.phase }, { on := 24, ground := Go.Ground.phase }, { on := 25, ground := Go.Ground.phase }, { on := 26, ground := Go.Ground.phase }, { on := 27, ground := Go.Ground.phase }, { on := 28, ground := Go.Ground.phase }, { on := 29, ground := Go.Ground.phase }], guard := none }) (v := ?_) rfl (by kernel_rfl) (by kernel_rfl) (by kernel_rfl) (fun _ _ _ h => h) (Or.inl ⟨by rfl, ?_⟩) (by assumption) ?_
                            rotate_left
                            · intro w hSw
                              (try dsimp only at hSw)
                              go_simp
                              all_goals with_reducible rfl
                            try simp only [Act.put, List.setIfInBounds_toArray, List.set_cons_zero, List.set_cons_succ]
                            refine wpAnyH_done (by kernel_rfl) ?_ _
                            have HZ := Lib.hid hHeld
                            clear hHeld
                            go_wp2_with fail
                            go_roundg (os.length - (k + 1))
                            case measure => omega
                            case rel => exact ⟨k + 1, by omega, rfl, by go_num, by rw [HON.out], HZ.out.hr⟩
                          · have hznb : (((k : Nat) : Int) != ((n : Nat) : Int)) = true := by rw [bne_iff_ne]; omega
                            have HOT2 : Hid (overTo os n (k + 1) = (!aheadP y z && !aheadP z y)) := Lib.hid (by rw [HOT.out, HCP.out, decide_eq_true hkn]; rfl)
                            clear hkn
                            cases h1 : aheadP y z with
                            | true =>
                              have HA1 := Lib.hid h1
                              have HON : Hid (overTo os n (k + 1) = false) := Lib.hid (by rw [HOT2.out, h1]; rfl)
                              clear h1
                              refine wp_region_held_drew (S := (fun w' => OwS 28 w w' rb sb (.slice (some ⟨b, o, none⟩) os.length c3) os zs b o n k y z)) (by kernel_rfl) (HOV.out.keep (Keep.refl [] wr).drew) (fun hHeld => ?_)
                              refine wpAnyH_take (i := 0) (oi := { dst := some 112, op := Go.Op.move (Go.Operand.tmp 8), type := 4, pos := "ref.go:40", after := #[], guard := none }) (v := ?_) rfl (by kernel_rfl) (by kernel_rfl) (by kernel_rfl) (fun _ _ _ h => h) (Or.inl ⟨by rfl, ?_⟩) (by assumption) ?_
                              rotate_left
                              · intro w hSw
                                (try dsimp only at hSw)
                                go_simp
                                all_goals with_reducible rfl
                              try simp only [Act.put, List.setIfInBounds_toArray, List.set_cons_zero, List.set_cons_succ]
                              refine wpAnyH_take (i := 1) (oi := { dst := some 113, op := Go.Op.move (Go.Operand.tmp 112), type := 4, pos := "ref.go:40", after := #[{ on := 0, ground := Go.Ground.data }], guard := none }) (v := ?_) rfl (by kernel_rfl) (by kernel_rfl) (by kernel_rfl) (fun _ _ _ h => h) (Or.inl ⟨by rfl, ?_⟩) (by assumption) ?_
                              rotate_left
                              · intro w hSw
                                (try dsimp only at hSw)
                                go_simp
                                all_goals with_reducible rfl
                              try simp only [Act.put, List.setIfInBounds_toArray, List.set_cons_zero, List.set_cons_succ]
                              refine wpAnyH_take (i := 2) (oi := { dst := some 114, op := Go.Op.move (Go.Operand.tmp 9), type := 3, pos := "ref.go:40", after := #[{ on := 1, ground := Go.Ground.guard }], guard := some (1, false) }) (v := ?_) rfl (by kernel_rfl) (by kernel_rfl) (by kernel_rfl) (fun _ _ _ h => h) (Or.inl ⟨by rfl, ?_⟩) (by assumption) ?_
                              rotate_left
                              · intro w hSw
                                (try dsimp only at hSw)
                                go_simp
                                all_goals with_reducible rfl
                              try simp only [Act.put, List.setIfInBounds_toArray, List.set_cons_zero, List.set_cons_succ]
                              refine wpAnyH_take (i := 3) (oi := { dst := some 115, op := Go.Op.move (Go.Operand.tmp 5), type := 3, pos := "ref.go:40", after := #[{ on := 1, ground := Go.Ground.guard }], guard := some (1, false) }) (v := ?_) rfl (by kernel_rfl) (by kernel_rfl) (by kernel_rfl) (fun _ _ _ h => h) (Or.inl ⟨by rfl, ?_⟩) (by assumption) ?_
                              rotate_left
                              · intro w hSw
                                (try dsimp only at hSw)
                                go_simp
                                all_goals with_reducible rfl
                              try simp only [Act.put, List.setIfInBounds_toArray, List.set_cons_zero, List.set_cons_succ]
                              refine wpAnyH_take (i := 4) (oi := { dst := some 116, op := Go.Op.binOp Go.BinOp.neq 3 (Go.Operand.tmp 114) (Go.Operand.tmp 115) 3, type := 4, pos := "ref.go:40", after := #[{ on := 2, ground := Go.Ground.data }, { on := 3, ground := Go.Ground.data }, { on := 1, ground := Go.Ground.guard }], guard := some (1, false) }) (v := ?_) rfl (by kernel_rfl) (by kernel_rfl) (by kernel_rfl) (fun _ _ _ h => h) (Or.inl ⟨by rfl, ?_⟩) (by assumption) ?_
                              rotate_left
                              · intro w hSw
                                (try dsimp only at hSw)
                                go_simp
                                all_goals with_reducible rfl
                              try simp only [Act.put, List.setIfInBounds_toArray, List.set_cons_zero, List.set_cons_succ]
                              refine wpAnyH_take (i := 5) (oi := { dst := some 117, op := Go.Op.move (Go.Operand.tmp 116), type := 4, pos := "ref.go:40", after := #[{ on := 4, ground := Go.Ground.data }, { on := 1, ground := Go.Ground.chain }, { on := 1, ground := Go.Ground.guard }], guard := some (1, false) }) (v := ?_) rfl (by kernel_rfl) (by kernel_rfl) (by kernel_rfl) (fun _ _ _ h => h) (Or.inl ⟨by rfl, ?_⟩) (by assumption) ?_
                              rotate_left
                              · intro w hSw
                                (try dsimp only at hSw)
                                go_simp
                                all_goals with_reducible rfl
                              try simp only [Act.put, List.setIfInBounds_toArray, List.set_cons_zero, List.set_cons_succ]
                              refine wpAnyH_take (i := 6) (oi := { dst := some 118, op := Go.Op.move (Go.Operand.tmp 4), type := 33, pos := "ref.go:40", after := #[{ on := 5, ground := Go.Ground.guard }], guard := some (5, true) }) (v := ?_) rfl (by kernel_rfl) (by kernel_rfl) (by kernel_rfl) (fun _ _ _ h => h) (Or.inl ⟨by rfl, ?_⟩) (by assumption) ?_
                              rotate_left
                              · intro w hSw
                                (try dsimp only at hSw)
                                go_simp
                                all_goals with_reducible rfl
                              try simp only [Act.put, List.setIfInBounds_toArray, List.set_cons_zero, List.set_cons_succ]
                              refine wpAnyH_take (i := 7) (oi := { dst := some 119, op := Go.Op.move (Go.Operand.tmp 5), type := 3, pos := "ref.go:40", after := #[{ on := 5, ground := Go.Ground.guard }], guard := some (5, true) }) (v := ?_) rfl (by kernel_rfl) (by kernel_rfl) (by kernel_rfl) (fun _ _ _ h => h) (Or.inl ⟨by rfl, ?_⟩) (by assumption) ?_
                              rotate_left
                              · intro w hSw
                                (try dsimp only at hSw)
                                go_simp
                                all_goals with_reducible rfl
                              try simp only [Act.put, List.setIfInBounds_toArray, List.set_cons_zero, List.set_cons_succ]
                              refine wpAnyH_take (i := 8) (oi := { dst := some 120, op := Go.Op.indexAddr 33 (Go.Operand.tmp 118) (Go.Operand.tmp 119), type := 0, pos := "ref.go:40", after := #[{ on := 6, ground := Go.Ground.data }, { on := 7, ground := Go.Ground.data }, { on := 5, ground := Go.Ground.guard }], guard := some (5, true) }) (v := ?_) rfl (by kernel_rfl) (by kernel_rfl) (by kernel_rfl) (fun _ _ _ h => h) (Or.inl ⟨by rfl, ?_⟩) (by assumption) ?_
                              rotate_left
                              · intro w hSw
                                (try dsimp only at hSw)
                                go_simp
                                all_goals with_reducible rfl
                              try simp only [Act.put, List.setIfInBounds_toArray, List.set_cons_zero, List.set_cons_succ]
                              refine wpAnyH_take (i := 9) (oi := { dst := some 121, op := Go.Op.load 41 (Go.Operand.tmp 120), type := 41, pos := "ref.go:40", after := #[{ on := 8, ground := Go.Ground.data }, { on := 5, ground := Go.Ground.guard }], guard := some (5, true) }) (v := ?_) rfl (by kernel_rfl) (by kernel_rfl) (by kernel_rfl) (fun _ _ _ h => h) (Or.inl ⟨by rfl, ?_⟩) (by assumption) ?_
                              rotate_left
                              · intro w hSw
                                refine ex_load_mid (o := { dst := some 121, op := Go.Op.load 41 (Go.Operand.tmp 120), type := 41, pos := "ref.go:40", after := #[{ on := 8, ground := Go.Ground.data }, { on := 5, ground := Go.Ground.guard }], guard := some (5, true) }) rfl ?_ hSw.rx Try.underlying41 rfl sizeOper
                                rfl
                              try simp only [Act.put, List.setIfInBounds_toArray, List.set_cons_zero, List.set_cons_succ]
                              refine wpAnyH_take (i := 10) (oi := { dst := some 122, op := Go.Op.move (Go.Operand.tmp 4), type := 33, pos := "ref.go:40", after := #[{ on := 5, ground := Go.Ground.guard }], guard := some (5, true) }) (v := ?_) rfl (by kernel_rfl) (by kernel_rfl) (by kernel_rfl) (fun _ _ _ h => h) (Or.inl ⟨by rfl, ?_⟩) (by assumption) ?_
                              rotate_left
                              · intro w hSw
                                (try dsimp only at hSw)
                                go_simp
                                all_goals with_reducible rfl
                              try simp only [Act.put, List.setIfInBounds_toArray, List.set_cons_zero, List.set_cons_succ]
                              refine wpAnyH_take (i := 11) (oi := { dst := some 123, op := Go.Op.move (Go.Operand.tmp 9), type := 3, pos := "ref.go:40", after := #[{ on := 5, ground := Go.Ground.guard }], guard := some (5, true) }) (v := ?_) rfl (by kernel_rfl) (by kernel_rfl) (by kernel_rfl) (fun _ _ _ h => h) (Or.inl ⟨by rfl, ?_⟩) (by assumption) ?_
                              rotate_left
                              · intro w hSw
                                (try dsimp only at hSw)
                                go_simp
                                all_goals with_reducible rfl
                              try simp only [Act.put, List.setIfInBounds_toArray, List.set_cons_zero, List.set_cons_succ]
                              refine wpAnyH_take (i := 12) (oi := { dst := some 124, op := Go.Op.indexAddr 33 (Go.Operand.tmp 122) (Go.Operand.tmp 123), type := 0, pos := "ref.go:40", after := #[{ on := 10, ground := Go.Ground.data }, { on := 11, ground := Go.Ground.data }, { on := 5, ground := Go.Ground.guard }], guard := some (5, true) }) (v := ?_) rfl (by kernel_rfl) (by kernel_rfl) (by kernel_rfl) (fun _ _ _ h => h) (Or.inl ⟨by rfl, ?_⟩) (by assumption) ?_
                              rotate_left
                              · intro w hSw
                                (try dsimp only at hSw)
                                go_simp
                                all_goals with_reducible rfl
                              try simp only [Act.put, List.setIfInBounds_toArray, List.set_cons_zero, List.set_cons_succ]
                              refine wpAnyH_take (i := 13) (oi := { dst := some 125, op := Go.Op.load 41 (Go.Operand.tmp 124), type := 41, pos := "ref.go:40", after := #[{ on := 12, ground := Go.Ground.data }, { on := 5, ground := Go.Ground.guard }], guard := some (5, true) }) (v := ?_) rfl (by kernel_rfl) (by kernel_rfl) (by kernel_rfl) (fun _ _ _ h => h) (Or.inl ⟨by rfl, ?_⟩) (by assumption) ?_
                              rotate_left
                              · intro w hSw
                                refine ex_load_mid (o := { dst := some 125, op := Go.Op.load 41 (Go.Operand.tmp 124), type := 41, pos := "ref.go:40", after := #[{ on := 12, ground := Go.Ground.data }, { on := 5, ground := Go.Ground.guard }], guard := some (5, true) }) rfl ?_ hSw.ry Try.underlying41 rfl sizeOper
                                rfl
                              try simp only [Act.put, List.setIfInBounds_toArray, List.set_cons_zero, List.set_cons_succ]
                              refine wpAnyH_ready (rs := [14]) (by kernel_rfl) (by simp) ?_
                              refine AllReadyH.cons (o := { dst := some 126, op := Go.Op.call { callee := Go.Callee.value (Go.Operand.func 17), args := #[Go.Operand.tmp 121, Go.Operand.tmp 125], argTypes := #[41, 41] }, type := 4, pos := "ref.go:40", after := #[{ on := 9, ground := Go.Ground.data }, { on := 13, ground := Go.Ground.data }, { on := 5, ground := Go.Ground.chain }, { on := 5, ground := Go.Ground.guard }], guard := some (5, true) }) rfl (fun K hK => ?_) AllReadyH.nil
                              go_simp
                              refine (ref12_ahead y z _).mono ?_
                              rintro r z1 ⟨rfl, hk⟩
                              rw [HA1.out]
                              try simp only []
                              refine hK.out _ _ (hHeld.keep hk) (fun hHeld => ?_)
                              clear hK K
                              try simp only [Act.put, List.setIfInBounds_toArray, List.set_cons_zero, List.set_cons_succ]
                              refine wpAnyH_take (i := 15) (oi := { dst := some 127, op := Go.Op.unOp Go.UnOp.not 4 (Go.Operand.tmp 126), type := 4, pos := "ref.go:40", after := #[{ on := 14, ground := Go.Ground.data }, { on := 5, ground := Go.Ground.guard }], guard := some (5, true) }) (v := ?_) rfl (by kernel_rfl) (by kernel_rfl) (by kernel_rfl) (fun _ _ _ h => h) (Or.inl ⟨by rfl, ?_⟩) (by assumption) ?_
                              rotate_left
                              · intro w hSw
                                (try dsimp only at hSw)
                                go_simp
                                all_goals with_reducible rfl
                              try simp only [Act.put, List.setIfInBounds_toArray, List.set_cons_zero, List.set_cons_succ]
                              refine wpAnyH_take (i := 16) (oi := { dst := some 128, op := Go.Op.pick (Go.Operand.tmp 117) (Go.Operand.tmp 127) (Go.Operand.const (Go.Value.bool false)), type := 4, pos := "ref.go:40", after := #[{ on := 5, ground := Go.Ground.data }, { on := 15, ground := Go.Ground.data }, { on := 1, ground := Go.Ground.guard }], guard := some (1, false) }) (v := ?_) rfl (by kernel_rfl) (by kernel_rfl) (by kernel_rfl) (fun _ _ _ h => h) (Or.inl ⟨by rfl, ?_⟩) (by assumption) ?_
                              rotate_left
                              · intro w hSw
                                (try dsimp only at hSw)
                                go_simp
                                all_goals with_reducible rfl
                              try simp only [Act.put, List.setIfInBounds_toArray, List.set_cons_zero, List.set_cons_succ]
                              refine wpAnyH_take (i := 17) (oi := { dst := some 129, op := Go.Op.move (Go.Operand.tmp 128), type := 4, pos := "ref.go:40", after := #[{ on := 16, ground := Go.Ground.data }, { on := 14, ground := Go.Ground.chain }, { on := 1, ground := Go.Ground.guard }], guard := some (1, false) }) (v := ?_) rfl (by kernel_rfl) (by kernel_rfl) (by kernel_rfl) (fun _ _ _ h => h) (Or.inl ⟨by rfl, ?_⟩) (by assumption) ?_
                              rotate_left
                              · intro w hSw
                                (try dsimp only at hSw)
                                go_simp
                                all_goals with_reducible rfl
                              try simp only [Act.put, List.setIfInBounds_toArray, List.set_cons_zero, List.set_cons_succ]
                              refine wpAnyH_take (i := 18) (oi := { dst := some 130, op := Go.Op.move (Go.Operand.tmp 4), type := 33, pos := "ref.go:40", after := #[{ on := 17, ground := Go.Ground.guard }], guard := some (17, true) }) (v := _) rfl (by kernel_rfl) (by kernel_rfl) (by kernel_rfl) (fun _ _ _ h => h) (Or.inr ⟨by rfl, rfl⟩) (by assumption) ?_
                              try simp only [Act.put, List.setIfInBounds_toArray, List.set_cons_zero, List.set_cons_succ]
                              refine wpAnyH_take (i := 19) (oi := { dst := some 131, op := Go.Op.move (Go.Operand.tmp 9), type := 3, pos := "ref.go:40", after := #[{ on := 17, ground := Go.Ground.guard }], guard := some (17, true) }) (v := _) rfl (by kernel_rfl) (by kernel_rfl) (by kernel_rfl) (fun _ _ _ h => h) (Or.inr ⟨by rfl, rfl⟩) (by assumption) ?_
                              try simp only [Act.put, List.setIfInBounds_toArray, List.set_cons_zero, List.set_cons_succ]
                              refine wpAnyH_take (i := 20) (oi := { dst := some 132, op := Go.Op.indexAddr 33 (Go.Operand.tmp 130) (Go.Operand.tmp 131), type := 0, pos := "ref.go:40", after := #[{ on := 18, ground := Go.Ground.data }, { on := 19, ground := Go.Ground.data }, { on := 17, ground := Go.Ground.guard }], guard := some (17, true) }) (v := _) rfl (by kernel_rfl) (by kernel_rfl) (by kernel_rfl) (fun _ _ _ h => h) (Or.inr ⟨by rfl, rfl⟩) (by assumption) ?_
                              try simp only [Act.put, List.setIfInBounds_toArray, List.set_cons_zero, List.set_cons_succ]
                              refine wpAnyH_take (i := 21) (oi := { dst := some 133, op := Go.Op.load 41 (Go.Operand.tmp 132), type := 41, pos := "ref.go:40", after := #[{ on := 20, ground := Go.Ground.data }, { on := 17, ground := Go.Ground.guard }], guard := some (17, true) }) (v := _) rfl (by kernel_rfl) (by kernel_rfl) (by kernel_rfl) (fun _ _ _ h => h) (Or.inr ⟨by rfl, rfl⟩) (by assumption) ?_
                              try simp only [Act.put, List.setIfInBounds_toArray, List.set_cons_zero, List.set_cons_succ]
                              refine wpAnyH_take (i := 22) (oi := { dst := some 134, op := Go.Op.move (Go.Operand.tmp 4), type := 33, pos := "ref.go:40", after := #[{ on := 17, ground := Go.Ground.guard }], guard := some (17, true) }) (v := _) rfl (by kernel_rfl) (by kernel_rfl) (by kernel_rfl) (fun _ _ _ h => h) (Or.inr ⟨by rfl, rfl⟩) (by assumption) ?_
                              try simp only [Act.put, List.setIfInBounds_toArray, List.set_cons_zero, List.set_cons_succ]
                              refine wpAnyH_take (i := 23) (oi := { dst := some 135, op := Go.Op.move (Go.Operand.tmp 5), type := 3, pos := "ref.go:40", after := #[{ on := 17, ground := Go.Ground.guard }], guard := some (17, true) }) (v := _) rfl (by kernel_rfl) (by kernel_rfl) (by kernel_rfl) (fun _ _ _ h => h) (Or.inr ⟨by rfl, rfl⟩) (by assumption) ?_
                              try simp only [Act.put, List.setIfInBounds_toArray, List.set_cons_zero, List.set_cons_succ]
                              refine wpAnyH_take (i := 24) (oi := { dst := some 136, op := Go.Op.indexAddr 33 (Go.Operand.tmp 134) (Go.Operand.tmp 135), type := 0, pos := "ref.go:40", after := #[{ on := 22, ground := Go.Ground.data }, { on := 23, ground := Go.Ground.data }, { on := 17, ground := Go.Ground.guard }], guard := some (17, true) }) (v := _) rfl (by kernel_rfl) (by kernel_rfl) (by kernel_rfl) (fun _ _ _ h => h) (Or.inr ⟨by rfl, rfl⟩) (by assumption) ?_
                              try simp only [Act.put, List.setIfInBounds_toArray, List.set_cons_zero, List.set_cons_succ]
                              refine wpAnyH_take (i := 25) (oi := { dst := some 137, op := Go.Op.load 41 (Go.Operand.tmp 136), type := 41, pos := "ref.go:40", after := #[{ on := 24, ground := Go.Ground.data }, { on := 17, ground := Go.Ground.guard }], guard := some (17, true) }) (v := _) rfl (by kernel_rfl) (by kernel_rfl) (by kernel_rfl) (fun _ _ _ h => h) (Or.inr ⟨by rfl, rfl⟩) (by assumption) ?_
                              try simp only [Act.put, List.setIfInBounds_toArray, List.set_cons_zero, List.set_cons_succ]
                              refine wpAnyH_take (i := 26) (oi := { dst := some 138, op := Go.Op.call { callee := Go.Callee.value (Go.Operand.func 17), args := #[Go.Operand.tmp 133, Go.Operand.tmp 137], argTypes := #[41, 41] }, type := 4, pos := "ref.go:40", after := #[{ on := 21, ground := Go.Ground.data }, { on := 25, ground := Go.Ground.data }, { on := 17, ground := Go.Ground.chain }, { on := 17, ground := Go.Ground.guard }], guard := some (17, true) }) (v := _) rfl (by kernel_rfl) (by kernel_rfl) (by kernel_rfl) (fun _ _ _ h => h) (Or.inr ⟨by rfl, rfl⟩) (by assumption) ?_
                              try simp only [Act.put, List.setIfInBounds_toArray, List.set_cons_zero, List.set_cons_succ]
                              refine wpAnyH_take (i := 27) (oi := { dst := some 139, op := Go.Op.unOp Go.UnOp.not 4 (Go.Operand.tmp 138), type := 4, pos := "ref.go:40", after := #[{ on := 26, ground := Go.Ground.data }, { on := 17, ground := Go.Ground.guard }], guard := some (17, true) }) (v := _) rfl (by kernel_rfl) (by kernel_rfl) (by kernel_rfl) (fun _ _ _ h => h) (Or.inr ⟨by rfl, rfl⟩) (by assumption) ?_
                              try simp only [Act.put, List.setIfInBounds_toArray, List.set_cons_zero, List.set_cons_succ]
                              refine wpAnyH_take (i := 28) (oi := { dst := some 140, op := Go.Op.pick (Go.Operand.tmp 129) (Go.Operand.tmp 139) (Go.Operand.const (Go.Value.bool false)), type := 4, pos := "ref.go:40", after := #[{ on := 17, ground := Go.Ground.data }, { on := 27, ground := Go.Ground.data }, { on := 1, ground := Go.Ground.guard }], guard := some (1, false) }) (v := ?_) rfl (by kernel_rfl) (by kernel_rfl) (by kernel_rfl) (fun _ _ _ h => h) (Or.inl ⟨by rfl, ?_⟩) (by assumption) ?_
                              rotate_left
                              · intro w hSw
                                (try dsimp only at hSw)
                                go_simp
                                all_goals with_reducible rfl
                              try simp only [Act.put, List.setIfInBounds_toArray, List.set_cons_zero, List.set_cons_succ]
                              refine wpAnyH_take (i := 29) (oi := { dst := some 141, op := Go.Op.pick (Go.Operand.tmp 113) (Go.Operand.const (Go.Value.bool true)) (Go.Operand.tmp 140), type := 4, pos := "ref.go:40", after := #[{ on := 1, ground := Go.Ground.data }, { on := 28, ground := Go.Ground.data }], guard := none }) (v := ?_) rfl (by kernel_rfl) (by kernel_rfl) (by kernel_rfl) (fun _ _ _ h => h) (Or.inl ⟨by rfl, ?_⟩) (by assumption) ?_
                              rotate_left
                              · intro w hSw
                                (try dsimp only at hSw)
                                go_simp
                                all_goals with_reducible rfl
                              try simp only [Act.put, List.setIfInBounds_toArray, List.set_cons_zero, List.set_cons_succ]
                              refine wpAnyH_take (i := 30) (oi := { dst := some 8, op := Go.Op.assign (Go.Operand.tmp 141), type := 4, pos := "ref.go:40", after := #[{ on := 29, ground := Go.Ground.data }, { on := 26, ground := Go.Ground.chain }, { on := 0, ground := Go.Ground.phase }, { on := 1, ground := Go.Ground.phase }, { on := 2, ground := Go.Ground.phase }, { on := 3, ground := Go.Ground.phase }, { on := 4, ground := Go.Ground.phase }, { on := 5, ground := Go.Ground.phase }, { on := 6, ground := Go.Ground.phase }, { on := 7, ground := Go.Ground.phase }, { on := 8, ground := Go.Ground.phase }, { on := 9, ground := Go.Ground.phase }, { on := 10, ground := Go.Ground.phase }, { on := 11, ground := Go.Ground.phase }, { on := 12, ground := Go.Ground.phase }, { on := 13, ground := Go.Ground.phase }, { on := 14, ground := Go.Ground.phase }, { on := 15, ground := Go.Ground.phase }, { on := 16, ground := Go.Ground.phase }, { on := 17, ground := Go.Ground.phase }, { on := 18, ground := Go.Ground.phase }, { on := 19, ground := Go.Ground.phase }, { on := 20, ground := Go.Ground.phase }, { on := 21, ground := Go.Ground.phase }, { on := 22, ground := Go.Ground.phase }, { on := 23, ground := Go.Ground.phase }, { on := 24, ground := Go.Ground.phase }, { on := 25, ground := Go.Ground.phase }, { on := 26, ground := Go.Ground.phase }, { on := 27, ground := Go.Ground.phase }, { on := 28, ground := Go.Ground.phase }, { on := 29, ground := Go.Ground.phase }], guard := none }) (v := ?_) rfl (by kernel_rfl) (by kernel_rfl) (by kernel_rfl) (fun _ _ _ h => h) (Or.inl ⟨by rfl, ?_⟩) (by assumption) ?_
                              rotate_left
                              · intro w hSw
                                (try dsimp only at hSw)
                                go_simp
                                all_goals with_reducible rfl
                              try simp only [Act.put, List.setIfInBounds_toArray, List.set_cons_zero, List.set_cons_succ]
                              refine wpAnyH_done (by kernel_rfl) ?_ _
                              have HZ := Lib.hid hHeld
                              clear hHeld
                              go_wp2_with fail
                              go_roundg (os.length - (k + 1))
                              case measure => omega
                              case rel => exact ⟨k + 1, by omega, rfl, by go_num, by rw [HON.out], HZ.out.hr⟩
                            | false =>
                              have HA1 := Lib.hid h1
                              cases h2 : aheadP z y with
                              | true =>
                                have HA2 := Lib.hid h2
                                have HON : Hid (overTo os n (k + 1) = false) := Lib.hid (by rw [HOT2.out, h1, h2]; rfl)
                                clear h1 h2
                                refine wp_region_held_drew (S := (fun w' => OwS 28 w w' rb sb (.slice (some ⟨b, o, none⟩) os.length c3) os zs b o n k y z)) (by kernel_rfl) (HOV.out.keep (Keep.refl [] wr).drew) (fun hHeld => ?_)
                                refine wpAnyH_take (i := 0) (oi := { dst := some 112, op := Go.Op.move (Go.Operand.tmp 8), type := 4, pos := "ref.go:40", after := #[], guard := none }) (v := ?_) rfl (by kernel_rfl) (by kernel_rfl) (by kernel_rfl) (fun _ _ _ h => h) (Or.inl ⟨by rfl, ?_⟩) (by assumption) ?_
                                rotate_left
                                · intro w hSw
                                  (try dsimp only at hSw)
                                  go_simp
                                  all_goals with_reducible rfl
                                try simp only [Act.put, List.setIfInBounds_toArray, List.set_cons_zero, List.set_cons_succ]
                                refine wpAnyH_take (i := 1) (oi := { dst := some 113, op := Go.Op.move (Go.Operand.tmp 112), type := 4, pos := "ref.go:40", after := #[{ on := 0, ground := Go.Ground.data }], guard := none }) (v := ?_) rfl (by kernel_rfl) (by kernel_rfl) (by kernel_rfl) (fun _ _ _ h => h) (Or.inl ⟨by rfl, ?_⟩) (by assumption) ?_
                                rotate_left
                                · intro w hSw
                                  (try dsimp only at hSw)
                                  go_simp
                                  all_goals with_reducible rfl
                                try simp only [Act.put, List.setIfInBounds_toArray, List.set_cons_zero, List.set_cons_succ]
                                refine wpAnyH_take (i := 2) (oi := { dst := some 114, op := Go.Op.move (Go.Operand.tmp 9), type := 3, pos := "ref.go:40", after := #[{ on := 1, ground := Go.Ground.guard }], guard := some (1, false) }) (v := ?_) rfl (by kernel_rfl) (by kernel_rfl) (by kernel_rfl) (fun _ _ _ h => h) (Or.inl ⟨by rfl, ?_⟩) (by assumption) ?_
                                rotate_left
                                · intro w hSw
                                  (try dsimp only at hSw)
                                  go_simp
                                  all_goals with_reducible rfl
                                try simp only [Act.put, List.setIfInBounds_toArray, List.set_cons_zero, List.set_cons_succ]
                                refine wpAnyH_take (i := 3) (oi := { dst := some 115, op := Go.Op.move (Go.Operand.tmp 5), type := 3, pos := "ref.go:40", after := #[{ on := 1, ground := Go.Ground.guard }], guard := some (1, false) }) (v := ?_) rfl (by kernel_rfl) (by kernel_rfl) (by kernel_rfl) (fun _ _ _ h => h) (Or.inl ⟨by rfl, ?_⟩) (by assumption) ?_
                                rotate_left
                                · intro w hSw
                                  (try dsimp only at hSw)
                                  go_simp
                                  all_goals with_reducible rfl
                                try simp only [Act.put, List.setIfInBounds_toArray, List.set_cons_zero, List.set_cons_succ]
                                refine wpAnyH_take (i := 4) (oi := { dst := some 116, op := Go.Op.binOp Go.BinOp.neq 3 (Go.Operand.tmp 114) (Go.Operand.tmp 115) 3, type := 4, pos := "ref.go:40", after := #[{ on := 2, ground := Go.Ground.data }, { on := 3, ground := Go.Ground.data }, { on := 1, ground := Go.Ground.guard }], guard := some (1, false) }) (v := ?_) rfl (by kernel_rfl) (by kernel_rfl) (by kernel_rfl) (fun _ _ _ h => h) (Or.inl ⟨by rfl, ?_⟩) (by assumption) ?_
                                rotate_left
                                · intro w hSw
                                  (try dsimp only at hSw)
                                  go_simp
                                  all_goals with_reducible rfl
                                try simp only [Act.put, List.setIfInBounds_toArray, List.set_cons_zero, List.set_cons_succ]
                                refine wpAnyH_take (i := 5) (oi := { dst := some 117, op := Go.Op.move (Go.Operand.tmp 116), type := 4, pos := "ref.go:40", after := #[{ on := 4, ground := Go.Ground.data }, { on := 1, ground := Go.Ground.chain }, { on := 1, ground := Go.Ground.guard }], guard := some (1, false) }) (v := ?_) rfl (by kernel_rfl) (by kernel_rfl) (by kernel_rfl) (fun _ _ _ h => h) (Or.inl ⟨by rfl, ?_⟩) (by assumption) ?_
                                rotate_left
                                · intro w hSw
                                  (try dsimp only at hSw)
                                  go_simp
                                  all_goals with_reducible rfl
                                try simp only [Act.put, List.setIfInBounds_toArray, List.set_cons_zero, List.set_cons_succ]
                                refine wpAnyH_take (i := 6) (oi := { dst := some 118, op := Go.Op.move (Go.Operand.tmp 4), type := 33, pos := "ref.go:40", after := #[{ on := 5, ground := Go.Ground.guard }], guard := some (5, true) }) (v := ?_) rfl (by kernel_rfl) (by kernel_rfl) (by kernel_rfl) (fun _ _ _ h => h) (Or.inl ⟨by rfl, ?_⟩) (by assumption) ?_
                                rotate_left
                                · intro w hSw
                                  (try dsimp only at hSw)
                                  go_simp
                                  all_goals with_reducible rfl
                                try simp only [Act.put, List.setIfInBounds_toArray, List.set_cons_zero, List.set_cons_succ]
                                refine wpAnyH_take (i := 7) (oi := { dst := some 119, op := Go.Op.move (Go.Operand.tmp 5), type := 3, pos := "ref.go:40", after := #[{ on := 5, ground := Go.Ground.guard }], guard := some (5, true) }) (v := ?_) rfl (by kernel_rfl) (by kernel_rfl) (by kernel_rfl) (fun _ _ _ h => h) (Or.inl ⟨by rfl, ?_⟩) (by assumption) ?_
                                rotate_left
                                · intro w hSw
                                  (try dsimp only at hSw)
                                  go_simp
                                  all_goals with_reducible rfl
                                try simp only [Act.put, List.setIfInBounds_toArray, List.set_cons_zero, List.set_cons_succ]
                                refine wpAnyH_take (i := 8) (oi := { dst := some 120, op := Go.Op.indexAddr 33 (Go.Operand.tmp 118) (Go.Operand.tmp 119), type := 0, pos := "ref.go:40", after := #[{ on := 6, ground := Go.Ground.data }, { on := 7, ground := Go.Ground.data }, { on := 5, ground := Go.Ground.guard }], guard := some (5, true) }) (v := ?_) rfl (by kernel_rfl) (by kernel_rfl) (by kernel_rfl) (fun _ _ _ h => h) (Or.inl ⟨by rfl, ?_⟩) (by assumption) ?_
                                rotate_left
                                · intro w hSw
                                  (try dsimp only at hSw)
                                  go_simp
                                  all_goals with_reducible rfl
                                try simp only [Act.put, List.setIfInBounds_toArray, List.set_cons_zero, List.set_cons_succ]
                                refine wpAnyH_take (i := 9) (oi := { dst := some 121, op := Go.Op.load 41 (Go.Operand.tmp 120), type := 41, pos := "ref.go:40", after := #[{ on := 8, ground := Go.Ground.data }, { on := 5, ground := Go.Ground.guard }], guard := some (5, true) }) (v := ?_) rfl (by kernel_rfl) (by kernel_rfl) (by kernel_rfl) (fun _ _ _ h => h) (Or.inl ⟨by rfl, ?_⟩) (by assumption) ?_
                                rotate_left
                                · intro w hSw
                                  refine ex_load_mid (o := { dst := some 121, op := Go.Op.load 41 (Go.Operand.tmp 120), type := 41, pos := "ref.go:40", after := #[{ on := 8, ground := Go.Ground.data }, { on := 5, ground := Go.Ground.guard }], guard := some (5, true) }) rfl ?_ hSw.rx Try.underlying41 rfl sizeOper
                                  rfl
                                try simp only [Act.put, List.setIfInBounds_toArray, List.set_cons_zero, List.set_cons_succ]
                                refine wpAnyH_take (i := 10) (oi := { dst := some 122, op := Go.Op.move (Go.Operand.tmp 4), type := 33, pos := "ref.go:40", after := #[{ on := 5, ground := Go.Ground.guard }], guard := some (5, true) }) (v := ?_) rfl (by kernel_rfl) (by kernel_rfl) (by kernel_rfl) (fun _ _ _ h => h) (Or.inl ⟨by rfl, ?_⟩) (by assumption) ?_
                                rotate_left
                                · intro w hSw
                                  (try dsimp only at hSw)
                                  go_simp
                                  all_goals with_reducible rfl
                                try simp only [Act.put, List.setIfInBounds_toArray, List.set_cons_zero, List.set_cons_succ]
                                refine wpAnyH_take (i := 11) (oi := { dst := some 123, op := Go.Op.move (Go.Operand.tmp 9), type := 3, pos := "ref.go:40", after := #[{ on := 5, ground := Go.Ground.guard }], guard := some (5, true) }) (v := ?_) rfl (by kernel_rfl) (by kernel_rfl) (by kernel_rfl) (fun _ _ _ h => h) (Or.inl ⟨by rfl, ?_⟩) (by assumption) ?_
                                rotate_left
                                · intro w hSw
                                  (try dsimp only at hSw)
                                  go_simp
                                  all_goals with_reducible rfl
                                try simp only [Act.put, List.setIfInBounds_toArray, List.set_cons_zero, List.set_cons_succ]
                                refine wpAnyH_take (i := 12) (oi := { dst := some 124, op := Go.Op.indexAddr 33 (Go.Operand.tmp 122) (Go.Operand.tmp 123), type := 0, pos := "ref.go:40", after := #[{ on := 10, ground := Go.Ground.data }, { on := 11, ground := Go.Ground.data }, { on := 5, ground := Go.Ground.guard }], guard := some (5, true) }) (v := ?_) rfl (by kernel_rfl) (by kernel_rfl) (by kernel_rfl) (fun _ _ _ h => h) (Or.inl ⟨by rfl, ?_⟩) (by assumption) ?_
                                rotate_left
                                · intro w hSw
                                  (try dsimp only at hSw)
                                  go_simp
                                  all_goals with_reducible rfl
                                try simp only [Act.put, List.setIfInBounds_toArray, List.set_cons_zero, List.set_cons_succ]
                                refine wpAnyH_take (i := 13) (oi := { dst := some 125, op := Go.Op.load 41 (Go.Operand.tmp 124), type := 41, pos := "ref.go:40", after := #[{ on := 12, ground := Go.Ground.data }, { on := 5, ground := Go.Ground.guard }], guard := some (5, true) }) (v := ?_) rfl (by kernel_rfl) (by kernel_rfl) (by kernel_rfl) (fun _ _ _ h => h) (Or.inl ⟨by rfl, ?_⟩) (by assumption) ?_
                                rotate_left
                                · intro w hSw
                                  refine ex_load_mid (o := { dst := some 125, op := Go.Op.load 41 (Go.Operand.tmp 124), type := 41, pos := "ref.go:40", after := #[{ on := 12, ground := Go.Ground.data }, { on := 5, ground := Go.Ground.guard }], guard := some (5, true) }) rfl ?_ hSw.ry Try.underlying41 rfl sizeOper
                                  rfl
                                try simp only [Act.put, List.setIfInBounds_toArray, List.set_cons_zero, List.set_cons_succ]
                                refine wpAnyH_ready (rs := [14]) (by kernel_rfl) (by simp) ?_
                                refine AllReadyH.cons (o := { dst := some 126, op := Go.Op.call { callee := Go.Callee.value (Go.Operand.func 17), args := #[Go.Operand.tmp 121, Go.Operand.tmp 125], argTypes := #[41, 41] }, type := 4, pos := "ref.go:40", after := #[{ on := 9, ground := Go.Ground.data }, { on := 13, ground := Go.Ground.data }, { on := 5, ground := Go.Ground.chain }, { on := 5, ground := Go.Ground.guard }], guard := some (5, true) }) rfl (fun K hK => ?_) AllReadyH.nil
                                go_simp
                                refine (ref12_ahead y z _).mono ?_
                                rintro r z1 ⟨rfl, hk⟩
                                rw [HA1.out]
                                try simp only []
                                refine hK.out _ _ (hHeld.keep hk) (fun hHeld => ?_)
                                clear hK K
                                try simp only [Act.put, List.setIfInBounds_toArray, List.set_cons_zero, List.set_cons_succ]
                                refine wpAnyH_take (i := 15) (oi := { dst := some 127, op := Go.Op.unOp Go.UnOp.not 4 (Go.Operand.tmp 126), type := 4, pos := "ref.go:40", after := #[{ on := 14, ground := Go.Ground.data }, { on := 5, ground := Go.Ground.guard }], guard := some (5, true) }) (v := ?_) rfl (by kernel_rfl) (by kernel_rfl) (by kernel_rfl) (fun _ _ _ h => h) (Or.inl ⟨by rfl, ?_⟩) (by assumption) ?_
                                rotate_left
                                · intro w hSw
                                  (try dsimp only at hSw)
                                  go_simp
                                  all_goals with_reducible rfl
                                try simp only [Act.put, List.setIfInBounds_toArray, List.set_cons_zero, List.set_cons_succ]
                                refine wpAnyH_take (i := 16) (oi := { dst := some 128, op := Go.Op.pick (Go.Operand.tmp 117) (Go.Operand.tmp 127) (Go.Operand.const (Go.Value.bool false)), type := 4, pos := "ref.go:40", after := #[{ on := 5, ground := Go.Ground.data }, { on := 15, ground := Go.Ground.data }, { on := 1, ground := Go.Ground.guard }], guard := some (1, false) }) (v := ?_) rfl (by kernel_rfl) (by kernel_rfl) (by kernel_rfl) (fun _ _ _ h => h) (Or.inl ⟨by rfl, ?_⟩) (by assumption) ?_
                                rotate_left
                                · intro w hSw
                                  (try dsimp only at hSw)
                                  go_simp
                                  all_goals with_reducible rfl
                                try simp only [Act.put, List.setIfInBounds_toArray, List.set_cons_zero, List.set_cons_succ]
                                refine wpAnyH_take (i := 17) (oi := { dst := some 129, op := Go.Op.move (Go.Operand.tmp 128), type := 4, pos := "ref.go:40", after := #[{ on := 16, ground := Go.Ground.data }, { on := 14, ground := Go.Ground.chain }, { on := 1, ground := Go.Ground.guard }], guard := some (1, false) }) (v := ?_) rfl (by kernel_rfl) (by kernel_rfl) (by kernel_rfl) (fun _ _ _ h => h) (Or.inl ⟨by rfl, ?_⟩) (by assumption) ?_
                                rotate_left
                                · intro w hSw
                                  (try dsimp only at hSw)
                                  go_simp
                                  all_goals with_reducible rfl
                                try simp only [Act.put, List.setIfInBounds_toArray, List.set_cons_zero, List.set_cons_succ]
                                refine wpAnyH_take (i := 18) (oi := { dst := some 130, op := Go.Op.move (Go.Operand.tmp 4), type := 33, pos := "ref.go:40", after := #[{ on := 17, ground := Go.Ground.guard }], guard := some (17, true) }) (v := ?_) rfl (by kernel_rfl) (by kernel_rfl) (by kernel_rfl) (fun _ _ _ h => h) (Or.inl ⟨by rfl, ?_⟩) (by assumption) ?_
                                rotate_left
                                · intro w hSw
                                  (try dsimp only at hSw)
                                  go_simp
                                  all_goals with_reducible rfl
                                try simp only [Act.put, List.setIfInBounds_toArray, List.set_cons_zero, List.set_cons_succ]
                                refine wpAnyH_take (i := 19) (oi := { dst := some 131, op := Go.Op.move (Go.Operand.tmp 9), type := 3, pos := "ref.go:40", after := #[{ on := 17, ground := Go.Ground.guard }], guard := some (17, true) }) (v := ?_) rfl (by kernel_rfl) (by kernel_rfl) (by kernel_rfl) (fun _ _ _ h => h) (Or.inl ⟨by rfl, ?_⟩) (by assumption) ?_
                                rotate_left
                                · intro w hSw
                                  (try dsimp only at hSw)
                                  go_simp
                                  all_goals with_reducible rfl
                                try simp only [Act.put, List.setIfInBounds_toArray, List.set_cons_zero, List.set_cons_succ]
                                refine wpAnyH_take (i := 20) (oi := { dst := some 132, op := Go.Op.indexAddr 33 (Go.Operand.tmp 130) (Go.Operand.tmp 131), type := 0, pos := "ref.go:40", after := #[{ on := 18, ground := Go.Ground.data }, { on := 19, ground := Go.Ground.data }, { on := 17, ground := Go.Ground.guard }], guard := some (17, true) }) (v := ?_) rfl (by kernel_rfl) (by kernel_rfl) (by kernel_rfl) (fun _ _ _ h => h) (Or.inl ⟨by rfl, ?_⟩) (by assumption) ?_
                                rotate_left
                                · intro w hSw
                                  (try dsimp only at hSw)
                                  go_simp
                                  all_goals with_reducible rfl
                                try simp only [Act.put, List.setIfInBounds_toArray, List.set_cons_zero, List.set_cons_succ]
                                refine wpAnyH_take (i := 21) (oi := { dst := some 133, op := Go.Op.load 41 (Go.Operand.tmp 132), type := 41, pos := "ref.go:40", after := #[{ on := 20, ground := Go.Ground.data }, { on := 17, ground := Go.Ground.guard }], guard := some (17, true) }) (v := ?_) rfl (by kernel_rfl) (by kernel_rfl) (by kernel_rfl) (fun _ _ _ h => h) (Or.inl ⟨by rfl, ?_⟩) (by assumption) ?_
                                rotate_left
                                · intro w hSw
                                  refine ex_load_mid (o := { dst := some 133, op := Go.Op.load 41 (Go.Operand.tmp 132), type := 41, pos := "ref.go:40", after := #[{ on := 20, ground := Go.Ground.data }, { on := 17, ground := Go.Ground.guard }], guard := some (17, true) }) rfl ?_ hSw.ry Try.underlying41 rfl sizeOper
                                  rfl
                                try simp only [Act.put, List.setIfInBounds_toArray, List.set_cons_zero, List.set_cons_succ]
                                refine wpAnyH_take (i := 22) (oi := { dst := some 134, op := Go.Op.move (Go.Operand.tmp 4), type := 33, pos := "ref.go:40", after := #[{ on := 17, ground := Go.Ground.guard }], guard := some (17, true) }) (v := ?_) rfl (by kernel_rfl) (by kernel_rfl) (by kernel_rfl) (fun _ _ _ h => h) (Or.inl ⟨by rfl, ?_⟩) (by assumption) ?_
                                rotate_left
                                · intro w hSw
                                  (try dsimp only at hSw)
                                  go_simp
                                  all_goals with_reducible rfl
                                try simp only [Act.put, List.setIfInBounds_toArray, List.set_cons_zero, List.set_cons_succ]
                                refine wpAnyH_take (i := 23) (oi := { dst := some 135, op := Go.Op.move (Go.Operand.tmp 5), type := 3, pos := "ref.go:40", after := #[{ on := 17, ground := Go.Ground.guard }], guard := some (17, true) }) (v := ?_) rfl (by kernel_rfl) (by kernel_rfl) (by kernel_rfl) (fun _ _ _ h => h) (Or.inl ⟨by rfl, ?_⟩) (by assumption) ?_
                                rotate_left
                                · intro w hSw
                                  (try dsimp only at hSw)
                                  go_simp
                                  all_goals with_reducible rfl
                                try simp only [Act.put, List.setIfInBounds_toArray, List.set_cons_zero, List.set_cons_succ]
                                refine wpAnyH_take (i := 24) (oi := { dst := some 136, op := Go.Op.indexAddr 33 (Go.Operand.tmp 134) (Go.Operand.tmp 135), type := 0, pos := "ref.go:40", after := #[{ on := 22, ground := Go.Ground.data }, { on := 23, ground := Go.Ground.data }, { on := 17, ground := Go.Ground.guard }], guard := some (17, true) }) (v := ?_) rfl (by kernel_rfl) (by kernel_rfl) (by kernel_rfl) (fun _ _ _ h => h) (Or.inl ⟨by rfl, ?_⟩) (by assumption) ?_
                                rotate_left
                                · intro w hSw
                                  (try dsimp only at hSw)
                                  go_simp
                                  all_goals with_reducible rfl
                                try simp only [Act.put, List.setIfInBounds_toArray, List.set_cons_zero, List.set_cons_succ]
                                refine wpAnyH_take (i := 25) (oi := { dst := some 137, op := Go.Op.load 41 (Go.Operand.tmp 136), type := 41, pos := "ref.go:40", after := #[{ on := 24, ground := Go.Ground.data }, { on := 17, ground := Go.Ground.guard }], guard := some (17, true) }) (v := ?_) rfl (by kernel_rfl) (by kernel_rfl) (by kernel_rfl) (fun _ _ _ h => h) (Or.inl ⟨by rfl, ?_⟩) (by assumption) ?_
                                rotate_left
                                · intro w hSw
                                  refine ex_load_mid (o := { dst := some 137, op := Go.Op.load 41 (Go.Operand.tmp 136), type := 41, pos := "ref.go:40", after := #[{ on := 24, ground := Go.Ground.data }, { on := 17, ground := Go.Ground.guard }], guard := some (17, true) }) rfl ?_ hSw.rx Try.underlying41 rfl sizeOper
                                  rfl
                                try simp only [Act.put, List.setIfInBounds_toArray, List.set_cons_zero, List.set_cons_succ]
                                refine wpAnyH_ready (rs := [26]) (by kernel_rfl) (by simp) ?_
                                refine AllReadyH.cons (o := { dst := some 138, op := Go.Op.call { callee := Go.Callee.value (Go.Operand.func 17), args := #[Go.Operand.tmp 133, Go.Operand.tmp 137], argTypes := #[41, 41] }, type := 4, pos := "ref.go:40", after := #[{ on := 21, ground := Go.Ground.data }, { on := 25, ground := Go.Ground.data }, { on := 17, ground := Go.Ground.chain }, { on := 17, ground := Go.Ground.guard }], guard := some (17, true) }) rfl (fun K hK => ?_) AllReadyH.nil
                                go_simp
                                refine (ref12_ahead z y _).mono ?_
                                rintro r z2 ⟨rfl, hk2⟩
                                rw [HA2.out]
                                try simp only []
                                refine hK.out _ _ (hHeld.keep hk2) (fun hHeld => ?_)
                                clear hK K
                                try simp only [Act.put, List.setIfInBounds_toArray, List.set_cons_zero, List.set_cons_succ]
                                refine wpAnyH_take (i := 27) (oi := { dst := some 139, op := Go.Op.unOp Go.UnOp.not 4 (Go.Operand.tmp 138), type := 4, pos := "ref.go:40", after := #[{ on := 26, ground := Go.Ground.data }, { on := 17, ground := Go.Ground.guard }], guard := some (17, true) }) (v := ?_) rfl (by kernel_rfl) (by kernel_rfl) (by kernel_rfl) (fun _ _ _ h => h) (Or.inl ⟨by rfl, ?_⟩) (by assumption) ?_
                                rotate_left
                                · intro w hSw
                                  (try dsimp only at hSw)
                                  go_simp
                                  all_goals with_reducible rfl
                                try simp only [Act.put, List.setIfInBounds_toArray, List.set_cons_zero, List.set_cons_succ]
                                refine wpAnyH_take (i := 28) (oi := { dst := some 140, op := Go.Op.pick (Go.Operand.tmp 129) (Go.Operand.tmp 139) (Go.Operand.const (Go.Value.bool false)), type := 4, pos := "ref.go:40", after := #[{ on := 17, ground := Go.Ground.data }, { on := 27, ground := Go.Ground.data }, { on := 1, ground := Go.Ground.guard }], guard := some (1, false) }) (v := ?_) rfl (by kernel_rfl) (by kernel_rfl) (by kernel_rfl) (fun _ _ _ h => h) (Or.inl ⟨by rfl, ?_⟩) (by assumption) ?_
                                rotate_left
                                · intro w hSw
                                  (try dsimp only at hSw)
                                  go_simp
                                  all_goals with_reducible rfl
                                try simp only [Act.put, List.setIfInBounds_toArray, List.set_cons_zero, List.set_cons_succ]
                                refine wpAnyH_take (i := 29) (oi := { dst := some 141, op := Go.Op.pick (Go.Operand.tmp 113) (Go.Operand.const (Go.Value.bool true)) (Go.Operand.tmp 140), type := 4, pos := "ref.go:40", after := #[{ on := 1, ground := Go.Ground.data }, { on := 28, ground := Go.Ground.data }], guard := none }) (v := ?_) rfl (by kernel_rfl) (by kernel_rfl) (by kernel_rfl) (fun _ _ _ h => h) (Or.inl ⟨by rfl, ?_⟩) (by assumption) ?_
                                rotate_left
                                · intro w hSw
                                  (try dsimp only at hSw)
                                  go_simp
                                  all_goals with_reducible rfl
                                try simp only [Act.put, List.setIfInBounds_toArray, List.set_cons_zero, List.set_cons_succ]
                                refine wpAnyH_take (i := 30) (oi := { dst := some 8, op := Go.Op.assign (Go.Operand.tmp 141), type := 4, pos := "ref.go:40", after := #[{ on := 29, ground := Go.Ground.data }, { on := 26, ground := Go.Ground.chain }, { on := 0, ground := Go.Ground.phase }, { on := 1, ground := Go.Ground.phase }, { on := 2, ground := Go.Ground.phase }, { on := 3, ground := Go.Ground.phase }, { on := 4, ground := Go.Ground.phase }, { on := 5, ground := Go.Ground.phase }, { on := 6, ground := Go.Ground.phase }, { on := 7, ground := Go.Ground.phase }, { on := 8, ground := Go.Ground.phase }, { on := 9, ground := Go.Ground.phase }, { on := 10, ground := Go.Ground.phase }, { on := 11, ground := Go.Ground.phase }, { on := 12, ground := Go.Ground.phase }, { on := 13, ground := Go.Ground.phase }, { on := 14, ground := Go.Ground.phase }, { on := 15, ground := Go.Ground.phase }, { on := 16, ground := Go.Ground.phase }, { on := 17, ground := Go.Ground.phase }, { on := 18, ground := Go.Ground.phase }, { on := 19, ground := Go.Ground.phase }, { on := 20, ground := Go.Ground.phase }, { on := 21, ground := Go.Ground.phase }, { on := 22, ground := Go.Ground.phase }, { on := 23, ground := Go.Ground.phase }, { on := 24, ground := Go.Ground.phase }, { on := 25, ground := Go.Ground.phase }, { on := 26, ground := Go.Ground.phase }, { on := 27, ground := Go.Ground.phase }, { on := 28, ground := Go.Ground.phase }, { on := 29, ground := Go.Ground.phase }], guard := none }) (v := ?_) rfl (by kernel_rfl) (by kernel_rfl) (by kernel_rfl) (fun _ _ _ h => h) (Or.inl ⟨by rfl, ?_⟩) (by assumption) ?_
                                rotate_left
                                · intro w hSw
                                  (try dsimp only at hSw)
                                  go_simp
                                  all_goals with_reducible rfl
                                try simp only [Act.put, List.setIfInBounds_toArray, List.set_cons_zero, List.set_cons_succ]
                                refine wpAnyH_done (by kernel_rfl) ?_ _
                                have HZ := Lib.hid hHeld
                                clear hHeld
                                go_wp2_with fail
                                go_roundg (os.length - (k + 1))
                                case measure => omega
                                case rel => exact ⟨k + 1, by omega, rfl, by go_num, by rw [HON.out], HZ.out.hr⟩
                              | false =>
                                have HA2 := Lib.hid h2
                                have HON : Hid (overTo os n (k + 1) = true) := Lib.hid (by rw [HOT2.out, h1, h2]; rfl)
                                clear h1 h2
                                refine wp_region_held_drew (S := (fun w' => OwS 28 w w' rb sb (.slice (some ⟨b, o, none⟩) os.length c3) os zs b o n k y z)) (by kernel_rfl) (HOV.out.keep (Keep.refl [] wr).drew) (fun hHeld => ?_)
                                refine wpAnyH_take (i := 0) (oi := { dst := some 112, op := Go.Op.move (Go.Operand.tmp 8), type := 4, pos := "ref.go:40", after := #[], guard := none }) (v := ?_) rfl (by kernel_rfl) (by kernel_rfl) (by kernel_rfl) (fun _ _ _ h => h) (Or.inl ⟨by rfl, ?_⟩) (by assumption) ?_
                                rotate_left
                                · intro w hSw
                                  (try dsimp only at hSw)
                                  go_simp
                                  all_goals with_reducible rfl
                                try simp only [Act.put, List.setIfInBounds_toArray, List.set_cons_zero, List.set_cons_succ]
                                refine wpAnyH_take (i := 1) (oi := { dst := some 113, op := Go.Op.move (Go.Operand.tmp 112), type := 4, pos := "ref.go:40", after := #[{ on := 0, ground := Go.Ground.data }], guard := none }) (v := ?_) rfl (by kernel_rfl) (by kernel_rfl) (by kernel_rfl) (fun _ _ _ h => h) (Or.inl ⟨by rfl, ?_⟩) (by assumption) ?_
                                rotate_left
                                · intro w hSw
                                  (try dsimp only at hSw)
                                  go_simp
                                  all_goals with_reducible rfl
                                try simp only [Act.put, List.setIfInBounds_toArray, List.set_cons_zero, List.set_cons_succ]
                                refine wpAnyH_take (i := 2) (oi := { dst := some 114, op := Go.Op.move (Go.Operand.tmp 9), type := 3, pos := "ref.go:40", after := #[{ on := 1, ground := Go.Ground.guard }], guard := some (1, false) }) (v := ?_) rfl (by kernel_rfl) (by kernel_rfl) (by kernel_rfl) (fun _ _ _ h => h) (Or.inl ⟨by rfl, ?_⟩) (by assumption) ?_
                                rotate_left
                                · intro w hSw
                                  (try dsimp only at hSw)
                                  go_simp
                                  all_goals with_reducible rfl
                                try simp only [Act.put, List.setIfInBounds_toArray, List.set_cons_zero, List.set_cons_succ]
                                refine wpAnyH_take (i := 3) (oi := { dst := some 115, op := Go.Op.move (Go.Operand.tmp 5), type := 3, pos := "ref.go:40", after := #[{ on := 1, ground := Go.Ground.guard }], guard := some (1, false) }) (v := ?_) rfl (by kernel_rfl) (by kernel_rfl) (by kernel_rfl) (fun _ _ _ h => h) (Or.inl ⟨by rfl, ?_⟩) (by assumption) ?_
                                rotate_left
                                · intro w hSw
                                  (try dsimp only at hSw)
                                  go_simp
                                  all_goals with_reducible rfl
                                try simp only [Act.put, List.setIfInBounds_toArray, List.set_cons_zero, List.set_cons_succ]
                                refine wpAnyH_take (i := 4) (oi := { dst := some 116, op := Go.Op.binOp Go.BinOp.neq 3 (Go.Operand.tmp 114) (Go.Operand.tmp 115) 3, type := 4, pos := "ref.go:40", after := #[{ on := 2, ground := Go.Ground.data }, { on := 3, ground := Go.Ground.data }, { on := 1, ground := Go.Ground.guard }], guard := some (1, false) }) (v := ?_) rfl (by kernel_rfl) (by kernel_rfl) (by kernel_rfl) (fun _ _ _ h => h) (Or.inl ⟨by rfl, ?_⟩) (by assumption) ?_
                                rotate_left
                                · intro w hSw
                                  (try dsimp only at hSw)
                                  go_simp
                                  all_goals with_reducible rfl
                                try simp only [Act.put, List.setIfInBounds_toArray, List.set_cons_zero, List.set_cons_succ]
                                refine wpAnyH_take (i := 5) (oi := { dst := some 117, op := Go.Op.move (Go.Operand.tmp 116), type := 4, pos := "ref.go:40", after := #[{ on := 4, ground := Go.Ground.data }, { on := 1, ground := Go.Ground.chain }, { on := 1, ground := Go.Ground.guard }], guard := some (1, false) }) (v := ?_) rfl (by kernel_rfl) (by kernel_rfl) (by kernel_rfl) (fun _ _ _ h => h) (Or.inl ⟨by rfl, ?_⟩) (by assumption) ?_
                                rotate_left
                                · intro w hSw
                                  (try dsimp only at hSw)
                                  go_simp
                                  all_goals with_reducible rfl
                                try simp only [Act.put, List.setIfInBounds_toArray, List.set_cons_zero, List.set_cons_succ]
                                refine wpAnyH_take (i := 6) (oi := { dst := some 118, op := Go.Op.move (Go.Operand.tmp 4), type := 33, pos := "ref.go:40", after := #[{ on := 5, ground := Go.Ground.guard }], guard := some (5, true) }) (v := ?_) rfl (by kernel_rfl) (by kernel_rfl) (by kernel_rfl) (fun _ _ _ h => h) (Or.inl ⟨by rfl, ?_⟩) (by assumption) ?_
                                rotate_left
                                · intro w hSw
                                  (try dsimp only at hSw)
                                  go_simp
                                  all_goals with_reducible rfl
                                try simp only [Act.put, List.setIfInBounds_toArray, List.set_cons_zero, List.set_cons_succ]
                                refine wpAnyH_take (i := 7) (oi := { dst := some 119, op := Go.Op.move (Go.Operand.tmp 5), type := 3, pos := "ref.go:40", after := #[{ on := 5, ground := Go.Ground.guard }], guard := some (5, true) }) (v := ?_) rfl (by kernel_rfl) (by kernel_rfl) (by kernel_rfl) (fun _ _ _ h => h) (Or.inl ⟨by rfl, ?_⟩) (by assumption) ?_
                                rotate_left
                                · intro w hSw
                                  (try dsimp only at hSw)
                                  go_simp
                                  all_goals with_reducible rfl
                                try simp only [Act.put, List.setIfInBounds_toArray, List.set_cons_zero, List.set_cons_succ]
                                refine wpAnyH_take (i := 8) (oi := { dst := some 120, op := Go.Op.indexAddr 33 (Go.Operand.tmp 118) (Go.Operand.tmp 119), type := 0, pos := "ref.go:40", after := #[{ on := 6, ground := Go.Ground.data }, { on := 7, ground := Go.Ground.data }, { on := 5, ground := Go.Ground.guard }], guard := some (5, true) }) (v := ?_) rfl (by kernel_rfl) (by kernel_rfl) (by kernel_rfl) (fun _ _ _ h => h) (Or.inl ⟨by rfl, ?_⟩) (by assumption) ?_
                                rotate_left
                                · intro w hSw
                                  (try dsimp only at hSw)
                                  go_simp
                                  all_goals with_reducible rfl
                                try simp only [Act.put, List.setIfInBounds_toArray, List.set_cons_zero, List.set_cons_succ]
                                refine wpAnyH_take (i := 9) (oi := { dst := some 121, op := Go.Op.load 41 (Go.Operand.tmp 120), type := 41, pos := "ref.go:40", after := #[{ on := 8, ground := Go.Ground.data }, { on := 5, ground := Go.Ground.guard }], guard := some (5, true) }) (v := ?_) rfl (by kernel_rfl) (by kernel_rfl) (by kernel_rfl) (fun _ _ _ h => h) (Or.inl ⟨by rfl, ?_⟩) (by assumption) ?_
                                rotate_left
                                · intro w hSw
                                  refine ex_load_mid (o := { dst := some 121, op := Go.Op.load 41 (Go.Operand.tmp 120), type := 41, pos := "ref.go:40", after := #[{ on := 8, ground := Go.Ground.data }, { on := 5, ground := Go.Ground.guard }], guard := some (5, true) }) rfl ?_ hSw.rx Try.underlying41 rfl sizeOper
                                  rfl
                                try simp only [Act.put, List.setIfInBounds_toArray, List.set_cons_zero, List.set_cons_succ]
                                refine wpAnyH_take (i := 10) (oi := { dst := some 122, op := Go.Op.move (Go.Operand.tmp 4), type := 33, pos := "ref.go:40", after := #[{ on := 5, ground := Go.Ground.guard }], guard := some (5, true) }) (v := ?_) rfl (by kernel_rfl) (by kernel_rfl) (by kernel_rfl) (fun _ _ _ h => h) (Or.inl ⟨by rfl, ?_⟩) (by assumption) ?_
                                rotate_left
                                · intro w hSw
                                  (try dsimp only at hSw)
                                  go_simp
                                  all_goals with_reducible rfl
                                try simp only [Act.put, List.setIfInBounds_toArray, List.set_cons_zero, List.set_cons_succ]
                                refine wpAnyH_take (i := 11) (oi := { dst := some 123, op := Go.Op.move (Go.Operand.tmp 9), type := 3, pos := "ref.go:40", after := #[{ on := 5, ground := Go.Ground.guard }], guard := some (5, true) }) (v := ?_) rfl (by kernel_rfl) (by kernel_rfl) (by kernel_rfl) (fun _ _ _ h => h) (Or.inl ⟨by rfl, ?_⟩) (by assumption) ?_
                                rotate_left
                                · intro w hSw
                                  (try dsimp only at hSw)
                                  go_simp
                                  all_goals with_reducible rfl
                                try simp only [Act.put, List.setIfInBounds_toArray, List.set_cons_zero, List.set_cons_succ]
                                refine wpAnyH_take (i := 12) (oi := { dst := some 124, op := Go.Op.indexAddr 33 (Go.Operand.tmp 122) (Go.Operand.tmp 123), type := 0, pos := "ref.go:40", after := #[{ on := 10, ground := Go.Ground.data }, { on := 11, ground := Go.Ground.data }, { on := 5, ground := Go.Ground.guard }], guard := some (5, true) }) (v := ?_) rfl (by kernel_rfl) (by kernel_rfl) (by kernel_rfl) (fun _ _ _ h => h) (Or.inl ⟨by rfl, ?_⟩) (by assumption) ?_
                                rotate_left
                                · intro w hSw
                                  (try dsimp only at hSw)
                                  go_simp
                                  all_goals with_reducible rfl
                                try simp only [Act.put, List.setIfInBounds_toArray, List.set_cons_zero, List.set_cons_succ]
                                refine wpAnyH_take (i := 13) (oi := { dst := some 125, op := Go.Op.load 41 (Go.Operand.tmp 124), type := 41, pos := "ref.go:40", after := #[{ on := 12, ground := Go.Ground.data }, { on := 5, ground := Go.Ground.guard }], guard := some (5, true) }) (v := ?_) rfl (by kernel_rfl) (by kernel_rfl) (by kernel_rfl) (fun _ _ _ h => h) (Or.inl ⟨by rfl, ?_⟩) (by assumption) ?_
                                rotate_left
                                · intro w hSw
                                  refine ex_load_mid (o := { dst := some 125, op := Go.Op.load 41 (Go.Operand.tmp 124), type := 41, pos := "ref.go:40", after := #[{ on := 12, ground := Go.Ground.data }, { on := 5, ground := Go.Ground.guard }], guard := some (5, true) }) rfl ?_ hSw.ry Try.underlying41 rfl sizeOper
                                  rfl
                                try simp only [Act.put, List.setIfInBounds_toArray, List.set_cons_zero, List.set_cons_succ]
                                refine wpAnyH_ready (rs := [14]) (by kernel_rfl) (by simp) ?_
                                refine AllReadyH.cons (o := { dst := some 126, op := Go.Op.call { callee := Go.Callee.value (Go.Operand.func 17), args := #[Go.Operand.tmp 121, Go.Operand.tmp 125], argTypes := #[41, 41] }, type := 4, pos := "ref.go:40", after := #[{ on := 9, ground := Go.Ground.data }, { on := 13, ground := Go.Ground.data }, { on := 5, ground := Go.Ground.chain }, { on := 5, ground := Go.Ground.guard }], guard := some (5, true) }) rfl (fun K hK => ?_) AllReadyH.nil
                                go_simp
                                refine (ref12_ahead y z _).mono ?_
                                rintro r z1 ⟨rfl, hk⟩
                                rw [HA1.out]
                                try simp only []
                                refine hK.out _ _ (hHeld.keep hk) (fun hHeld => ?_)
                                clear hK K
                                try simp only [Act.put, List.setIfInBounds_toArray, List.set_cons_zero, List.set_cons_succ]
                                refine wpAnyH_take (i := 15) (oi := { dst := some 127, op := Go.Op.unOp Go.UnOp.not 4 (Go.Operand.tmp 126), type := 4, pos := "ref.go:40", after := #[{ on := 14, ground := Go.Ground.data }, { on := 5, ground := Go.Ground.guard }], guard := some (5, true) }) (v := ?_) rfl (by kernel_rfl) (by kernel_rfl) (by kernel_rfl) (fun _ _ _ h => h) (Or.inl ⟨by rfl, ?_⟩) (by assumption) ?_
                                rotate_left
                                · intro w hSw
                                  (try dsimp only at hSw)
                                  go_simp
                                  all_goals with_reducible rfl
                                try simp only [Act.put, List.setIfInBounds_toArray, List.set_cons_zero, List.set_cons_succ]
                                refine wpAnyH_take (i := 16) (oi := { dst := some 128, op := Go.Op.pick (Go.Operand.tmp 117) (Go.Operand.tmp 127) (Go.Operand.const (Go.Value.bool false)), type := 4, pos := "ref.go:40", after := #[{ on := 5, ground := Go.Ground.data }, { on := 15, ground := Go.Ground.data }, { on := 1, ground := Go.Ground.guard }], guard := some (1, false) }) (v := ?_) rfl (by kernel_rfl) (by kernel_rfl) (by kernel_rfl) (fun _ _ _ h => h) (Or.inl ⟨by rfl, ?_⟩) (by assumption) ?_
                                rotate_left
                                · intro w hSw
                                  (try dsimp only at hSw)
                                  go_simp
                                  all_goals with_reducible rfl
                                try simp only [Act.put, List.setIfInBounds_toArray, List.set_cons_zero, List.set_cons_succ]
                                refine wpAnyH_take (i := 17) (oi := { dst := some 129, op := Go.Op.move (Go.Operand.tmp 128), type := 4, pos := "ref.go:40", after := #[{ on := 16, ground := Go.Ground.data }, { on := 14, ground := Go.Ground.chain }, { on := 1, ground := Go.Ground.guard }], guard := some (1, false) }) (v := ?_) rfl (by kernel_rfl) (by kernel_rfl) (by kernel_rfl) (fun _ _ _ h => h) (Or.inl ⟨by rfl, ?_⟩) (by assumption) ?_
                                rotate_left
                                · intro w hSw
                                  (try dsimp only at hSw)
                                  go_simp
                                  all_goals with_reducible rfl
                                try simp only [Act.put, List.setIfInBounds_toArray, List.set_cons_zero, List.set_cons_succ]
                                refine wpAnyH_take (i := 18) (oi := { dst := some 130, op := Go.Op.move (Go.Operand.tmp 4), type := 33, pos := "ref.go:40", after := #[{ on := 17, ground := Go.Ground.guard }], guard := some (17, true) }) (v := ?_) rfl (by kernel_rfl) (by kernel_rfl) (by kernel_rfl) (fun _ _ _ h => h) (Or.inl ⟨by rfl, ?_⟩) (by assumption) ?_
                                rotate_left
                                · intro w hSw
                                  (try dsimp only at hSw)
                                  go_simp
                                  all_goals with_reducible rfl
                                try simp only [Act.put, List.setIfInBounds_toArray, List.set_cons_zero, List.set_cons_succ]
                                refine wpAnyH_take (i := 19) (oi := { dst := some 131, op := Go.Op.move (Go.Operand.tmp 9), type := 3, pos := "ref.go:40", after := #[{ on := 17, ground := Go.Ground.guard }], guard := some (17, true) }) (v := ?_) rfl (by kernel_rfl) (by kernel_rfl) (by kernel_rfl) (fun _ _ _ h => h) (Or.inl ⟨by rfl, ?_⟩) (by assumption) ?_
                                rotate_left
                                · intro w hSw
                                  (try dsimp only at hSw)
                                  go_simp
                                  all_goals with_reducible rfl
                                try simp only [Act.put, List.setIfInBounds_toArray, List.set_cons_zero, List.set_cons_succ]
                                refine wpAnyH_take (i := 20) (oi := { dst := some 132, op := Go.Op.indexAddr 33 (Go.Operand.tmp 130) (Go.Operand.tmp 131), type := 0, pos := "ref.go:40", after := #[{ on := 18, ground := Go.Ground.data }, { on := 19, ground := Go.Ground.data }, { on := 17, ground := Go.Ground.guard }], guard := some (17, true) }) (v := ?_) rfl (by kernel_rfl) (by kernel_rfl) (by kernel_rfl) (fun _ _ _ h => h) (Or.inl ⟨by rfl, ?_⟩) (by assumption) ?_
                                rotate_left
                                · intro w hSw
                                  (try dsimp only at hSw)
                                  go_simp
                                  all_goals with_reducible rfl
                                try simp only [Act.put, List.setIfInBounds_toArray, List.set_cons_zero, List.set_cons_succ]
                                refine wpAnyH_take (i := 21) (oi := { dst := some 133, op := Go.Op.load 41 (Go.Operand.tmp 132), type := 41, pos := "ref.go:40", after := #[{ on := 20, ground := Go.Ground.data }, { on := 17, ground := Go.Ground.guard }], guard := some (17, true) }) (v := ?_) rfl (by kernel_rfl) (by kernel_rfl) (by kernel_rfl) (fun _ _ _ h => h) (Or.inl ⟨by rfl, ?_⟩) (by assumption) ?_
                                rotate_left
                                · intro w hSw
                                  refine ex_load_mid (o := { dst := some 133, op := Go.Op.load 41 (Go.Operand.tmp 132), type := 41, pos := "ref.go:40", after := #[{ on := 20, ground := Go.Ground.data }, { on := 17, ground := Go.Ground.guard }], guard := some (17, true) }) rfl ?_ hSw.ry Try.underlying41 rfl sizeOper
                                  rfl
                                try simp only [Act.put, List.setIfInBounds_toArray, List.set_cons_zero, List.set_cons_succ]
                                refine wpAnyH_take (i := 22) (oi := { dst := some 134, op := Go.Op.move (Go.Operand.tmp 4), type := 33, pos := "ref.go:40", after := #[{ on := 17, ground := Go.Ground.guard }], guard := some (17, true) }) (v := ?_) rfl (by kernel_rfl) (by kernel_rfl) (by kernel_rfl) (fun _ _ _ h => h) (Or.inl ⟨by rfl, ?_⟩) (by assumption) ?_
                                rotate_left
                                · intro w hSw
                                  (try dsimp only at hSw)
                                  go_simp
                                  all_goals with_reducible rfl
                                try simp only [Act.put, List.setIfInBounds_toArray, List.set_cons_zero, List.set_cons_succ]
                                refine wpAnyH_take (i := 23) (oi := { dst := some 135, op := Go.Op.move (Go.Operand.tmp 5), type := 3, pos := "ref.go:40", after := #[{ on := 17, ground := Go.Ground.guard }], guard := some (17, true) }) (v := ?_) rfl (by kernel_rfl) (by kernel_rfl) (by kernel_rfl) (fun _ _ _ h => h) (Or.inl ⟨by rfl, ?_⟩) (by assumption) ?_
                                rotate_left
                                · intro w hSw
                                  (try dsimp only at hSw)
                                  go_simp
                                  all_goals with_reducible rfl
                                try simp only [Act.put, List.setIfInBounds_toArray, List.set_cons_zero, List.set_cons_succ]
                                refine wpAnyH_take (i := 24) (oi := { dst := some 136, op := Go.Op.indexAddr 33 (Go.Operand.tmp 134) (Go.Operand.tmp 135), type := 0, pos := "ref.go:40", after := #[{ on := 22, ground := Go.Ground.data }, { on := 23, ground := Go.Ground.data }, { on := 17, ground := Go.Ground.guard }], guard := some (17, true) }) (v := ?_) rfl (by kernel_rfl) (by kernel_rfl) (by kernel_rfl) (fun _ _ _ h => h) (Or.inl ⟨by rfl, ?_⟩) (by assumption) ?_
                                rotate_left
                                · intro w hSw
                                  (try dsimp only at hSw)
                                  go_simp
                                  all_goals with_reducible rfl
                                try simp only [Act.put, List.setIfInBounds_toArray, List.set_cons_zero, List.set_cons_succ]
                                refine wpAnyH_take (i := 25) (oi := { dst := some 137, op := Go.Op.load 41 (Go.Operand.tmp 136), type := 41, pos := "ref.go:40", after := #[{ on := 24, ground := Go.Ground.data }, { on := 17, ground := Go.Ground.guard }], guard := some (17, true) }) (v := ?_) rfl (by kernel_rfl) (by kernel_rfl) (by kernel_rfl) (fun _ _ _ h => h) (Or.inl ⟨by rfl, ?_⟩) (by assumption) ?_
                                rotate_left
                                · intro w hSw
                                  refine ex_load_mid (o := { dst := some 137, op := Go.Op.load 41 (Go.Operand.tmp 136), type := 41, pos := "ref.go:40", after := #[{ on := 24, ground := Go.Ground.data }, { on := 17, ground := Go.Ground.guard }], guard := some (17, true) }) rfl ?_ hSw.rx Try.underlying41 rfl sizeOper
                                  rfl
                                try simp only [Act.put, List.setIfInBounds_toArray, List.set_cons_zero, List.set_cons_succ]
                                refine wpAnyH_ready (rs := [26]) (by kernel_rfl) (by simp) ?_
                                refine AllReadyH.cons (o := { dst := some 138, op := Go.Op.call { callee := Go.Callee.value (Go.Operand.func 17), args := #[Go.Operand.tmp 133, Go.Operand.tmp 137], argTypes := #[41, 41] }, type := 4, pos := "ref.go:40", after := #[{ on := 21, ground := Go.Ground.data }, { on := 25, ground := Go.Ground.data }, { on := 17, ground := Go.Ground.chain }, { on := 17, ground := Go.Ground.guard }], guard := some (17, true) }) rfl (fun K hK => ?_) AllReadyH.nil
                                go_simp
                                refine (ref12_ahead z y _).mono ?_
                                rintro r z2 ⟨rfl, hk2⟩
                                rw [HA2.out]
                                try simp only []
                                refine hK.out _ _ (hHeld.keep hk2) (fun hHeld => ?_)
                                clear hK K
                                try simp only [Act.put, List.setIfInBounds_toArray, List.set_cons_zero, List.set_cons_succ]
                                refine wpAnyH_take (i := 27) (oi := { dst := some 139, op := Go.Op.unOp Go.UnOp.not 4 (Go.Operand.tmp 138), type := 4, pos := "ref.go:40", after := #[{ on := 26, ground := Go.Ground.data }, { on := 17, ground := Go.Ground.guard }], guard := some (17, true) }) (v := ?_) rfl (by kernel_rfl) (by kernel_rfl) (by kernel_rfl) (fun _ _ _ h => h) (Or.inl ⟨by rfl, ?_⟩) (by assumption) ?_
                                rotate_left
                                · intro w hSw
                                  (try dsimp only at hSw)
                                  go_simp
                                  all_goals with_reducible rfl
                                try simp only [Act.put, List.setIfInBounds_toArray, List.set_cons_zero, List.set_cons_succ]
                                refine wpAnyH_take (i := 28) (oi := { dst := some 140, op := Go.Op.pick (Go.Operand.tmp 129) (Go.Operand.tmp 139) (Go.Operand.const (Go.Value.bool false)), type := 4, pos := "ref.go:40", after := #[{ on := 17, ground := Go.Ground.data }, { on := 27, ground := Go.Ground.data }, { on := 1, ground := Go.Ground.guard }], guard := some (1, false) }) (v := ?_) rfl (by kernel_rfl) (by kernel_rfl) (by kernel_rfl) (fun _ _ _ h => h) (Or.inl ⟨by rfl, ?_⟩) (by assumption) ?_
                                rotate_left
                                · intro w hSw
                                  (try dsimp only at hSw)
                                  go_simp
                                  all_goals with_reducible rfl
                                try simp only [Act.put, List.setIfInBounds_toArray, List.set_cons_zero, List.set_cons_succ]
                                refine wpAnyH_take (i := 29) (oi := { dst := some 141, op := Go.Op.pick (Go.Operand.tmp 113) (Go.Operand.const (Go.Value.bool true)) (Go.Operand.tmp 140), type := 4, pos := "ref.go:40", after := #[{ on := 1, ground := Go.Ground.data }, { on := 28, ground := Go.Ground.data }], guard := none }) (v := ?_) rfl (by kernel_rfl) (by kernel_rfl) (by kernel_rfl) (fun _ _ _ h => h) (Or.inl ⟨by rfl, ?_⟩) (by assumption) ?_
                                rotate_left
                                · intro w hSw
                                  (try dsimp only at hSw)
                                  go_simp
                                  all_goals with_reducible rfl
                                try simp only [Act.put, List.setIfInBounds_toArray, List.set_cons_zero, List.set_cons_succ]
                                refine wpAnyH_take (i := 30) (oi := { dst := some 8, op := Go.Op.assign (Go.Operand.tmp 141), type := 4, pos := "ref.go:40", after := #[{ on := 29, ground := Go.Ground.data }, { on := 26, ground := Go.Ground.chain }, { on := 0, ground := Go.Ground.phase }, { on := 1, ground := Go.Ground.phase }, { on := 2, ground := Go.Ground.phase }, { on := 3, ground := Go.Ground.phase }, { on := 4, ground := Go.Ground.phase }, { on := 5, ground := Go.Ground.phase }, { on := 6, ground := Go.Ground.phase }, { on := 7, ground := Go.Ground.phase }, { on := 8, ground := Go.Ground.phase }, { on := 9, ground := Go.Ground.phase }, { on := 10, ground := Go.Ground.phase }, { on := 11, ground := Go.Ground.phase }, { on := 12, ground := Go.Ground.phase }, { on := 13, ground := Go.Ground.phase }, { on := 14, ground := Go.Ground.phase }, { on := 15, ground := Go.Ground.phase }, { on := 16, ground := Go.Ground.phase }, { on := 17, ground := Go.Ground.phase }, { on := 18, ground := Go.Ground.phase }, { on := 19, ground := Go.Ground.phase }, { on := 20, ground := Go.Ground.phase }, { on := 21, ground := Go.Ground.phase }, { on := 22, ground := Go.Ground.phase }, { on := 23, ground := Go.Ground.phase }, { on := 24, ground := Go.Ground.phase }, { on := 25, ground := Go.Ground.phase }, { on := 26, ground := Go.Ground.phase }, { on := 27, ground := Go.Ground.phase }, { on := 28, ground := Go.Ground.phase }, { on := 29, ground := Go.Ground.phase }], guard := none }) (v := ?_) rfl (by kernel_rfl) (by kernel_rfl) (by kernel_rfl) (fun _ _ _ h => h) (Or.inl ⟨by rfl, ?_⟩) (by assumption) ?_
                                rotate_left
                                · intro w hSw
                                  (try dsimp only at hSw)
                                  go_simp
                                  all_goals with_reducible rfl
                                try simp only [Act.put, List.setIfInBounds_toArray, List.set_cons_zero, List.set_cons_succ]
                                refine wpAnyH_done (by kernel_rfl) ?_ _
                                have HZ := Lib.hid hHeld
                                clear hHeld
                                go_wp2_with fail
                                go_roundg (os.length - (k + 1))
                                case measure => omega
                                case rel => exact ⟨k + 1, by omega, rfl, by go_num, by rw [HON.out], HZ.out.hr⟩
                      · have hke : k = os.length := by omega
                        have hzk : ¬ ((k : Nat) : Int) < ((os.length : Nat) : Int) := by omega
                        have HOE : Hid (overTo os n k = overP os n) := Lib.hid (by rw [hke, overTo_all])
                        clear hke hlk
                        generalize overTo os n k = ov at *
                        cases ov with
                        | true =>
                          have HSM : Hid (sumTo os (n + 1) = zs.set 39 (zs.getD 39 0 + 1)) := Lib.hid (by rw [HSN.out, if_pos HOE.out.symm]; rfl)
                          have g1 := HR6.out.s.cell (k := 39) (by omega)
                          have g2 := HR6.out.s.b.frozen 39
                          have hlo := HLO2.out 39
                          have HR7 := Lib.hid (HR6.out.put 39 (zs.getD 39 0 + 1))
                          generalize hv : zs.getD 39 0 = u at g1 hlo HR7 HSM
                          clear hv
                          obtain ⟨hlo1, hlo2⟩ := hlo
                          go_wp2_with fail
                          go_roundg (os.length - (n + 1))
                          case measure => omega
                          case rel => exact ⟨n + 1, by omega, rfl, by go_num, by rw [HSM.out]; exact HR7.out⟩
                        | false =>
                          have HSM : Hid (sumTo os (n + 1) = zs) := Lib.hid (by rw [HSN.out, if_neg (by rw [← HOE.out]; decide)])
                          go_wp2_with fail
                          go_roundg (os.length - (n + 1))
                          case measure => omega
                          case rel => exact ⟨n + 1, by omega, rfl, by go_num, by rw [HSM.out]; exact HR6.out⟩
    · skip
      have hne : n = os.length := by omega
      have hz : ¬ ((n : Nat) : Int) < ((os.length : Nat) : Int) := by omega
      have HR2 : Hid (OfR 28 w wr rb sb (.slice A3 os.length c3) os ((sumTo os os.length).set 41 (mostR os 0))) := Lib.hid (by
        have e := set_same (xs := sumTo os os.length) (k := 41) (by rw [sumTo_len]; decide)
        rw [sumTo_41] at e
        have h1 := HR.out
        rw [hne] at h1
        rw [show mostR os 0 = 0 from rfl, e]
        exact h1)
      have HXL := Lib.hid (sumTo_len os os.length)
      clear hne HR hlt hn
      have HOF : Hid (ofR l os = (sumTo os os.length).set 41 (mostR os l.length)) := Lib.hid rfl
      generalize sumTo os os.length = xs at *
      go_wp2_with fail
      go_loopg [10, 11, 12] l.length (fun g v10 v11 v12 wr => ∃ j : Nat, j ≤ l.length ∧ g = l.length - j ∧ v10 = .int .i64 (j : Nat) ∧ OfR 28 w wr rb sb (.slice A3 os.length c3) os (xs.set 41 (mostR os j)))
      case atStart => exact ⟨0, Nat.zero_le _, rfl, rfl, HR2.out⟩
      case round =>
        obtain ⟨j, hj, rfl, rfl, hr⟩ := hrel
        have HR := Lib.hid hr
        clear hr HR2
        have hj0 : (0 : Int) ≤ ((j : Nat) : Int) := by omega
        have hj9 : ((j : Nat) : Int) ≤ 200 := by have := HL.out; omega
        by_cases hlj : j < l.length
        · have hzj : ((j : Nat) : Int) < ((l.length : Nat) : Int) := by omega
          go_wp2_with fail
          go_loopg [11, 12] os.length (fun g v11 v12 wx => ∃ m : Nat, m ≤ os.length ∧ g = os.length - m ∧ v12 = .int .i64 (m : Nat) ∧ v11 = .int .i64 (((os.take m).countP (inAt j) : Nat) : Int) ∧ wx = wr)
          case atStart => exact ⟨0, Nat.zero_le _, rfl, rfl, rfl, rfl⟩
          case round =>
            obtain ⟨m, hm, rfl, rfl, rfl, rfl⟩ := hrel
            have hm0 : (0 : Int) ≤ ((m : Nat) : Int) := by omega
            have hm9 : ((m : Nat) : Int) ≤ 200 := by have := HOL.out; omega
            have hcm : (os.take m).countP (inAt j) ≤ m := by
              have := List.countP_le_length (p := inAt j) (l := os.take m)
              rw [List.length_take] at this
              omega
            by_cases hlm : m < os.length
            · have hzm : ((m : Nat) : Int) < ((os.length : Nat) : Int) := by omega
              obtain ⟨b, o, hA, _, c0, c1, c2, c3', c4, c5, c6, c7, c8, c9, c10, c11, c12⟩ := (ElAt.of_own (f := opC) HR.out.own rfl).at_op hlm
              subst hA
              clear c0 c1 c2 c3' c4 c5 c6 c7 c8 c9 c10
              have HCS := Lib.hid (count_snoc (j := j) hlm)
              generalize os.getD m op0 = z at *
              generalize (os.take m).countP (inAt j) = cc at *
              clear hlm
              have HIN : Hid (inAt j z = (decide (z.frm ≤ (j : Int)) && (decide (z.to < 0) || decide ((j : Int) < z.to)))) := Lib.hid rfl
              by_cases h1 : z.frm ≤ (j : Int)
              · by_cases h2 : z.to < 0
                · have HCN : Hid ((os.take (m + 1)).countP (inAt j) = cc + 1) := Lib.hid (by rw [HCS.out, HIN.out, decide_eq_true h1, decide_eq_true h2]; rfl)
                  go_wp2_with fail
                  go_roundg (os.length - (m + 1))
                  case measure => omega
                  case rel => exact ⟨m + 1, by omega, rfl, by go_num, by rw [HCN.out] <;> go_num, rfl⟩
                · by_cases h3 : (j : Int) < z.to
                  · have HCN : Hid ((os.take (m + 1)).countP (inAt j) = cc + 1) := Lib.hid (by rw [HCS.out, HIN.out, decide_eq_true h1, decide_eq_false h2, decide_eq_true h3]; rfl)
                    go_wp2_with fail
                    go_roundg (os.length - (m + 1))
                    case measure => omega
                    case rel => exact ⟨m + 1, by omega, rfl, by go_num, by rw [HCN.out] <;> go_num, rfl⟩
                  · have HCN : Hid ((os.take (m + 1)).countP (inAt j) = cc) := Lib.hid (by rw [HCS.out, HIN.out, decide_eq_true h1, decide_eq_false h2, decide_eq_false h3]; rfl)
                    go_wp2_with fail
                    go_roundg (os.length - (m + 1))
                    case measure => omega
                    case rel => exact ⟨m + 1, by omega, rfl, by go_num, by rw [HCN.out] <;> go_num, rfl⟩
              · have HCN : Hid ((os.take (m + 1)).countP (inAt j) = cc) := Lib.hid (by rw [HCS.out, HIN.out, decide_eq_false h1]; rfl)
                go_wp2_with fail
                go_roundg (os.length - (m + 1))
                case measure => omega
                case rel => exact ⟨m + 1, by omega, rfl, by go_num, by rw [HCN.out] <;> go_num, rfl⟩
            · have hme : m = os.length := by omega
              have hzm : ¬ ((m : Nat) : Int) < ((os.length : Nat) : Int) := by omega
              have HMR : Hid (mostR os (j + 1) = if mostR os j < (((os.take m).countP (inAt j) : Nat) : Int) then (((os.take m).countP (inAt j) : Nat) : Int) else mostR os j) := Lib.hid (by rw [hme, List.take_of_length_le (Nat.le_refl _)]; rfl)
              have hb2 := mostR_le os j
              obtain ⟨hb21, hb22⟩ := hb2
              have g1 := HR.out.s.cell (k := 41) (by omega)
              rw [getD_set41 HXL.out] at g1
              have g2 := HR.out.s.b.frozen 41
              clear hme hlm
              generalize (os.take m).countP (inAt j) = cc at *
              generalize hmm : mostR os j = mr at HR HMR g1 hb21 hb22
              clear hmm
              by_cases hgt : mr < (cc : Int)
              · have HMN : Hid (mostR os (j + 1) = (cc : Int)) := Lib.hid (by rw [HMR.out, if_pos hgt])
                have HR3 := Lib.hid (HR.out.put 41 (cc : Int))
                rw [List.set_set] at HR3
                go_wp2_with fail
                go_roundg (l.length - (j + 1))
                case measure => omega
                case rel => exact ⟨j + 1, by omega, rfl, by go_num, by rw [HMN.out]; exact HR3.out⟩
              · have HMN : Hid (mostR os (j + 1) = mr) := Lib.hid (by rw [HMR.out, if_neg hgt])
                go_wp2_with fail
                go_roundg (l.length - (j + 1))
                case measure => omega
                case rel => exact ⟨j + 1, by omega, rfl, by go_num, by rw [HMN.out]; exact HR.out⟩
        · have hje : j = l.length := by omega
          have hzj : ¬ ((j : Nat) : Int) < ((l.length : Nat) : Int) := by omega
          have HZ : Hid (OfR 28 w wr rb sb (.slice A3 os.length c3) os (ofR l os)) := Lib.hid (by rw [HOF.out, ← hje]; exact HR.out)
          have HZL : Hid ((ofR l os).length = 42) := Lib.hid (by rw [HOF.out, List.length_set, HXL.out])
          clear hje HR HOF hlj HXL
          generalize hzs : ofR l os = zs at HZ HZL
          have HOF := Lib.hid hzs
          clear hzs
          go_upto_region 38 with fail
          go_wp2_with (first
            | (with_reducible refine wpList_load_mid rfl 28 (.tmp 3) rfl sb 0 rfl (sumC zs) _ HZ.out.s.b.range Try.underlying28 rfl (by rw [sumC_len, HZL.out]; exact sizeS38) ?_)
            | (with_reducible refine wpList_store_mid rfl 28 (.tmp 2) (.tmp 191) rfl rb 0 (sumC zs).toArray rfl rfl (HZ.out.r.there (by rw [List.size_toArray, sumC_len, HZL.out])) (by rw [List.size_toArray, sumC_len, HZL.out]; exact sizeS38) (sumC_one _) ?_))
          have HFS := Lib.hid (HZ.out.r.stored (ys := zs) HZL.out)
          have HKF : Hid (Keep [] w (wr.setCells rb 0 (sumC zs))) := Lib.hid (HZ.out.hk.trans (Keep.setCells (S := [rb]) (w0 := wr) (.inl (by simp)) (sumC zs) 0 wr (Keep.refl _ _)) (fun y hy => .inr (by rw [List.mem_singleton.1 hy]; exact HZ.out.nr)))
          refine bodyPost_ret (v := .agg (sumC zs).toArray) (results_cell_row (p := 2) (ty := 28) (d := _) rfl _ _ rb _ _ _ rfl HFS.out.b Try.underlying28 rfl (by rw [List.size_toArray, sumC_len, HZL.out]; exact sizeS38)) rfl ?_
          exact ⟨os, HOS.out, by rw [HOF.out], HKF.out⟩
end Go.Proofs.Ytofmonknhiggaaa
