/- stats.Of by its contract. Conditions: at most 200 events, with at most 1500 pairs each. -/
import Derived.Test.YtofmonknhiggaaaSt7
namespace Go.Proofs.Ytofmonknhiggaaa
open Go.RowKit

theorem nextBack_pn (t : Int) : ∀ (l : List EvS) (i k : Nat) (y : EvS), nextBack t l i = some (k, y) → y ∈ l
  | [], _, _, _, h => by cases h
  | e :: l, i, k, y, h => by
    replace h : (if e.thr = t ∧ e.back = true then some (i, e) else nextBack t l (i + 1)) = some (k, y) := h
    by_cases hc : e.thr = t ∧ e.back = true
    · rw [if_pos hc] at h
      injection h with h
      injection h with _ h
      subst h
      exact List.mem_cons_self ..
    · rw [if_neg hc] at h
      exact List.mem_cons_of_mem _ (nextBack_pn t l (i + 1) k y h)
theorem opersR_pn {c : Nat} : ∀ (l : List EvS) (i : Nat), (∀ e ∈ l, e.pn ≤ c) → ∀ o ∈ opersR l i, o.pn ≤ c
  | [], _, _, o, h => by cases h
  | e :: l, i, hl, o, h => by
    replace h : o ∈ (if e.back = true then opersR l (i + 1) else mkOp e i (nextBack e.thr l (i + 1)) :: opersR l (i + 1)) := h
    have ih := opersR_pn l (i + 1) (fun e he => hl e (List.mem_cons_of_mem _ he))
    split at h
    · exact ih o h
    · rcases List.mem_cons.1 h with rfl | h
      · cases hn : nextBack e.thr l (i + 1) with
        | none => exact Nat.zero_le _
        | some z =>
          obtain ⟨k, y⟩ := z
          exact hl y (List.mem_cons_of_mem _ (nextBack_pn _ _ _ _ _ hn))
      · exact ih o h
theorem getD_pn {c : Nat} {os : List OpS} (h : ∀ o ∈ os, o.pn ≤ c) (k : Nat) : (os.getD k op0).pn ≤ c := by
  rw [List.getD_eq_getElem?_getD]
  cases hx : os[k]? with
  | none => exact Nat.zero_le _
  | some x => exact h x (List.mem_of_getElem? hx)
theorem bump_41 (xs : List Int) {k : Nat} (hk : k ≠ 41) : (bump xs k).getD 41 0 = xs.getD 41 0 := by
  unfold bump
  rw [List.getD_eq_getElem?_getD, List.getElem?_set_ne hk, ← List.getD_eq_getElem?_getD]
theorem addS_41 (xs : List Int) (o : OpS) : (addS xs o).getD 41 0 = xs.getD 41 0 := by
  rw [addS_parts]
  have hA : (addA xs o).getD 41 0 = xs.getD 41 0 := by
    unfold addA
    split
    · split
      · rw [bump_41 _ (by omega), bump_41 _ (by omega)]
      · rw [bump_41 _ (by omega)]
    · rfl
  have hB : (addB (addA xs o) o).getD 41 0 = xs.getD 41 0 := by
    unfold addB
    split
    · rw [bump_41 _ (by omega), hA]
    · exact hA
  split
  · exact hA
  · split
    · rw [List.getD_eq_getElem?_getD, List.getElem?_set_ne (by decide), ← List.getD_eq_getElem?_getD]
      exact hB
    · exact hB
theorem sumTo_41 (os : List OpS) : ∀ k, (sumTo os k).getD 41 0 = 0
  | 0 => rfl
  | k + 1 => by
    unfold sumTo
    split
    · rw [bump_41 _ (by decide), addS_41, sumTo_41 os k]
    · rw [addS_41, sumTo_41 os k]
theorem set_same {xs : List Int} {k : Nat} (h : k < xs.length) : xs.set k (xs.getD k 0) = xs := by
  apply List.ext_getElem?
  intro j
  rw [List.getElem?_set]
  by_cases hkj : k = j
  · subst hkj
    rw [if_pos rfl, if_pos h, List.getD_eq_getElem?_getD, List.getElem?_eq_getElem h]
    rfl
  · rw [if_neg hkj]
theorem runC_le (l : List EvS) : ∀ n : Nat, -(n : Int) ≤ runC (l.take n) ∧ runC (l.take n) ≤ (n : Int)
  | 0 => by simp [runC]
  | n + 1 => by
    have ih := runC_le l n
    by_cases h : n < l.length
    · rw [take_snoc h, runC_snoc]
      split <;> omega
    · rw [List.take_of_length_le (by omega)] at *
      omega
theorem mostTo_le (l : List EvS) : ∀ n : Nat, 0 ≤ mostTo l n ∧ mostTo l n ≤ (n : Int)
  | 0 => by simp [mostTo]
  | n + 1 => by
    have ih := mostTo_le l n
    have h2 := runC_le l (n + 1)
    unfold mostTo
    omega
/-- What Of tells. -/
def ofP (l : List EvS) (os : List OpS) : List Int := if os.length = 0 then sumTo os os.length else (sumTo os os.length).set 41 (mostTo l l.length)
theorem ofP_len (l : List EvS) (os : List OpS) : (ofP l os).length = 42 := by
  unfold ofP
  split
  · exact sumTo_len _ _
  · rw [List.length_set, sumTo_len]
structure OfR (t : TypeId) (w wr : World) (rb sb : Nat) (v : Value) (os : List OpS) (xs : List Int) : Prop where
  hk : Keep [] w wr
  s : SumAt wr t sb xs
  r : SumAt wr t rb zeroS
  tn : 41 ≠ t
  own : wr.ownsRow w.heap.size 41 13 v os.length (os.flatMap opC)
  ne : rb ≠ sb
  nr : w.heap.size ≤ rb
  ns : w.heap.size ≤ sb
section
variable {t : TypeId} {w wr w2 : World} {rb sb : Nat} {v : Value} {os : List OpS} {xs ys : List Int}
theorem OfR.keep0 (h : OfR t w wr rb sb v os xs) (hk : Keep [] wr w2) : OfR t w w2 rb sb v os xs := ⟨h.hk.trans hk (by simp), h.s.keep hk (by simp), h.r.keep hk (by simp), h.tn, own_keep h.own hk (by simp), h.ne, h.nr, h.ns⟩
theorem OfR.sum (h : OfR t w wr rb sb v os xs) (hk : Keep [sb] wr w2) (hs : SumAt w2 t sb ys) : OfR t w w2 rb sb v os ys :=
  ⟨h.hk.trans hk (fun y hy => .inr (by rw [List.mem_singleton.1 hy]; exact h.ns)), hs, h.r.keep hk (by simpa using h.ne), h.tn, own_keep h.own hk (fun g hg hm => own_ne h.own h.s.b h.tn (by rw [hg, List.mem_singleton.1 hm])), h.ne, h.nr, h.ns⟩
theorem OfR.put (h : OfR t w wr rb sb v os xs) (k : Nat) (u : Int) : OfR t w (wr.setCell ⟨sb, k, none⟩ (.int .i64 u)) rb sb v os (xs.set k u) := h.sum ((Keep.refl _ _).set_ _ (.inl (by simp))) (h.s.put k u)
theorem OfR.drew (h : OfR t w wr rb sb v os xs) : OfR t w wr.drew rb sb v os xs := h.keep0 (Keep.refl _ _).drew
end
theorem sizeSum : (Try.prog.info? 29).map (·.size) = some 42 := by kernel_rfl
theorem sumC_one (xs : List Int) : (sumC xs).toArray.all (·.oneCell') = true := by
  rw [Array.all_eq_true_iff_forall_mem]
  intro v hv
  simp only [sumC, List.mem_toArray, List.mem_map] at hv
  obtain ⟨n, _, rfl⟩ := hv
  rfl
theorem SumAt.there {w : World} {t : TypeId} {sb : Nat} {xs : List Int} (h : SumAt w t sb xs) {n : Nat} (hn : n = 42) : w.there sb 0 n := fun j hj => by
  rw [Nat.zero_add, h.cell (by omega)]
  exact ⟨rfl, h.b.frozen _⟩
theorem SumAt.stored {w : World} {t : TypeId} {sb : Nat} {xs ys : List Int} (h : SumAt w t sb xs) (hy : ys.length = 42) : SumAt (w.setCells sb 0 (sumC ys)) t sb ys := by
  have := Blk.setCells (sumC ys) (sumC xs) [] [] w (by rw [List.nil_append, List.append_nil]; exact h.b) (by rw [sumC_len, sumC_len, h.len, hy])
  rw [List.nil_append, List.append_nil] at this
  exact ⟨this, hy⟩
theorem getD_set41 {xs : List Int} (h : xs.length = 42) (m : Int) : (xs.set 41 m).getD 41 0 = m := by
  rw [List.getD_eq_getElem?_getD, List.getElem?_set_self (by omega)]
  rfl
def StOfOut (w : World) (l : List EvS) (r : Ending) (w' : World) : Prop := ∃ os, opsOut l os ∧ r = .returned (.agg (sumC (ofP l os)).toArray) ∧ Keep [] w w'
set_option maxRecDepth 100000 in
set_option maxHeartbeats 4000000 in
theorem stats_of (w : World) (A : Option Addr) (l : List EvS) (cap : Nat) (h : ElAt evC w A l) (hl : l.length ≤ 200) (hp : ∀ e ∈ l, e.pn ≤ 1500) : Calls Try.prog 7 #[.slice A l.length cap] w (StOfOut w l) := by
  have HE := Lib.hid h
  have HL := Lib.hid hl
  have HP := Lib.hid hp
  clear h hl hp
  go_enter Try.func7, Try.ntmps7
  go_upto_region 2 with fail
  generalize hw2 : (w.alloc _).alloc _ = w2
  have HB0 : Hid (Blk w2 w.heap.size 29 (sumC zeroS).toArray) := Lib.hid (by rw [← hw2]; exact ((Blk.new w 29 (sumC zeroS).toArray).alloc (.cells (sumC zeroS).toArray 29)))
  have HB1 : Hid (Blk w2 (w.heap.size + 1) 29 (sumC zeroS).toArray) := Lib.hid (by
    have := Blk.new (w.alloc (.cells (sumC zeroS).toArray 29)) 29 (sumC zeroS).toArray
    rw [World.size_alloc] at this
    rw [← hw2]
    exact this)
  have HK2 : Hid (Keep [] w w2) := Lib.hid (by rw [← hw2]; exact (((Keep.refl [] w).alloc (.cells (sumC zeroS).toArray 29)).alloc (.cells (sumC zeroS).toArray 29)))
  have HSB : Hid (w.heap.size ≤ w.heap.size + 1 ∧ w.heap.size ≠ w.heap.size + 1) := Lib.hid (by omega)
  clear hw2
  obtain ⟨rb, hrb⟩ : ∃ b, b = w.heap.size := ⟨_, rfl⟩
  rw [← hrb] at HB0 HB1 HSB ⊢
  have HRB := Lib.hid hrb
  clear hrb
  generalize rb + 1 = sb at HB1 HSB ⊢
  have KO := Lib.hid (hist_opers w2 A l cap (HE.out.keep HK2.out) HL.out)
  go_wp2_with fail
  refine KO.out.mono ?_
  clear KO
  rintro r x ⟨hk, os, v, rfl, hos, hown⟩
  have HOR := Lib.hid (show OfR 29 w x rb sb v os (sumTo os 0) from ⟨HK2.out.trans hk (by simp), ⟨HB1.out.keep hk (by simp), rfl⟩, ⟨HB0.out.keep hk (by simp), rfl⟩, by decide, own_more hown HK2.out.size, HSB.out.2, by rw [HRB.out]; exact Nat.le_refl _, by rw [← HRB.out]; exact HSB.out.1⟩)
  have HOS := Lib.hid hos
  have HPO : Hid (∀ o ∈ os, o.pn ≤ 1500) := Lib.hid (by
    by_cases hm : MayP l l.length
    · rw [hos.1 hm]
      exact opersR_pn l 0 HP.out
    · rw [hos.2 hm]
      intro o ho
      cases ho)
  have HOL : Hid (os.length ≤ 200) := Lib.hid (by
    by_cases hm : MayP l l.length
    · rw [hos.1 hm]
      have := opersR_few l 0
      have := HL.out
      omega
    · rw [hos.2 hm]
      simp)
  obtain ⟨A3, c3, rfl⟩ := own_form hown
  clear hk hos hown HB0 HB1 HK2 HSB HRB
  go_wp2_with fail
  go_loopg [5, 6, 14] os.length (fun g v5 v6 v14 wr => ∃ n : Nat, n ≤ os.length ∧ g = os.length - n ∧ v14 = .int .i64 (n : Nat) ∧ OfR 29 w wr rb sb (.slice A3 os.length c3) os (sumTo os n))
  case atStart => exact ⟨0, Nat.zero_le _, rfl, rfl, HOR.out⟩
  case round =>
    obtain ⟨n, hn, rfl, rfl, hr⟩ := hrel
    have HR := Lib.hid hr
    clear hr HOR
    have hz0 : (0 : Int) ≤ ((n : Nat) : Int) := by omega
    have hz9 : ((n : Nat) : Int) ≤ 200 := by have := HOL.out; omega
    by_cases hlt : n < os.length
    · have hz : ((n : Nat) : Int) < ((os.length : Nat) : Int) := by omega
      obtain ⟨b, o, hA, _, c0, c1, c2, c3', c4, c5, c6, c7, c8, c9, c10, c11, c12⟩ := (ElAt.of_own (f := opC) HR.out.own rfl).at_op hlt
      subst hA
      have HLT := Lib.hid hlt
      have HSN : Hid (sumTo os (n + 1) = if overP os n = true then bump (addS (sumTo os n) (os.getD n op0)) 39 else addS (sumTo os n) (os.getD n op0)) := Lib.hid rfl
      have HLO : Hid (Low 300800 (sumTo os n)) := Lib.hid ((Low.sum (getD_pn HPO.out) n).more (by omega))
      have HPY := Lib.hid (getD_pn HPO.out n)
      clear hlt
      generalize os.getD n op0 = y at *
      go_upto_region 6 with fail
      have HB := Lib.hid (Blk.new wr 41 (opC y).toArray)
      have HR2 := Lib.hid (HR.out.keep0 ((Keep.refl [] wr).alloc (.cells (opC y).toArray 41)))
      unfold opC at HB HR2
      generalize hw2 : wr.alloc _ = w3 at HB HR2 ⊢
      clear hw2 c0 c1 c2 c3' c4 c5 c6 c7 c8 c9 c10 c11 c12
      generalize wr.heap.size = eb at HB ⊢
      have q0 := HB.out.cell 0
      have q1 := HB.out.cell 1
      have q2 := HB.out.cell 2
      have q3 := HB.out.cell 3
      have q4 := HB.out.cell 4
      have q5 := HB.out.cell 5
      have q6 := HB.out.cell 6
      have q7 := HB.out.cell 7
      have q8 := HB.out.cell 8
      have q9 := HB.out.cell 9
      have q10 := HB.out.cell 10
      have q11 := HB.out.cell 11
      have q12 := HB.out.cell 12
      go_wp2_with fail
      refine (sum_add w3 sb (sumTo os n) y HR2.out.s (HLO.out.more (by omega)) HPY.out).mono ?_
      rintro r x2 ⟨rfl, hs2, hk2⟩
      have HR3 := Lib.hid (HR2.out.sum hk2 hs2)
      clear q0 q1 q2 q3 q4 q5 q6 q7 q8 q9 q10 q11 q12 hs2 hk2 HB HR2 HR
      go_wp2_with fail
      refine (st_overlaps x2 _ os c3 n (ElAt.of_own (f := opC) HR3.out.own rfl) HOL.out HLT.out).mono ?_
      rintro r x3 ⟨rfl, hk3⟩
      have HR4 := Lib.hid (HR3.out.keep0 hk3)
      clear hk3 HR3
      have hlo := (HLO.out.add_ y HPY.out) 39
      cases hov : overP os n with
      | true =>
        have HSM : Hid (sumTo os (n + 1) = bump (addS (sumTo os n) y) 39) := Lib.hid (by rw [HSN.out, if_pos hov])
        have g1 := HR4.out.s.cell (k := 39) (by omega)
        have g2 := HR4.out.s.b.frozen 39
        have HR5 := Lib.hid (HR4.out.put 39 ((addS (sumTo os n) y).getD 39 0 + 1))
        have HSM2 : Hid ((addS (sumTo os n) y).set 39 ((addS (sumTo os n) y).getD 39 0 + 1) = sumTo os (n + 1)) := Lib.hid (by rw [HSM.out]; rfl)
        generalize hv : (addS (sumTo os n) y).getD 39 0 = u at g1 hlo HR5 HSM2
        clear hv hov
        obtain ⟨hlo1, hlo2⟩ := hlo
        go_wp2_with fail
        go_roundg (os.length - (n + 1))
        case measure => omega
        case rel => exact ⟨n + 1, by omega, rfl, by go_num, by rw [← HSM2.out]; exact HR5.out⟩
      | false =>
        have HSM : Hid (sumTo os (n + 1) = addS (sumTo os n) y) := Lib.hid (by rw [HSN.out, if_neg (by rw [hov]; decide)])
        clear hov hlo
        go_wp2_with fail
        go_roundg (os.length - (n + 1))
        case measure => omega
        case rel => exact ⟨n + 1, by omega, rfl, by go_num, by rw [HSM.out]; exact HR4.out⟩
    · have hne : n = os.length := by omega
      have hz : ¬ ((n : Nat) : Int) < ((os.length : Nat) : Int) := by omega
      have HR2 : Hid (OfR 29 w wr rb sb (.slice A3 os.length c3) os (sumTo os os.length)) := Lib.hid (by have := HR.out; rw [hne] at this; exact this)
      clear hne HR hlt hn
      have HLO : Hid (Low 300800 (sumTo os os.length)) := Lib.hid ((Low.sum (getD_pn HPO.out) os.length).more (by have := HOL.out; omega))
      by_cases h0 : os.length = 0
      · have HOF : Hid (ofP l os = sumTo os os.length) := Lib.hid (by unfold ofP; rw [if_pos h0])
        have h0b : (((os.length : Nat) : Int) == 0) = true := by rw [beq_iff_eq]; omega
        clear h0
        go_upto_region 11 with fail
        have HZ := Lib.hid HR2.out
        have HZL := Lib.hid (sumTo_len os os.length)
        generalize sumTo os os.length = zs at HZ HZL HOF
        go_wp2_with (first
          | (with_reducible refine wpList_load_mid rfl 29 (.tmp 3) rfl sb 0 rfl (sumC zs) _ HZ.out.s.b.range Try.underlying29 rfl (by rw [sumC_len, HZL.out]; exact sizeSum) ?_)
          | (with_reducible refine wpList_store_mid rfl 29 (.tmp 2) (.tmp 32) rfl rb 0 (sumC zs).toArray rfl rfl (HZ.out.r.there (by rw [List.size_toArray, sumC_len, HZL.out])) (by rw [List.size_toArray, sumC_len, HZL.out]; exact sizeSum) (sumC_one _) ?_))
        have HFS := Lib.hid (HZ.out.r.stored (ys := zs) HZL.out)
        have HKF : Hid (Keep [] w (wr.setCells rb 0 (sumC zs))) := Lib.hid (HZ.out.hk.trans (Keep.setCells (S := [rb]) (w0 := wr) (.inl (by simp)) (sumC zs) 0 wr (Keep.refl _ _)) (fun y hy => .inr (by rw [List.mem_singleton.1 hy]; exact HZ.out.nr)))
        refine bodyPost_ret (v := .agg (sumC zs).toArray) (results_cell_row (p := 2) (ty := 29) (d := _) rfl _ _ rb _ _ _ rfl HFS.out.b Try.underlying29 rfl (by rw [List.size_toArray, sumC_len, HZL.out]; exact sizeSum)) rfl ?_
        exact ⟨os, HOS.out, by rw [HOF.out], HKF.out⟩
      · have HOF : Hid (ofP l os = (sumTo os os.length).set 41 (mostTo l l.length)) := Lib.hid (by unfold ofP; rw [if_neg h0])
        have h0b : (((os.length : Nat) : Int) == 0) = false := by rw [beq_eq_false_iff_ne]; omega
        clear h0
        have HXL := Lib.hid (sumTo_len os os.length)
        have HX0 : Hid (OfR 29 w wr rb sb (.slice A3 os.length c3) os ((sumTo os os.length).set 41 (mostTo l 0))) := Lib.hid (by
          have e := set_same (xs := sumTo os os.length) (k := 41) (by rw [sumTo_len]; decide)
          rw [sumTo_41] at e
          rw [show mostTo l 0 = 0 from rfl, e]
          exact HR2.out)
        generalize sumTo os os.length = xs at HX0 HXL HOF
        clear HR2 HLO
        go_upto_region 13 with fail
        go_wp2_with fail
        go_loopg [7, 9, 35] l.length (fun g v7 v9 v35 wr => ∃ n : Nat, n ≤ l.length ∧ g = l.length - n ∧ v35 = .int .i64 (n : Nat) ∧ v7 = .int .i64 (runC (l.take n)) ∧ OfR 29 w wr rb sb (.slice A3 os.length c3) os (xs.set 41 (mostTo l n)))
        case atStart => exact ⟨0, Nat.zero_le _, rfl, rfl, rfl, HX0.out⟩
        case round =>
          obtain ⟨n, hn, rfl, rfl, rfl, hr⟩ := hrel
          have HR := Lib.hid hr
          clear hr HX0
          have hz0 : (0 : Int) ≤ ((n : Nat) : Int) := by omega
          have hz9 : ((n : Nat) : Int) ≤ 200 := by have := HL.out; omega
          by_cases hlt : n < l.length
          · have hz : ((n : Nat) : Int) < ((l.length : Nat) : Int) := by omega
            obtain ⟨b, o, hA, _, c0, c1, c2, c3', c4, c5, c6, c7, c8, c9, c10, c11⟩ := (HE.out.keep HR.out.hk).at_ev hlt
            subst hA
            have HMS : Hid (mostTo l (n + 1) = max (mostTo l n) (runC (l.take (n + 1)))) := Lib.hid rfl
            have HRS : Hid (runC (l.take (n + 1)) = if (l.getD n ev0).back = true then runC (l.take n) - 1 else runC (l.take n) + 1) := Lib.hid (by rw [take_snoc hlt, runC_snoc])
            have hb1 := runC_le l n
            have hb2 := mostTo_le l n
            obtain ⟨hb11, hb12⟩ := hb1
            obtain ⟨hb21, hb22⟩ := hb2
            generalize runC (l.take n) = c at *
            generalize hmm : mostTo l n = m at HR HMS hb21 hb22
            clear hmm
            clear hlt
            generalize l.getD n ev0 = y at *
            go_upto_region 16 with fail
            have HB := Lib.hid (Blk.new wr 51 (evC y).toArray)
            have HR2 := Lib.hid (HR.out.keep0 ((Keep.refl [] wr).alloc (.cells (evC y).toArray 51)))
            unfold evC at HB HR2
            generalize hw2 : wr.alloc _ = w3 at HB HR2 ⊢
            clear hw2 c0 c1 c2 c3' c4 c5 c6 c7 c8 c9 c10 c11 HR
            generalize wr.heap.size = eb at HB ⊢
            have q1 := HB.out.cell 1
            have g1 := HR2.out.s.cell (k := 41) (by omega)
            rw [getD_set41 HXL.out] at g1
            have g2 := HR2.out.s.b.frozen 41
            cases hbk : y.back with
            | true =>
              replace q1 : w3.cell? ⟨eb, 1, none⟩ = some (.bool true) := by rw [q1, hbk]; rfl
              have HRN : Hid (runC (l.take (n + 1)) = c + 1 - 2) := Lib.hid (by rw [HRS.out, hbk]; show c - 1 = _; omega)
              clear hbk HRS
              by_cases hmx : m < c + 1 - 2
              · have HMN : Hid (mostTo l (n + 1) = c + 1 - 2) := Lib.hid (by rw [HMS.out, HRN.out]; omega)
                have HR3 := Lib.hid (HR2.out.put 41 (c + 1 - 2))
                rw [List.set_set] at HR3
                clear HMS HR2
                go_wp2_with fail
                go_roundg (l.length - (n + 1))
                case measure => omega
                case rel => exact ⟨n + 1, by omega, rfl, by go_num, by rw [HRN.out], by rw [HMN.out]; exact HR3.out⟩
              · replace hmx : c + 1 - 2 ≤ m := by omega
                have HMN : Hid (mostTo l (n + 1) = m) := Lib.hid (by rw [HMS.out, HRN.out]; omega)
                have HR3 := Lib.hid (HR2.out.put 41 (m))
                rw [List.set_set] at HR3
                clear HMS HR2
                go_wp2_with fail
                go_roundg (l.length - (n + 1))
                case measure => omega
                case rel => exact ⟨n + 1, by omega, rfl, by go_num, by rw [HRN.out], by rw [HMN.out]; exact HR3.out⟩
            | false =>
              replace q1 : w3.cell? ⟨eb, 1, none⟩ = some (.bool false) := by rw [q1, hbk]; rfl
              have HRN : Hid (runC (l.take (n + 1)) = c + 1) := Lib.hid (by rw [HRS.out, hbk]; rfl)
              clear hbk HRS
              by_cases hmx : m < c + 1
              · have HMN : Hid (mostTo l (n + 1) = c + 1) := Lib.hid (by rw [HMS.out, HRN.out]; omega)
                have HR3 := Lib.hid (HR2.out.put 41 (c + 1))
                rw [List.set_set] at HR3
                clear HMS HR2
                go_wp2_with fail
                go_roundg (l.length - (n + 1))
                case measure => omega
                case rel => exact ⟨n + 1, by omega, rfl, by go_num, by rw [HRN.out], by rw [HMN.out]; exact HR3.out⟩
              · replace hmx : c + 1 ≤ m := by omega
                have HMN : Hid (mostTo l (n + 1) = m) := Lib.hid (by rw [HMS.out, HRN.out]; omega)
                have HR3 := Lib.hid (HR2.out.put 41 (m))
                rw [List.set_set] at HR3
                clear HMS HR2
                go_wp2_with fail
                go_roundg (l.length - (n + 1))
                case measure => omega
                case rel => exact ⟨n + 1, by omega, rfl, by go_num, by rw [HRN.out], by rw [HMN.out]; exact HR3.out⟩
          · have hne : n = l.length := by omega
            have hz : ¬ ((n : Nat) : Int) < ((l.length : Nat) : Int) := by omega
            have HZ : Hid (OfR 29 w wr rb sb (.slice A3 os.length c3) os (ofP l os)) := Lib.hid (by rw [HOF.out, ← hne]; exact HR.out)
            have HZL := Lib.hid (ofP_len l os)
            clear hne HR HOF hlt
            generalize hzs : ofP l os = zs at HZ HZL
            have HOF := Lib.hid hzs
            clear hzs
            go_upto_region 21 with fail
            go_wp2_with (first
              | (with_reducible refine wpList_load_mid rfl 29 (.tmp 3) rfl sb 0 rfl (sumC zs) _ HZ.out.s.b.range Try.underlying29 rfl (by rw [sumC_len, HZL.out]; exact sizeSum) ?_)
              | (with_reducible refine wpList_store_mid rfl 29 (.tmp 2) (.tmp 51) rfl rb 0 (sumC zs).toArray rfl rfl (HZ.out.r.there (by rw [List.size_toArray, sumC_len, HZL.out])) (by rw [List.size_toArray, sumC_len, HZL.out]; exact sizeSum) (sumC_one _) ?_))
            have HFS := Lib.hid (HZ.out.r.stored (ys := zs) HZL.out)
            have HKF : Hid (Keep [] w (wr.setCells rb 0 (sumC zs))) := Lib.hid (HZ.out.hk.trans (Keep.setCells (S := [rb]) (w0 := wr) (.inl (by simp)) (sumC zs) 0 wr (Keep.refl _ _)) (fun y hy => .inr (by rw [List.mem_singleton.1 hy]; exact HZ.out.nr)))
            refine bodyPost_ret (v := .agg (sumC zs).toArray) (results_cell_row (p := 2) (ty := 29) (d := _) rfl _ _ rb _ _ _ rfl HFS.out.b Try.underlying29 rfl (by rw [List.size_toArray, sumC_len, HZL.out]; exact sizeSum)) rfl ?_
            exact ⟨os, HOS.out, by rw [HOF.out], HKF.out⟩
end Go.Proofs.Ytofmonknhiggaaa
