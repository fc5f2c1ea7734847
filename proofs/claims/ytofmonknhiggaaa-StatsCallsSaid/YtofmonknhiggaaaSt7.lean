/- (*stats.Sum).add by its contract. Conditions: the sum's numbers are small. -/
import Derived.Test.YtofmonknhiggaaaSt6
namespace Go.Proofs.Ytofmonknhiggaaa
open Go.RowKit

def sumC (xs : List Int) : List Value := xs.map fun (n : Int) => .int .i64 n
theorem sumC_len (xs : List Int) : (sumC xs).length = xs.length := by simp [sumC]
theorem sumC_set (xs : List Int) (k : Nat) (v : Int) : (sumC xs).toArray.setIfInBounds k (.int .i64 v) = (sumC (xs.set k v)).toArray := by simp [sumC, List.map_set]
theorem sumC_at {xs : List Int} {k : Nat} (h : k < xs.length) : (sumC xs)[k]? = some (.int .i64 (xs.getD k 0)) := by
  unfold sumC
  rw [List.getElem?_map, List.getD_eq_getElem?_getD, List.getElem?_eq_getElem h]
  rfl
/-- A sum in memory. -/
structure SumAt (w : World) (t : TypeId) (sb : Nat) (xs : List Int) : Prop where
  b : Blk w sb t (sumC xs).toArray
  len : xs.length = 42
section
variable {w w' : World} {t : TypeId} {sb : Nat} {xs : List Int} {S : List Nat}
theorem SumAt.cell (h : SumAt w t sb xs) {k : Nat} (hk : k < 42) : w.cell? ⟨sb, k, none⟩ = some (.int .i64 (xs.getD k 0)) := by
  rw [h.b.cell, List.getElem?_toArray, sumC_at (by rw [h.len]; exact hk)]
theorem SumAt.put (h : SumAt w t sb xs) (k : Nat) (v : Int) : SumAt (w.setCell ⟨sb, k, none⟩ (.int .i64 v)) t sb (xs.set k v) :=
  ⟨by rw [← sumC_set]; exact h.b.set_ k _, by rw [List.length_set, h.len]⟩
theorem SumAt.drew (h : SumAt w t sb xs) : SumAt w.drew t sb xs := ⟨h.b.drew, h.len⟩
theorem SumAt.keep (h : SumAt w t sb xs) (hk : Keep S w w') (hn : sb ∉ S) : SumAt w' t sb xs := ⟨h.b.keep hk hn, h.len⟩
end
theorem stats_in (a b : Int) (c : Bool) (hc : (decide (0 ≤ a) && decide (a < b)) = c) (w : World) : Calls Try.prog 21 #[.int .i64 a, .int .i64 b] w fun r w' => r = .returned (.bool c) ∧ w = w' := by
  subst hc
  by_cases h0 : 0 ≤ a
  · rw [decide_eq_true h0, Bool.true_and]
    go_enter Try.func21, Try.ntmps21
    go_wp2
    go_ret
    exact ⟨rfl, rfl⟩
  · rw [decide_eq_false h0, Bool.false_and]
    go_enter Try.func21, Try.ntmps21
    go_wp2
    go_ret
    exact ⟨rfl, rfl⟩
/-- What add holds on its way. -/
structure AddR (w wr : World) (sb bb : Nat) (o : OpS) (xs : List Int) (c : Int) : Prop where
  s : SumAt wr 29 sb xs
  bx : Blk wr bb 41 (opC o).toArray
  ne : sb ≠ bb
  low : Low c xs
  hk : Keep [sb] w wr
section
variable {w wr : World} {sb bb : Nat} {o : OpS} {xs : List Int} {c : Int}
theorem AddR.bump (h : AddR w wr sb bb o xs c) (k : Nat) : AddR w (wr.setCell ⟨sb, k, none⟩ (.int .i64 (xs.getD k 0 + 1))).drew sb bb o (bump xs k) (c + 1) :=
  ⟨(h.s.put k _).drew, (h.bx.far (p := ⟨sb, k, none⟩) h.ne.symm _).drew, h.ne, h.low.bump_ (Int.le_refl _) k, (h.hk.set_ _ (.inl (by simp))).drew⟩
theorem AddR.pairs (h : AddR w wr sb bb o xs c) (hp : o.pn ≤ 1500) : AddR w (wr.setCell ⟨sb, 40, none⟩ (.int .i64 (xs.getD 40 0 + (o.pn : Int)))).drew sb bb o (xs.set 40 (xs.getD 40 0 + (o.pn : Int))) (c + 1500) := by
  have := h.low 40
  exact ⟨(h.s.put 40 _).drew, (h.bx.far (p := ⟨sb, 40, none⟩) h.ne.symm _).drew, h.ne, h.low.set_ (by omega) (by omega) (by omega), (h.hk.set_ _ (.inl (by simp))).drew⟩
theorem AddR.drew (h : AddR w wr sb bb o xs c) : AddR w wr.drew sb bb o xs c := ⟨h.s.drew, h.bx.drew, h.ne, h.low, h.hk.drew⟩
theorem AddR.op (h : AddR w wr sb bb o xs c) : wr.cell? ⟨bb, 1, none⟩ = some (.int .i64 o.op) := h.bx.cell 1
theorem AddR.kind (h : AddR w wr sb bb o xs c) : wr.cell? ⟨bb, 6, none⟩ = some (.int .i64 o.kind) := h.bx.cell 6
theorem AddR.prs (h : AddR w wr sb bb o xs c) : wr.cell? ⟨bb, 10, none⟩ = some (.slice o.pA o.pn o.pc) := h.bx.cell 10
theorem AddR.to (h : AddR w wr sb bb o xs c) : wr.cell? ⟨bb, 12, none⟩ = some (.int .i64 o.to) := h.bx.cell 12
theorem AddR.more (h : AddR w wr sb bb o xs c) {d : Int} (hd : c ≤ d) : AddR w wr sb bb o xs d := ⟨h.s, h.bx, h.ne, h.low.more hd, h.hk⟩
end
/-- The three parts of addS. -/
def addA (xs : List Int) (o : OpS) : List Int := if 0 ≤ o.op ∧ o.op < 15 then (if o.to < 0 then bump (bump xs o.op.toNat) (15 + o.op.toNat) else bump xs o.op.toNat) else xs
def addB (xs : List Int) (o : OpS) : List Int := if 0 ≤ o.kind ∧ o.kind < 9 then bump xs (30 + o.kind.toNat) else xs
theorem addS_parts (xs : List Int) (o : OpS) : addS xs o = if o.to < 0 then addA xs o else if o.kind = 3 then (addB (addA xs o) o).set 40 ((addB (addA xs o) o).getD 40 0 + (o.pn : Int)) else addB (addA xs o) o := by
  unfold addS addA addB
  by_cases h1 : 0 ≤ o.op ∧ o.op < 15 <;> by_cases h2 : o.to < 0 <;> by_cases h3 : 0 ≤ o.kind ∧ o.kind < 9 <;> simp [h1, h2, h3]
def AddOut (w : World) (sb : Nat) (xs : List Int) (o : OpS) (r : Ending) (w' : World) : Prop := r = .returned (.tuple #[]) ∧ SumAt w' 29 sb (addS xs o) ∧ Keep [sb] w w'
set_option maxHeartbeats 2000000 in
theorem sum_add (w : World) (sb : Nat) (xs : List Int) (o : OpS) (hs : SumAt w 29 sb xs) (hlow : Low 400000 xs) (hpn : o.pn ≤ 1500) : Calls Try.prog 15 #[.pointer (some ⟨sb, 0, none⟩), opV o] w (AddOut w sb xs o) := by
  have HPN := Lib.hid hpn
  have hz0 : ((o.pn : Nat) : Int) ≤ 1500 := by omega
  have HW0 := Lib.hid ((Keep.refl [sb] w).alloc (.cells (opC o).toArray 41))
  have HB0 := Lib.hid (Blk.new w 41 (opC o).toArray)
  have HS0 := Lib.hid (hs.keep ((Keep.refl [] w).alloc (.cells (opC o).toArray 41)) (by simp))
  have HNE : Hid (sb ≠ w.heap.size) := Lib.hid (by have := hs.b.lt; omega)
  have HLOW := Lib.hid hlow
  have HFIN := Lib.hid (addS_parts xs o)
  unfold opC at HW0 HB0 HS0
  unfold opV
  clear hs hlow hpn
  go_enter Try.func15, Try.ntmps15
  go_upto_region 1 with fail
  generalize hw1 : w.alloc _ = w1 at HW0 HB0 HS0 ⊢
  clear hw1
  generalize w.heap.size = bb at HB0 HNE ⊢
  have HR := Lib.hid (show AddR w w1 sb bb o xs 400000 from ⟨HS0.out, HB0.out, HNE.out, HLOW.out, HW0.out⟩)
  clear HW0 HB0 HS0 HNE HLOW
  have f1 := HR.out.op
  obtain ⟨c, hc⟩ : ∃ c, (decide (0 ≤ o.op) && decide (o.op < 15)) = c := ⟨_, rfl⟩
  have KI := stats_in o.op 15 c hc
  have HC := Lib.hid hc
  clear hc
  go_wp2_with fail
  refine (KI _).mono ?_
  clear KI
  rintro r x ⟨rfl, rfl⟩
  go_upto_if 7 with fail
  go_cut [] (fun wx => AddR w wx sb bb o (addA xs o) 400002)
  case first =>
    by_cases hop : 0 ≤ o.op ∧ o.op < 15
    · obtain ⟨k, hk⟩ : ∃ k : Nat, o.op = (k : Int) := ⟨o.op.toNat, by omega⟩
      have HA : Hid (addA xs o = if o.to < 0 then bump (bump xs k) (15 + k) else bump xs k) := Lib.hid (by unfold addA; rw [if_pos hop, hk]; rfl)
      obtain rfl : c = true := by rw [← HC.out, decide_eq_true hop.1, decide_eq_true hop.2]; rfl
      rw [hk] at f1
      have hzk : (0 : Int) ≤ ((k : Nat) : Int) := by omega
      have hzk2 : ((k : Nat) : Int) < 15 := by omega
      have HK15 : Hid (k < 15) := Lib.hid (by omega)
      clear hop HC
      have g1 := HR.out.s.cell (k := k) (by have := HK15.out; omega)
      have g2 := HR.out.s.b.frozen k
      have hlo := HR.out.low k
      have HR2 := Lib.hid (HR.out.bump k)
      generalize hv : xs.getD k 0 = v at g1 hlo HR2
      clear hv
      obtain ⟨hlo1, hlo2⟩ := hlo
      go_upto_region 2 with fail
      go_region
      generalize (w1.setCell ⟨sb, k, none⟩ (.int .i64 (v + 1))).drew = w2 at HR2 ⊢
      clear g1 g2 hlo1 hlo2 f1
      have f2 := HR2.out.to
      by_cases hto : o.to < 0
      · have HA2 : Hid (addA xs o = bump (bump xs k) (15 + k)) := Lib.hid (by rw [HA.out, if_pos hto])
        have f1 := HR2.out.op
        have g1 := HR2.out.s.cell (k := 15 + k) (by have := HK15.out; omega)
        have g2 := HR2.out.s.b.frozen (15 + k)
        have hlo := HR2.out.low (15 + k)
        have HR3 := Lib.hid (HR2.out.bump (15 + k))
        generalize hv : (bump xs k).getD (15 + k) 0 = v2 at g1 hlo HR3
        clear hv HA
        obtain ⟨hlo1, hlo2⟩ := hlo
        rw [hk] at f1
        clear hk
        go_upto_region 4 with fail
        go_region
        generalize (w2.setCell ⟨sb, 15 + k, none⟩ (.int .i64 (v2 + 1))).drew = w3 at HR3 ⊢
        go_wp2_with fail
        go_meet
        rw [HA2.out]
        exact HR3.out.more (by omega)
      · have HA2 : Hid (addA xs o = bump xs k) := Lib.hid (by rw [HA.out, if_neg hto])
        clear HA hk
        go_wp2_with fail
        go_meet
        rw [HA2.out]
        exact HR2.out.more (by omega)
    · have hcf : c = false := by rw [← HC.out, Bool.and_eq_false_iff, decide_eq_false_iff_not, decide_eq_false_iff_not]; omega
      subst hcf
      have HA : Hid (addA xs o = xs) := Lib.hid (by unfold addA; rw [if_neg hop])
      clear hop HC
      go_wp2_with fail
      go_meet
      rw [HA.out]
      exact HR.out.more (by omega)
  case rest =>
    have HQ := Lib.hid hcut
    clear hcut f1 HR HC
    generalize addA xs o = ys at *
    have f2 := HQ.out.to
    by_cases hto : o.to < 0
    · have HF : Hid (addS xs o = ys) := Lib.hid (by rw [HFIN.out, if_pos hto])
      clear HFIN
      go_wp2_with fail
      refine bodyPost_ret (results_none rfl _ _ _) rfl ?_
      unfold AddOut
      rw [HF.out]
      exact ⟨rfl, HQ.out.s, HQ.out.hk⟩
    · have HF : Hid (addS xs o = if o.kind = 3 then (addB ys o).set 40 ((addB ys o).getD 40 0 + (o.pn : Int)) else addB ys o) := Lib.hid (by rw [HFIN.out, if_neg hto])
      clear HFIN
      have f1 := HQ.out.kind
      obtain ⟨c2, hc⟩ : ∃ c, (decide (0 ≤ o.kind) && decide (o.kind < 9)) = c := ⟨_, rfl⟩
      have KI := stats_in o.kind 9 c2 hc
      have HC := Lib.hid hc
      clear hc
      go_wp2_with fail
      refine (KI _).mono ?_
      clear KI
      rintro r x ⟨rfl, rfl⟩
      go_upto_if 41 with fail
      clear f2 hto
      go_cut [] (fun wx => AddR w wx sb bb o (addB ys o) 400003)
      case first =>
        by_cases hop : 0 ≤ o.kind ∧ o.kind < 9
        · obtain ⟨k, hk⟩ : ∃ k : Nat, o.kind = (k : Int) := ⟨o.kind.toNat, by omega⟩
          have HA : Hid (addB ys o = bump ys (30 + k)) := Lib.hid (by unfold addB; rw [if_pos hop, hk]; rfl)
          obtain rfl : c2 = true := by rw [← HC.out, decide_eq_true hop.1, decide_eq_true hop.2]; rfl
          rw [hk] at f1
          have hzk : (0 : Int) ≤ ((k : Nat) : Int) := by omega
          have hzk2 : ((k : Nat) : Int) < 9 := by omega
          have HK9 : Hid (k < 9) := Lib.hid (by omega)
          clear hop HC hk
          have g1 := HQ.out.s.cell (k := 30 + k) (by have := HK9.out; omega)
          have g2 := HQ.out.s.b.frozen (30 + k)
          have hlo := HQ.out.low (30 + k)
          have HR2 := Lib.hid (HQ.out.bump (30 + k))
          generalize hv : ys.getD (30 + k) 0 = v at g1 hlo HR2
          clear hv
          obtain ⟨hlo1, hlo2⟩ := hlo
          go_upto_region 7 with fail
          go_region
          generalize (wc.setCell ⟨sb, 30 + k, none⟩ (.int .i64 (v + 1))).drew = w2 at HR2 ⊢
          go_wp2_with fail
          go_meet
          rw [HA.out]
          exact HR2.out.more (by omega)
        · have hcf : c2 = false := by rw [← HC.out, Bool.and_eq_false_iff, decide_eq_false_iff_not, decide_eq_false_iff_not]; omega
          subst hcf
          have HA : Hid (addB ys o = ys) := Lib.hid (by unfold addB; rw [if_neg hop])
          clear hop HC
          go_wp2_with fail
          go_meet
          rw [HA.out]
          exact HQ.out.more (by omega)
      case rest =>
        have HZ := Lib.hid hcut
        clear hcut f1 HQ HC
        generalize addB ys o = zs at *
        have f1 := HZ.out.kind
        by_cases hk : o.kind = 3
        · have HF2 : Hid (addS xs o = zs.set 40 (zs.getD 40 0 + (o.pn : Int))) := Lib.hid (by rw [HF.out, if_pos hk])
          rw [hk] at f1
          clear hk HF
          have f3 := HZ.out.prs
          have g1 := HZ.out.s.cell (k := 40) (by omega)
          have g2 := HZ.out.s.b.frozen 40
          have hlo := HZ.out.low 40
          have HR2 := Lib.hid (HZ.out.pairs HPN.out)
          generalize hv : zs.getD 40 0 = v at g1 hlo HR2 HF2
          clear hv
          obtain ⟨hlo1, hlo2⟩ := hlo
          generalize o.pn = pn at *
          go_upto_region 9 with fail
          go_region
          generalize (wc.setCell ⟨sb, 40, none⟩ (.int .i64 (v + (pn : Int)))).drew = w2 at HR2 ⊢
          go_wp2_with fail
          go_end0
          unfold AddOut
          rw [HF2.out]
          exact ⟨rfl, HR2.out.s, HR2.out.hk⟩
        · have HF2 : Hid (addS xs o = zs) := Lib.hid (by rw [HF.out, if_neg hk])
          have hkb : (o.kind == 3) = false := by rw [beq_eq_false_iff_ne]; exact hk
          clear hk HF
          go_wp2_with fail
          go_end0
          unfold AddOut
          rw [HF2.out]
          exact ⟨rfl, HZ.out.s, HZ.out.hk⟩
end Go.Proofs.Ytofmonknhiggaaa
