/- stats.Calls, what it tells; Rate. Conditions: at most 150 events; the law's yield. -/
import Derived.Test.YtofmonknhiggaaaSt12
namespace Go.Proofs.Ytofmonknhiggaaa
open Go.RowKit

def opIs (op : Int) (o : OpS) : Bool := decide (o.op = op)
def cntF (os : List OpS) (op : Int) (k : Nat) : Nat := ((os.take k).filter (opIs op)).length
theorem take_snocO {l : List OpS} {j : Nat} (h : j < l.length) : l.take (j + 1) = l.take j ++ [l.getD j op0] := by
  rw [List.take_succ_eq_append_getElem h, List.getD_eq_getElem?_getD, List.getElem?_eq_getElem h]
  rfl
theorem cntF_yes {os : List OpS} {op : Int} {k : Nat} (hk : k < os.length) (h : (os.getD k op0).op = op) : cntF os op (k + 1) = cntF os op k + 1 := by
  unfold cntF
  rw [take_snocO hk, List.filter_append, List.filter_cons, if_pos (by simpa [opIs] using h)]
  simp
theorem cntF_no {os : List OpS} {op : Int} {k : Nat} (hk : k < os.length) (h : (os.getD k op0).op ≠ op) : cntF os op (k + 1) = cntF os op k := by
  unfold cntF
  rw [take_snocO hk, List.filter_append, List.filter_cons, if_neg (by simpa [opIs] using h)]
  simp
theorem cntF_le (os : List OpS) (op : Int) (k : Nat) : cntF os op k ≤ (os.filter (opIs op)).length := by
  unfold cntF
  exact ((List.take_sublist k os).filter _).length_le
theorem cntF_all (os : List OpS) (op : Int) {k : Nat} (h : os.length ≤ k) : cntF os op k = (os.filter (opIs op)).length := by
  unfold cntF
  rw [List.take_of_length_le h]
theorem filter_at {os : List OpS} {op : Int} {k : Nat} (hk : k < os.length) (h : (os.getD k op0).op = op) : (os.filter (opIs op)).getD (cntF os op k) op0 = os.getD k op0 ∧ cntF os op k < (os.filter (opIs op)).length := by
  have e : os.filter (opIs op) = (os.take k).filter (opIs op) ++ (os.getD k op0 :: (os.drop (k + 1)).filter (opIs op)) := by
    have h1 : os = os.take k ++ os.drop k := (List.take_append_drop k os).symm
    have h2 : os.drop k = os.getD k op0 :: os.drop (k + 1) := by
      rw [List.drop_eq_getElem_cons hk, List.getD_eq_getElem?_getD, List.getElem?_eq_getElem hk]
      rfl
    have h3 : os = os.take k ++ (os.getD k op0 :: os.drop (k + 1)) := by rw [← h2]; exact h1
    have h4 := congrArg (List.filter (opIs op)) h3
    rw [List.filter_append, List.filter_cons, if_pos (by simpa [opIs] using h)] at h4
    exact h4
  have hl : ((os.take k).filter (opIs op)).length = cntF os op k := rfl
  constructor
  · rw [e, List.getD_eq_getElem?_getD, List.getElem?_append_right (by rw [hl]; exact Nat.le_refl _), hl, Nat.sub_self]
    rfl
  · rw [e, List.length_append, List.length_cons, hl]
    omega
def tillN (till : Int) (n : Nat) : Nat := if 0 < till ∧ till < (n : Int) then till.toNat else n
def CallsOut (w : World) (fb ib wb tb : Nat) (WA : Option Addr) (cap : Nat) (wl : List OpS) (till : Int) (r : Ending) (w' : World) : Prop :=
  r = .returned (.tuple #[]) ∧ YdS w' fb ib wb tb WA cap wl (tillN till wl.length) till ∧ Keep [fb, ib] w w'
set_option maxHeartbeats 4000000 in
theorem stats_calls1 (w : World) (fb ib wb tb lb ob : Nat) (WA A : Option Addr) (cap lc : Nat) (l : List EvS) (os : List OpS) (op till : Int) (hos : opsOut l os) (h : YdS w fb ib wb tb WA cap (os.filter (opIs op)) 0 till)
    (hlb : Blk w lb 22 #[.slice A l.length lc]) (hob : Blk w ob 3 #[.int .i64 op]) (hE : ElAt evC w A l) (hl : l.length ≤ 150) (hp : ∀ e ∈ l, e.pn ≤ 1500) (hoi : ob ≠ ib) :
    Calls Try.prog 19 #[.func (.func 11) #[] #[.pointer (some ⟨fb, 0, none⟩), .pointer (some ⟨ib, 0, none⟩), .pointer (some ⟨wb, 0, none⟩), .pointer (some ⟨tb, 0, none⟩)], .pointer (some ⟨lb, 0, none⟩), .pointer (some ⟨ob, 0, none⟩)] w (CallsOut w fb ib wb tb WA cap (os.filter (opIs op)) till) := by
  have H := Lib.hid h
  have HLB := Lib.hid hlb
  have HOB := Lib.hid hob
  have HE := Lib.hid hE
  have HL := Lib.hid hl
  have HP := Lib.hid hp
  have HOS := Lib.hid hos
  have HPO := Lib.hid (opsOut_pn hos hp)
  have HOL : Hid (os.length ≤ 150) := Lib.hid (Nat.le_trans (opsOut_few hos) hl)
  have KO := Lib.hid (hist_opers w A l lc hE (by omega))
  have HOI : Hid (ob ≠ ib) := Lib.hid hoi
  have hc := hlb.cell 0
  clear h hlb hob hE hl hp hos hoi
  go_enter Try.func19, Try.ntmps19
  go_wp2_with fail
  refine KO.out.mono ?_
  clear KO
  rintro r x ⟨hk, os2, v, rfl, hos2, hown⟩
  obtain rfl := opsOut_same HOS.out hos2
  have HK := Lib.hid hk
  have HOW := Lib.hid hown
  obtain ⟨A3, c3, rfl⟩ := own_form hown
  clear hk hos2 hown hc
  go_wp2_with fail
  go_loopg [5, 9] os.length (fun g v5 v9 wr => ∃ k : Nat, k ≤ os.length ∧ g = os.length - k ∧ v9 = .int .i64 (k : Nat) ∧ (Keep [fb, ib] w wr ∧ wr.ownsRow w.heap.size 41 13 (.slice A3 os.length c3) os.length (os.flatMap opC)) ∧ YdS wr fb ib wb tb WA cap (os.filter (opIs op)) (cntF os op k) till ∧ Blk wr ob 3 #[.int .i64 op] ∧ ∀ m : Nat, 1 ≤ m → m ≤ cntF os op k → (m : Int) ≠ till)
  case atStart => exact ⟨0, Nat.zero_le _, rfl, rfl, ⟨HK.out.mono (by simp), HOW.out⟩, H.out.keep0 HK.out, HOB.out.keep HK.out (by simp), fun m h1 h2 => by simp [cntF] at h2; omega⟩
  case round =>
    obtain ⟨k, hk, rfl, rfl, ⟨hkw, how⟩, hy, hob, hno⟩ := hrel
    have HKW := Lib.hid hkw
    have HOWr := Lib.hid how
    have HY := Lib.hid hy
    have HOBr := Lib.hid hob
    have HNO := Lib.hid hno
    have hk0 : (0 : Int) ≤ ((k : Nat) : Int) := by omega
    have hk9 : ((k : Nat) : Int) ≤ 200 := by have := HOL.out; omega
    clear hkw how hy hob hno
    by_cases hlt : k < os.length
    · have hz : ((k : Nat) : Int) < ((os.length : Nat) : Int) := by omega
      obtain ⟨b, o, hA, _, c0, c1, c2, c3', c4, c5, c6, c7, c8, c9, c10, c11, c12⟩ := (ElAt.of_own (f := opC) HOWr.out rfl).at_op hlt
      subst hA
      have HYES := Lib.hid (cntF_yes (op := op) hlt)
      have HNOT := Lib.hid (cntF_no (op := op) hlt)
      have HAT := Lib.hid (filter_at (op := op) hlt)
      clear hlt
      generalize os.getD k op0 = y at *
      go_upto_region 3 with fail
      generalize hw3 : wr.alloc _ = w3
      have HB : Hid (Blk w3 wr.heap.size 41 (opC y).toArray) := Lib.hid (by rw [← hw3]; exact Blk.new wr _ _)
      have HK3 : Hid (Keep [] wr w3) := Lib.hid (by rw [← hw3]; exact (Keep.refl [] wr).alloc _)
      clear hw3 c0 c1 c2 c3' c4 c5 c6 c7 c8 c9 c10 c11 c12
      generalize wr.heap.size = eb at HB ⊢
      have HY3 := Lib.hid (HY.out.keep0 HK3.out)
      have HOB3 := Lib.hid (HOBr.out.keep HK3.out (by simp))
      have HOW3 := Lib.hid (own_keep HOWr.out HK3.out (by simp))
      have HKW3 := Lib.hid (HKW.out.trans HK3.out (by simp))
      have f1 : w3.cell? ⟨eb, 1, none⟩ = some (.int .i64 y.op) := HB.out.cell 1
      have f2 := HOB3.out.cell 0
      by_cases hop : y.op = op
      · obtain ⟨hat, hlt2⟩ := HAT.out hop
        have HCN := Lib.hid (HYES.out hop)
        have hqb : (y.op == op) = true := by rw [beq_iff_eq]; exact hop
        have KY := law38_yield w3 fb ib wb tb WA cap (os.filter (opIs op)) (cntF os op k) till HY3.out hlt2 (by have h1 := List.length_filter_le (opIs op) os; have := HOL.out; omega) (fun o ho => HPO.out o (List.mem_filter.1 ho).1)
        rw [hat] at KY
        unfold opV at KY
        have HKY := Lib.hid KY
        have HLN := Lib.hid (cntF_le os op (k + 1))
        obtain ⟨q0, q1, q2, q3, q4, q5, q6, q7, q8, q9, q10, q11, q12⟩ : w3.cell? ⟨eb, 0, none⟩ = some (.int .i64 y.thr) ∧ w3.cell? ⟨eb, 1, none⟩ = some (.int .i64 y.op) ∧ w3.cell? ⟨eb, 2, none⟩ = some (.int .i64 y.key) ∧ w3.cell? ⟨eb, 3, none⟩ = some (.int .i64 y.val) ∧ w3.cell? ⟨eb, 4, none⟩ = some (.int .i64 y.hi) ∧ w3.cell? ⟨eb, 5, none⟩ = some (.int .i64 y.lim) ∧ w3.cell? ⟨eb, 6, none⟩ = some (.int .i64 y.kind) ∧ w3.cell? ⟨eb, 7, none⟩ = some (.int .i64 y.akey) ∧ w3.cell? ⟨eb, 8, none⟩ = some (.int .i64 y.aval) ∧ w3.cell? ⟨eb, 9, none⟩ = some (.int .i64 y.an) ∧ w3.cell? ⟨eb, 10, none⟩ = some (.slice y.pA y.pn y.pc) ∧ w3.cell? ⟨eb, 11, none⟩ = some (.int .i64 y.frm) ∧ w3.cell? ⟨eb, 12, none⟩ = some (.int .i64 y.to) := ⟨HB.out.cell 0, HB.out.cell 1, HB.out.cell 2, HB.out.cell 3, HB.out.cell 4, HB.out.cell 5, HB.out.cell 6, HB.out.cell 7, HB.out.cell 8, HB.out.cell 9, HB.out.cell 10, HB.out.cell 11, HB.out.cell 12⟩
        clear KY hat hlt2 hop f1
        go_wp2_with fail
        refine HKY.out.mono ?_
        rintro r z ⟨rfl, hy4, hk4⟩
        have HY4 := Lib.hid hy4
        have HOB4 := Lib.hid (HOB3.out.keep hk4 (by simp only [List.mem_cons, List.not_mem_nil, or_false, not_or]; exact ⟨HOB3.out.ne_ HY3.out.hf (by decide), HOI.out⟩))
        have HOW4 := Lib.hid (own_keep HOW3.out hk4 (fun g hg hm => by
          rcases List.mem_cons.1 hm with rfl | hm
          · exact own_ne HOW3.out HY3.out.hf (by decide) hg
          · rw [List.mem_singleton.1 hm] at hg
            exact own_ne HOW3.out HY3.out.hi (by decide) hg))
        have HKW4 := Lib.hid (HKW3.out.trans hk4 (fun y hy => .inl hy))
        clear hy4 hk4 HKY q0 q1 q2 q3 q4 q5 q6 q7 q8 q9 q10 q11 q12 f2 HY3 HOB3 HOW3 HKW3
        by_cases ht : ((cntF os op k : Nat) : Int) + 1 = till
        · have hb : (((cntF os op k : Nat) : Int) + 1 != till) = false := by rw [bne_eq_false_iff_eq]; exact ht
          have HTN : Hid (cntF os op k + 1 = tillN till (os.filter (opIs op)).length) := Lib.hid (by
            unfold tillN
            have h1 := HLN.out
            rw [HCN.out] at h1
            split <;> omega)
          rw [hb]
          clear ht hb
          go_wp2_with fail
          refine bodyPost_ret (results_none rfl _ _ _) rfl ?_
          exact ⟨rfl, by rw [← HTN.out]; exact HY4.out, HKW4.out⟩
        · have hb : (((cntF os op k : Nat) : Int) + 1 != till) = true := by rw [bne_iff_ne]; exact ht
          have HNO2 : Hid (∀ m : Nat, 1 ≤ m → m ≤ cntF os op (k + 1) → (m : Int) ≠ till) := Lib.hid (fun m h1 h2 => by
            rw [HCN.out] at h2
            by_cases hm : m ≤ cntF os op k
            · exact HNO.out m h1 hm
            · have : m = cntF os op k + 1 := by omega
              rw [this]
              intro hh
              exact ht (by omega))
          rw [hb]
          clear ht hb
          go_wp2_with fail
          go_roundg (os.length - (k + 1))
          case measure => omega
          case rel => exact ⟨k + 1, by omega, rfl, by go_num, ⟨HKW4.out, HOW4.out⟩, by rw [HCN.out]; exact HY4.out, HOB4.out, HNO2.out⟩
      · have HCN := Lib.hid (HNOT.out hop)
        have hqb : (y.op == op) = false := by rw [beq_eq_false_iff_ne]; exact hop
        clear hop
        go_wp2_with fail
        go_roundg (os.length - (k + 1))
        case measure => omega
        case rel => exact ⟨k + 1, by omega, rfl, by go_num, ⟨HKW3.out, HOW3.out⟩, by rw [HCN.out]; exact HY3.out, HOB3.out, by rw [HCN.out]; exact HNO.out⟩
    · have hz : ¬ ((k : Nat) : Int) < ((os.length : Nat) : Int) := by omega
      have HTN : Hid (cntF os op k = tillN till (os.filter (opIs op)).length) := Lib.hid (by
        have h1 := HNO.out
        rw [cntF_all os op (k := k) (by omega)] at h1 ⊢
        unfold tillN
        split
        · rename_i h2
          have := h1 till.toNat (by omega) (by omega)
          omega
        · rfl)
      clear hlt
      go_wp2_with fail
      refine bodyPost_ret (results_none rfl _ _ _) rfl ?_
      exact ⟨rfl, by rw [← HTN.out]; exact HY.out, HKW.out⟩
/-- Rate's answer. -/
def quoZ (a b : Int) : Int := a.tdiv b
theorem stats_rate0 (w : World) (xs : List Int) (op : Int) (hl : xs.length = 42) (h : ¬ (0 ≤ op ∧ op < 15) ∨ ∃ k : Nat, op = (k : Int) ∧ k < 15 ∧ xs.getD k 0 = 0) : Calls Try.prog 13 #[.agg (sumC xs).toArray, .int .i64 op] w fun r w' => r = .returned (.tuple #[.int .i64 0, .bool false]) ∧ Keep [] w w' := by
  have HS : Hid (SumAt (w.alloc (.cells (sumC xs).toArray 29)) 29 w.heap.size xs) := Lib.hid ⟨Blk.new _ _ _, hl⟩
  have HK := Lib.hid ((Keep.refl [] w).alloc (.cells (sumC xs).toArray 29))
  clear hl
  rcases h with h | ⟨k, rfl, hk, h0⟩
  · have KI := stats_in op 15 false (by rw [Bool.and_eq_false_iff, decide_eq_false_iff_not, decide_eq_false_iff_not]; omega)
    clear h
    go_enter Try.func13, Try.ntmps13
    go_upto_region 1 with fail
    generalize w.alloc _ = w1 at HS HK ⊢
    generalize w.heap.size = sb at HS ⊢
    go_wp2_with fail
    refine (KI _).mono ?_
    clear KI
    rintro r x ⟨rfl, rfl⟩
    go_wp2_with fail
    go_ret2
    exact ⟨rfl, HK.out⟩
  · have hz : (0 : Int) ≤ ((k : Nat) : Int) := by omega
    have hz2 : ((k : Nat) : Int) < 15 := by omega
    have KI := stats_in (k : Int) 15 true (by rw [decide_eq_true hz, decide_eq_true hz2]; rfl)
    go_enter Try.func13, Try.ntmps13
    go_upto_region 1 with fail
    generalize w.alloc _ = w1 at HS HK ⊢
    generalize w.heap.size = sb at HS ⊢
    have g1 := HS.out.cell (k := k) (by omega)
    rw [h0] at g1
    clear h0
    go_wp2_with fail
    refine (KI _).mono ?_
    clear KI
    rintro r x ⟨rfl, rfl⟩
    go_wp2_with fail
    go_ret2
    exact ⟨rfl, HK.out⟩
end Go.Proofs.Ytofmonknhiggaaa
