/- The reference's text of a call: has, ref35.Call by their contracts. Condition: numbers are int64. -/
import Derived.Test.YtnhkjfknhponkaaDoorTx4
import Derived.Test.YtnhkjfknhponkaaDoorNum
namespace Go.Proofs.YtnhkjfknhponkaaDoor
open Go.RowKit

def hasL (op : Int) : Bool × Bool × Bool × Bool := if op = 0 then (true, true, false, false) else if op = 1 ∨ op = 2 ∨ op = 7 ∨ op = 8 ∨ op = 11 then (true, false, false, false) else if op = 3 then (true, false, true, true) else if op = 4 ∨ op = 9 then (true, false, true, false) else (false, false, false, false)
def hasC (op : Int) : Array Value := #[.bool (hasL op).1, .bool (hasL op).2.1, .bool (hasL op).2.2.1, .bool (hasL op).2.2.2]
theorem has_done {op : Int} {w w2 : World} {tmps : Array Value} {b : Bool × Bool × Bool × Bool} (g : Nat) (hp : tmps.getD 2 undef = .pointer (some ⟨g, 0, none⟩)) (hb : Blk w2 g 85 #[.bool b.1, .bool b.2.1, .bool b.2.2.1, .bool b.2.2.2]) (he : hasL op = b) (hk : Keep [] w w2) : bodyPost Tryd.prog Tryd.f41 (fun r w' => r = .returned (.agg (hasC op)) ∧ Keep [] w w') .ret ⟨tmps, []⟩ w2 :=
  bodyPost_ret (results_cell_row (p := 2) (ty := 85) (d := .array 4 4) rfl _ _ g _ _ _ hp hb (by kernel_rfl) rfl (by kernel_rfl)) rfl ⟨by rw [← he]; rfl, hk⟩
set_option maxHeartbeats 2000000 in
theorem ref35_has (op : Int) (w : World) : Calls Tryd.prog 41 #[.int .i64 op] w fun r w' => r = .returned (.agg (hasC op)) ∧ Keep [] w w' := by
  by_cases h0 : op = 0
  · subst h0
    go_enter Tryd.func41, Tryd.ntmps41
    go_wp2_with fail
    exact has_done w.heap.size rfl (Blk.new w _ _) rfl ((Keep.refl _ _).alloc _)
  by_cases h1 : op = 1
  · subst h1
    go_enter Tryd.func41, Tryd.ntmps41
    go_wp2_with fail
    exact has_done w.heap.size rfl (Blk.new w _ _) rfl ((Keep.refl _ _).alloc _)
  by_cases h2 : op = 2
  · subst h2
    go_enter Tryd.func41, Tryd.ntmps41
    go_wp2_with fail
    exact has_done w.heap.size rfl (Blk.new w _ _) rfl ((Keep.refl _ _).alloc _)
  by_cases h7 : op = 7
  · subst h7
    go_enter Tryd.func41, Tryd.ntmps41
    go_wp2_with fail
    exact has_done w.heap.size rfl (Blk.new w _ _) rfl ((Keep.refl _ _).alloc _)
  by_cases h8 : op = 8
  · subst h8
    go_enter Tryd.func41, Tryd.ntmps41
    go_wp2_with fail
    exact has_done w.heap.size rfl (Blk.new w _ _) rfl ((Keep.refl _ _).alloc _)
  by_cases h11 : op = 11
  · subst h11
    go_enter Tryd.func41, Tryd.ntmps41
    go_wp2_with fail
    exact has_done w.heap.size rfl (Blk.new w _ _) rfl ((Keep.refl _ _).alloc _)
  by_cases h3 : op = 3
  · subst h3
    go_enter Tryd.func41, Tryd.ntmps41
    go_wp2_with fail
    exact has_done w.heap.size rfl (Blk.new w _ _) rfl ((Keep.refl _ _).alloc _)
  by_cases h4 : op = 4
  · subst h4
    go_enter Tryd.func41, Tryd.ntmps41
    go_wp2_with fail
    exact has_done w.heap.size rfl (Blk.new w _ _) rfl ((Keep.refl _ _).alloc _)
  by_cases h9 : op = 9
  · subst h9
    go_enter Tryd.func41, Tryd.ntmps41
    go_wp2_with fail
    exact has_done w.heap.size rfl (Blk.new w _ _) rfl ((Keep.refl _ _).alloc _)
  have e0 : (op == 0) = false := by rw [beq_eq_false_iff_ne]; exact h0
  have e1 : (op == 1) = false := by rw [beq_eq_false_iff_ne]; exact h1
  have e2 : (op == 2) = false := by rw [beq_eq_false_iff_ne]; exact h2
  have e7 : (op == 7) = false := by rw [beq_eq_false_iff_ne]; exact h7
  have e8 : (op == 8) = false := by rw [beq_eq_false_iff_ne]; exact h8
  have e11 : (op == 11) = false := by rw [beq_eq_false_iff_ne]; exact h11
  have e3 : (op == 3) = false := by rw [beq_eq_false_iff_ne]; exact h3
  have e4 : (op == 4) = false := by rw [beq_eq_false_iff_ne]; exact h4
  have e9 : (op == 9) = false := by rw [beq_eq_false_iff_ne]; exact h9
  have HE : hasL op = (false, false, false, false) := by
    unfold hasL
    rw [if_neg h0, if_neg (by omega), if_neg h3, if_neg (by omega)]
  clear h0 h1 h2 h7 h8 h11 h3 h4 h9
  go_enter Tryd.func41, Tryd.ntmps41
  go_wp2_with fail
  exact has_done w.heap.size rfl (Blk.new w _ _) HE ((Keep.refl _ _).alloc _)
def partB (l : List (Bool × Int)) : List UInt8 := l.flatMap fun p => if p.1 then 32 :: Lib.itoa p.2 else []
def CallX.four (c : CallX) : List (Bool × Int) := [((hasL c.op).1, c.key), ((hasL c.op).2.1, c.val), ((hasL c.op).2.2.1, c.hi), ((hasL c.op).2.2.2, c.lim)]
/-- The reference's way, the library's way. -/
theorem four_eq (c : CallX) : partB c.four = numsB c.nums := by
  obtain ⟨op, key, val, hi, lim⟩ := c
  unfold CallX.four CallX.nums hasL idxC
  by_cases h0 : op = 0
  · subst h0; simp [partB, numsB, CallX.at_]
  by_cases h1 : op = 1 ∨ op = 2 ∨ op = 7 ∨ op = 8 ∨ op = 11
  · have h3 : op ≠ 3 := by omega
    simp only [if_neg h0, if_pos h1, if_neg h3]
    simp [partB, numsB, CallX.at_]
  by_cases h3 : op = 3
  · subst h3; simp [partB, numsB, CallX.at_]
  by_cases h4 : op = 4 ∨ op = 9
  · have h5 : op = 3 ∨ op = 4 ∨ op = 9 := by omega
    simp only [if_neg h0, if_neg h1, if_neg h3, if_pos h4, if_pos h5]
    simp [partB, numsB, CallX.at_]
  · have h5 : ¬ (op = 3 ∨ op = 4 ∨ op = 9) := by omega
    simp only [if_neg h0, if_neg h1, if_neg h3, if_neg h4, if_neg h5]
    simp [partB, numsB]
theorem partB_take {l : List (Bool × Int)} {k : Nat} (h : k < l.length) : partB (l.take (k + 1)) = partB (l.take k) ++ (if (l.getD k (false, 0)).1 then 32 :: Lib.itoa (l.getD k (false, 0)).2 else []) := by
  unfold partB
  rw [take_snoc l (false, 0) h, List.flatMap_append]
  simp
theorem partB_len : ∀ l : List (Bool × Int), (∀ p ∈ l, I64 p.2) → (partB l).length ≤ 22 * l.length
  | [], _ => by simp [partB]
  | p :: l, h => by
    have h1 := itoa_len (h p (by simp))
    have h2 := partB_len l (fun m hm => h m (by simp [hm]))
    unfold partB at *
    rw [List.flatMap_cons, List.length_append, List.length_cons]
    split
    · rw [List.length_cons]; omega
    · rw [List.length_nil]; omega
set_option maxHeartbeats 4000000 in
theorem ref35_call (c : CallX) (hf : c.Fit) (w : World) : Calls Tryd.prog 20 #[.agg c.cells] w (TextOut (callZ c) w) := by
  have HB := Lib.hid (Blk.new w 48 c.cells)
  have HK0 := Lib.hid ((Keep.refl [] w).alloc (.cells c.cells 48))
  have KW := Lib.hid (fun W => ref09_word c.op W)
  have KH := Lib.hid (fun W => ref35_has c.op W)
  unfold TextOut at KW
  have hcs : c.cells = #[.int .i64 c.op, .int .i64 c.key, .int .i64 c.val, .int .i64 c.hi, .int .i64 c.lim] := rfl
  have HF := Lib.hid hf
  generalize hz : callZ c = Z
  have HZ := Lib.hid hz
  rw [hcs] at HB HK0 ⊢
  clear hf hcs hz
  go_enter Tryd.func20, Tryd.ntmps20
  go_upto_region 1 with fail
  generalize w.heap.size = cb at HB ⊢
  generalize w.alloc _ = w1 at HB HK0 ⊢
  have hc0 : w1.cell? ⟨cb, 0, none⟩ = some (.int .i64 c.op) := HB.out.cell 0
  by_cases hw : wordB c.op = []
  · have HE := Lib.hid (HZ.out.symm.trans (callZ_none hw))
    rw [hw] at KW
    clear hw
    go_wp2_with fail
    refine (KW.out _).mono ?_
    rintro r x ⟨rfl, hk⟩
    have HK := Lib.hid (HK0.out.trans hk (by simp))
    clear hk
    go_wp2_with fail
    go_ret
    exact ⟨by rw [HE.out] <;> rfl, HK.out⟩
  · have hwb : (wordB c.op == []) = false := by rw [beq_eq_false_iff_ne]; exact hw
    have HWL := Lib.hid (wordB_len c.op)
    have HZ2 : Hid (Z = wordB c.op ++ partB c.four) := Lib.hid (by
      rw [← HZ.out]
      unfold callZ
      rw [if_neg hw, four_eq])
    clear hw HZ
    generalize wordB c.op = wd at *
    go_wp2_with fail
    refine (KW.out _).mono ?_
    rintro r x ⟨rfl, hk⟩
    have HK := Lib.hid (HK0.out.trans hk (by simp))
    have HB1 := Lib.hid (HB.out.keep hk (by simp))
    clear hk HB HK0 hc0 KW
    have hc0 : x.cell? ⟨cb, 0, none⟩ = some (.int .i64 c.op) := HB1.out.cell 0
    go_wp2_with fail
    refine (KH.out _).mono ?_
    rintro r y ⟨rfl, hk⟩
    have HK2 := Lib.hid (HK.out.trans hk (by simp))
    have HB2 := Lib.hid (HB1.out.keep hk (by simp))
    clear hk HB1 HK hc0 KH
    have HF4 : Hid (∀ p ∈ c.four, I64 p.2) := Lib.hid (fun p hp => by
      unfold CallX.four at hp
      simp only [List.mem_cons, List.not_mem_nil, or_false] at hp
      rcases hp with rfl | rfl | rfl | rfl
      · exact HF.out.key
      · exact HF.out.val
      · exact HF.out.hi
      · exact HF.out.lim)
    unfold hasC
    have HFR : Hid (c.four = [((hasL c.op).1, c.key), ((hasL c.op).2.1, c.val), ((hasL c.op).2.2.1, c.hi), ((hasL c.op).2.2.2, c.lim)]) := Lib.hid rfl
    generalize c.four = fr at *
    generalize (hasL c.op).1 = b0 at *
    generalize (hasL c.op).2.1 = b1 at *
    generalize (hasL c.op).2.2.1 = b2 at *
    generalize (hasL c.op).2.2.2 = b3 at *
    clear HF
    generalize c.op = op at *
    generalize c.key = m0 at *
    generalize c.val = m1 at *
    generalize c.hi = m2 at *
    generalize c.lim = m3 at *
    go_upto_region 5 with fail
    have HH := Lib.hid (Blk.new y 85 #[.bool b0, .bool b1, .bool b2, .bool b3])
    have HB3 := Lib.hid (HB2.out.alloc (.cells #[.bool b0, .bool b1, .bool b2, .bool b3] 85))
    have HK3 := Lib.hid (HK2.out.alloc (.cells #[.bool b0, .bool b1, .bool b2, .bool b3] 85))
    generalize y.heap.size = hb at HH ⊢
    generalize y.alloc _ = w2 at HH HB3 HK3 ⊢
    have hc1 : w2.cell? ⟨cb, 1, none⟩ = some (.int .i64 m0) := HB3.out.cell 1
    have hc2 : w2.cell? ⟨cb, 2, none⟩ = some (.int .i64 m1) := HB3.out.cell 2
    have hc3 : w2.cell? ⟨cb, 3, none⟩ = some (.int .i64 m2) := HB3.out.cell 3
    have hc4 : w2.cell? ⟨cb, 4, none⟩ = some (.int .i64 m3) := HB3.out.cell 4
    clear HB2 HK2
    go_upto_region 6 with fail
    have HN := Lib.hid (Blk.new w2 87 #[.int .i64 m0, .int .i64 m1, .int .i64 m2, .int .i64 m3])
    have HH2 := Lib.hid (HH.out.alloc (.cells #[.int .i64 m0, .int .i64 m1, .int .i64 m2, .int .i64 m3] 87))
    have HK4 := Lib.hid (HK3.out.alloc (.cells #[.int .i64 m0, .int .i64 m1, .int .i64 m2, .int .i64 m3] 87))
    generalize w2.heap.size = nb at HN ⊢
    generalize w2.alloc _ = w3 at HN HH2 HK4 ⊢
    clear hc1 hc2 hc3 hc4 HH HK3 HB3
    have HC : Hid (∀ j, j < 4 → w3.cell? ⟨hb, j, none⟩ = some (.bool (fr.getD j (false, 0)).1) ∧ w3.cell? ⟨nb, j, none⟩ = some (.int .i64 (fr.getD j (false, 0)).2)) := Lib.hid (fun j hj => by
      rw [HFR.out]
      have hc : j = 0 ∨ j = 1 ∨ j = 2 ∨ j = 3 := by omega
      rcases hc with rfl | rfl | rfl | rfl <;> exact ⟨HH2.out.cell _, HN.out.cell _⟩)
    have HFL : Hid (fr.length = 4) := Lib.hid (by rw [HFR.out]; rfl)
    clear HFR HH2 HN
    go_wp2_with fail
    go_loopg [3, 6] 4 (fun g v3 v6 wr => ∃ j : Nat, j ≤ 4 ∧ g = 4 - j ∧ v6 = .int .i64 (j : Nat) ∧ wr = w3 ∧ v3 = .string ⟨(wd ++ partB (fr.take j)).toArray⟩)
    case atStart => exact ⟨0, Nat.zero_le _, rfl, rfl, rfl, by rw [List.take_zero, show partB [] = [] from rfl, List.append_nil]⟩
    case round =>
      obtain ⟨j, hj, rfl, rfl, rfl, rfl⟩ := hrel
      have hj0 : (0 : Int) ≤ ((j : Nat) : Int) := by omega
      have hj4 : ((j : Nat) : Int) ≤ 4 := by omega
      by_cases hlt : j < 4
      · have hz : ((j : Nat) : Int) < 4 := by omega
        obtain ⟨c0, c1⟩ := HC.out j hlt
        have HTK := Lib.hid (partB_take (l := fr) (k := j) (by have := HFL.out; omega))
        have HI : Hid (I64 (fr.getD j (false, 0)).2) := Lib.hid (HF4.out _ (by
          have h4 : j < fr.length := by have := HFL.out; omega
          rw [List.getD_eq_getElem?_getD, List.getElem?_eq_getElem h4]; exact List.getElem_mem h4))
        have HSL : (wd ++ partB (fr.take j)).length ≤ 100 := by
          have h1 := partB_len (fr.take j) (fun p hp => HF4.out p (List.mem_of_mem_take hp))
          have h2 := HWL.out
          rw [List.length_take] at h1
          rw [List.length_append]
          omega
        have HCT : Hid (wd ++ (partB (fr.take j) ++ if (fr.getD j (false, 0)).1 = true then 32 :: Lib.itoa (fr.getD j (false, 0)).2 else []) = wd ++ partB (fr.take (j + 1))) := Lib.hid (by rw [HTK.out])
        rw [← List.append_assoc] at HCT
        have HLT := Lib.hid hlt
        clear hlt HTK
        generalize hs2 : wd ++ partB (fr.take (j + 1)) = s2 at HCT
        have HS := Lib.hid hs2
        clear hs2
        generalize wd ++ partB (fr.take j) = s1 at *
        generalize fr.getD j (false, 0) = bq at *
        obtain ⟨b, q⟩ := bq
        dsimp only at c0 c1 HI HCT
        cases b with
        | true =>
          have KN := Lib.hid (ref35_number q HI.out.1 HI.out.2 wr)
          unfold NumOut at KN
          have hql := itoa_len HI.out
          have HCQ : Hid ((⟨s1.toArray⟩ : ByteArray) ++ ⟨#[32]⟩ ++ ⟨(Lib.itoa q).toArray⟩ = ⟨s2.toArray⟩) := Lib.hid (by
            rw [← HCT.out, if_pos rfl, show (32 :: Lib.itoa q) = [32] ++ Lib.itoa q from rfl, ← List.append_assoc, ← catL, ← catL])
          generalize Lib.itoa q = lq at *
          have hn1 : ¬ 9223372036854775807 < s1.length + 1 := by omega
          have hn2 : ¬ 9223372036854775807 < s1.length + 1 + lq.length := by omega
          clear HCT HSL hql
          go_wp2_with fail
          refine KN.out.mono ?_
          rintro r z ⟨rfl, rfl⟩
          go_wp2_with fail
          go_roundg (4 - (j + 1))
          case measure => have := HLT.out; omega
          case rel => exact ⟨j + 1, HLT.out, rfl, by go_num, rfl, by rw [HS.out]; exact congrArg Value.string HCQ.out⟩
        | false =>
          have HS2 : Hid (s1 = s2) := Lib.hid (by rw [← HCT.out, if_neg (by decide), List.append_nil])
          clear HCT HSL
          go_wp2_with fail
          go_roundg (4 - (j + 1))
          case measure => have := HLT.out; omega
          case rel => exact ⟨j + 1, HLT.out, rfl, by go_num, rfl, by rw [HS2.out, HS.out]⟩
      · have hz : ¬ ((j : Nat) : Int) < 4 := by omega
        obtain rfl : j = 4 := by omega
        have HZ3 : Hid (wd ++ partB (fr.take 4) = Z) := Lib.hid (by rw [HZ2.out, List.take_of_length_le (by have := HFL.out; omega)])
        rw [HZ3.out]
        clear HZ3 HZ2
        go_wp2_with fail
        go_ret
        exact ⟨rfl, HK4.out⟩
end Go.Proofs.YtnhkjfknhponkaaDoor
