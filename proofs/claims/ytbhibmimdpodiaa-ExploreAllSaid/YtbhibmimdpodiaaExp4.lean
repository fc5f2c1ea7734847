/- explore.At by its contract. -/
import Derived.Test.YtbhibmimdpodiaaExp3
namespace Go.Proofs.Ytbhibmimdpodiaa
open Go.RowKit

/-- What is told: a new row of turns, and whether there is one. -/
def AtOut (l : List (Int × Int)) (w : World) (r : Ending) (w' : World) : Prop := Keep [] w w' ∧ ∃ v, r = .returned (.tuple #[v, .bool true]) ∧ w'.ownsRow w.heap.size 94 2 v l.length (prL l)
def AtNone (w : World) (r : Ending) (w' : World) : Prop := r = .returned (.tuple #[.slice none 0 0, .bool false]) ∧ w = w'
set_option maxHeartbeats 400000 in
theorem exp_at_bad (t m k n : Int) (w : World) (h : ¬ RightP t m k) : Calls Try.prog 25 #[.int .i64 t, .int .i64 m, .int .i64 k, .int .i64 n] w (AtNone w) := by
  have H := Lib.hid h
  clear h
  go_enter Try.func25, Try.ntmps25
  go_wp2_with fail
  refine (exp_count_no t m k _ H.out).mono ?_
  rintro r x ⟨rfl, rfl⟩
  go_wp2_with fail
  refine (exp_in_no n 0 (-1) _ (by omega)).mono ?_
  rintro r x ⟨rfl, rfl⟩
  go_wp2
  refine bodyPost_ret (v := .tuple #[.slice none 0 0, .bool false]) (by simp [results, Try.results25, go_sem]) rfl ?_
  exact ⟨rfl, rfl⟩
set_option maxHeartbeats 400000 in
theorem exp_at_no (T M k : Nat) (n : Int) (w : World) (h1 : 1 ≤ T) (h6 : T ≤ 6) (h1' : 1 ≤ M) (h9 : M ≤ 1000) (h4 : k ≤ 4) (h : n < 0 ∨ (cntP T M k : Int) ≤ n) : Calls Try.prog 25 #[.int .i64 (T : Nat), .int .i64 (M : Nat), .int .i64 (k : Nat), .int .i64 n] w (AtNone w) := by
  have H := Lib.hid h
  have HC := Lib.hid (exp_count_yes T M k w h1 h6 h1' h9 h4)
  have hc := cntP_le h6 h9 k h4
  clear h
  generalize cntP T M k = c at *
  go_enter Try.func25, Try.ntmps25
  go_wp2_with fail
  refine HC.out.mono ?_
  rintro r x ⟨rfl, rfl⟩
  have hcz : ((c : Nat) : Int) ≤ 750000000000000 := by omega
  go_wp2_with fail
  refine (exp_in_no n 0 _ _ (by have := H.out; omega)).mono ?_
  rintro r x ⟨rfl, rfl⟩
  go_wp2
  refine bodyPost_ret (v := .tuple #[.slice none 0 0, .bool false]) (by simp [results, Try.results25, go_sem]) rfl ?_
  exact ⟨rfl, rfl⟩
/-- What holds of the loop: the schedule so far, and what comes. -/
structure AtR (w wr : World) (T M d : Nat) (R : List (Int × Int)) (v : Value) (acc : List (Int × Int)) (last : Int) (n : Nat) : Prop where
  hk : Keep [] w wr
  own : wr.ownsRow w.heap.size 94 2 v acc.length (prL acc)
  eq : acc ++ atP T M d last n = R
  lt : n < szP T M d (decide (last < 0))
  few : acc.length + d ≤ 4
section
variable {w wr w2 : World} {T M d : Nat} {R : List (Int × Int)} {v v' : Value} {acc : List (Int × Int)} {last : Int} {n : Nat} {o : Obj} {p : Int × Int}
theorem AtR.pos (h : AtR w wr T M (d + 1) R v acc last n) : 0 < chN T M (decide (last < 0)) ∧ 0 < szP T M d false := by
  have hl := h.lt
  have e : szP T M (d + 1) (decide (last < 0)) = chN T M (decide (last < 0)) * szP T M d false := rfl
  rw [e] at hl
  have h0 : 0 < chN T M (decide (last < 0)) * szP T M d false := by omega
  exact ⟨Nat.pos_of_mul_pos_right h0, Nat.pos_of_mul_pos_left h0⟩
theorem AtR.grow {w1 : World} (h : AtR w wr T M (d + 1) R v acc last n) (hp : p = turnP M last (n / szP T M d false)) (hw : Keep [] wr w1) (hown : w2.ownsRow w.heap.size 94 2 v' (acc.length + 1) (prL acc ++ [.int .i64 p.1, .int .i64 p.2])) (hg : w1.grownBy w2 v.ownBlock) : AtR w w2 T M d R v' (acc ++ [p]) p.1 (n % szP T M d false) := by
  subst hp
  refine ⟨(h.hk.trans hw (by simp)).trans (Keep.of_grown hg) (fun x hx => .inr (own_ge h.own (by simpa using hx))), ?_, ?_, ?_, by have := h.few; simp; omega⟩
  · rw [prL_app, List.length_append]
    simpa [prL, prC] using hown
  · rw [List.append_assoc]
    exact h.eq
  · have := turnP_nonneg M last (n / szP T M d false)
    rw [decide_eq_false (by omega)]
    exact Nat.mod_lt _ h.pos.2
end
theorem szP_le {T M : Nat} (h6 : T ≤ 6) (h9 : M ≤ 1000) (d : Nat) (hd : d ≤ 4) (b : Bool) : szP T M d b ≤ 750000000000000 := by
  cases b with
  | true => rw [← cntP_sz]; exact cntP_le h6 h9 d hd
  | false =>
    cases d with
    | zero => show 1 ≤ _; decide
    | succ d =>
      rw [szP_pow]
      have h2 := Nat.pow_le_pow_left (chN_le5 h6 h9) (d + 1)
      have h3 : 5000 ^ (d + 1) ≤ 5000 ^ 4 := Nat.pow_le_pow_right (by decide) (by omega)
      exact Nat.le_trans h2 (Nat.le_trans h3 (by decide))
theorem wrap_div {a b q : Nat} (h : a / b = q) (hq : q ≤ 750000000000000) : wrap64 (((a : Nat) : Int) / ((b : Nat) : Int)) = ((q : Nat) : Int) := by
  rw [← Int.natCast_ediv, h]
  clear h
  unfold wrap64
  omega
set_option maxRecDepth 100000 in
set_option maxHeartbeats 1000000 in
theorem exp_at_yes (T M k n : Nat) (w : World) (h1 : 1 ≤ T) (h6 : T ≤ 6) (h1' : 1 ≤ M) (h9 : M ≤ 1000) (h4 : k ≤ 4) (h : n < cntP T M k) : Calls Try.prog 25 #[.int .i64 (T : Nat), .int .i64 (M : Nat), .int .i64 (k : Nat), .int .i64 (n : Nat)] w (AtOut (atP T M k (-1) n) w) := by
  have HC := Lib.hid (exp_count_yes T M k w h1 h6 h1' h9 h4)
  have hc := cntP_le h6 h9 k h4
  generalize hR : atP T M k (-1) n = R
  have HST := Lib.hid (show AtR w w T M k R (.slice none 0 0) [] (-1) n from ⟨Keep.refl _ _, ⟨rfl, .inl ⟨rfl, rfl⟩⟩, hR, by rw [cntP_sz] at h; exact h, by simpa using h4⟩)
  have HSZ := Lib.hid (cntP_sz T M k)
  clear hR
  go_enter Try.func25, Try.ntmps25
  go_wp2_with fail
  refine HC.out.mono ?_
  rintro r x ⟨rfl, rfl⟩
  have hcz : ((cntP T M k : Nat) : Int) ≤ 750000000000000 := by omega
  go_wp2_with fail
  refine (exp_in_yes _ 0 _ _ (by omega) (by omega)).mono ?_
  rintro r x ⟨rfl, rfl⟩
  go_wp2_with fail
  go_loopg [3, 10, 11, 12, 13, 14, 25] k (fun g v3 v10 v11 v12 _ _ v25 wr => ∃ (d n' : Nat) (acc : List (Int × Int)) (last : Int), d = g ∧ d ≤ k ∧ v25 = .int .i64 (k - d : Nat) ∧ v3 = .int .i64 (n' : Nat) ∧ v10 = .int .i64 (szP T M d (decide (last < 0)) : Nat) ∧ v12 = .int .i64 last ∧ decide (last < 0) = (k - d == 0) ∧ AtR w wr T M d R v11 acc last n')
  case atStart => exact ⟨_, n, [], -1, rfl, Nat.le_refl _, by rw [Nat.sub_self]; rfl, rfl, by rw [HSZ.out]; rfl, rfl, by rw [Nat.sub_self]; rfl, HST.out⟩
  case round =>
    obtain ⟨d, n', acc, last, rfl, hdk, rfl, rfl, rfl, rfl, hlast, hr⟩ := hrel
    have HR := Lib.hid hr
    have HL := Lib.hid hlast
    clear hr hlast HST HC HSZ
    cases d with
    | zero =>
      have hz : ¬ ((k - 0 : Nat) : Int) < ((k : Nat) : Int) := by omega
      have HE := Lib.hid HR.out.eq
      have HOW := Lib.hid HR.out.own
      have HKK := Lib.hid HR.out.hk
      go_wp2
      refine bodyPost_ret (v := .tuple #[_, .bool true]) (by simp [results, Try.results25, go_sem]; rfl) rfl ?_
      rw [← HE.out]
      refine ⟨HKK.out, _, rfl, ?_⟩
      have := HOW.out
      simpa [atP] using this
    | succ d =>
      obtain ⟨i, hi⟩ : ∃ i, i = k - (d + 1) := ⟨_, rfl⟩
      have hz : ((i : Nat) : Int) < ((k : Nat) : Int) := by omega
      have hzi : (0 : Int) ≤ ((i : Nat) : Int) := by omega
      rw [← hi]
      obtain ⟨hp1, hp2⟩ := HR.out.pos
      have hs1 := szP_le h6 h9 d (by omega) false
      have hs2 := szP_le h6 h9 (d + 1) (by omega) (decide (last < 0))
      have hs3 := HR.out.lt
      have hb : (((i : Nat) : Int) == 0) = decide (last < 0) := by
        rw [HL.out, ← hi, Bool.eq_iff_iff, beq_iff_eq, beq_iff_eq]
        omega
      have HI := Lib.hid hi
      clear hi
      have HA : Hid (szP T M (d + 1) (decide (last < 0)) / chN T M (decide (last < 0)) = szP T M d false) := Lib.hid (Nat.mul_div_cancel_left _ hp1)
      have KC := Lib.hid (fun w' => exp_choices T M (decide (last < 0)) w' h1 h6 h9)
      have hdl := HR.out.few
      have HQ := Lib.hid (Nat.le_trans (Nat.div_le_self n' (szP T M d false)) (Nat.le_of_lt (Nat.lt_of_lt_of_le hs3 hs2)))
      have HS1 := Lib.hid hs1
      have HP1 := Lib.hid (And.intro hp1 hp2)
      clear hs1 hs2 hs3 hp1 hp2
      have HGR := Lib.hid (fun (w1 w2 : World) v' (p : Int × Int) => @AtR.grow w _ w2 T M d R _ v' acc last n' p w1 HR.out)
      generalize szP T M (d + 1) (decide (last < 0)) = SA at *
      generalize hSD : szP T M d false = SD at *
      have HSD := Lib.hid hSD
      clear hSD
      generalize chN T M (decide (last < 0)) = CC at *
      have hq1 := wrap_div HA.out HS1.out
      have hq2 := wrap_div (a := n') (b := SD) rfl HQ.out
      have hq3 : ((n' : Nat) : Int) % ((SD : Nat) : Int) = ((n' % SD : Nat) : Int) := (Int.natCast_emod _ _).symm
      generalize n' % SD = N2 at *
      generalize n' / SD = Q at *
      have KT := Lib.hid (fun w' => exp_turn M Q last w' h1' h9 (Nat.lt_of_le_of_lt HQ.out (by decide)))
      generalize hp : turnP M last Q = p at *
      have HP := Lib.hid hp
      have HPN := Lib.hid (show 0 ≤ p.1 by rw [← hp]; exact turnP_nonneg _ _ _)
      have hzc : (0 : Int) < ((CC : Nat) : Int) := Int.natCast_pos.2 HP1.out.1
      have hzs : (0 : Int) < ((SD : Nat) : Int) := Int.natCast_pos.2 HP1.out.2
      clear hp
      go_wp2_with fail
      refine (KC.out _).mono ?_
      rintro r x ⟨rfl, rfl⟩
      go_wp2_with fail
      refine (KT.out _).mono ?_
      rintro r x ⟨rfl, hk⟩
      have HKX := Lib.hid hk
      clear hk
      unfold turnV
      go_upto_region 11 with fail
      have HT := Lib.hid (Blk.new x 94 #[.int .i64 p.1, .int .i64 p.2])
      have HK2 := Lib.hid (HKX.out.alloc (.cells #[.int .i64 p.1, .int .i64 p.2] 94))
      generalize x.heap.size = tb at HT ⊢
      generalize x.alloc (.cells #[.int .i64 p.1, .int .i64 p.2] 94) = x1 at HT HK2 ⊢
      have ht0 := HT.out.cell 0
      have ht1 := HT.out.cell 1
      have HQ3 := Lib.hid hq3
      have HDF := Lib.hid (decide_eq_false (p := p.1 < 0) (by have := HPN.out; omega))
      clear hq1 hq2 hq3 hb
      go_quiet (fail)
      have HK3 := Lib.hid (HK2.out.drewN nq)
      have HT3 := Lib.hid (HT.out.drewN nq)
      generalize x1.drewN nq = x2 at HK3 HT3 ⊢
      clear ht0 ht1
      have ht0 := HT3.out.cell 0
      have ht1 := HT3.out.cell 1
      go_wp2_with (at_builtin; obtain ⟨i0, hi, hz0', hz1', hz2'⟩ := info_parts infoTurn; (refine wpList_append_own_at _ rfl (.tmp 46) (.tmp 48) 52 rfl w.heap.size 94 i0 (.agg #[.int .i64 0, .int .i64 0]) 2 16 Try.underlying52 hi hz0' hz1' hz2' rfl (by decide) _ _ _ rfl (own_keep HR.out.own (HK3.out.alloc _) (by simp)) ⟨_, 0, none⟩ 1 1 [.int .i64 p.1, .int .i64 p.2] rfl rfl (World.news_of_block (heap_alloc_new _ _)) (by simp [Value.oneCell']) (by unfold maxLen; omega) (by omega) (by have := HR.out.hk.size; have := HK3.out.size; simp; omega) ?_); clear hi hz0' hz1' hz2'; intro v2 w2 hown hg _ _; have HR2 := Lib.hid (HGR.out _ _ _ p rfl (HK3.out.alloc _) hown hg); clear hown hg)
      go_roundg d
      case measure => omega
      case rel => exact ⟨d, N2, _, p.1, rfl, by omega, congrArg (Value.int .i64) (by have := HI.out; omega), congrArg (Value.int .i64) HQ3.out, by rw [HDF.out, HSD.out], rfl, by rw [HDF.out, eq_comm, beq_eq_false_iff_ne]; have := HI.out; omega, HR2.out⟩
end Go.Proofs.Ytbhibmimdpodiaa
