/- Explore: the law's walk within the bounds. -/
import Derived.Test.YtbhibmimdpodiaaExp12
namespace Go.Proofs.Ytbhibmimdpodiaa
open Go.RowKit

theorem endP_all (till : Int) (N : Nat) : ((endP till 0 N).2 : Int) = if 0 < till ∧ till < N then till else (N : Int) := by
  unfold endP
  by_cases h : 0 < till ∧ till < N
  · rw [if_pos h, if_pos (by omega)]
    show ((till.toNat : Nat) : Int) = till
    omega
  · rw [if_neg h]
    by_cases h2 : ((0 : Nat) : Int) < till ∧ till ≤ ((0 + N : Nat) : Int)
    · rw [if_pos h2]
      show ((till.toNat : Nat) : Int) = N
      omega
    · rw [if_neg h2]
      show ((0 + N : Nat) : Int) = N
      omega
set_option maxHeartbeats 4000000 in
theorem exploreAll_yes (T M k : Nat) (n till : Int) (w : World) (h1 : 1 ≤ T) (h6 : T ≤ 6) (h1' : 1 ≤ M) (h9 : M ≤ 1000) (h4 : k ≤ 4) : Calls Try.prog 5 #[.agg #[.int .i64 (T : Nat), .int .i64 (M : Nat), .int .i64 (k : Nat)], .int .i64 n, .int .i64 till] w fun r w' => r = .returned (.bool true) ∧ Keep [] w w' := by
  have HBD := Lib.hid (And.intro (And.intro h1 h6) (And.intro h1' (And.intro h9 h4)))
  obtain ⟨ls, hls⟩ : ∃ l, l = extP T M k (-1) := ⟨_, rfl⟩
  have hlen : cntP T M k = ls.length := by rw [hls, extP_len, cntP_sz]; rfl
  have KM := Lib.hid (fun w' => ref36_many_yes T M k w' h1 h6 h1' h9 h4)
  have KC := Lib.hid (fun w' => exp_count_yes T M k w' h1 h6 h1' h9 h4)
  have KA := Lib.hid (fun w' => ref36_all T M k w' h1 h6 h1' h9 h4)
  have KAN := Lib.hid (fun w' => exp_at_no T M k n w' h1 h6 h1' h9 h4)
  have KAY := Lib.hid (fun (n : Nat) w' => exp_at_yes T M k n w' h1 h6 h1' h9 h4)
  have HAT := Lib.hid (extP_at T M k (-1))
  have hcb : ls.length ≤ 750000000000000 := by rw [← hlen]; exact cntP_le h6 h9 k h4
  rw [hlen] at KM KC KA KAN KAY
  rw [← hls] at KA HAT
  have HAT2 : Hid (∀ j, j < ls.length → ls.getD j [] = atP T M k (-1) j) := Lib.hid (fun j hj => by
    rw [List.getD_eq_getElem?_getD, HAT.out j (by show j < szP T M k true; rw [← cntP_sz, hlen]; exact hj)]
    rfl)
  have HLS := Lib.hid hls
  have HMEM := Lib.hid (fun p (h : p ∈ ls) => (extP_mem (T := T) (M := M) h1 k (-1) p (by rw [← hls]; exact h)).1)
  have hzc : ((ls.length : Nat) : Int) ≤ 750000000000000 := by omega
  have hzc0 : (0 : Int) ≤ ((ls.length : Nat) : Int) := by omega
  have HEP := Lib.hid (endP_all till ls.length)
  clear hls hlen hcb h1 h6 h1' h9 h4 HAT
  go_enter Try.func5, Try.ntmps5
  go_upto_region 1 with fail
  have HA := Lib.hid ((Blk.new w 28 #[.int .i64 (T : Nat), .int .i64 (M : Nat), .int .i64 (k : Nat)]).alloc (.cells #[.int .i64 till] 3))
  have HT := Lib.hid (Blk.new (w.alloc (.cells #[.int .i64 (T : Nat), .int .i64 (M : Nat), .int .i64 (k : Nat)] 28)) 3 #[.int .i64 till])
  have HK := Lib.hid (((Keep.refl [] w).alloc (.cells #[.int .i64 (T : Nat), .int .i64 (M : Nat), .int .i64 (k : Nat)] 28)).alloc (.cells #[.int .i64 till] 3))
  simp only [World.size_alloc] at HT
  generalize (w.alloc (.cells #[.int .i64 (T : Nat), .int .i64 (M : Nat), .int .i64 (k : Nat)] 28)).alloc (.cells #[.int .i64 till] 3) = w2 at *
  generalize w.heap.size + 1 = tb at *
  generalize w.heap.size = ab at *
  have ha0 := HA.out.cell 0
  have ha1 := HA.out.cell 1
  have ha2 := HA.out.cell 2
  obtain hbig | hbig := Classical.em (3000 < ls.length)
  · have hz3 : (3000 : Int) < ((ls.length : Nat) : Int) := by omega
    go_wp2_with (first
      | (go_at_call 18; refine (KM.out _).mono ?_; rintro r x ⟨rfl, rfl⟩)
      | (go_at_call 19; refine (KC.out _).mono ?_; rintro r x ⟨rfl, rfl⟩)
      | (go_at_call 20; refine (law36_lives _).mono ?_; rintro r x3 ⟨rfl, hk⟩; have HK7 := Lib.hid hk; clear hk))
    go_ret
    exact ⟨rfl, HK.out.trans HK7.out (by simp)⟩
  have hz3 : ¬ (3000 : Int) < ((ls.length : Nat) : Int) := by omega
  have HL3 := Lib.hid (show ls.length ≤ 3000 by omega)
  clear hbig
  go_upto_region 6 with (first
    | (go_at_call 18; refine (KM.out _).mono ?_; rintro r x ⟨rfl, rfl⟩)
    | (go_at_call 19; refine (KC.out _).mono ?_; rintro r x ⟨rfl, rfl⟩))
  go_upto_region 7 with (go_at_call 21; refine (KA.out _ HL3.out).mono ?_; rintro r x ⟨hk, v, rfl, hr⟩; have HK1 := Lib.hid hk; have HROW := Lib.hid hr; obtain ⟨vs, hown, _⟩ := hr; obtain ⟨A8, c8, rfl⟩ := own_form hown; clear hk hown ha0 ha1 ha2)
  have HR := Lib.hid (Blk.new x 47 #[.slice A8 ls.length c8])
  have HK2 := Lib.hid ((Keep.refl [] x).alloc (.cells #[.slice A8 ls.length c8] 47))
  generalize x.alloc (.cells #[.slice A8 ls.length c8] 47) = w3 at *
  generalize x.heap.size = rb at *
  have HK3 := Lib.hid (HK1.out.trans HK2.out (by simp))
  have HROW3 := Lib.hid (HROW.out.keep0 HK2.out)
  have HA3 := Lib.hid (HA.out.keep HK3.out (by simp))
  have HT3 := Lib.hid (HT.out.keep HK3.out (by simp))
  have ha0 := HA3.out.cell 0
  have ha1 := HA3.out.cell 1
  have ha2 := HA3.out.cell 2
  go_upto_region 8 with (go_at_call 22; refine (exp_each (T : Nat) (M : Nat) (k : Nat) _).mono ?_; rintro r y ⟨hk, hb, mb, kb, rfl, h1, h2, h3⟩; have HK4 := Lib.hid hk; have HE := Lib.hid (And.intro h1 (And.intro h2 h3)); clear hk h1 h2 h3 ha0 ha1 ha2)
  have HR4 := Lib.hid (HR.out.keep HK4.out (by simp))
  have HA4 := Lib.hid (HA3.out.keep HK4.out (by simp))
  have HT4 := Lib.hid (HT3.out.keep HK4.out (by simp))
  have hr0 := HR4.out.cell 0
  have hq := func_not_nil
  go_upto_region 10 with fail
  go_upto_region 12 with fail
  have HI := Lib.hid ((Blk.new y 3 #[.int .i64 0]).alloc (.cells #[.bool true] 4))
  have HF := Lib.hid (Blk.new (y.alloc (.cells #[.int .i64 0] 3)) 4 #[.bool true])
  have HK5 := Lib.hid (((Keep.refl [] y).alloc (.cells #[.int .i64 0] 3)).alloc (.cells #[.bool true] 4))
  have HNE := Lib.hid (And.intro (Nat.ne_of_lt HE.out.2.2.lt) (And.intro (Nat.ne_of_lt HE.out.1.lt) (And.intro (Nat.ne_of_lt HE.out.2.1.lt) (Nat.ne_of_gt HT4.out.lt))))
  have HNW : Hid (w2.heap.size ≤ y.heap.size) := Lib.hid (Nat.le_trans HK3.out.size HK4.out.size)
  simp only [World.size_alloc] at HF
  generalize (y.alloc (.cells #[.int .i64 0] 3)).alloc (.cells #[.bool true] 4) = w5 at *
  have HNF : Hid (w2.heap.size ≤ y.heap.size + 1) := Lib.hid (by have := HNW.out; omega)
  generalize y.heap.size + 1 = fb at *
  generalize y.heap.size = ib at *
  have HE5 := Lib.hid (And.intro (HE.out.1.keep HK5.out (by simp)) (And.intro (HE.out.2.1.keep HK5.out (by simp)) (HE.out.2.2.keep HK5.out (by simp))))
  have HK35 := Lib.hid (HK4.out.trans HK5.out (by simp))
  have HY : Hid (YSt w5 w2.heap.size fb ib rb tb ls till 0) := Lib.hid ⟨HF.out, HI.out, ⟨_, HR.out.keep HK35.out (by simp), HROW3.out.keep0 HK35.out⟩, HT3.out.keep HK35.out (by simp), HNE.out.2.2.2⟩
  have KE := Lib.hid (each1_yes w2.heap.size fb ib rb tb kb hb mb T M k ls till w5 HBD.out.1.1 HBD.out.1.2 HBD.out.2.1 HBD.out.2.2.1 HBD.out.2.2.2 HLS.out HL3.out HY.out HE5.out.1 HE5.out.2.1 HE5.out.2.2 HNE.out.1 HNE.out.2.1 HNE.out.2.2.1)
  go_upto_region 13 with (go_at_call 43; refine KE.out.mono ?_; rintro r z ⟨rfl, hy, hk⟩; have HYZ := Lib.hid hy; have HK6 := Lib.hid hk; clear hk hy)
  clear hr0 hq
  have HK5Z := Lib.hid ((HK35.out.mono (S' := [fb, ib]) (by simp)).trans HK6.out (fun x hx => .inl hx))
  have HKZ : Hid (Keep [] w z) := Lib.hid ((HK.out.trans HK3.out (by simp)).trans HK5Z.out (fun x hx => .inr (by
    have := HNW.out
    have := HNF.out
    have := HK.out.size
    simp only [List.mem_cons, List.not_mem_nil, or_false] at hx
    rcases hx with rfl | rfl <;> omega)))
  have HA5 := Lib.hid (HA3.out.keep HK35.out (by simp))
  have HAZ := Lib.hid (HA5.out.keep HK6.out (by simp [HA5.out.ne_ HF.out (by decide), HA5.out.ne_ HI.out (by decide)]))
  obtain ⟨v, hv, hrows⟩ := HYZ.out.a
  have HRZ := Lib.hid hv
  have HOZ := Lib.hid hrows
  obtain ⟨vs2, hown2, _⟩ := hrows
  obtain ⟨A9, c9, rfl⟩ := own_form hown2
  have HIZ := Lib.hid HYZ.out.i_
  generalize (endP till 0 ls.length).2 = E at HIZ HYZ HEP
  have ha0 := HAZ.out.cell 0
  have ha1 := HAZ.out.cell 1
  have ha2 := HAZ.out.cell 2
  have ht0 := HYZ.out.t.cell 0
  have hr0 := HRZ.out.cell 0
  have hf0 := HYZ.out.f.cell 0
  clear hv hown2
  have ht : till ≤ 0 ∨ 0 < till := by omega
  have hE := HEP.out
  have hI0 := HIZ.out.cell 0
  rcases ht with ht | ht
  case' inl =>
    have ht2 : ¬ 0 < till := by omega
    have hi0 : z.cell? ⟨ib, 0, none⟩ = some (.int .i64 (ls.length : Nat)) := by
      rw [if_neg (by omega)] at hE
      rw [hI0, hE]
      rfl
    clear hE hI0
    go_upto_region 16 with fail
  case' inr =>
    by_cases ht3 : till < (ls.length : Nat)
    case' pos =>
      have hi0 : z.cell? ⟨ib, 0, none⟩ = some (.int .i64 till) := by
        rw [if_pos ⟨ht, ht3⟩] at hE
        rw [hI0, hE]
        rfl
      clear hE hI0
      go_upto_region 16 with fail
    case' neg =>
      have hi0 : z.cell? ⟨ib, 0, none⟩ = some (.int .i64 (ls.length : Nat)) := by
        rw [if_neg (fun h => ht3 h.2)] at hE
        rw [hI0, hE]
        rfl
      clear hE hI0
      go_upto_region 16 with fail
  all_goals
    (have hn : n < 0 ∨ (0 ≤ n ∧ ((ls.length : Nat) : Int) ≤ n) ∨ (0 ≤ n ∧ n < (ls.length : Nat)) := by omega
     rcases hn with hn | hn | hn
     case' inr.inr =>
       obtain ⟨hn0, hn1⟩ := hn
       obtain ⟨j, rfl⟩ : ∃ j : Nat, n = (j : Int) := ⟨n.toNat, by omega⟩
       have hj : j < ls.length := by omega
       obtain ⟨g, c, A, c', hv, hcell, hturn⟩ := HOZ.out.at_ hj
       rw [HAT2.out j hj] at hcell hturn
       have HCL := Lib.hid hcell
       have HTU := Lib.hid hturn
       have HG : Hid (g < z.heap.size) := Lib.hid (by
         obtain ⟨vs, h1, _⟩ := HOZ.out
         rw [hv] at h1
         exact own_lt h1 rfl)
       have HKAY := Lib.hid (KAY.out j z hj)
       have HLL : Hid ((atP T M k (-1) j).length ≤ 1000) := Lib.hid (by
         have := HMEM.out (ls.getD j []) (by rw [List.getD_eq_getElem?_getD, List.getElem?_eq_getElem hj]; exact List.getElem_mem hj)
         rw [HAT2.out j hj] at this
         have := HBD.out.2.2.2
         omega)
       injection hv with e1 e2 e3
       subst e1 e3
       clear hcell hturn hj e2
       generalize atP T M k (-1) j = l at *
       go_wp2_with (first
         | (go_at_call 25; refine HKAY.out.mono ?_; rintro r x2 ⟨hk, v, rfl, hown⟩; have HK8 := Lib.hid hk; obtain ⟨A7, c7, rfl⟩ := own_form hown; have HT7 := Lib.hid (TurnsAt.of_own hown); have hc9 := (HK8.out.cell (o := j) HG.out (by simp)).trans HCL.out; have hr0 := (HRZ.out.keep HK8.out (by simp)).cell 0; have hf0 := (HYZ.out.f.keep HK8.out (by simp)).cell 0; have hi0 := ((HK8.out.cell (o := 0) HYZ.out.i_.lt (by simp)).trans hi0); clear hk hown)
         | (go_at_call 24; refine (law36_same _ _ _ l l _ _ HT7.out (HTU.out.keep0 HK8.out) HLL.out HLL.out).mono ?_; rintro r x3 ⟨rfl, hk⟩; rw [decide_eq_true (rfl : l = l)]; have HK9 := Lib.hid (Keep.of_drawn (S := []) hk); clear hk)
         | (go_at_call 20; refine (law36_lives _).mono ?_; rintro r x4 ⟨rfl, hk⟩; have HK7 := Lib.hid hk; clear hk))
       go_ret
       exact ⟨rfl, ((HKZ.out.trans HK8.out (by simp)).trans HK9.out (by simp)).trans HK7.out (by simp)⟩
     case' inl =>
       have HNN : Hid (n < 0 ∨ ((ls.length : Nat) : Int) ≤ n) := Lib.hid (.inl hn)
     case' inr.inl =>
       obtain ⟨hn0, hn1⟩ := hn
       have hn2 : ¬ n < 0 := by omega
       have HNN : Hid (n < 0 ∨ ((ls.length : Nat) : Int) ≤ n) := Lib.hid (.inr hn1)
     all_goals
       (go_wp2_with (first
         | (go_at_call 25; refine (KAN.out _ HNN.out).mono ?_; rintro r x2 ⟨rfl, rfl⟩)
         | (go_at_call 20; refine (law36_lives _).mono ?_; rintro r x3 ⟨rfl, hk⟩; have HK7 := Lib.hid hk; clear hk))
        go_ret
        exact ⟨rfl, HKZ.out.trans HK7.out (by simp)⟩))
end Go.Proofs.Ytbhibmimdpodiaa
