/- ShrinkLeast's law by its contract: it answers true. Conditions: the entries are known, fewer than 2^47. -/
import Derived.Test.YtbhibmimdpodiaaShr3
namespace Go.Proofs.Ytbhibmimdpodiaa
open Go.RowKit

theorem sizes_len (b : List EntS → Bool) : ∀ (f s : Nat) (l : List EntS) (k : Nat), (sizesGo b f s l k).1.length ≤ l.length
  | 0, _, _, _ => Nat.le_refl _
  | f + 1, s, l, k => by
    unfold sizesGo
    split
    · exact Nat.le_trans (sizes_len b f _ _ _) (pass_len _ _ _ _).1
    · exact Nat.le_refl _
theorem ones_len (b : List EntS → Bool) : ∀ (f : Nat) (l : List EntS) (k : Nat), (onesGo b f l k).1.length ≤ l.length
  | 0, _, _ => Nat.le_refl _
  | f + 1, l, k => by
    unfold onesGo
    split
    · exact Nat.le_trans (ones_len b f _ _) (pass_len _ _ _ _).1
    · exact (pass_len _ _ _ _).1
theorem least_len (b : List EntS → Bool) (l : List EntS) : (leastL b l).1.length ≤ l.length := by
  unfold leastL
  split
  · exact Nat.le_refl _
  · split
    · exact Nat.le_refl _
    · exact Nat.le_trans (ones_len _ _ _ _) (sizes_len _ _ _ _ _)
set_option maxHeartbeats 2000000 in
theorem shrinkLeast_any (w : World) (c n : Int × Int × Int) (A : Option Addr) (l : List EntS) (cap : Nat) (hE : EntAt w anyB A l) (hl2 : l.length ≤ maxLen) :
    Calls Try.prog 3 #[scriptV c (.slice A l.length cap), .agg #[.int .i64 n.1, .int .i64 n.2.1, .int .i64 n.2.2]] w fun r w' => r = .returned (.bool true) ∧ Keep [] w w' := by
  have HK := Lib.hid (((Keep.refl [] w).alloc (.cells #[.int .i64 c.1, .int .i64 c.2.1, .int .u64 c.2.2, .slice A l.length cap] 27)).alloc (.cells #[.int .i64 n.1, .int .i64 n.2.1, .int .i64 n.2.2] 29))
  have HS := Lib.hid ((Blk.new w 27 #[.int .i64 c.1, .int .i64 c.2.1, .int .u64 c.2.2, .slice A l.length cap]).alloc (.cells #[.int .i64 n.1, .int .i64 n.2.1, .int .i64 n.2.2] 29))
  have HN := Lib.hid (Blk.new (w.alloc (.cells #[.int .i64 c.1, .int .i64 c.2.1, .int .u64 c.2.2, .slice A l.length cap] 27)) 29 #[.int .i64 n.1, .int .i64 n.2.1, .int .i64 n.2.2])
  simp only [World.size_alloc] at HN
  have HE := Lib.hid (hE.keep0 HK.out)
  unfold maxLen at hl2
  clear hE
  unfold scriptV
  go_enter Try.func3, Try.ntmps3
  go_upto_region 1 with fail
  generalize w.heap.size = sb at HS HN ⊢
  generalize sb + 1 = nb at HN ⊢
  generalize (w.alloc (.cells #[.int .i64 c.1, .int .i64 c.2.1, .int .u64 c.2.2, .slice A l.length cap] 27)).alloc (.cells #[.int .i64 n.1, .int .i64 n.2.1, .int .i64 n.2.2] 29) = w1 at HK HS HN HE ⊢
  have hs0 := HS.out.cell 0
  have hs1 := HS.out.cell 1
  have hs2 := HS.out.cell 2
  have hs3 := HS.out.cell 3
  go_wp2_with fail
  refine (shr_least_nil w1 c A l.length cap).mono ?_
  rintro r x ⟨rfl, hk⟩
  have HKx := Lib.hid hk
  clear hs0 hs1 hs2 hs3 hk
  unfold scriptV
  go_upto_region 2 with fail
  have HA := Lib.hid (Blk.new x 27 #[.int .i64 c.1, .int .i64 c.2.1, .int .u64 c.2.2, .slice A l.length cap])
  have HK2 := Lib.hid (HKx.out.alloc (.cells #[.int .i64 c.1, .int .i64 c.2.1, .int .u64 c.2.2, .slice A l.length cap] 27))
  generalize x.heap.size = ab at HA ⊢
  generalize x.alloc (.cells #[.int .i64 c.1, .int .i64 c.2.1, .int .u64 c.2.2, .slice A l.length cap] 27) = w2 at HA HK2 ⊢
  clear HKx
  have HSX := Lib.hid (HS.out.keep HK2.out (by simp))
  have HNX := Lib.hid (HN.out.keep HK2.out (by simp))
  have hx0 := HSX.out.cell 0
  have hx1 := HSX.out.cell 1
  have hx2 := HSX.out.cell 2
  have hx3 := HSX.out.cell 3
  have ha0 := HA.out.cell 0
  have ha1 := HA.out.cell 1
  have ha2 := HA.out.cell 2
  have ha3 := HA.out.cell 3
  by_cases hl : 120 < l.length
  · have hz : (120 : Int) < ((l.length : Nat) : Int) := by omega
    have hz2 : ((l.length : Nat) : Int) ≤ 9223372036854775807 := by omega
    go_wp2_with (go_at_call 9; refine (law42_lives _).mono ?_; rintro r y ⟨rfl, hk⟩; have HK3 := Lib.hid hk; clear hk)
    go_ret
    exact ⟨rfl, (HK.out.trans HK2.out (by simp)).trans HK3.out (by simp)⟩
  · have hz : ¬ (120 : Int) < ((l.length : Nat) : Int) := by omega
    have hl3 : l.length ≤ 120 := by omega
    clear hl2
    go_upto_region 4 with fail
    have hsl := HSX.out.lt
    have hslne : w2.heap.size ≠ sb := fun e => by omega
    have hslne2 : sb ≠ w2.heap.size := fun e => by omega
    have HEX := Lib.hid (HE.out.keep0 HK2.out)
    have HEA := Lib.hid (HEX.out.keep0 ((Keep.refl [] w2).alloc (.cells #[] 43)))
    go_wp2_with (at_builtin; obtain ⟨i0, hi, hz0, hz1, hz2⟩ := info_parts infoEnt; refine wpList_append_any _ rfl (.tmp 48) (.tmp 50) 25 rfl w2.heap.size 43 i0 (.agg #[.int .i64 0, .bool false, .int .i64 0, .int .i64 0, .int .i64 0, .int .i64 0, .int .i64 0]) 7 56 Try.underlying25 hi hz0 hz1 hz2 rfl (by decide) (.slice (some ⟨w2.heap.size, 0, none⟩) 0 0) 0 [] rfl (World.ownsRow_made w2 #[] 0 (Nat.le_refl _) (by unfold maxLen; omega) rfl) _ A l.length cap (entL l) rfl HEA.out.reads (entL_one l) (by unfold maxLen; omega) (by omega) (by simp) ?_; clear hi hz0 hz1 hz2; intro v' w3 hown hg _; have HW := Lib.hid hown; have HK3 := Lib.hid (((Keep.refl [] w2).alloc (.cells #[] 43)).trans (Keep.of_grown hg) (fun y hy => .inr (by simp [Value.ownBlock] at hy; omega))); have HS3 := Lib.hid (HSX.out.keep HK3.out (by simp)); have hx0 := HS3.out.cell 0; have hx1 := HS3.out.cell 1; have hx2 := HS3.out.cell 2; have hx3 := HS3.out.cell 3; clear hown hg)
    have HN3 := Lib.hid (HNX.out.keep HK3.out (by simp))
    have HE3 := Lib.hid (HEX.out.keep0 HK3.out)
    obtain ⟨A5, c5, rfl⟩ := own_form HW.out
    have HW3 : Hid (EntAt w3 anyB A5 l) := Lib.hid ((EntAt.of_own (l := l) (by have := HW.out; simpa using this)).mono (fun _ _ _ => trivial))
    have KL := Lib.hid (shr_least w3 10 #[.pointer (some ⟨sb, 0, none⟩), .pointer (some ⟨nb, 0, none⟩)] c _ (bad_ok w3 sb nb c n _ HS3.out HN3.out) A l cap anyB HE3.out hl3)
    unfold scriptV at KL
    refine KL.out.mono ?_
    clear hx0 hx1 hx2 hx3 ha0 ha1 ha2 ha3 KL
    generalize hR : leastL (badB n) l = R
    have HR := Lib.hid hR
    obtain ⟨rl, rk⟩ := R
    rintro r y ⟨hk, A6, c6, rfl, he⟩
    have HK4 := Lib.hid hk
    have HE4 := Lib.hid he
    clear hk he hR
    unfold scriptV
    go_upto_region 6 with fail
    have HB4 := Lib.hid (Blk.new y 27 #[.int .i64 c.1, .int .i64 c.2.1, .int .u64 c.2.2, .slice A6 rl.length c6])
    have HK5 := Lib.hid (HK4.out.alloc (.cells #[.int .i64 c.1, .int .i64 c.2.1, .int .u64 c.2.2, .slice A6 rl.length c6] 27))
    have HE5 := Lib.hid (HE4.out.keep0 ((Keep.refl [] y).alloc (.cells #[.int .i64 c.1, .int .i64 c.2.1, .int .u64 c.2.2, .slice A6 rl.length c6] 27)))
    generalize y.heap.size = bb at HB4 ⊢
    generalize y.alloc (.cells #[.int .i64 c.1, .int .i64 c.2.1, .int .u64 c.2.2, .slice A6 rl.length c6] 27) = w5 at HB4 HK5 HE5 ⊢
    have hn0 := (HN3.out.keep HK5.out (by simp)).cell 0
    have hn1 := (HN3.out.keep HK5.out (by simp)).cell 1
    have hn2 := (HN3.out.keep HK5.out (by simp)).cell 2
    have KR := Lib.hid (ref42_least w5 A5 l c5 anyB (HW3.out.keep0 HK5.out) hl3 n)
    rw [HR.out] at KR
    have hrl : rl.length ≤ 120 := by
      have := least_len (badB n) l
      rw [HR.out] at this
      exact Nat.le_trans this hl3
    go_wp2_with fail
    refine KR.out.mono ?_
    rintro r z ⟨hk, A7, c7, rfl, he⟩
    have HK6 := Lib.hid hk
    have HE6 := Lib.hid he
    clear hk he KR hn0 hn1 hn2
    have HB6 := Lib.hid (HB4.out.keep HK6.out (by simp))
    have HS6 := Lib.hid ((HS3.out.keep HK5.out (by simp)).keep HK6.out (by simp))
    have hb0 := HB6.out.cell 0
    have hb1 := HB6.out.cell 1
    have hb2 := HB6.out.cell 2
    have hb3 := HB6.out.cell 3
    have hs0 := HS6.out.cell 0
    have hs1 := HS6.out.cell 1
    have hs2 := HS6.out.cell 2
    go_wp2_with fail
    refine (ref42_same z A6 A7 rl rl c6 c7 anyB anyB (HE5.out.keep0 HK6.out) HE6.out (by omega) (by omega)).mono ?_
    rintro r u ⟨rfl, hd⟩
    have HK7 := Lib.hid (Keep.of_drawn (S := []) hd)
    clear hd hb0 hb1 hb2 hb3 hs0 hs1 hs2
    simp only [decide_true]
    have hs3 := (HS6.out.keep HK7.out (by simp)).cell 3
    go_wp2_with fail
    refine (ref42_same u A A5 l l cap c5 anyB anyB (((HE3.out.keep0 HK5.out).keep0 HK6.out).keep0 HK7.out) (((HW3.out.keep0 HK5.out).keep0 HK6.out).keep0 HK7.out) (by omega) (by omega)).mono ?_
    rintro r v ⟨rfl, hd⟩
    have HK8 := Lib.hid (Keep.of_drawn (S := []) hd)
    clear hd hs3
    simp only [decide_true]
    go_wp2_with (go_at_call 9; refine (law42_lives _).mono ?_; rintro r y ⟨rfl, hk⟩; have HK9 := Lib.hid hk; clear hk)
    go_ret
    exact ⟨rfl, (((((((HK.out.trans HK2.out (by simp)).trans HK3.out (by simp)).trans HK5.out (by simp)).trans HK6.out (by simp)).trans HK7.out (by simp)).trans HK8.out (by simp)).trans HK9.out (by simp))⟩
end Go.Proofs.Ytbhibmimdpodiaa
