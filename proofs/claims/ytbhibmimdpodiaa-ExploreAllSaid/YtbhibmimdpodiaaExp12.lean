/- Explore: the law's example, and its walk. No condition. -/
import Derived.Test.YtbhibmimdpodiaaExp11
import Derived.Test.YtbhibmimdpodiaaExp4
namespace Go.Proofs.Ytbhibmimdpodiaa
open Go.RowKit

theorem atP_lives : atP 2 1 2 (-1) 1 = [(1, 1), (0, 1)] := by decide
theorem cnt_lives : cntP 2 1 2 = 2 := by decide
theorem eql_lives (w : World) : (binOp .eql 94 (.agg #[.int .i64 0, .int .i64 1]) (.agg #[.int .i64 0, .int .i64 1])).run Try.prog w = .ok (.bool true) w := by kernel_rfl
set_option maxHeartbeats 1000000 in
theorem law36_lives (w : World) : Calls Try.prog 20 #[] w fun r w' => r = .returned (.bool true) ∧ Keep [] w w' := by
  have KA : Hid (Calls Try.prog 25 #[.int .i64 2, .int .i64 1, .int .i64 2, .int .i64 1] w (AtOut [(1, 1), (0, 1)] w)) := Lib.hid (by
    have := exp_at_yes 2 1 2 1 w (by decide) (by decide) (by decide) (by decide) (by decide) (by decide)
    rw [atP_lives] at this
    exact this)
  have KC : Hid (∀ w', Calls Try.prog 19 #[.int .i64 2, .int .i64 1, .int .i64 2] w' fun r w'' => r = .returned (.int .i64 2) ∧ w' = w'') := Lib.hid (fun w' => by
    have := exp_count_yes 2 1 2 w' (by decide) (by decide) (by decide) (by decide) (by decide)
    rw [cnt_lives] at this
    exact this)
  have hq := eql_lives
  go_enter Try.func20, Try.ntmps20
  go_wp2_with (first
    | (go_at_call 25; refine KA.out.mono ?_; rintro r x ⟨hk, v, rfl, hown⟩; have HK := Lib.hid hk; obtain ⟨g, c, rfl, _, _⟩ := hown.form (by decide); have hc0 : x.cell? ⟨g, 0, none⟩ = some (.int .i64 1) := (by have := hown.cells (g := g) rfl 0 _ rfl; rwa [Addr_add_zero] at this); have hc1 : x.cell? ⟨g, 1, none⟩ = some (.int .i64 1) := (by have := hown.cells (g := g) rfl 1 _ rfl; rwa [Addr_add_zero] at this); have hc2 : x.cell? ⟨g, 2, none⟩ = some (.int .i64 0) := (by have := hown.cells (g := g) rfl 2 _ rfl; rwa [Addr_add_zero] at this); have hc3 : x.cell? ⟨g, 3, none⟩ = some (.int .i64 1) := (by have := hown.cells (g := g) rfl 3 _ rfl; rwa [Addr_add_zero] at this); clear hk hown)
    | (go_at_call 19; refine (KC.out _).mono ?_; rintro r x ⟨rfl, rfl⟩))
  go_ret
  exact ⟨rfl, HK.out⟩
theorem func_not_nil (F : Nat) (lb : Array Value) (w : World) : (binOp .eql 50 (.func (.func F) #[] lb) .nilFunc).run Try.prog w = .ok (.bool false) w := by kernel_rfl
set_option maxHeartbeats 2000000 in
theorem exploreAll_no (t m k n till : Int) (w : World) (h : ¬ RightP t m k) : Calls Try.prog 5 #[.agg #[.int .i64 t, .int .i64 m, .int .i64 k], .int .i64 n, .int .i64 till] w fun r w' => r = .returned (.bool true) ∧ Keep [] w w' := by
  have HNR := Lib.hid h
  clear h
  go_enter Try.func5, Try.ntmps5
  go_upto_region 1 with fail
  have HA := Lib.hid ((Blk.new w 28 #[.int .i64 t, .int .i64 m, .int .i64 k]).alloc (.cells #[.int .i64 till] 3))
  have HT := Lib.hid (Blk.new (w.alloc (.cells #[.int .i64 t, .int .i64 m, .int .i64 k] 28)) 3 #[.int .i64 till])
  have HK := Lib.hid (((Keep.refl [] w).alloc (.cells #[.int .i64 t, .int .i64 m, .int .i64 k] 28)).alloc (.cells #[.int .i64 till] 3))
  simp only [World.size_alloc] at HT
  generalize (w.alloc (.cells #[.int .i64 t, .int .i64 m, .int .i64 k] 28)).alloc (.cells #[.int .i64 till] 3) = w2 at *
  generalize w.heap.size + 1 = tb at *
  generalize w.heap.size = ab at *
  have ha0 := HA.out.cell 0
  have ha1 := HA.out.cell 1
  have ha2 := HA.out.cell 2
  go_upto_region 6 with (first
    | (go_at_call 18; refine (ref36_many_no t m k _ HNR.out).mono ?_; rintro r x ⟨rfl, rfl⟩)
    | (go_at_call 19; refine (exp_count_no t m k _ HNR.out).mono ?_; rintro r x ⟨rfl, rfl⟩))
  go_upto_region 7 with (go_at_call 21; refine (ref36_all_no t m k _ HNR.out).mono ?_; rintro r x ⟨rfl, hk⟩; have HK1 := Lib.hid hk; clear hk ha0 ha1 ha2)
  have HR := Lib.hid (Blk.new x 47 #[.slice none 0 0])
  have HK2 := Lib.hid ((Keep.refl [] x).alloc (.cells #[.slice none 0 0] 47))
  generalize x.alloc (.cells #[.slice none 0 0] 47) = w3 at *
  generalize x.heap.size = rb at *
  have HK3 := Lib.hid (HK1.out.trans HK2.out (by simp))
  have HA3 := Lib.hid (HA.out.keep HK3.out (by simp))
  have HT3 := Lib.hid (HT.out.keep HK3.out (by simp))
  have ha0 := HA3.out.cell 0
  have ha1 := HA3.out.cell 1
  have ha2 := HA3.out.cell 2
  go_upto_region 8 with (go_at_call 22; refine (exp_each t m k _).mono ?_; rintro r y ⟨hk, hb, mb, kb, rfl, h1, h2, h3⟩; have HK4 := Lib.hid hk; have HE := Lib.hid (And.intro h1 (And.intro h2 h3)); clear hk h1 h2 h3 ha0 ha1 ha2)
  have HR4 := Lib.hid (HR.out.keep HK4.out (by simp))
  have HA4 := Lib.hid (HA3.out.keep HK4.out (by simp))
  have HT4 := Lib.hid (HT3.out.keep HK4.out (by simp))
  have hr0 := HR4.out.cell 0
  have hq := func_not_nil
  go_upto_region 10 with fail
  go_upto_region 12 with fail
  have HI := Lib.hid ((Blk.new y 3 #[.int .i64 0]).alloc (.cells #[.bool true] 4))
  have HF := Lib.hid (Blk.new (y.alloc (.cells #[.int .i64 0] 3)) 4 #[.bool true])
  have HK5 := Lib.hid (((Keep.refl [] y).alloc (.cells #[.int .i64 0] 3)).alloc (.cells #[.bool true] 4))
  simp only [World.size_alloc] at HF
  generalize (y.alloc (.cells #[.int .i64 0] 3)).alloc (.cells #[.bool true] 4) = w5 at *
  generalize y.heap.size + 1 = fb at *
  generalize y.heap.size = ib at *
  have HE5 := Lib.hid (And.intro (HE.out.1.keep HK5.out (by simp)) (And.intro (HE.out.2.1.keep HK5.out (by simp)) (HE.out.2.2.keep HK5.out (by simp))))
  go_upto_region 13 with (go_at_call 43; refine (each1_no t m k _ hb mb kb _ _ HNR.out HE5.out.1 HE5.out.2.1 HE5.out.2.2).mono ?_; rintro r z ⟨rfl, hk⟩; have HK6 := Lib.hid hk; clear hk)
  have HK36 := Lib.hid ((HK4.out.trans HK5.out (by simp)).trans HK6.out (by simp))
  have ha0 := (HA3.out.keep HK36.out (by simp)).cell 0
  have ha1 := (HA3.out.keep HK36.out (by simp)).cell 1
  have ha2 := (HA3.out.keep HK36.out (by simp)).cell 2
  have ht0 := (HT3.out.keep HK36.out (by simp)).cell 0
  have hr0 := (HR.out.keep HK36.out (by simp)).cell 0
  have hi0 := (HI.out.keep HK6.out (by simp)).cell 0
  have hf0 := (HF.out.keep HK6.out (by simp)).cell 0
  have HK06 := Lib.hid ((HK.out.trans HK3.out (by simp)).trans HK36.out (by simp))
  have hn : n < 0 ∨ 0 ≤ n := by omega
  have ht : till ≤ 0 ∨ 0 < till := by omega
  rcases ht with ht | ht
  case' inl => have ht2 : ¬ 0 < till := by omega
  case' inr => have ht2 : ¬ till < 0 := by omega
  all_goals
    (rcases hn with hn | hn
     case' inr => have hn2 : ¬ n < 0 := by omega
     all_goals
       (go_wp2_with (first
         | (go_at_call 25; refine (exp_at_bad t m k n _ HNR.out).mono ?_; rintro r x2 ⟨rfl, rfl⟩)
         | (go_at_call 20; refine (law36_lives _).mono ?_; rintro r x3 ⟨rfl, hk⟩; have HK7 := Lib.hid hk; clear hk))
        go_ret
        exact ⟨rfl, HK06.out.trans HK7.out (by simp)⟩))
end Go.Proofs.Ytbhibmimdpodiaa
