/- Package plan, for rows without machine: May, New, slots, Words by their contracts (as in text Plan). Conditions: the plan's block is known; the configuration may be. -/
import Derived.Test.YtnhkjfknhponkaaDoorVoc
import Derived.Deep.RegionHeld3
import Derived.Deep.QuietTactic
import Derived.BigQuiet
import Derived.WalkSpells
import Derived.Lib.Hide
namespace Go.Proofs.YtnhkjfknhponkaaDoor
open Go.RowKit

structure ConfS where
  thr : Int
  slots : Int
  stamps : Int
def ConfS.cells (c : ConfS) : Array Value := #[.int .i64 c.thr, .int .i64 c.slots, .int .u64 c.stamps]
structure ConfS.Ok (c : ConfS) : Prop where
  t1 : 1 ≤ c.thr
  t2 : c.thr ≤ 6
  s1 : 7 ≤ c.slots
  s2 : c.slots ≤ 250
  p1 : 1 ≤ c.stamps
  p2 : c.stamps ≤ 1099511627776
def ConfS.may (c : ConfS) : Bool := decide (1 ≤ c.thr) && decide (c.thr ≤ 6) && decide (7 ≤ c.slots) && decide (c.slots ≤ 250) && decide (1 ≤ c.stamps) && decide (c.stamps ≤ 1099511627776)
theorem ConfS.may_iff {c : ConfS} : c.may = true ↔ c.Ok := by
  unfold ConfS.may
  simp only [Bool.and_eq_true, decide_eq_true_eq]
  exact ⟨fun ⟨⟨⟨⟨⟨a, b⟩, c⟩, d⟩, e⟩, f⟩ => ⟨a, b, c, d, e, f⟩, fun h => ⟨⟨⟨⟨⟨h.t1, h.t2⟩, h.s1⟩, h.s2⟩, h.p1⟩, h.p2⟩⟩
/-- The plan's block. -/
def PlanAt (w : World) (p : Nat) (c : ConfS) : Prop := Blk w p 71 c.cells

theorem plan_in_yes (n lo hi : Int) (w : World) (h1 : lo ≤ n) (h2 : n ≤ hi) : Calls Tryd.prog 46 #[.int .i64 n, .int .i64 lo, .int .i64 hi] w fun e w' => e = .returned (.bool true) ∧ w = w' := by
  have d1 : decide (lo ≤ n) = true := by simpa using h1
  have d2 : decide (n ≤ hi) = true := by simpa using h2
  go_enter Tryd.func46, Tryd.ntmps46
  go_wp2
  go_ret
  exact ⟨rfl, rfl⟩
theorem plan_in_no (n lo hi : Int) (w : World) (h : n < lo ∨ hi < n) : Calls Tryd.prog 46 #[.int .i64 n, .int .i64 lo, .int .i64 hi] w fun e w' => e = .returned (.bool false) ∧ w = w' := by
  by_cases h1 : lo ≤ n
  · have d1 : decide (lo ≤ n) = true := by simpa using h1
    have d2 : decide (n ≤ hi) = false := by simp; omega
    clear h
    go_enter Tryd.func46, Tryd.ntmps46
    go_wp2
    go_ret
    exact ⟨rfl, rfl⟩
  · have d1 : decide (lo ≤ n) = false := by simpa using h1
    clear h h1
    go_enter Tryd.func46, Tryd.ntmps46
    go_wp2
    go_ret
    exact ⟨rfl, rfl⟩
theorem plan_in (n lo hi : Int) (w : World) : Calls Tryd.prog 46 #[.int .i64 n, .int .i64 lo, .int .i64 hi] w fun e w' => e = .returned (.bool (decide (lo ≤ n) && decide (n ≤ hi))) ∧ w = w' := by
  by_cases h : lo ≤ n ∧ n ≤ hi
  · have e : (decide (lo ≤ n) && decide (n ≤ hi)) = true := by simpa using h
    rw [e]
    exact plan_in_yes n lo hi w h.1 h.2
  · have e : (decide (lo ≤ n) && decide (n ≤ hi)) = false := by
      rw [Bool.eq_false_iff]
      simpa using h
    rw [e]
    exact plan_in_no n lo hi w (by omega)

set_option maxHeartbeats 400000 in
theorem plan_may_yes (c : ConfS) (w : World) (h : c.Ok) : Calls Tryd.prog 30 #[.agg c.cells] w fun e w' => e = .returned (.bool true) ∧ Keep [] w w' := by
  obtain ⟨t, s, p⟩ := c
  obtain ⟨t1, t2, s1, s2, p1, p2⟩ := h
  simp only at t1 t2 s1 s2 p1 p2
  have d1 : decide (1 ≤ p) = true := by simpa using p1
  have d2 : decide (p ≤ 1099511627776) = true := by simpa using p2
  have H1 := plan_in_yes t 1 6 (w.alloc (.cells #[.int .i64 t, .int .i64 s, .int .u64 p] 32)) t1 t2
  have H2 := plan_in_yes s 7 250 (w.alloc (.cells #[.int .i64 t, .int .i64 s, .int .u64 p] 32)) s1 s2
  clear p1 p2 t1 t2 s1 s2
  have K1 := Lib.hid H1
  have K2 := Lib.hid H2
  clear H1 H2
  unfold ConfS.cells
  go_enter Tryd.func30, Tryd.ntmps30
  go_wp2_with fail
  refine K1.out.mono ?_
  rintro e w' ⟨rfl, rfl⟩
  go_wp2_with fail
  refine K2.out.mono ?_
  rintro e w' ⟨rfl, rfl⟩
  go_wp2
  go_ret
  exact ⟨rfl, (Keep.refl _ _).alloc _⟩

set_option maxHeartbeats 400000 in
theorem plan_may_no (c : ConfS) (w : World) (h : ¬ c.Ok) : Calls Tryd.prog 30 #[.agg c.cells] w fun e w' => e = .returned (.bool false) ∧ Keep [] w w' := by
  obtain ⟨t, s, p⟩ := c
  unfold ConfS.cells
  have H1 := plan_in t 1 6 (w.alloc (.cells #[.int .i64 t, .int .i64 s, .int .u64 p] 32))
  by_cases h1 : 1 ≤ t ∧ t ≤ 6
  · have e1 : (decide (1 ≤ t) && decide (t ≤ 6)) = true := by simpa using h1
    rw [e1] at H1
    have K1 := Lib.hid H1
    clear H1 e1
    have H2 := plan_in s 7 250 (w.alloc (.cells #[.int .i64 t, .int .i64 s, .int .u64 p] 32))
    by_cases h2 : 7 ≤ s ∧ s ≤ 250
    · have e2 : (decide (7 ≤ s) && decide (s ≤ 250)) = true := by simpa using h2
      rw [e2] at H2
      have K2 := Lib.hid H2
      clear H2 e2
      by_cases h3 : 1 ≤ p
      · have d3 : decide (1 ≤ p) = true := by simpa using h3
        have d4 : decide (p ≤ 1099511627776) = false := by
          simp only [decide_eq_false_iff_not]
          exact fun h4 => h ⟨h1.1, h1.2, h2.1, h2.2, h3, h4⟩
        clear h h1 h2 h3
        go_enter Tryd.func30, Tryd.ntmps30
        go_wp2_with fail
        refine K1.out.mono ?_
        rintro e w' ⟨rfl, rfl⟩
        go_wp2_with fail
        refine K2.out.mono ?_
        rintro e w' ⟨rfl, rfl⟩
        go_wp2
        go_ret
        exact ⟨rfl, (Keep.refl _ _).alloc _⟩
      · have d3 : decide (1 ≤ p) = false := by simpa using h3
        clear h h1 h2 h3
        go_enter Tryd.func30, Tryd.ntmps30
        go_wp2_with fail
        refine K1.out.mono ?_
        rintro e w' ⟨rfl, rfl⟩
        go_wp2_with fail
        refine K2.out.mono ?_
        rintro e w' ⟨rfl, rfl⟩
        go_wp2
        go_ret
        exact ⟨rfl, (Keep.refl _ _).alloc _⟩
    · have e2 : (decide (7 ≤ s) && decide (s ≤ 250)) = false := by rw [Bool.eq_false_iff]; simpa using h2
      rw [e2] at H2
      have K2 := Lib.hid H2
      clear H2 e2 h h1 h2
      go_enter Tryd.func30, Tryd.ntmps30
      go_wp2_with fail
      refine K1.out.mono ?_
      rintro e w' ⟨rfl, rfl⟩
      go_wp2_with fail
      refine K2.out.mono ?_
      rintro e w' ⟨rfl, rfl⟩
      go_wp2
      go_ret
      exact ⟨rfl, (Keep.refl _ _).alloc _⟩
  · have e1 : (decide (1 ≤ t) && decide (t ≤ 6)) = false := by rw [Bool.eq_false_iff]; simpa using h1
    rw [e1] at H1
    have K1 := Lib.hid H1
    clear H1 e1 h h1
    go_enter Tryd.func30, Tryd.ntmps30
    go_wp2_with fail
    refine K1.out.mono ?_
    rintro e w' ⟨rfl, rfl⟩
    go_wp2
    go_ret
    exact ⟨rfl, (Keep.refl _ _).alloc _⟩

theorem plan_new_yes (c : ConfS) (w : World) (h : c.Ok) : Calls Tryd.prog 10 #[.agg c.cells] w fun e w' => ∃ p, e = .returned (.tuple #[.pointer (some ⟨p, 0, none⟩), .int .i64 0]) ∧ PlanAt w' p c ∧ w.heap.size ≤ p ∧ Keep [] w w' := by
  have HM := Lib.hid (plan_may_yes c (w.alloc (.cells c.cells 32)) h)
  clear h
  obtain ⟨t, s, p⟩ := c
  unfold ConfS.cells at HM ⊢
  go_enter Tryd.func10, Tryd.ntmps10
  go_wp2_with fail
  refine HM.out.mono ?_
  rintro e w1 ⟨rfl, hk⟩
  have hc := ((Blk.new w 32 #[.int .i64 t, .int .i64 s, .int .u64 p]).keep hk (by simp)).cell
  have HK := Lib.hid hk
  clear hk
  go_wp2
  go_ret2
  have hk2 : Keep [] w w1 := ((Keep.refl _ _).alloc _).trans HK.out (fun x hx => .inl hx)
  exact ⟨w1.heap.size, rfl, Blk.new _ _ _, hk2.size, hk2.alloc _⟩
theorem plan_new_no (c : ConfS) (w : World) (h : ¬ c.Ok) : Calls Tryd.prog 10 #[.agg c.cells] w fun e w' => e = .returned (.tuple #[.pointer none, .int .i64 1]) ∧ Keep [] w w' := by
  have HM := Lib.hid (plan_may_no c (w.alloc (.cells c.cells 32)) h)
  clear h
  obtain ⟨t, s, p⟩ := c
  unfold ConfS.cells at HM ⊢
  go_enter Tryd.func10, Tryd.ntmps10
  go_wp2_with fail
  refine HM.out.mono ?_
  rintro e w1 ⟨rfl, hk⟩
  go_wp2
  go_ret2
  exact ⟨rfl, ((Keep.refl _ _).alloc _).trans hk (fun x hx => .inl hx)⟩

theorem plan_slots (c : ConfS) (p : Nat) (w : World) (h : PlanAt w p c) (ho : c.Ok) : Calls Tryd.prog 47 #[.pointer (some ⟨p, 0, none⟩)] w fun e w' => e = .returned (.int .i64 (3 + 8 * c.thr)) ∧ w = w' := by
  obtain ⟨t, s, q⟩ := c
  have hc := h.cell
  have t1 := ho.t1
  have t2 := ho.t2
  unfold ConfS.cells at hc
  simp only at t1 t2 ⊢
  clear h ho
  go_enter Tryd.func47, Tryd.ntmps47
  go_wp2
  go_ret
  exact ⟨rfl, rfl⟩

theorem plan_words (c : ConfS) (p : Nat) (w : World) (h : PlanAt w p c) (ho : c.Ok) : Calls Tryd.prog 34 #[.pointer (some ⟨p, 0, none⟩)] w fun e w' => e = .returned (.int .i64 (3 + 8 * c.thr + 7 * c.slots)) ∧ Drawn w w' := by
  have HS : ∀ n, Hid (Calls Tryd.prog 47 #[.pointer (some ⟨p, 0, none⟩)] (w.drewN n) fun e w' => e = .returned (.int .i64 (3 + 8 * c.thr)) ∧ w.drewN n = w') := fun n => plan_slots c p _ (h.drewN n) ho
  obtain ⟨t, s, q⟩ := c
  have hc := h.cell
  have t1 := ho.t1
  have t2 := ho.t2
  have s1 := ho.s1
  have s2 := ho.s2
  unfold ConfS.cells at hc
  simp only at t1 t2 s1 s2 HS ⊢
  clear h ho
  go_enter Tryd.func34, Tryd.ntmps34
  go_wp2_with fail
  go_region_held3 (fun w' => w'.cell? ⟨p, 1, none⟩ = some (.int .i64 s)) (go_keep) (first | (go_at_call 47; refine ((HS 1).out).mono ?_; rintro e w' ⟨rfl, rfl⟩))
  go_wp2
  go_ret
  have e1 : IntKind.i64.wrap (7 * s) = 7 * s := IntWalk.i64_in _ (by omega)
  have e2 : IntKind.i64.wrap (3 + 8 * t + 7 * s) = 3 + 8 * t + 7 * s := IntWalk.i64_in _ (by omega)
  exact ⟨by simp [e1, e2], Drawn.one _⟩
end Go.Proofs.YtnhkjfknhponkaaDoor
