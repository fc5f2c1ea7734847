/- Package plan: its functions by their contracts. Conditions: the plan's block is known; the configuration may be. -/
import Derived.Test.YtoghcikfkkmfkaaGreatVoc
import Derived.Deep.RegionHeld3
import Derived.Deep.QuietTactic
import Derived.BigQuiet
import Derived.WalkSpells
import Derived.Lib.Hide
namespace Go.Proofs.YtoghcikfkkmfkaaGreat
open Go.RowKit

structure ConfS where
  thr : Int
  slots : Int
  stamps : Int
def ConfS.cells (c : ConfS) : Array Value := #[.int .i64 c.thr, .int .i64 c.slots, .int .u64 c.stamps]
structure ConfS.Ok (c : ConfS) : Prop where
  t1 : 1 ≤ c.thr
  t2 : c.thr ≤ 6
  s1 : 7 ≤ c.slots
  s2 : c.slots ≤ 250
  p1 : 1 ≤ c.stamps
  p2 : c.stamps ≤ 1099511627776
def ConfS.may (c : ConfS) : Bool := decide (1 ≤ c.thr) && decide (c.thr ≤ 6) && decide (7 ≤ c.slots) && decide (c.slots ≤ 250) && decide (1 ≤ c.stamps) && decide (c.stamps ≤ 1099511627776)
theorem ConfS.may_iff {c : ConfS} : c.may = true ↔ c.Ok := by
  unfold ConfS.may
  simp only [Bool.and_eq_true, decide_eq_true_eq]
  exact ⟨fun ⟨⟨⟨⟨⟨a, b⟩, c⟩, d⟩, e⟩, f⟩ => ⟨a, b, c, d, e, f⟩, fun h => ⟨⟨⟨⟨⟨h.t1, h.t2⟩, h.s1⟩, h.s2⟩, h.p1⟩, h.p2⟩⟩
/-- The plan's block. -/
def PlanAt (w : World) (p : Nat) (c : ConfS) : Prop := Blk w p 148 c.cells

theorem plan_in_yes (n lo hi : Int) (w : World) (h1 : lo ≤ n) (h2 : n ≤ hi) : Calls Tryz.prog 120 #[.int .i64 n, .int .i64 lo, .int .i64 hi] w fun e w' => e = .returned (.bool true) ∧ w = w' := by
  have d1 : decide (lo ≤ n) = true := by simpa using h1
  have d2 : decide (n ≤ hi) = true := by simpa using h2
  go_enter Tryz.func120, Tryz.ntmps120
  go_wp2
  go_ret
  exact ⟨rfl, rfl⟩
theorem plan_in_no (n lo hi : Int) (w : World) (h : n < lo ∨ hi < n) : Calls Tryz.prog 120 #[.int .i64 n, .int .i64 lo, .int .i64 hi] w fun e w' => e = .returned (.bool false) ∧ w = w' := by
  by_cases h1 : lo ≤ n
  · have d1 : decide (lo ≤ n) = true := by simpa using h1
    have d2 : decide (n ≤ hi) = false := by simp; omega
    clear h
    go_enter Tryz.func120, Tryz.ntmps120
    go_wp2
    go_ret
    exact ⟨rfl, rfl⟩
  · have d1 : decide (lo ≤ n) = false := by simpa using h1
    clear h h1
    go_enter Tryz.func120, Tryz.ntmps120
    go_wp2
    go_ret
    exact ⟨rfl, rfl⟩
theorem plan_in (n lo hi : Int) (w : World) : Calls Tryz.prog 120 #[.int .i64 n, .int .i64 lo, .int .i64 hi] w fun e w' => e = .returned (.bool (decide (lo ≤ n) && decide (n ≤ hi))) ∧ w = w' := by
  by_cases h : lo ≤ n ∧ n ≤ hi
  · have e : (decide (lo ≤ n) && decide (n ≤ hi)) = true := by simpa using h
    rw [e]
    exact plan_in_yes n lo hi w h.1 h.2
  · have e : (decide (lo ≤ n) && decide (n ≤ hi)) = false := by
      rw [Bool.eq_false_iff]
      simpa using h
    rw [e]
    exact plan_in_no n lo hi w (by omega)

set_option maxHeartbeats 400000 in
theorem plan_may_yes (c : ConfS) (w : World) (h : c.Ok) : Calls Tryz.prog 85 #[.agg c.cells] w fun e w' => e = .returned (.bool true) ∧ Keep [] w w' := by
  obtain ⟨t, s, p⟩ := c
  obtain ⟨t1, t2, s1, s2, p1, p2⟩ := h
  simp only at t1 t2 s1 s2 p1 p2
  have d1 : decide (1 ≤ p) = true := by simpa using p1
  have d2 : decide (p ≤ 1099511627776) = true := by simpa using p2
  have H1 := plan_in_yes t 1 6 (w.alloc (.cells #[.int .i64 t, .int .i64 s, .int .u64 p] 24)) t1 t2
  have H2 := plan_in_yes s 7 250 (w.alloc (.cells #[.int .i64 t, .int .i64 s, .int .u64 p] 24)) s1 s2
  clear p1 p2 t1 t2 s1 s2
  have K1 := Lib.hid H1
  have K2 := Lib.hid H2
  clear H1 H2
  unfold ConfS.cells
  go_enter Tryz.func85, Tryz.ntmps85
  go_wp2_with fail
  refine K1.out.mono ?_
  rintro e w' ⟨rfl, rfl⟩
  go_wp2_with fail
  refine K2.out.mono ?_
  rintro e w' ⟨rfl, rfl⟩
  go_wp2
  go_ret
  exact ⟨rfl, (Keep.refl _ _).alloc _⟩

set_option maxHeartbeats 400000 in
theorem plan_may_no (c : ConfS) (w : World) (h : ¬ c.Ok) : Calls Tryz.prog 85 #[.agg c.cells] w fun e w' => e = .returned (.bool false) ∧ Keep [] w w' := by
  obtain ⟨t, s, p⟩ := c
  unfold ConfS.cells
  have H1 := plan_in t 1 6 (w.alloc (.cells #[.int .i64 t, .int .i64 s, .int .u64 p] 24))
  by_cases h1 : 1 ≤ t ∧ t ≤ 6
  · have e1 : (decide (1 ≤ t) && decide (t ≤ 6)) = true := by simpa using h1
    rw [e1] at H1
    have K1 := Lib.hid H1
    clear H1 e1
    have H2 := plan_in s 7 250 (w.alloc (.cells #[.int .i64 t, .int .i64 s, .int .u64 p] 24))
    by_cases h2 : 7 ≤ s ∧ s ≤ 250
    · have e2 : (decide (7 ≤ s) && decide (s ≤ 250)) = true := by simpa using h2
      rw [e2] at H2
      have K2 := Lib.hid H2
      clear H2 e2
      by_cases h3 : 1 ≤ p
      · have d3 : decide (1 ≤ p) = true := by simpa using h3
        have d4 : decide (p ≤ 1099511627776) = false := by
          simp only [decide_eq_false_iff_not]
          exact fun h4 => h ⟨h1.1, h1.2, h2.1, h2.2, h3, h4⟩
        clear h h1 h2 h3
        go_enter Tryz.func85, Tryz.ntmps85
        go_wp2_with fail
        refine K1.out.mono ?_
        rintro e w' ⟨rfl, rfl⟩
        go_wp2_with fail
        refine K2.out.mono ?_
        rintro e w' ⟨rfl, rfl⟩
        go_wp2
        go_ret
        exact ⟨rfl, (Keep.refl _ _).alloc _⟩
      · have d3 : decide (1 ≤ p) = false := by simpa using h3
        clear h h1 h2 h3
        go_enter Tryz.func85, Tryz.ntmps85
        go_wp2_with fail
        refine K1.out.mono ?_
        rintro e w' ⟨rfl, rfl⟩
        go_wp2_with fail
        refine K2.out.mono ?_
        rintro e w' ⟨rfl, rfl⟩
        go_wp2
        go_ret
        exact ⟨rfl, (Keep.refl _ _).alloc _⟩
    · have e2 : (decide (7 ≤ s) && decide (s ≤ 250)) = false := by rw [Bool.eq_false_iff]; simpa using h2
      rw [e2] at H2
      have K2 := Lib.hid H2
      clear H2 e2 h h1 h2
      go_enter Tryz.func85, Tryz.ntmps85
      go_wp2_with fail
      refine K1.out.mono ?_
      rintro e w' ⟨rfl, rfl⟩
      go_wp2_with fail
      refine K2.out.mono ?_
      rintro e w' ⟨rfl, rfl⟩
      go_wp2
      go_ret
      exact ⟨rfl, (Keep.refl _ _).alloc _⟩
  · have e1 : (decide (1 ≤ t) && decide (t ≤ 6)) = false := by rw [Bool.eq_false_iff]; simpa using h1
    rw [e1] at H1
    have K1 := Lib.hid H1
    clear H1 e1 h h1
    go_enter Tryz.func85, Tryz.ntmps85
    go_wp2_with fail
    refine K1.out.mono ?_
    rintro e w' ⟨rfl, rfl⟩
    go_wp2
    go_ret
    exact ⟨rfl, (Keep.refl _ _).alloc _⟩

theorem plan_new_yes (c : ConfS) (w : World) (h : c.Ok) : Calls Tryz.prog 46 #[.agg c.cells] w fun e w' => ∃ p, e = .returned (.tuple #[.pointer (some ⟨p, 0, none⟩), .int .i64 0]) ∧ PlanAt w' p c ∧ w.heap.size ≤ p ∧ Keep [] w w' := by
  have HM := Lib.hid (plan_may_yes c (w.alloc (.cells c.cells 24)) h)
  clear h
  obtain ⟨t, s, p⟩ := c
  unfold ConfS.cells at HM ⊢
  go_enter Tryz.func46, Tryz.ntmps46
  go_wp2_with fail
  refine HM.out.mono ?_
  rintro e w1 ⟨rfl, hk⟩
  have hc := ((Blk.new w 24 #[.int .i64 t, .int .i64 s, .int .u64 p]).keep hk (by simp)).cell
  have HK := Lib.hid hk
  clear hk
  go_wp2
  go_ret2
  have hk2 : Keep [] w w1 := ((Keep.refl _ _).alloc _).trans HK.out (fun x hx => .inl hx)
  exact ⟨w1.heap.size, rfl, Blk.new _ _ _, hk2.size, hk2.alloc _⟩
theorem plan_new_no (c : ConfS) (w : World) (h : ¬ c.Ok) : Calls Tryz.prog 46 #[.agg c.cells] w fun e w' => e = .returned (.tuple #[.pointer none, .int .i64 1]) ∧ Keep [] w w' := by
  have HM := Lib.hid (plan_may_no c (w.alloc (.cells c.cells 24)) h)
  clear h
  obtain ⟨t, s, p⟩ := c
  unfold ConfS.cells at HM ⊢
  go_enter Tryz.func46, Tryz.ntmps46
  go_wp2_with fail
  refine HM.out.mono ?_
  rintro e w1 ⟨rfl, hk⟩
  go_wp2
  go_ret2
  exact ⟨rfl, ((Keep.refl _ _).alloc _).trans hk (fun x hx => .inl hx)⟩

theorem plan_conf (c : ConfS) (p : Nat) (w : World) (h : PlanAt w p c) : Calls Tryz.prog 45 #[.pointer (some ⟨p, 0, none⟩)] w fun e w' => e = .returned (.agg c.cells) ∧ Keep [] w w' := by
  obtain ⟨t, s, q⟩ := c
  have hc := h.cell
  have hlt := h.lt
  unfold ConfS.cells at hc ⊢
  clear h
  have hne : ¬ w.heap.size = p := by omega
  have hne2 : ¬ p = w.heap.size := by omega
  go_enter Tryz.func45, Tryz.ntmps45
  go_wp2
  exact bodyPost_ret (v := .agg #[.int .i64 t, .int .i64 s, .int .u64 q]) (by simp [results, Tryz.results45, go_sem]) rfl ⟨rfl, (Keep.refl _ _).alloc _⟩

theorem plan_slots (c : ConfS) (p : Nat) (w : World) (h : PlanAt w p c) (ho : c.Ok) : Calls Tryz.prog 121 #[.pointer (some ⟨p, 0, none⟩)] w fun e w' => e = .returned (.int .i64 (3 + 8 * c.thr)) ∧ w = w' := by
  obtain ⟨t, s, q⟩ := c
  have hc := h.cell
  have t1 := ho.t1
  have t2 := ho.t2
  unfold ConfS.cells at hc
  simp only at t1 t2 ⊢
  clear h ho
  go_enter Tryz.func121, Tryz.ntmps121
  go_wp2
  go_ret
  exact ⟨rfl, rfl⟩

theorem plan_words (c : ConfS) (p : Nat) (w : World) (h : PlanAt w p c) (ho : c.Ok) : Calls Tryz.prog 86 #[.pointer (some ⟨p, 0, none⟩)] w fun e w' => e = .returned (.int .i64 (3 + 8 * c.thr + 7 * c.slots)) ∧ Drawn w w' := by
  have HS : ∀ n, Hid (Calls Tryz.prog 121 #[.pointer (some ⟨p, 0, none⟩)] (w.drewN n) fun e w' => e = .returned (.int .i64 (3 + 8 * c.thr)) ∧ w.drewN n = w') := fun n => plan_slots c p _ (h.drewN n) ho
  obtain ⟨t, s, q⟩ := c
  have hc := h.cell
  have t1 := ho.t1
  have t2 := ho.t2
  have s1 := ho.s1
  have s2 := ho.s2
  unfold ConfS.cells at hc
  simp only at t1 t2 s1 s2 HS ⊢
  clear h ho
  go_enter Tryz.func86, Tryz.ntmps86
  go_wp2_with fail
  go_region_held3 (fun w' => w'.cell? ⟨p, 1, none⟩ = some (.int .i64 s)) (go_keep) (first | (go_at_call 121; refine ((HS 1).out).mono ?_; rintro e w' ⟨rfl, rfl⟩))
  go_wp2
  go_ret
  have e1 : IntKind.i64.wrap (7 * s) = 7 * s := IntWalk.i64_in _ (by omega)
  have e2 : IntKind.i64.wrap (3 + 8 * t + 7 * s) = 3 + 8 * t + 7 * s := IntWalk.i64_in _ (by omega)
  exact ⟨by simp [e1, e2], Drawn.one _⟩

theorem plan_own_yes (c : ConfS) (p : Nat) (t i : Int) (w : World) (h : PlanAt w p c) (ho : c.Ok) (h0 : 0 ≤ t) (h1 : t < c.thr) (h2 : 0 ≤ i) (h3 : i ≤ 7) :
    Calls Tryz.prog 144 #[.pointer (some ⟨p, 0, none⟩), .int .i64 t, .int .i64 i] w fun e w' => e = .returned (.int .i64 (3 + 8 * t + i)) ∧ w = w' := by
  have HI := Lib.hid (plan_in_yes t 0 (c.thr - 1) w h0 (by omega))
  obtain ⟨thr, s, q⟩ := c
  have hc := h.cell
  have t2 := ho.t2
  unfold ConfS.cells at hc
  simp only at t2 h1 HI
  clear h ho
  go_enter Tryz.func144, Tryz.ntmps144
  go_wp2_with fail
  refine HI.out.mono ?_
  rintro e w' ⟨rfl, rfl⟩
  go_wp2
  go_ret
  exact ⟨rfl, rfl⟩
theorem plan_own_no (c : ConfS) (p : Nat) (t i : Int) (w : World) (h : PlanAt w p c) (ho : c.Ok) (h0 : t < 0 ∨ c.thr ≤ t) :
    Calls Tryz.prog 144 #[.pointer (some ⟨p, 0, none⟩), .int .i64 t, .int .i64 i] w fun e w' => e = .returned (.int .i64 (-1)) ∧ w = w' := by
  have HI := Lib.hid (plan_in_no t 0 (c.thr - 1) w (by omega))
  obtain ⟨thr, s, q⟩ := c
  have hc := h.cell
  have t1 := ho.t1
  have t2 := ho.t2
  unfold ConfS.cells at hc
  simp only at t1 t2 HI
  clear h ho h0
  go_enter Tryz.func144, Tryz.ntmps144
  go_wp2_with fail
  refine HI.out.mono ?_
  rintro e w' ⟨rfl, rfl⟩
  go_wp2
  go_ret
  exact ⟨rfl, rfl⟩
theorem plan_active (c : ConfS) (p : Nat) (t : Int) (w : World) (h : PlanAt w p c) (ho : c.Ok) (h0 : 0 ≤ t) (h1 : t < c.thr) :
    Calls Tryz.prog 128 #[.pointer (some ⟨p, 0, none⟩), .int .i64 t] w fun e w' => e = .returned (.int .i64 (3 + 8 * t)) ∧ w = w' := by
  have HI := Lib.hid (plan_own_yes c p t 0 w h ho h0 h1 (by omega) (by omega))
  clear h ho
  go_enter Tryz.func128, Tryz.ntmps128
  go_wp2_with fail
  refine HI.out.mono ?_
  rintro e w' ⟨rfl, rfl⟩
  go_wp2
  go_ret
  exact ⟨by simp, rfl⟩
set_option maxHeartbeats 400000 in
theorem plan_node_yes (c : ConfS) (p : Nat) (s f : Int) (w : World) (h : PlanAt w p c) (ho : c.Ok) (h0 : 1 ≤ s) (h1 : s ≤ c.slots) (h2 : 0 ≤ f) (h3 : f ≤ 6) :
    Calls Tryz.prog 89 #[.pointer (some ⟨p, 0, none⟩), .int .i64 s, .int .i64 f] w fun e w' => e = .returned (.int .i64 (3 + 8 * c.thr + 7 * (s - 1) + f)) ∧ w = w' := by
  have HI := Lib.hid (plan_in_yes s 1 c.slots w h0 h1)
  have HJ := Lib.hid (plan_in_yes f 0 6 w h2 h3)
  have HS := Lib.hid (plan_slots c p w h ho)
  obtain ⟨thr, sl, q⟩ := c
  have hc := h.cell
  have t1 := ho.t1
  have t2 := ho.t2
  have s2 := ho.s2
  unfold ConfS.cells at hc
  simp only at t1 t2 s2 h1 HI HS ⊢
  clear h ho
  go_enter Tryz.func89, Tryz.ntmps89
  go_wp2_with fail
  refine HI.out.mono ?_
  rintro e w' ⟨rfl, rfl⟩
  go_wp2_with fail
  refine HJ.out.mono ?_
  rintro e w' ⟨rfl, rfl⟩
  go_wp2_with fail
  refine HS.out.mono ?_
  rintro e w' ⟨rfl, rfl⟩
  go_wp2
  go_ret
  exact ⟨rfl, rfl⟩
theorem plan_node_no (c : ConfS) (p : Nat) (s f : Int) (w : World) (h : PlanAt w p c) (h0 : s < 1 ∨ c.slots < s) :
    Calls Tryz.prog 89 #[.pointer (some ⟨p, 0, none⟩), .int .i64 s, .int .i64 f] w fun e w' => e = .returned (.int .i64 (-1)) ∧ w = w' := by
  have HI := Lib.hid (plan_in_no s 1 c.slots w h0)
  obtain ⟨thr, sl, q⟩ := c
  have hc := h.cell
  unfold ConfS.cells at hc
  simp only at HI
  clear h h0
  go_enter Tryz.func89, Tryz.ntmps89
  go_wp2_with fail
  refine HI.out.mono ?_
  rintro e w' ⟨rfl, rfl⟩
  go_wp2
  go_ret
  exact ⟨rfl, rfl⟩
end Go.Proofs.YtoghcikfkkmfkaaGreat
