/- Counting schedules: in, right, choices, Count, and the reference's Many by their contracts. Conditions: bounds of the chapter, or beyond them 0. -/
import Derived.Test.YtbhibmimdpodiaaExpP
import Derived.Test.YtbhibmimdpodiaaOwn
namespace Go.Proofs.Ytbhibmimdpodiaa
open Go.RowKit

theorem exp_in_yes (n lo hi : Int) (w : World) (h1 : lo ≤ n) (h2 : n ≤ hi) : Calls Try.prog 47 #[.int .i64 n, .int .i64 lo, .int .i64 hi] w fun r w' => r = .returned (.bool true) ∧ w = w' := by
  go_enter Try.func47, Try.ntmps47
  go_wp2
  go_ret
  exact ⟨rfl, rfl⟩
theorem exp_in_no (n lo hi : Int) (w : World) (h : n < lo ∨ hi < n) : Calls Try.prog 47 #[.int .i64 n, .int .i64 lo, .int .i64 hi] w fun r w' => r = .returned (.bool false) ∧ w = w' := by
  by_cases h1 : lo ≤ n
  · have h2 : ¬ n ≤ hi := by omega
    clear h
    go_enter Try.func47, Try.ntmps47
    go_wp2
    go_ret
    exact ⟨rfl, rfl⟩
  · clear h
    go_enter Try.func47, Try.ntmps47
    go_wp2
    go_ret
    exact ⟨rfl, rfl⟩
/-- May there be such schedules? -/
structure RightP (t m k : Int) : Prop where
  t1 : 1 ≤ t
  t6 : t ≤ 6
  m1 : 1 ≤ m
  m9 : m ≤ 1000
  k0 : 0 ≤ k
  k4 : k ≤ 4
theorem exp_right_yes (t m k : Int) (w : World) (h : RightP t m k) : Calls Try.prog 41 #[.int .i64 t, .int .i64 m, .int .i64 k] w fun r w' => r = .returned (.bool true) ∧ w = w' := by
  obtain ⟨h1, h2, h3, h4, h5, h6⟩ := h
  go_enter Try.func41, Try.ntmps41
  go_wp2_with fail
  refine (exp_in_yes t 1 6 _ h1 h2).mono ?_
  rintro r x ⟨rfl, rfl⟩
  go_wp2_with fail
  refine (exp_in_yes m 1 1000 _ h3 h4).mono ?_
  rintro r x ⟨rfl, rfl⟩
  go_wp2_with fail
  refine (exp_in_yes k 0 4 _ h5 h6).mono ?_
  rintro r x ⟨rfl, rfl⟩
  go_wp2
  go_ret
  exact ⟨rfl, rfl⟩
theorem exp_right_no (t m k : Int) (w : World) (h : ¬ RightP t m k) : Calls Try.prog 41 #[.int .i64 t, .int .i64 m, .int .i64 k] w fun r w' => r = .returned (.bool false) ∧ w = w' := by
  by_cases h1 : 1 ≤ t ∧ t ≤ 6
  · by_cases h2 : 1 ≤ m ∧ m ≤ 1000
    · have h3 : k < 0 ∨ 4 < k := by
        by_cases h3 : 0 ≤ k ∧ k ≤ 4
        · exact absurd ⟨h1.1, h1.2, h2.1, h2.2, h3.1, h3.2⟩ h
        · omega
      obtain ⟨h1, h1'⟩ := h1
      obtain ⟨h2, h2'⟩ := h2
      have H3 := Lib.hid h3
      clear h h3
      go_enter Try.func41, Try.ntmps41
      go_wp2_with fail
      refine (exp_in_yes t 1 6 _ h1 h1').mono ?_
      rintro r x ⟨rfl, rfl⟩
      go_wp2_with fail
      refine (exp_in_yes m 1 1000 _ h2 h2').mono ?_
      rintro r x ⟨rfl, rfl⟩
      go_wp2_with fail
      refine (exp_in_no k 0 4 _ H3.out).mono ?_
      rintro r x ⟨rfl, rfl⟩
      go_wp2
      go_ret
      exact ⟨rfl, rfl⟩
    · have H3 : Hid (m < 1 ∨ 1000 < m) := Lib.hid (by omega)
      obtain ⟨h1, h1'⟩ := h1
      clear h h2
      go_enter Try.func41, Try.ntmps41
      go_wp2_with fail
      refine (exp_in_yes t 1 6 _ h1 h1').mono ?_
      rintro r x ⟨rfl, rfl⟩
      go_wp2_with fail
      refine (exp_in_no m 1 1000 _ H3.out).mono ?_
      rintro r x ⟨rfl, rfl⟩
      go_wp2
      go_ret
      exact ⟨rfl, rfl⟩
  · have H3 : Hid (t < 1 ∨ 6 < t) := Lib.hid (by omega)
    clear h h1
    go_enter Try.func41, Try.ntmps41
    go_wp2_with fail
    refine (exp_in_no t 1 6 _ H3.out).mono ?_
    rintro r x ⟨rfl, rfl⟩
    go_wp2
    go_ret
    exact ⟨rfl, rfl⟩
theorem chN_le {T M : Nat} (h6 : T ≤ 6) (h9 : M ≤ 1000) (b : Bool) : chN T M b ≤ 6000 := by
  unfold chN
  have : (if b then T else T - 1) ≤ 6 := by split <;> omega
  exact Nat.le_trans (Nat.mul_le_mul this h9) (by decide)
theorem chN_le5 {T M : Nat} (h6 : T ≤ 6) (h9 : M ≤ 1000) : chN T M false ≤ 5000 := by
  unfold chN
  exact Nat.le_trans (Nat.mul_le_mul (show (if false = true then T else T - 1) ≤ 5 by simp; omega) h9) (by decide)
set_option maxHeartbeats 400000 in
theorem exp_choices (T M : Nat) (b : Bool) (w : World) (h1 : 1 ≤ T) (h6 : T ≤ 6) (h9 : M ≤ 1000) : Calls Try.prog 42 #[.int .i64 (T : Nat), .int .i64 (M : Nat), .bool b] w fun r w' => r = .returned (.int .i64 (chN T M b : Nat)) ∧ w = w' := by
  have hc := chN_le h6 h9 b
  have HC := Lib.hid hc
  have hz1 : (1 : Int) ≤ ((T : Nat) : Int) := by omega
  have hz6 : ((T : Nat) : Int) ≤ 6 := by omega
  cases b with
  | true =>
    have hm : T * M ≤ 6000 := Nat.mul_le_mul h6 h9
    have hw : IntKind.i64.wrap (((T : Nat) : Int) * ((M : Nat) : Int)) = ((T * M : Nat) : Int) := by
      rw [← Int.natCast_mul]
      exact IntWalk.i64_in _ (by omega)
    have HE : Hid (chN T M true = T * M) := Lib.hid rfl
    clear hc
    go_enter Try.func42, Try.ntmps42
    go_wp2
    go_ret
    exact ⟨by rw [HE.out]; try rfl, rfl⟩
  | false =>
    have hm : (T - 1) * M ≤ 6000 := Nat.mul_le_mul (show T - 1 ≤ 6 by omega) h9
    have hs : ((T : Nat) : Int) - 1 = ((T - 1 : Nat) : Int) := by omega
    have hw : IntKind.i64.wrap (((T - 1 : Nat) : Int) * ((M : Nat) : Int)) = (((T - 1) * M : Nat) : Int) := by
      rw [← Int.natCast_mul]
      exact IntWalk.i64_in _ (by omega)
    have HE : Hid (chN T M false = (T - 1) * M) := Lib.hid rfl
    clear hc
    go_enter Try.func42, Try.ntmps42
    go_wp2
    go_ret
    exact ⟨by rw [HE.out]; try rfl, rfl⟩
end Go.Proofs.Ytbhibmimdpodiaa
