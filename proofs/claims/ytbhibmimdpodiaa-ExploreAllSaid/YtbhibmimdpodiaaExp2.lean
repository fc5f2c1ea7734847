/- How many schedules: explore.Count and the reference's Many by their contracts. -/
import Derived.Test.YtbhibmimdpodiaaExp1
namespace Go.Proofs.Ytbhibmimdpodiaa
open Go.RowKit

/-- How many there are, of so many turns. -/
def cntP (T M : Nat) : Nat → Nat
  | 0 => 1
  | i + 1 => cntP T M i * chN T M (i == 0)
theorem szP_pow (T M : Nat) : ∀ d, szP T M d false = chN T M false ^ d
  | 0 => rfl
  | d + 1 => by
    show chN T M false * szP T M d false = _
    rw [szP_pow T M d, Nat.pow_succ, Nat.mul_comm]
theorem cntP_pow (T M : Nat) : ∀ k, cntP T M (k + 1) = chN T M true * chN T M false ^ k
  | 0 => by simp [cntP]
  | k + 1 => by
    show cntP T M (k + 1) * chN T M false = _
    rw [cntP_pow T M k, Nat.pow_succ, Nat.mul_assoc]
theorem cntP_sz (T M : Nat) : ∀ k, cntP T M k = szP T M k true
  | 0 => rfl
  | k + 1 => by
    rw [cntP_pow]
    show _ = chN T M true * szP T M k false
    rw [szP_pow]
theorem cntP_le {T M : Nat} (h6 : T ≤ 6) (h9 : M ≤ 1000) : ∀ k, k ≤ 4 → cntP T M k ≤ 750000000000000
  | 0, _ => by show 1 ≤ _; decide
  | k + 1, h => by
    rw [cntP_pow]
    have h1 := chN_le h6 h9 true
    have h2 := Nat.pow_le_pow_left (chN_le5 h6 h9) k
    have h3 : 5000 ^ k ≤ 5000 ^ 3 := Nat.pow_le_pow_right (by decide) (by omega)
    exact Nat.le_trans (Nat.mul_le_mul h1 (Nat.le_trans h2 h3)) (by decide)
set_option maxHeartbeats 400000 in
theorem exp_count_no (t m k : Int) (w : World) (h : ¬ RightP t m k) : Calls Try.prog 19 #[.int .i64 t, .int .i64 m, .int .i64 k] w fun r w' => r = .returned (.int .i64 0) ∧ w = w' := by
  have H := Lib.hid h
  clear h
  go_enter Try.func19, Try.ntmps19
  go_wp2_with fail
  refine (exp_right_no t m k _ H.out).mono ?_
  rintro r x ⟨rfl, rfl⟩
  go_wp2
  go_ret
  exact ⟨rfl, rfl⟩
set_option maxHeartbeats 400000 in
theorem exp_count_yes (T M k : Nat) (w : World) (h1 : 1 ≤ T) (h6 : T ≤ 6) (h1' : 1 ≤ M) (h9 : M ≤ 1000) (h4 : k ≤ 4) : Calls Try.prog 19 #[.int .i64 (T : Nat), .int .i64 (M : Nat), .int .i64 (k : Nat)] w fun r w' => r = .returned (.int .i64 (cntP T M k : Nat)) ∧ w = w' := by
  go_enter Try.func19, Try.ntmps19
  go_wp2_with fail
  refine (exp_right_yes _ _ _ _ ⟨by omega, by omega, by omega, by omega, by omega, by omega⟩).mono ?_
  rintro r x ⟨rfl, rfl⟩
  go_wp2_with fail
  go_loop [7, 8, 15] (fun n _ q => ∃ i : Nat, i ≤ k ∧ q = .int .i64 (i : Nat) ∧ n = .int .i64 (cntP T M i : Nat)) (fun _ _ q => k - (intOf q).toNat)
  case atStart => exact ⟨0, Nat.zero_le _, rfl, rfl⟩
  case round =>
    obtain ⟨i, hi, rfl, rfl⟩ := hrel
    have hz0 : (0 : Int) ≤ ((i : Nat) : Int) := by omega
    by_cases hlt : i < k
    · have hz : ((i : Nat) : Int) < ((k : Nat) : Int) := by omega
      have hb : (((i : Nat) : Int) == 0) = (i == 0) := by
        rw [Bool.eq_iff_iff, beq_iff_eq, beq_iff_eq]
        omega
      have hw : IntKind.i64.wrap (((cntP T M i : Nat) : Int) * ((chN T M (i == 0) : Nat) : Int)) = ((cntP T M (i + 1) : Nat) : Int) := by
        rw [← Int.natCast_mul]
        have := cntP_le h6 h9 (i + 1) (by omega)
        exact IntWalk.i64_in _ (by show _ ≤ ((cntP T M (i + 1) : Nat) : Int) ∧ ((cntP T M (i + 1) : Nat) : Int) ≤ _; omega)
      have KC := Lib.hid (fun w' => exp_choices T M (i == 0) w' h1 h6 h9)
      obtain ⟨c1, hc1⟩ : ∃ c1, c1 = cntP T M (i + 1) := ⟨_, rfl⟩
      rw [← hc1] at hw
      have HC1 := Lib.hid hc1
      clear hc1
      generalize (i == 0) = b0 at *
      go_wp2_with (go_at_call 42; refine (KC.out _).mono ?_; rintro r x ⟨rfl, rfl⟩)
      go_round
      case rel => exact ⟨i + 1, by omega, by go_num, by rw [HC1.out]⟩
      case measure => simp [intOf]; omega
    · have hke : i = k := by omega
      have HKE := Lib.hid hke
      have hz : ¬ ((i : Nat) : Int) < ((k : Nat) : Int) := by omega
      clear hke
      go_wp2
      go_ret
      exact ⟨by rw [← HKE.out]; rfl, rfl⟩

set_option maxHeartbeats 400000 in
theorem ref36_many_no (t m k : Int) (w : World) (h : ¬ RightP t m k) : Calls Try.prog 18 #[.int .i64 t, .int .i64 m, .int .i64 k] w fun r w' => r = .returned (.int .i64 0) ∧ w = w' := by
  by_cases h0 : 1 ≤ t
  · by_cases h1 : t ≤ 6
    · by_cases h2 : 1 ≤ m
      · by_cases h3 : m ≤ 1000
        · by_cases h4 : 0 ≤ k
          · by_cases h5 : k ≤ 4
            · exact absurd ⟨h0, h1, h2, h3, h4, h5⟩ h
            · have g5 : 4 < k := by omega
              clear h
              go_enter Try.func18, Try.ntmps18
              go_wp2
              go_ret
              exact ⟨rfl, rfl⟩
          · have g4 : k < 0 := by omega
            clear h
            go_enter Try.func18, Try.ntmps18
            go_wp2
            go_ret
            exact ⟨rfl, rfl⟩
        · have g3 : 1000 < m := by omega
          clear h
          go_enter Try.func18, Try.ntmps18
          go_wp2
          go_ret
          exact ⟨rfl, rfl⟩
      · have g2 : m < 1 := by omega
        clear h
        go_enter Try.func18, Try.ntmps18
        go_wp2
        go_ret
        exact ⟨rfl, rfl⟩
    · have g1 : 6 < t := by omega
      clear h
      go_enter Try.func18, Try.ntmps18
      go_wp2
      go_ret
      exact ⟨rfl, rfl⟩
  · have g0 : t < 1 := by omega
    clear h
    go_enter Try.func18, Try.ntmps18
    go_wp2
    go_ret
    exact ⟨rfl, rfl⟩
set_option maxHeartbeats 400000 in
theorem ref36_many_yes (T M k : Nat) (w : World) (h1 : 1 ≤ T) (h6 : T ≤ 6) (h1' : 1 ≤ M) (h9 : M ≤ 1000) (h4 : k ≤ 4) : Calls Try.prog 18 #[.int .i64 (T : Nat), .int .i64 (M : Nat), .int .i64 (k : Nat)] w fun r w' => r = .returned (.int .i64 (cntP T M k : Nat)) ∧ w = w' := by
  have hz1 : (1 : Int) ≤ ((T : Nat) : Int) := by omega
  have hz6 : ((T : Nat) : Int) ≤ 6 := by omega
  have hz1' : (1 : Int) ≤ ((M : Nat) : Int) := by omega
  have hz9 : ((M : Nat) : Int) ≤ 1000 := by omega
  have hz0 : (0 : Int) ≤ ((k : Nat) : Int) := by omega
  have hz4 : ((k : Nat) : Int) ≤ 4 := by omega
  go_enter Try.func18, Try.ntmps18
  go_wp2_with fail
  go_loop [7, 8] (fun n q => ∃ i : Nat, i ≤ k ∧ q = .int .i64 (i : Nat) ∧ n = .int .i64 (cntP T M i : Nat)) (fun _ q => k - (intOf q).toNat)
  case atStart => exact ⟨0, Nat.zero_le _, rfl, rfl⟩
  case round =>
    obtain ⟨i, hi, rfl, rfl⟩ := hrel
    have hzi : (0 : Int) ≤ ((i : Nat) : Int) := by omega
    by_cases hlt : i < k
    · have hz : ((i : Nat) : Int) < ((k : Nat) : Int) := by omega
      have hn : cntP T M (i + 1) ≤ 750000000000000 := cntP_le h6 h9 (i + 1) (by omega)
      have hn0 : cntP T M i ≤ 750000000000000 := cntP_le h6 h9 i (by omega)
      cases i with
      | zero =>
        have hw1 : IntKind.i64.wrap ((1 : Int) * ((T : Nat) : Int)) = ((T : Nat) : Int) := by
          rw [Int.one_mul]
          exact IntWalk.i64_in _ (by omega)
        have hw2 : IntKind.i64.wrap (((T : Nat) : Int) * ((M : Nat) : Int)) = ((T * M : Nat) : Int) := by
          rw [← Int.natCast_mul]
          have : T * M ≤ 6000 := Nat.mul_le_mul h6 h9
          exact IntWalk.i64_in _ (by omega)
        have HE : Hid (cntP T M 1 = T * M) := Lib.hid (by simp [cntP, chN])
        have hc0 : cntP T M 0 = 1 := rfl
        rw [hc0]
        clear hn hn0 hc0
        go_wp2_with fail
        go_round
        case rel => exact ⟨1, by omega, rfl, by rw [HE.out]; exact congrArg (Value.int .i64) (Int.natCast_mul _ _).symm⟩
        case measure => simp [intOf]; omega
      | succ i =>
        have hs : ((T : Nat) : Int) - 1 = ((T - 1 : Nat) : Int) := by omega
        have he : cntP T M (i + 1 + 1) = cntP T M (i + 1) * ((T - 1) * M) := rfl
        have hp : cntP T M (i + 1) * (T - 1) ≤ 5000000000000000 := by
          have := Nat.mul_le_mul hn0 (show T - 1 ≤ 5 by omega)
          omega
        have hw1 : IntKind.i64.wrap (((cntP T M (i + 1) : Nat) : Int) * ((T - 1 : Nat) : Int)) = ((cntP T M (i + 1) * (T - 1) : Nat) : Int) := by
          rw [← Int.natCast_mul]
          exact IntWalk.i64_in _ (by omega)
        have hw2 : IntKind.i64.wrap (((cntP T M (i + 1) * (T - 1) : Nat) : Int) * ((M : Nat) : Int)) = ((cntP T M (i + 1 + 1) : Nat) : Int) := by
          rw [← Int.natCast_mul, he, ← Nat.mul_assoc]
          rw [he, ← Nat.mul_assoc] at hn
          exact IntWalk.i64_in _ (by omega)
        have hne : ((((i + 1 : Nat) : Nat) : Int) == 0) = false := by rw [beq_eq_false_iff_ne]; omega
        clear he hn hn0
        obtain ⟨c2, hc2⟩ : ∃ c2, c2 = cntP T M (i + 1 + 1) := ⟨_, rfl⟩
        rw [← hc2] at hw2
        have HC2 := Lib.hid hc2
        clear hc2
        generalize cntP T M (i + 1) * (T - 1) = c3 at *
        generalize cntP T M (i + 1) = c1 at *
        have hz2 : (1 : Int) ≤ ((i + 1 : Nat) : Int) := by omega
        go_wp2_with fail
        go_round
        case rel => exact ⟨i + 1 + 1, by omega, by go_num, by rw [← HC2.out]⟩
        case measure => simp [intOf]; omega
    · have hke : i = k := by omega
      have HKE := Lib.hid hke
      have hz : ¬ ((i : Nat) : Int) < ((k : Nat) : Int) := by omega
      clear hke
      go_wp2
      go_ret
      exact ⟨by rw [← HKE.out]; rfl, rfl⟩
end Go.Proofs.Ytbhibmimdpodiaa
