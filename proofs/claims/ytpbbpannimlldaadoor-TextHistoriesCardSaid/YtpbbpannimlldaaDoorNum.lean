/- The reference's Number (layer 35) by its contract: the decimal numeral. Condition: an int64. -/
import Derived.Test.YtpbbpannimlldaaDoorOwn
import Derived.Lib.ItoaNum
import Derived.Lib.ItoaMem
import Derived.Lib.ItoaLen
namespace Go.Proofs.YtpbbpannimlldaaDoor
open Go.RowKit

/-- Digits of a number, none of 0. -/
def preD (u : Nat) : List UInt8 := if u = 0 then [] else Lib.decDigits u
def digB (d : Nat) : UInt8 := UInt8.ofNat (48 + d)
theorem preD_step {u : Nat} (h : 1 ≤ u) : preD u = preD (u / 10) ++ [digB (u % 10)] := by
  unfold preD digB
  rw [if_neg (by omega)]
  by_cases h2 : u < 10
  · rw [if_pos (by omega), Lib.decDigits_one h2, Nat.mod_eq_of_lt h2]
    rfl
  · rw [if_neg (by omega), Lib.decDigits, dif_neg h2]
theorem preD_pos {u : Nat} (h : 1 ≤ u) : preD u = Lib.decDigits u := by
  unfold preD
  rw [if_neg (by omega)]
theorem dig_enc (d : Nat) (h : d < 10) : Utf8.encode (48 + (d : Nat)) = ⟨#[digB d]⟩ := by
  have hcase : d = 0 ∨ d = 1 ∨ d = 2 ∨ d = 3 ∨ d = 4 ∨ d = 5 ∨ d = 6 ∨ d = 7 ∨ d = 8 ∨ d = 9 := by omega
  rcases hcase with rfl | rfl | rfl | rfl | rfl | rfl | rfl | rfl | rfl | rfl <;> rfl
theorem dig_conv (d : Nat) (h : d < 10) (w : World) : (convert 5 9 (.int .u8 (48 + (d : Nat)))).run Tryd.prog w = .ok (.string ⟨#[digB d]⟩) w := by
  have hs : (Tryd.prog.underlying 5).isSome = true := by rw [Tryd.underlying5]; rfl
  rw [run_convert_int_string w 5 9 .u8 _ hs Tryd.underlying9, dig_enc d h]
/-- Two strings, one behind the other. -/
theorem catN (a b : List UInt8) : (⟨a.toArray⟩ : ByteArray) ++ (⟨b.toArray⟩ : ByteArray) = ⟨(a ++ b).toArray⟩ := by
  apply ByteArray.ext
  simp
def NumOut (l : List UInt8) (w : World) (r : Ending) (w' : World) : Prop := r = .returned (.string ⟨l.toArray⟩) ∧ w = w'
theorem num_zero (w : World) : Calls Tryd.prog 48 #[.int .i64 0] w (NumOut [48] w) := by
  go_enter Tryd.func48, Tryd.ntmps48
  go_wp2
  go_ret
  exact ⟨rfl, rfl⟩
set_option maxHeartbeats 2000000 in
theorem num_pos (N : Nat) (w : World) (h1 : 1 ≤ N) (h2 : N ≤ 9223372036854775807) : Calls Tryd.prog 48 #[.int .i64 (N : Nat)] w (NumOut (Lib.decDigits N) w) := by
  have hz : ((N : Nat) : Int) ≠ 0 := by omega
  have HN : Hid ((Lib.decDigits N).length ≤ 21 ∧ N ≤ 9223372036854775807) := Lib.hid ⟨by have := Lib.itoa_length_le ((N : Nat) : Int) (by omega) (by omega); rwa [Lib.itoa_nonneg] at this, h2⟩
  have HS : Hid (preD N ++ [] = Lib.decDigits N) := Lib.hid (by rw [List.append_nil, preD_pos h1])
  obtain ⟨D, hD⟩ : ∃ D, D = Lib.decDigits N := ⟨_, rfl⟩
  rw [← hD] at HN HS ⊢
  have hzb : (((N : Nat) : Int) == 0) = false := by rw [beq_eq_false_iff_ne]; exact hz
  clear hD h1 h2 hz
  go_enter Tryd.func48, Tryd.ntmps48
  go_wp2_with fail
  go_loopg [0, 3] N (fun g v0 v3 wr => ∃ (u : Nat) (s : List UInt8), u = g ∧ u ≤ N ∧ v0 = .int .i64 (u : Nat) ∧ v3 = .string ⟨s.toArray⟩ ∧ preD u ++ s = D ∧ w = wr)
  case atStart => exact ⟨N, [], rfl, Nat.le_refl _, rfl, rfl, HS.out, rfl⟩
  case round =>
    obtain ⟨u, s, rfl, hu, rfl, rfl, hs, rfl⟩ := hrel
    have HE := Lib.hid hs
    have HU := Lib.hid hu
    clear hs hu HS
    by_cases hu0 : u = 0
    · subst hu0
      have HD : Hid (s = D) := Lib.hid (by have := HE.out; simpa [preD] using this)
      go_wp2_with fail
      go_ret
      exact ⟨by rw [← HD.out] <;> rfl, rfl⟩
    · have hub : (((u : Nat) : Int) != 0) = true := by rw [bne_iff_ne]; omega
      obtain ⟨q, hq⟩ : ∃ q : Nat, q = u / 10 := ⟨_, rfl⟩
      obtain ⟨d, hd⟩ : ∃ d : Nat, d = u % 10 := ⟨_, rfl⟩
      have hq1 : Int.tdiv ((u : Nat) : Int) 10 = ((q : Nat) : Int) := by rw [hq]; exact Int.ofNat_tdiv u 10
      have hd1 : Int.tmod ((u : Nat) : Int) 10 = ((d : Nat) : Int) := by rw [hd]; exact Int.ofNat_tmod u 10
      have hd0 : (0 : Int) ≤ ((d : Nat) : Int) := by omega
      have hd9 : ((d : Nat) : Int) < 10 := by omega
      have hdn : ¬ ((d : Nat) : Int) < 0 := by omega
      have hq0 : (0 : Int) ≤ ((q : Nat) : Int) := by omega
      have hq9 : ((q : Nat) : Int) ≤ 9223372036854775807 := by have := HN.out.2; have := HU.out; omega
      have hcv := fun w => dig_conv d (by omega) w
      have HE2 : Hid (preD q ++ (digB d :: s) = D) := Lib.hid (by
        have := HE.out
        rw [preD_step (by omega), ← hq, ← hd, List.append_assoc] at this
        exact this)
      have hsl : ¬ 9223372036854775807 < 1 + s.length := by
        have h1 := HN.out.1
        have h2 := congrArg List.length HE2.out
        simp only [List.length_append, List.length_cons] at h2
        omega
      have HCT := Lib.hid (catN [digB d] s)
      have HQ : Hid (q < u ∧ q ≤ N) := Lib.hid (by have := HU.out; omega)
      clear hq hd hu0
      go_wp2_with fail
      go_roundg q
      case measure => exact HQ.out.1
      case rel => exact ⟨q, digB d :: s, rfl, HQ.out.2, rfl, congrArg Value.string HCT.out, HE2.out, rfl⟩
set_option maxHeartbeats 2000000 in
theorem num_neg (N : Nat) (w : World) (h1 : 1 ≤ N) (h2 : N ≤ 9223372036854775808) : Calls Tryd.prog 48 #[.int .i64 (-(N : Int))] w (NumOut (45 :: Lib.decDigits N) w) := by
  have HN : Hid ((Lib.decDigits N).length ≤ 21 ∧ N ≤ 9223372036854775808) := Lib.hid ⟨by have := Lib.itoa_length_le (-(N : Int)) (by omega) (by omega); rw [Lib.itoa_neg N h1, List.length_cons] at this; omega, h2⟩
  have HS : Hid (preD N ++ [] = Lib.decDigits N) := Lib.hid (by rw [List.append_nil, preD_pos h1])
  obtain ⟨D, hD⟩ : ∃ D, D = Lib.decDigits N := ⟨_, rfl⟩
  rw [← hD] at HN HS ⊢
  have hzb : ((-((N : Nat) : Int)) == 0) = false := by rw [beq_eq_false_iff_ne]; omega
  have H1 := Lib.hid h1
  clear hD h1 h2
  go_enter Tryd.func48, Tryd.ntmps48
  go_wp2_with fail
  go_loopg [0, 3] N (fun g v0 v3 wr => ∃ (u : Nat) (s : List UInt8), u = g ∧ 1 ≤ u ∧ u ≤ N ∧ v0 = .int .i64 (-(u : Int)) ∧ v3 = .string ⟨s.toArray⟩ ∧ preD u ++ s = D ∧ w = wr)
  case atStart => exact ⟨N, [], rfl, H1.out, Nat.le_refl _, rfl, rfl, HS.out, rfl⟩
  case round =>
    obtain ⟨u, s, rfl, hu1, hu, rfl, rfl, hs, rfl⟩ := hrel
    have HE := Lib.hid hs
    have HU : Hid (1 ≤ u ∧ u ≤ N) := Lib.hid ⟨hu1, hu⟩
    clear hs hu hu1 HS
    have hub : ((-((u : Nat) : Int)) != 0) = true := by rw [bne_iff_ne]; have := HU.out.1; omega
    obtain ⟨q, hq⟩ : ∃ q : Nat, q = u / 10 := ⟨_, rfl⟩
    obtain ⟨d, hd⟩ : ∃ d : Nat, d = u % 10 := ⟨_, rfl⟩
    have hq1 : Int.tdiv (-((u : Nat) : Int)) 10 = -((q : Nat) : Int) := by rw [hq, Int.neg_tdiv]; exact congrArg Int.neg (Int.ofNat_tdiv u 10)
    have hd1 : Int.tmod (-((u : Nat) : Int)) 10 = -((d : Nat) : Int) := by rw [hd, Int.neg_tmod]; exact congrArg Int.neg (Int.ofNat_tmod u 10)
    have hq0 : (0 : Int) ≤ ((q : Nat) : Int) := by omega
    have hq9 : ((q : Nat) : Int) ≤ 9223372036854775807 := by have := HN.out.2; have := HU.out; omega
    have HE2 : Hid (preD q ++ (digB d :: s) = D) := Lib.hid (by
      have := HE.out
      rw [preD_step HU.out.1, ← hq, ← hd, List.append_assoc] at this
      exact this)
    have hsl : ¬ 9223372036854775807 < 1 + s.length := by
      have h1 := HN.out.1
      have h2 := congrArg List.length HE2.out
      simp only [List.length_append, List.length_cons] at h2
      omega
    have hsl2 : ¬ 9223372036854775807 < 2 + s.length := by
      have h1 := HN.out.1
      have h2 := congrArg List.length HE2.out
      simp only [List.length_append, List.length_cons] at h2
      omega
    have HCT := Lib.hid (catN [digB d] s)
    have HQ : Hid (q < u ∧ q ≤ N ∧ (10 ≤ u → 1 ≤ q) ∧ (u < 10 → q = 0 ∧ 1 ≤ d) ∧ d < 10) := Lib.hid (by have := HU.out; omega)
    clear hq hd
    by_cases hd0 : d = 0
    · subst hd0
      have hcv : ∀ w, (convert 5 9 (.int .u8 48)).run Tryd.prog w = .ok (.string ⟨#[digB 0]⟩) w := fun w => dig_conv 0 (by decide) w
      have hdz : Int.tmod (-((u : Nat) : Int)) 10 = 0 := by rw [hd1]; rfl
      have HU10 : Hid (1 ≤ q) := Lib.hid (HQ.out.2.2.1 (by have := HQ.out.2.2.2.1; omega))
      clear hd1
      go_wp2_with fail
      go_roundg q
      case measure => exact HQ.out.1
      case rel => exact ⟨q, digB 0 :: s, rfl, HU10.out, HQ.out.2.1, rfl, congrArg Value.string HCT.out, HE2.out, rfl⟩
    · have hcv := fun w => dig_conv d HQ.out.2.2.2.2 w
      have hdn : -((d : Nat) : Int) < 0 := by omega
      have hd5 : (0 : Int) ≤ ((d : Nat) : Int) := by omega
      have hd9 : ((d : Nat) : Int) < 10 := by have := HQ.out.2.2.2.2; omega
      clear hd0
      by_cases hu10 : u < 10
      · have hgt : (-10 : Int) < -((u : Nat) : Int) := by omega
        have HR : Hid ((⟨#[45]⟩ : ByteArray) ++ ⟨#[digB d]⟩ ++ ⟨s.toArray⟩ = ⟨(45 :: D).toArray⟩) := Lib.hid (by
          have e := HE2.out
          rw [(HQ.out.2.2.2.1 hu10).1] at e
          rw [← e]
          show (⟨[45].toArray⟩ : ByteArray) ++ ⟨[digB d].toArray⟩ ++ ⟨s.toArray⟩ = _
          rw [catN, catN]
          rfl)
        clear hu10
        go_wp2_with fail
        go_ret
        exact ⟨congrArg (fun s => Ending.returned (.string s)) HR.out, rfl⟩
      · have hgt : ¬ (-10 : Int) < -((u : Nat) : Int) := by omega
        have HU10 : Hid (1 ≤ q) := Lib.hid (HQ.out.2.2.1 (by omega))
        clear hu10
        go_wp2_with fail
        go_roundg q
        case measure => exact HQ.out.1
        case rel => exact ⟨q, digB d :: s, rfl, HU10.out, HQ.out.2.1, rfl, congrArg Value.string HCT.out, HE2.out, rfl⟩
/-- Every int64. -/
theorem ref35_number (n : Int) (h0 : -9223372036854775808 ≤ n) (h1 : n ≤ 9223372036854775807) (w : World) : Calls Tryd.prog 48 #[.int .i64 n] w (NumOut (Lib.itoa n) w) := by
  by_cases hneg : n < 0
  · obtain ⟨u, rfl⟩ : ∃ u : Nat, n = -(u : Int) := ⟨n.natAbs, by omega⟩
    rw [Lib.itoa_neg u (by omega)]
    exact num_neg u w (by omega) (by omega)
  · obtain ⟨u, rfl⟩ : ∃ u : Nat, n = u := ⟨n.toNat, by omega⟩
    rw [Lib.itoa_nonneg]
    rcases Nat.eq_zero_or_pos u with rfl | hp
    · have := num_zero w
      rw [show Lib.decDigits 0 = [48] from Lib.decDigits_one (by decide)]
      exact this
    · exact num_pos u w hp (by omega)
end Go.Proofs.YtpbbpannimlldaaDoor
