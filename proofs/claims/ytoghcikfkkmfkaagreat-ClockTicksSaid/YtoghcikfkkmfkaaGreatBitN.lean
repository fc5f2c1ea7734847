/- Words' fields, by arithmetic on natural numbers. Plain lemmas. -/
import Derived.Test.YtoghcikfkkmfkaaGreatProg
import Derived.WalkKit
namespace Go.Proofs.YtoghcikfkkmfkaaGreat
open Go.RowKit

def B64 : Nat := 18446744073709551616
theorem B64_eq : B64 = 2 ^ 64 := by decide +kernel

/-- A field of a word. -/
def fld (n a d : Nat) : Nat := n / 2 ^ a % 2 ^ d
/-- A word with a field changed. -/
def setF (n a d x : Nat) : Nat := n % 2 ^ a + 2 ^ a * (x % 2 ^ d + 2 ^ d * (n / 2 ^ (a + d)))
def mask (a d : Nat) : Nat := 2 ^ a * (2 ^ d - 1)

theorem testBit_mask (a d j : Nat) : (mask a d).testBit j = (decide (a ≤ j) && decide (j < a + d)) := by
  unfold mask
  rw [Nat.testBit_two_pow_mul]
  by_cases h : a ≤ j
  · simp [h, Nat.testBit_two_pow_sub_one]
    omega
  · simp [h]
theorem testBit_fld (n a d j : Nat) : (fld n a d).testBit j = (decide (j < d) && n.testBit (a + j)) := by
  unfold fld
  rw [Nat.testBit_mod_two_pow, Nat.testBit_div_two_pow, Nat.add_comm]
theorem testBit_setF (n a d x j : Nat) : (setF n a d x).testBit j = if j < a then n.testBit j else if j < a + d then x.testBit (j - a) else n.testBit j := by
  unfold setF
  rw [Nat.add_comm, Nat.testBit_two_pow_mul_add _ (Nat.mod_lt _ (Nat.two_pow_pos a))]
  by_cases h1 : j < a
  · simp [h1, Nat.testBit_mod_two_pow]
  · rw [if_neg h1, if_neg h1, Nat.add_comm, Nat.testBit_two_pow_mul_add _ (Nat.mod_lt _ (Nat.two_pow_pos d))]
    by_cases h2 : j < a + d
    · rw [if_pos (by omega), if_pos h2]
      simp [Nat.testBit_mod_two_pow]
      omega
    · rw [if_neg (by omega), if_neg h2, Nat.testBit_div_two_pow]
      congr 1
      omega
theorem fld_and (n a d : Nat) : (n &&& mask a d) / 2 ^ a = fld n a d := by
  apply Nat.eq_of_testBit_eq
  intro j
  rw [Nat.testBit_div_two_pow, Nat.testBit_and, testBit_mask, testBit_fld]
  by_cases h : j < d
  · simp [h, Nat.add_comm]
  · have e2 : decide (j + a < a + d) = false := by simp; omega
    simp [h, e2]
theorem setF_or (n a d x : Nat) (hn : n < 2 ^ 64) (had : a + d ≤ 64) : ((n &&& ((2 ^ 64 - 1) ^^^ mask a d)) ||| ((x * 2 ^ a % 2 ^ 64) &&& mask a d)) = setF n a d x := by
  apply Nat.eq_of_testBit_eq
  intro j
  rw [Nat.testBit_or, Nat.testBit_and, Nat.testBit_and, Nat.testBit_xor, testBit_mask, testBit_setF, Nat.testBit_two_pow_sub_one, Nat.testBit_mod_two_pow, Nat.mul_comm x, Nat.testBit_two_pow_mul]
  by_cases h64 : j < 64
  · by_cases h1 : j < a
    · have e1 : decide (a ≤ j) = false := by simp; omega
      simp [h1, h64, e1]
    · have e1 : decide (a ≤ j) = true := by simp; omega
      by_cases h2 : j < a + d
      · simp [h1, h2, h64, e1]
      · simp [h1, h2, h64, e1]
  · have hz : n.testBit j = false := Nat.testBit_lt_two_pow (Nat.lt_of_lt_of_le hn (Nat.pow_le_pow_right (by decide) (by omega)))
    have e2 : decide (j < a + d) = false := by simp; omega
    simp only [hz, e2, Bool.and_false, Bool.false_and, Bool.or_self]
    rw [if_neg (by omega), if_neg (by omega)]
theorem fld_lt (n a d : Nat) : fld n a d < 2 ^ d := Nat.mod_lt _ (Nat.two_pow_pos d)
theorem setF_lt (n a d x : Nat) (hn : n < 2 ^ 64) (had : a + d ≤ 64) : setF n a d x < 2 ^ 64 := by
  rw [← setF_or n a d x hn had]
  exact Nat.or_lt_two_pow (Nat.lt_of_le_of_lt Nat.and_le_left hn) (Nat.lt_of_le_of_lt Nat.and_le_left (Nat.mod_lt _ (by decide)))
theorem mask_eq (a d : Nat) (had : a + d ≤ 64) : (2 ^ 64 - 1) / 2 ^ (64 - d) * 2 ^ a % 2 ^ 64 = mask a d := by
  have e : (2 ^ 64 - 1) / 2 ^ (64 - d) = 2 ^ d - 1 := by
    have h64 : (2 : Nat) ^ 64 = 2 ^ (64 - d) * 2 ^ d := by rw [← Nat.pow_add]; congr 1; omega
    apply Nat.eq_of_testBit_eq
    intro j
    rw [Nat.testBit_div_two_pow, Nat.testBit_two_pow_sub_one, Nat.testBit_two_pow_sub_one]
    simp
    omega
  rw [e, Nat.mul_comm]
  apply Nat.mod_eq_of_lt
  have h2 : mask a d < 2 ^ (a + d) := by
    unfold mask
    rw [Nat.pow_add]
    exact Nat.mul_lt_mul_of_pos_left (by have := Nat.two_pow_pos d; omega) (Nat.two_pow_pos a)
  exact Nat.lt_of_lt_of_le h2 (Nat.pow_le_pow_right (by decide) had)

theorem wrap_u64 (n : Nat) : IntKind.u64.wrap (n : Int) = ((n % 2 ^ 64 : Nat) : Int) := by
  simp [IntKind.wrap, IntKind.bits, IntKind.signed]
theorem ofInt_nat (x : Nat) (hx : x < 2 ^ 64) : (BitVec.ofInt 64 (x : Int)).toNat = x := by
  rw [BitVec.toNat_ofInt]
  omega
theorem bits_and (x y : Nat) (hx : x < 2 ^ 64) (hy : y < 2 ^ 64) : bits .and .u64 (x : Int) (y : Int) = ((x &&& y : Nat) : Int) := by
  show IntKind.u64.wrap ((BitVec.ofInt 64 (x : Int) &&& BitVec.ofInt 64 (y : Int)).toNat : Int) = _
  rw [BitVec.toNat_and, ofInt_nat x hx, ofInt_nat y hy, wrap_u64, Nat.mod_eq_of_lt (Nat.lt_of_le_of_lt Nat.and_le_left hx)]
theorem bits_or (x y : Nat) (hx : x < 2 ^ 64) (hy : y < 2 ^ 64) : bits .or .u64 (x : Int) (y : Int) = ((x ||| y : Nat) : Int) := by
  show IntKind.u64.wrap ((BitVec.ofInt 64 (x : Int) ||| BitVec.ofInt 64 (y : Int)).toNat : Int) = _
  rw [BitVec.toNat_or, ofInt_nat x hx, ofInt_nat y hy, wrap_u64, Nat.mod_eq_of_lt (Nat.or_lt_two_pow hx hy)]
theorem bits_xor (x y : Nat) (hx : x < 2 ^ 64) (hy : y < 2 ^ 64) : bits .xor .u64 (x : Int) (y : Int) = ((x ^^^ y : Nat) : Int) := by
  show IntKind.u64.wrap ((BitVec.ofInt 64 (x : Int) ^^^ BitVec.ofInt 64 (y : Int)).toNat : Int) = _
  rw [BitVec.toNat_xor, ofInt_nat x hx, ofInt_nat y hy, wrap_u64, Nat.mod_eq_of_lt (Nat.xor_lt_two_pow hx hy)]
theorem bits_andNot (x y : Nat) (hx : x < 2 ^ 64) (hy : y < 2 ^ 64) : bits .andNot .u64 (x : Int) (y : Int) = ((x &&& ((2 ^ 64 - 1) ^^^ y) : Nat) : Int) := by
  show IntKind.u64.wrap ((BitVec.ofInt 64 (x : Int) &&& ~~~ BitVec.ofInt 64 (y : Int)).toNat : Int) = _
  have e : (2 ^ 64 - 1 - y) = (2 ^ 64 - 1) ^^^ y := by
    apply Nat.eq_of_testBit_eq
    intro j
    have h := congrArg (fun b : BitVec 64 => b.toNat.testBit j) (BitVec.not_def (x := BitVec.ofInt 64 (y : Int)))
    simp only [BitVec.toNat_not, BitVec.toNat_xor, ofInt_nat y hy, BitVec.toNat_allOnes] at h
    rw [h, Nat.xor_comm]
  rw [BitVec.toNat_and, BitVec.toNat_not, ofInt_nat x hx, ofInt_nat y hy, wrap_u64, e, Nat.mod_eq_of_lt (Nat.lt_of_le_of_lt Nat.and_le_left hx)]
theorem mask_lt (a d : Nat) (had : a + d ≤ 64) : mask a d < 2 ^ 64 := by
  rw [← mask_eq a d had]
  exact Nat.mod_lt _ (by decide)
end Go.Proofs.YtoghcikfkkmfkaaGreat
