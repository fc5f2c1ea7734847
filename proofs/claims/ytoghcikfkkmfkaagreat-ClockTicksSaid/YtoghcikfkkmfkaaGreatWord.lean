/- Package word: fields of words, by arithmetic. Conditions: the field may be, words are below 2 to the 64. -/
import Derived.Test.YtoghcikfkkmfkaaGreatVoc
import Derived.Test.YtoghcikfkkmfkaaGreatBitN
import Derived.Deep.RegionHeld3
import Derived.BigQuiet
import Derived.WalkSpells
import Derived.Lib.Hide
namespace Go.Proofs.YtoghcikfkkmfkaaGreat
open Go.RowKit

theorem word_may (a d : Int) (w : World) (h1 : 0 ≤ a) (h2 : a < 64) (h3 : 1 ≤ d) (h4 : d ≤ 64 - a) : Calls Tryz.prog 134 #[.int .i64 a, .int .i64 d] w fun e w' => e = .returned (.bool true) ∧ w = w' := by
  have d1 : decide (0 ≤ a) = true := by simpa using h1
  have d2 : decide (a < 64) = true := by simpa using h2
  have d3 : decide (1 ≤ d) = true := by simpa using h3
  have d4 : decide (d ≤ 64 - a) = true := by simpa using h4
  go_enter Tryz.func134, Tryz.ntmps134
  go_wp2
  go_ret
  exact ⟨rfl, rfl⟩
theorem mask_int (a d : Int) (h1 : 0 ≤ a) (h3 : 1 ≤ d) (h4 : d ≤ 64 - a) : IntKind.u64.wrap (18446744073709551615 / 2 ^ (64 - d).toNat * 2 ^ a.toNat) = ((mask a.toNat d.toNat : Nat) : Int) := by
  obtain ⟨a, rfl⟩ := Int.eq_ofNat_of_zero_le h1
  obtain ⟨d, rfl⟩ := Int.eq_ofNat_of_zero_le (show 0 ≤ d by omega)
  have e : (64 - (d : Int)).toNat = 64 - d := by omega
  rw [e]
  simp only [Int.toNat_natCast]
  rw [← mask_eq a d (by omega), ← wrap_u64]
  congr 1
theorem word_mask (a d : Int) (w : World) (h1 : 0 ≤ a) (h2 : a < 64) (h3 : 1 ≤ d) (h4 : d ≤ 64 - a) : Calls Tryz.prog 135 #[.int .i64 a, .int .i64 d] w fun e w' => e = .returned (.int .u64 (mask a.toNat d.toNat : Nat)) ∧ w = w' := by
  have HM := Lib.hid (word_may a d w h1 h2 h3 h4)
  go_enter Tryz.func135, Tryz.ntmps135
  go_wp2_with fail
  refine HM.out.mono ?_
  rintro e w' ⟨rfl, rfl⟩
  go_wp2
  go_ret
  exact ⟨by rw [← mask_int a d h1 h3 h4]; rfl, rfl⟩
theorem word_field (n : Nat) (a d : Int) (w : World) (hn : n < 2 ^ 64) (h1 : 0 ≤ a) (h2 : a < 64) (h3 : 1 ≤ d) (h4 : d ≤ 64 - a) : Calls Tryz.prog 104 #[.int .u64 n, .int .i64 a, .int .i64 d] w fun e w' => e = .returned (.int .u64 (fld n a.toNat d.toNat : Nat)) ∧ w = w' := by
  have HM := Lib.hid (word_may a d w h1 h2 h3 h4)
  have HK := Lib.hid (word_mask a d w h1 h2 h3 h4)
  have HB := Lib.hid (bits_and n (mask a.toNat d.toNat) hn (mask_lt _ _ (by omega)))
  clear hn
  go_enter Tryz.func104, Tryz.ntmps104
  go_wp2_with fail
  refine HM.out.mono ?_
  rintro e w' ⟨rfl, rfl⟩
  go_wp2_with fail
  refine HK.out.mono ?_
  rintro e w' ⟨rfl, rfl⟩
  go_wp2
  go_ret
  refine ⟨?_, rfl⟩
  show Ending.returned (Value.int IntKind.u64 (bits BinOp.and IntKind.u64 n (mask a.toNat d.toNat : Nat) / 2 ^ a.toNat)) = _
  rw [HB.out, ← fld_and]
  push_cast
  rfl
theorem word_with (n x : Nat) (a d : Int) (w : World) (hn : n < 2 ^ 64) (h1 : 0 ≤ a) (h2 : a < 64) (h3 : 1 ≤ d) (h4 : d ≤ 64 - a) : Calls Tryz.prog 122 #[.int .u64 n, .int .i64 a, .int .i64 d, .int .u64 x] w fun e w' => e = .returned (.int .u64 (setF n a.toNat d.toNat x : Nat)) ∧ w = w' := by
  have HM := Lib.hid (word_may a d w h1 h2 h3 h4)
  have HK := Lib.hid (word_mask a d w h1 h2 h3 h4)
  have HL := Lib.hid (mask_lt a.toNat d.toNat (by omega))
  have HS := Lib.hid (setF_or n a.toNat d.toNat x hn (by omega))
  have HN := Lib.hid hn
  clear hn
  go_enter Tryz.func122, Tryz.ntmps122
  go_wp2_with fail
  refine HM.out.mono ?_
  rintro e w' ⟨rfl, rfl⟩
  go_wp2_with fail
  refine HK.out.mono ?_
  rintro e w' ⟨rfl, rfl⟩
  go_wp2
  go_ret
  refine ⟨?_, rfl⟩
  show Ending.returned (Value.int IntKind.u64 (bits BinOp.or IntKind.u64 (bits BinOp.andNot IntKind.u64 n (mask a.toNat d.toNat : Nat)) (bits BinOp.and IntKind.u64 (IntKind.u64.wrap (x * 2 ^ a.toNat)) (mask a.toNat d.toNat : Nat)))) = _
  have e1 : IntKind.u64.wrap ((x : Int) * 2 ^ a.toNat) = ((x * 2 ^ a.toNat % 2 ^ 64 : Nat) : Int) := by
    rw [← wrap_u64]
    push_cast
    rfl
  rw [e1, bits_andNot n _ HN.out HL.out, bits_and _ _ (Nat.mod_lt _ (by decide)) HL.out, bits_or _ _ (Nat.lt_of_le_of_lt Nat.and_le_left HN.out) (Nat.lt_of_le_of_lt Nat.and_le_left (Nat.mod_lt _ (by decide))), HS.out]
theorem word_bit (n : Nat) (a : Int) (w : World) (hn : n < 2 ^ 64) (h1 : 0 ≤ a) (h2 : a < 64) : Calls Tryz.prog 152 #[.int .u64 n, .int .i64 a] w fun e w' => e = .returned (.bool (fld n a.toNat 1 == 1)) ∧ w = w' := by
  have HM := Lib.hid (word_field n a 1 w hn h1 h2 (by omega) (by omega))
  clear hn
  go_enter Tryz.func152, Tryz.ntmps152
  go_wp2_with fail
  refine HM.out.mono ?_
  rintro e w' ⟨rfl, rfl⟩
  go_wp2
  go_ret
  refine ⟨?_, rfl⟩
  show Ending.returned (Value.bool (((fld n a.toNat (1 : Int).toNat : Nat) : Int) == 1)) = _
  congr 2
  rw [Bool.eq_iff_iff]
  simp only [beq_iff_eq]
  show ((fld n a.toNat 1 : Nat) : Int) = 1 ↔ _
  omega
def bitN (b : Bool) : Nat := if b then 1 else 0
theorem word_turned (n : Nat) (a : Int) (b : Bool) (w : World) (hn : n < 2 ^ 64) (h1 : 0 ≤ a) (h2 : a < 64) : Calls Tryz.prog 114 #[.int .u64 n, .int .i64 a, .bool b] w fun e w' => e = .returned (.int .u64 (setF n a.toNat 1 (bitN b) : Nat)) ∧ w = w' := by
  have HM := Lib.hid (word_with n (bitN b) a 1 w hn h1 h2 (by omega) (by omega))
  clear hn
  cases b
  · go_enter Tryz.func114, Tryz.ntmps114
    go_wp2_with fail
    refine HM.out.mono ?_
    rintro e w' ⟨rfl, rfl⟩
    go_wp2
    go_ret
    exact ⟨rfl, rfl⟩
  · go_enter Tryz.func114, Tryz.ntmps114
    go_wp2_with fail
    refine HM.out.mono ?_
    rintro e w' ⟨rfl, rfl⟩
    go_wp2
    go_ret
    exact ⟨rfl, rfl⟩
end Go.Proofs.YtoghcikfkkmfkaaGreat
