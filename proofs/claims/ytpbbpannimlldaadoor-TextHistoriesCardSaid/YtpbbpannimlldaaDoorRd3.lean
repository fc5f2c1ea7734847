/- A call, read: call.Op, words.call by their contracts. Conditions: the library's tables and errors are as they were laid; at most 20000 bytes. -/
import Derived.Test.YtpbbpannimlldaaDoorRd2
import Derived.Test.YtpbbpannimlldaaDoorRdR
namespace Go.Proofs.YtpbbpannimlldaaDoor
open Go.RowKit

def opN (s : List UInt8) : Nat := (opZ s).getD 0
set_option maxHeartbeats 1000000 in
theorem call_op (s : List UInt8) (w : World) : Calls Tryd.prog 44 #[.string ⟨s.toArray⟩] w fun r w' => r = .returned (.tuple #[.int .i64 (opN s : Nat), .bool (opZ s).isSome]) ∧ Keep [] w w' := by
  go_enter Tryd.func44, Tryd.ntmps44
  go_wp2_with fail
  go_step3
  go_wp2_with fail
  go_step3
  go_wp2_with fail
  refine (call_words _).mono ?_
  rintro r x ⟨rfl, hk⟩
  have HK := Lib.hid hk
  clear hk
  go_wp2_with fail
  go_loopg [4, 5, 9] 15 (fun g v4 v5 v9 wr => ∃ k : Nat, k ≤ 15 ∧ g = 15 - k ∧ v4 = .int .i64 0 ∧ v5 = .bool false ∧ v9 = .int .i64 (k : Nat) ∧ wr = x ∧ ∀ j, j < k → wordL.getD j [] ≠ s)
  case atStart => exact ⟨0, Nat.zero_le _, rfl, rfl, rfl, rfl, rfl, fun j hj => by omega⟩
  case round =>
    obtain ⟨k, hk, rfl, rfl, rfl, rfl, rfl, hno⟩ := hrel
    have HNO := Lib.hid hno
    have hk0 : (0 : Int) ≤ ((k : Nat) : Int) := by omega
    have hk15 : ((k : Nat) : Int) ≤ 15 := by omega
    clear hno
    by_cases hlt : k < 15
    · have hz : ((k : Nat) : Int) < 15 := by omega
      have hidx := word_index k hlt
      have HLT := Lib.hid hlt
      clear hlt
      by_cases he : wordL.getD k [] = s
      · have hb : (wordL.getD k [] == s) = true := by rw [beq_iff_eq]; exact he
        have HO : Hid (opZ s = some k) := Lib.hid (firstZ_some HLT.out he HNO.out)
        clear he
        generalize wordL.getD k [] = L at *
        go_wp2_with fail
        try rw [Exit.noGoto_ret]
        go_ret2
        unfold opN
        rw [HO.out]
        exact ⟨rfl, HK.out⟩
      · have hb : (wordL.getD k [] == s) = false := by rw [beq_eq_false_iff_ne]; exact he
        have HN2 : Hid (∀ j, j < k + 1 → wordL.getD j [] ≠ s) := Lib.hid (fun j hj => by
          by_cases hjk : j < k
          · exact HNO.out j hjk
          · obtain rfl : j = k := by omega
            exact he)
        clear he
        generalize wordL.getD k [] = L at *
        go_wp2_with fail
        go_roundg (15 - (k + 1))
        case measure => have := HLT.out; omega
        case rel => exact ⟨k + 1, HLT.out, rfl, rfl, rfl, by go_num, rfl, HN2.out⟩
    · have hz : ¬ ((k : Nat) : Int) < 15 := by omega
      obtain rfl : k = 15 := by omega
      have HO : Hid (opZ s = none) := Lib.hid (firstZ_none HNO.out)
      clear hlt
      go_wp2_with fail
      try rw [Exit.noGoto_ret]
      go_ret2
      unfold opN
      rw [HO.out]
      exact ⟨rfl, HK.out⟩
end Go.Proofs.YtpbbpannimlldaaDoor
