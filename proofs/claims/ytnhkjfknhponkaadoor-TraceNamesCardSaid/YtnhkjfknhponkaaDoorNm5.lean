/- A name's place: trace.Place by its contract; no two words have one name. Conditions: the configuration may be; at most 60 slots. -/
import Derived.Test.YtnhkjfknhponkaaDoorNm4
namespace Go.Proofs.YtnhkjfknhponkaaDoor
open Go.RowKit

def findZ (c : ConfS) (nm : List UInt8) : Option Nat := (List.range (nWords c)).find? fun a => decide (nameP (whatS c a) = nm)
def placeZ (c : ConfS) (nm : List UInt8) : Nat × Bool := match findZ c nm with | some a => (a, true) | none => (0, false)
theorem findZ_some {c : ConfS} {nm : List UInt8} {k : Nat} (hk : k < nWords c) (he : nameP (whatS c k) = nm) (hn : ∀ j, j < k → nameP (whatS c j) ≠ nm) : findZ c nm = some k := by
  unfold findZ
  rw [List.find?_range_eq_some]
  exact ⟨by simpa using he, by simpa using hk, fun j hj => by simpa using hn j hj⟩
theorem findZ_none {c : ConfS} {nm : List UInt8} (hn : ∀ j, j < nWords c → nameP (whatS c j) ≠ nm) : findZ c nm = none := by
  unfold findZ
  rw [List.find?_range_eq_none]
  exact fun j hj => by simpa using hn j hj
theorem str_eq (a b : List UInt8) (h : a = b) : (a == b) = true := by
  rw [h]
  exact beq_self_eq_true _
theorem str_ne (a b : List UInt8) (h : a ≠ b) : (a == b) = false := by
  rw [beq_eq_false_iff_ne]
  exact h
set_option maxHeartbeats 2000000 in
theorem trace_place (c : ConfS) (p : Nat) (w : World) (hp : PlanAt w p c) (ho : c.Ok) (hs : c.slots ≤ 60) (nm : List UInt8) : Calls Tryd.prog 16 #[.pointer (some ⟨p, 0, none⟩), .string ⟨nm.toArray⟩] w fun r w' => r = .returned (.tuple #[.int .i64 ((placeZ c nm).1 : Nat), .bool (placeZ c nm).2]) ∧ Keep [] w w' := by
  have KN : Hid (∀ W, PlanAt W p c → ∀ a : Nat, Calls Tryd.prog 9 #[.pointer (some ⟨p, 0, none⟩), .int .i64 (a : Nat)] W fun r w' => r = .returned (.string ⟨(nameZ c (a : Nat)).toArray⟩) ∧ Keep [] W w') := Lib.hid (fun W hW a => trace_name c p W hW ho hs (a : Nat))
  have hn : (3 + 8 * c.thr + 7 * c.slots : Int) = (nWords c : Int) := by unfold nWords; have := ho.t1; have := ho.s1; omega
  have KW := Lib.hid (plan_words c p w hp ho)
  rw [hn] at KW
  have HP := Lib.hid hp
  have hn2 : Hid (nWords c ≤ 2000) := Lib.hid (by unfold nWords; have := ho.t2; have := ho.s2; omega)
  have HF1 : Hid (∀ k, k < nWords c → nameZ c (k : Nat) = nm → (∀ j, j < k → nameZ c (j : Nat) ≠ nm) → placeZ c nm = (k, true)) := Lib.hid (fun k hk he hn => by
    unfold placeZ
    rw [findZ_some hk (by rw [← nameZ_in hk]; exact he) (fun j hj => by rw [← nameZ_in (show j < nWords c by omega)]; exact hn j hj)])
  have HF0 : Hid ((∀ j, j < nWords c → nameZ c (j : Nat) ≠ nm) → placeZ c nm = (0, false)) := Lib.hid (fun hn => by
    unfold placeZ
    rw [findZ_none (fun j hj => by rw [← nameZ_in hj]; exact hn j hj)])
  clear ho hs hn hp
  generalize nWords c = n at *
  generalize placeZ c nm = R at *
  go_enter Tryd.func16, Tryd.ntmps16
  go_wp2_with fail
  refine KW.out.mono ?_
  rintro r w1 ⟨rfl, hd⟩
  have HK1 := Lib.hid (Keep.of_drawn (S := []) hd)
  clear hd KW
  go_wp2_with fail
  go_loopg [9] n (fun g v9 wr => ∃ k : Nat, k ≤ n ∧ g = n - k ∧ v9 = .int .i64 (k : Nat) ∧ Keep [] w wr ∧ ∀ j, j < k → nameZ c (j : Nat) ≠ nm)
  case atStart => exact ⟨0, Nat.zero_le _, rfl, rfl, HK1.out, fun j hj => by omega⟩
  case round =>
    obtain ⟨k, hk, rfl, rfl, hkw, hno⟩ := hrel
    have HKW := Lib.hid hkw
    have HNO := Lib.hid hno
    have hk0 : (0 : Int) ≤ ((k : Nat) : Int) := by omega
    have hk9 : ((k : Nat) : Int) ≤ 2000 := by have := hn2.out; omega
    clear hkw hno HK1
    by_cases hlt : k < n
    · have hz : ((k : Nat) : Int) < ((n : Nat) : Int) := by omega
      have KX := Lib.hid (KN.out wr (HP.out.keep0 HKW.out) k)
      have HLT := Lib.hid hlt
      clear hlt
      by_cases he : nameZ c (k : Nat) = nm
      · have hb := str_eq _ _ he
        have HR := Lib.hid (HF1.out k HLT.out he HNO.out)
        clear he
        generalize nameZ c (k : Nat) = nk at *
        go_wp2_with fail
        refine KX.out.mono ?_
        rintro r x ⟨rfl, hk2⟩
        have HK2 := Lib.hid (HKW.out.trans hk2 (by simp))
        clear hk2
        go_wp2_with fail
        go_ret2
        exact ⟨by rw [HR.out] <;> rfl, HK2.out⟩
      · have hb := str_ne _ _ he
        have HNE := Lib.hid he
        have HN2 : Hid (∀ j, j < k + 1 → nameZ c (j : Nat) ≠ nm) := Lib.hid (fun j hj => by
          by_cases h : j < k
          · exact HNO.out j h
          · obtain rfl : j = k := by omega
            exact he)
        clear he HNE
        generalize nameZ c (k : Nat) = nk at KX hb
        go_wp2_with fail
        refine KX.out.mono ?_
        rintro r x ⟨rfl, hk2⟩
        have HK2 := Lib.hid (HKW.out.trans hk2 (by simp))
        clear hk2
        go_wp2_with fail
        go_roundg (n - (k + 1))
        case measure => have := HLT.out; omega
        case rel => exact ⟨k + 1, HLT.out, rfl, by go_num, HK2.out, HN2.out⟩
    · have hz : ¬ ((k : Nat) : Int) < ((n : Nat) : Int) := by omega
      have HR := Lib.hid (HF0.out (fun j hj => HNO.out j (by omega)))
      clear hlt
      go_wp2_with fail
      go_ret2
      exact ⟨by rw [HR.out] <;> rfl, HKW.out⟩
end Go.Proofs.YtnhkjfknhponkaaDoor
