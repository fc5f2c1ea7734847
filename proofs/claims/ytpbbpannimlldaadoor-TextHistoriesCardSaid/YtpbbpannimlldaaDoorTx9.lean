/- TextWrites: that the law lives. Condition: the library's table is as it was laid. -/
import Derived.Test.YtpbbpannimlldaaDoorTx8
namespace Go.Proofs.YtpbbpannimlldaaDoor
open Go.RowKit

def TrueOut (w : World) (r : Ending) (w' : World) : Prop := r = .returned (.bool true) ∧ Keep [] w w'
def evA : EvX := ⟨0, false, ⟨0, 5, -1, 0, 0⟩, ⟨0, 0, 0, 0, [], none, 0⟩⟩
def evB (g : Nat) : EvX := ⟨2, true, ⟨0, 0, 0, 0, 0⟩, ⟨3, 0, 0, 0, [(1, 2), (3, 4)], some ⟨g, 0, none⟩, 2⟩⟩
theorem evA_z : evZ evA = [98, 101, 103, 105, 110, 32, 48, 32, 105, 110, 115, 101, 114, 116, 32, 53, 32, 45, 49] := by decide +kernel
theorem evB_z (g : Nat) : evZ (evB g) = [98, 97, 99, 107, 32, 50, 32, 108, 105, 115, 116, 32, 49, 58, 50, 32, 51, 58, 52] := by
  have : evZ (evB 0) = [98, 97, 99, 107, 32, 50, 32, 108, 105, 115, 116, 32, 49, 58, 50, 32, 51, 58, 52] := by decide +kernel
  exact this
theorem i64_small {n : Int} (h : -100 ≤ n ∧ n ≤ 100) : I64 n := by unfold I64; omega
theorem evA_in (w : World) : EvIn w evA :=
  ⟨⟨i64_small (by decide), ⟨i64_small (by decide), i64_small (by decide), i64_small (by decide), i64_small (by decide)⟩, ⟨i64_small (by decide), i64_small (by decide), i64_small (by decide), fun p hp => by cases hp⟩⟩, fun h => absurd h (Nat.lt_irrefl 0)⟩
theorem evB_in {w : World} {g : Nat} (hb : Blk w g 51 #[.int .i64 1, .int .i64 2, .int .i64 3, .int .i64 4]) : EvIn w (evB g) :=
  ⟨⟨i64_small (by show -100 ≤ (2 : Int) ∧ (2 : Int) ≤ 100; decide), ⟨i64_small (by show -100 ≤ (0 : Int) ∧ (0 : Int) ≤ 100; decide), i64_small (by show -100 ≤ (0 : Int) ∧ (0 : Int) ≤ 100; decide), i64_small (by show -100 ≤ (0 : Int) ∧ (0 : Int) ≤ 100; decide), i64_small (by show -100 ≤ (0 : Int) ∧ (0 : Int) ≤ 100; decide)⟩, ⟨i64_small (by show -100 ≤ (0 : Int) ∧ (0 : Int) ≤ 100; decide), i64_small (by show -100 ≤ (0 : Int) ∧ (0 : Int) ≤ 100; decide), i64_small (by show -100 ≤ (0 : Int) ∧ (0 : Int) ≤ 100; decide), fun p hp => by
    replace hp : p ∈ [((1 : Int), (2 : Int)), (3, 4)] := hp
    simp only [List.mem_cons, List.not_mem_nil, or_false] at hp
    rcases hp with rfl | rfl
    · exact ⟨i64_small (by decide), i64_small (by decide)⟩
    · exact ⟨i64_small (by decide), i64_small (by decide)⟩⟩⟩, fun _ => ⟨g, 0, rfl, hb.lt, fun j u hu => by
      rw [Nat.zero_add, hb.cell, show (#[.int .i64 1, .int .i64 2, .int .i64 3, .int .i64 4] : Array Value) = [Value.int .i64 1, .int .i64 2, .int .i64 3, .int .i64 4].toArray from rfl, List.getElem?_toArray]
      exact hu⟩⟩
set_option maxHeartbeats 1000000 in
theorem law35_lives (w : World) (ht : TabOk w) : Calls Tryd.prog 6 #[] w (TrueOut w) := by
  have HT := Lib.hid ht
  have KA := Lib.hid (text_event evA w (evA_in w) (by decide) ht)
  rw [evA_z, show evA.cells = #[.int .i64 0, .bool false, .int .i64 0, .int .i64 5, .int .i64 (-1), .int .i64 0, .int .i64 0, .int .i64 0, .int .i64 0, .int .i64 0, .int .i64 0, .slice none 0 0] from rfl] at KA
  have KB := Lib.hid (fun (W : World) (g : Nat) (hk : Keep [] w W) (hb : Blk W g 51 #[.int .i64 1, .int .i64 2, .int .i64 3, .int .i64 4]) => text_event (evB g) W (evB_in hb) (by show 2 ≤ 4100; decide) (ht.keep hk))
  unfold TextOut at KA KB
  clear ht
  go_enter Tryd.func6, Tryd.ntmps6
  go_wp2_with fail
  refine KA.out.mono ?_
  rintro r x ⟨rfl, hk⟩
  have HK := Lib.hid hk
  clear hk KA
  go_wp2_with fail
  have HB := Lib.hid (Blk.new x 51 #[.int .i64 1, .int .i64 2, .int .i64 3, .int .i64 4])
  have HK2 := Lib.hid (HK.out.alloc (.cells #[.int .i64 1, .int .i64 2, .int .i64 3, .int .i64 4] 51))
  have KB2 := KB.out _ _ HK2.out HB.out
  rw [evB_z, show (evB x.heap.size).cells = #[.int .i64 2, .bool true, .int .i64 0, .int .i64 0, .int .i64 0, .int .i64 0, .int .i64 0, .int .i64 3, .int .i64 0, .int .i64 0, .int .i64 0, .slice (some ⟨x.heap.size, 0, none⟩) 2 2] from rfl] at KB2
  refine KB2.mono ?_
  rintro r y ⟨rfl, hk⟩
  have HK3 := Lib.hid (HK2.out.trans hk (by simp))
  clear hk KB2 KB HB HK2 HK
  go_wp2_with fail
  go_ret
  exact ⟨rfl, HK3.out⟩
end Go.Proofs.YtpbbpannimlldaaDoor
