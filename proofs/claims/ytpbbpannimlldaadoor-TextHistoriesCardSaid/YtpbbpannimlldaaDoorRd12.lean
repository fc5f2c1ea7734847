/- The reference's Same of lists of pairs, of answers, where both hold the same, by their contracts. Condition: at most 20001 pairs. -/
import Derived.Test.YtpbbpannimlldaaDoorRd8
namespace Go.Proofs.YtpbbpannimlldaaDoor
open Go.RowKit

def SameOut (w : World) (r : Ending) (w' : World) : Prop := r = .returned (.bool true) ∧ Keep [] w w'
set_option maxHeartbeats 1000000 in
theorem ref08_same (w : World) (A1 A2 : Option Addr) (c1 c2 : Nat) (ps : List (Int × Int)) (h1 : ElAt pairC w A1 ps) (h2 : ElAt pairC w A2 ps) (hl : ps.length ≤ 20001) : Calls Tryd.prog 30 #[.slice A1 ps.length c1, .slice A2 ps.length c2] w (SameOut w) := by
  have H1 := Lib.hid h1
  have H2 := Lib.hid h2
  have hl0 : ((ps.length : Nat) : Int) ≤ 20001 := by omega
  clear h1 h2 hl
  go_enter Tryd.func30, Tryd.ntmps30
  go_wp2_with fail
  go_loopg [5] ps.length (fun g v5 wr => ∃ i : Nat, i ≤ ps.length ∧ g = ps.length - i ∧ v5 = .int .i64 (i : Nat) ∧ Keep [] w wr)
  case atStart => exact ⟨0, Nat.zero_le _, rfl, rfl, Keep.refl _ _⟩
  case round =>
    obtain ⟨i, hi, rfl, rfl, hk⟩ := hrel
    have HK := Lib.hid hk
    have hi0 : (0 : Int) ≤ ((i : Nat) : Int) := by omega
    have hi5 : ((i : Nat) : Int) ≤ 20001 := by omega
    clear hk
    by_cases hlt : i < ps.length
    · have hz : ((i : Nat) : Int) < ((ps.length : Nat) : Int) := by omega
      obtain ⟨b1, o1, hA1, _, p0, p1⟩ := (H1.out.keep HK.out).at_pair hlt
      obtain ⟨b2, o2, hA2, _, q0, q1⟩ := (H2.out.keep HK.out).at_pair hlt
      subst hA1 hA2
      have HLT := Lib.hid hlt
      clear hlt
      generalize ps.getD i (0, 0) = p at *
      obtain ⟨x, y⟩ := p
      dsimp only at p0 p1 q0 q1
      go_upto_region 6 with fail
      go_region
      go_wp2_with fail
      go_roundg (ps.length - (i + 1))
      case measure => have := HLT.out; omega
      case rel => exact ⟨i + 1, HLT.out, rfl, by go_num, HK.out.drew⟩
    · have hz : ¬ ((i : Nat) : Int) < ((ps.length : Nat) : Int) := by omega
      clear hlt
      go_wp2_with fail
      go_ret
      exact ⟨rfl, HK.out⟩
set_option maxRecDepth 100000 in
set_option maxHeartbeats 1000000 in
theorem ref09_same (w : World) (k key val n : Int) (A1 A2 : Option Addr) (c1 c2 : Nat) (ps : List (Int × Int)) (h1 : ElAt pairC w A1 ps) (h2 : ElAt pairC w A2 ps) (hl : ps.length ≤ 20001) : Calls Tryd.prog 12 #[.agg #[.int .i64 k, .int .i64 key, .int .i64 val, .int .i64 n, .slice A1 ps.length c1], .agg #[.int .i64 k, .int .i64 key, .int .i64 val, .int .i64 n, .slice A2 ps.length c2]] w (SameOut w) := by
  have HX := Lib.hid ((Blk.new w 33 #[.int .i64 k, .int .i64 key, .int .i64 val, .int .i64 n, .slice A1 ps.length c1]).alloc (.cells #[.int .i64 k, .int .i64 key, .int .i64 val, .int .i64 n, .slice A2 ps.length c2] 33))
  have HY := Lib.hid (Blk.new (w.alloc (.cells #[.int .i64 k, .int .i64 key, .int .i64 val, .int .i64 n, .slice A1 ps.length c1] 33)) 33 #[.int .i64 k, .int .i64 key, .int .i64 val, .int .i64 n, .slice A2 ps.length c2])
  rw [show (w.alloc (.cells #[.int .i64 k, .int .i64 key, .int .i64 val, .int .i64 n, .slice A1 ps.length c1] 33)).heap.size = w.heap.size + 1 from (by show (w.heap.push _).size = _; simp)] at HY
  have HK := Lib.hid (((Keep.refl [] w).alloc (.cells #[.int .i64 k, .int .i64 key, .int .i64 val, .int .i64 n, .slice A1 ps.length c1] 33)).alloc (.cells #[.int .i64 k, .int .i64 key, .int .i64 val, .int .i64 n, .slice A2 ps.length c2] 33))
  have KS := Lib.hid (fun (W : World) (hk : Keep [] w W) => ref08_same W A1 A2 c1 c2 ps (h1.keep hk) (h2.keep hk) hl)
  unfold SameOut at KS
  clear h1 h2 hl
  go_enter Tryd.func12, Tryd.ntmps12
  go_upto_region 1 with fail
  generalize w.heap.size = g at HX HY ⊢
  generalize (w.alloc _).alloc _ = w1 at HX HY HK ⊢
  have x0 : w1.cell? ⟨g, 0, none⟩ = some (.int .i64 k) := HX.out.cell 0
  have x1 : w1.cell? ⟨g, 1, none⟩ = some (.int .i64 key) := HX.out.cell 1
  have x2 : w1.cell? ⟨g, 2, none⟩ = some (.int .i64 val) := HX.out.cell 2
  have x3 : w1.cell? ⟨g, 3, none⟩ = some (.int .i64 n) := HX.out.cell 3
  have x4 : w1.cell? ⟨g, 4, none⟩ = some (.slice A1 ps.length c1) := HX.out.cell 4
  have y0 : w1.cell? ⟨g + 1, 0, none⟩ = some (.int .i64 k) := HY.out.cell 0
  have y1 : w1.cell? ⟨g + 1, 1, none⟩ = some (.int .i64 key) := HY.out.cell 1
  have y2 : w1.cell? ⟨g + 1, 2, none⟩ = some (.int .i64 val) := HY.out.cell 2
  have y3 : w1.cell? ⟨g + 1, 3, none⟩ = some (.int .i64 n) := HY.out.cell 3
  have y4 : w1.cell? ⟨g + 1, 4, none⟩ = some (.slice A2 ps.length c2) := HY.out.cell 4
  generalize ps.length = m at *
  go_wp2_with fail
  refine (KS.out _ HK.out).mono ?_
  rintro r z ⟨rfl, hk⟩
  have HK2 := Lib.hid (HK.out.trans hk (by simp))
  clear hk
  go_wp2_with fail
  go_ret
  exact ⟨rfl, HK2.out⟩
end Go.Proofs.YtpbbpannimlldaaDoor
