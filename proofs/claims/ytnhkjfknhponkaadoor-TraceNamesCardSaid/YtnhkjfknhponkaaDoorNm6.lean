/- TraceNames: the law's walk. Condition: the library's table is as it was laid. -/
import Derived.Test.YtnhkjfknhponkaaDoorNm5
import Derived.Test.YtnhkjfknhponkaaDoorNmQ
import Derived.Test.YtnhkjfknhponkaaDoorRefM
namespace Go.Proofs.YtnhkjfknhponkaaDoor
open Go.RowKit

def chV (x : ChS) : Value := .agg #[.int .i64 x.p, .int .u64 (x.was : Nat), .int .u64 (x.now : Nat)]
set_option maxHeartbeats 1000000 in
theorem names_long (c : ConfS) (x : ChS) (nm : List UInt8) (w : World) (h : 100 < nm.length) : Calls Tryd.prog 4 #[.agg c.cells, chV x, .string ⟨nm.toArray⟩] w (LivesOut w) := by
  have KN := Lib.hid (fun W => trace_name_nil W x.p)
  have HK0 := Lib.hid (((Keep.refl [] w).alloc (.cells c.cells 32)).alloc (.cells #[.int .i64 x.p, .int .u64 (x.was : Nat), .int .u64 (x.now : Nat)] 27))
  rw [show c.cells = #[.int .i64 c.thr, .int .i64 c.slots, .int .u64 c.stamps] from rfl] at HK0 ⊢
  have hz : (100 : Int) < ((nm.length : Nat) : Int) := by omega
  unfold chV
  clear h
  go_enter Tryd.func4, Tryd.ntmps4
  go_wp2_with fail
  refine (KN.out _).mono ?_
  rintro r y ⟨rfl, hk⟩
  have HK := Lib.hid (HK0.out.trans hk (by simp))
  clear hk
  go_wp2_with fail
  refine (lives40 _).mono ?_
  rintro r z ⟨rfl, hk⟩
  have HK2 := Lib.hid (HK.out.trans hk (by simp))
  clear hk
  go_wp2_with fail
  go_ret
  exact ⟨rfl, HK2.out⟩
set_option maxHeartbeats 1000000 in
theorem names_no (c : ConfS) (x : ChS) (nm : List UInt8) (w : World) (h : nm.length ≤ 100) (hc : c.may = false) : Calls Tryd.prog 4 #[.agg c.cells, chV x, .string ⟨nm.toArray⟩] w (LivesOut w) := by
  have KN := Lib.hid (fun W => trace_name_nil W x.p)
  have KP := Lib.hid (fun W => plan_new_no c W (fun ho => by rw [ConfS.may_iff.2 ho] at hc; cases hc))
  have KM := Lib.hid (fun W => ref05_may c W)
  rw [hc] at KM
  have HK0 := Lib.hid (((Keep.refl [] w).alloc (.cells c.cells 32)).alloc (.cells #[.int .i64 x.p, .int .u64 (x.was : Nat), .int .u64 (x.now : Nat)] 27))
  have HB := Lib.hid ((Blk.new w 32 c.cells).alloc (.cells #[.int .i64 x.p, .int .u64 (x.was : Nat), .int .u64 (x.now : Nat)] 27))
  rw [show c.cells = #[.int .i64 c.thr, .int .i64 c.slots, .int .u64 c.stamps] from rfl] at HK0 HB KP KM ⊢
  have hz : ¬ (100 : Int) < ((nm.length : Nat) : Int) := by omega
  unfold chV
  clear h hc
  go_enter Tryd.func4, Tryd.ntmps4
  go_wp2_with fail
  refine (KN.out _).mono ?_
  rintro r y ⟨rfl, hk⟩
  have HK := Lib.hid (HK0.out.trans hk (by simp))
  have HB1 := Lib.hid (HB.out.keep hk (by simp))
  clear hk HB
  have hc0 := HB1.out.cell 0
  have hc1 := HB1.out.cell 1
  have hc2 := HB1.out.cell 2
  generalize w.heap.size = g at *
  go_wp2_with fail
  refine (KP.out _).mono ?_
  rintro r z ⟨rfl, hk⟩
  have HK2 := Lib.hid (HK.out.trans hk (by simp))
  have HB2 := Lib.hid (HB1.out.keep hk (by simp))
  clear hk HB1 hc0 hc1 hc2
  have hc0 := HB2.out.cell 0
  have hc1 := HB2.out.cell 1
  have hc2 := HB2.out.cell 2
  go_wp2_with fail
  refine (KM.out _).mono ?_
  rintro r z2 ⟨rfl, hk⟩
  have HK3 := Lib.hid (HK2.out.trans hk (by simp))
  clear hk
  go_wp2_with fail
  refine (lives40 _).mono ?_
  rintro r z3 ⟨rfl, hk⟩
  have HK4 := Lib.hid (HK3.out.trans hk (by simp))
  clear hk
  go_wp2_with fail
  go_ret
  exact ⟨rfl, HK4.out⟩
set_option maxHeartbeats 1000000 in
theorem names_many (c : ConfS) (x : ChS) (nm : List UInt8) (w : World) (h : nm.length ≤ 100) (ho : c.Ok) (hs : 60 < c.slots) : Calls Tryd.prog 4 #[.agg c.cells, chV x, .string ⟨nm.toArray⟩] w (LivesOut w) := by
  have KN := Lib.hid (fun W => trace_name_nil W x.p)
  have KP := Lib.hid (fun W => plan_new_yes c W ho)
  have KM := Lib.hid (fun W => ref05_may c W)
  rw [ConfS.may_iff.2 ho] at KM
  have HK0 := Lib.hid (((Keep.refl [] w).alloc (.cells c.cells 32)).alloc (.cells #[.int .i64 x.p, .int .u64 (x.was : Nat), .int .u64 (x.now : Nat)] 27))
  have HB := Lib.hid ((Blk.new w 32 c.cells).alloc (.cells #[.int .i64 x.p, .int .u64 (x.was : Nat), .int .u64 (x.now : Nat)] 27))
  rw [show c.cells = #[.int .i64 c.thr, .int .i64 c.slots, .int .u64 c.stamps] from rfl] at HK0 HB KP KM ⊢
  have hz : ¬ (100 : Int) < ((nm.length : Nat) : Int) := by omega
  unfold chV
  clear h ho
  go_enter Tryd.func4, Tryd.ntmps4
  go_wp2_with fail
  refine (KN.out _).mono ?_
  rintro r y ⟨rfl, hk⟩
  have HK := Lib.hid (HK0.out.trans hk (by simp))
  have HB1 := Lib.hid (HB.out.keep hk (by simp))
  clear hk HB
  have hc0 := HB1.out.cell 0
  have hc1 := HB1.out.cell 1
  have hc2 := HB1.out.cell 2
  generalize w.heap.size = g at *
  go_wp2_with fail
  refine (KP.out _).mono ?_
  rintro r z ⟨p, rfl, hp, _, hk⟩
  have HK2 := Lib.hid (HK.out.trans hk (by simp))
  have HB2 := Lib.hid (HB1.out.keep hk (by simp))
  clear hk hp HB1 hc0 hc1 hc2
  have hc0 := HB2.out.cell 0
  have hc1 := HB2.out.cell 1
  have hc2 := HB2.out.cell 2
  go_wp2_with fail
  refine (KM.out _).mono ?_
  rintro r z2 ⟨rfl, hk⟩
  have HK3 := Lib.hid (HK2.out.trans hk (by simp))
  have HB3 := Lib.hid (HB2.out.keep hk (by simp))
  clear hk HB2 hc0 hc1 hc2
  have hc1 : z2.cell? ⟨g, 1, none⟩ = some (.int .i64 c.slots) := HB3.out.cell 1
  go_wp2_with fail
  refine (lives40 _).mono ?_
  rintro r z3 ⟨rfl, hk⟩
  have HK4 := Lib.hid (HK3.out.trans hk (by simp))
  clear hk
  go_wp2_with fail
  go_ret
  exact ⟨rfl, HK4.out⟩
end Go.Proofs.YtnhkjfknhponkaaDoor
