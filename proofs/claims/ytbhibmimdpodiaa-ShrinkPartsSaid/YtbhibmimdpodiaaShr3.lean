/- The chapter's example of layer 42, and the functions that are asked. Conditions: the captured variables are known. -/
import Derived.Test.YtbhibmimdpodiaaShr2
import Derived.Test.YtbhibmimdpodiaaEntQ
namespace Go.Proofs.Ytbhibmimdpodiaa
open Go.RowKit

set_option maxHeartbeats 1000000 in
theorem fn_two (w : World) (c : Int × Int × Int) (A : Option Addr) (l : List EntS) (cap : Nat) :
    Calls Try.prog 37 #[scriptV c (.slice A l.length cap)] w fun r w' => r = .returned (.bool (decide (2 ≤ l.length))) ∧ Keep [] w w' := by
  have HK := Lib.hid ((Keep.refl [] w).alloc (.cells #[.int .i64 c.1, .int .i64 c.2.1, .int .u64 c.2.2, .slice A l.length cap] 27))
  unfold scriptV
  generalize l.length = n at HK ⊢
  by_cases h : 2 ≤ n
  · have HD := Lib.hid (decide_eq_true h)
    have hz : (2 : Int) ≤ ((n : Nat) : Int) := by omega
    go_enter Try.func37, Try.ntmps37
    go_wp2
    go_ret
    exact ⟨by first | rfl | (rw [HD.out]; rfl), HK.out⟩
  · have HD := Lib.hid (decide_eq_false h)
    have hz : ¬ (2 : Int) ≤ ((n : Nat) : Int) := by omega
    go_enter Try.func37, Try.ntmps37
    go_wp2
    go_ret
    exact ⟨by first | rfl | (rw [HD.out]; rfl), HK.out⟩
theorem two_ok (w0 : World) : BadFn 37 #[] (0, 0, 0) (fun l => decide (2 ≤ l.length)) w0 :=
  ⟨fun args w => by kernel_rfl, fun w _ A l cap _ _ => by
    have := fn_two w (0, 0, 0) A l cap
    simpa using this⟩
def exEnts : List EntS := [⟨1, false, 0, 0, 0, 0, 0⟩, ⟨2, false, 0, 0, 0, 0, 0⟩, ⟨3, false, 0, 0, 0, 0, 0⟩]
def exLeft : List EntS := [⟨2, false, 0, 0, 0, 0, 0⟩, ⟨3, false, 0, 0, 0, 0, 0⟩]
theorem ex_least : leastL (fun l => decide (2 ≤ l.length)) exEnts = (exLeft, 6) := by decide +kernel

set_option maxHeartbeats 1000000 in
theorem fn_bad (w w0 : World) (hk : Keep [] w0 w) (sb nb : Nat) (c n : Int × Int × Int) (v : Value) (hs : Blk w0 sb 27 #[.int .i64 c.1, .int .i64 c.2.1, .int .u64 c.2.2, v]) (hn : Blk w0 nb 29 #[.int .i64 n.1, .int .i64 n.2.1, .int .i64 n.2.2]) (A : Option Addr) (l : List EntS) (cap : Nat) (h : EntAt w anyB A l) (hl : l.length ≤ 120) :
    Calls Try.prog 10 #[scriptV c (.slice A l.length cap), .pointer (some ⟨sb, 0, none⟩), .pointer (some ⟨nb, 0, none⟩)] w fun r w' => r = .returned (.bool (badB n l)) ∧ Keep [] w w' := by
  have HK := Lib.hid ((Keep.refl [] w).alloc (.cells #[.int .i64 c.1, .int .i64 c.2.1, .int .u64 c.2.2, .slice A l.length cap] 27))
  have HE := Lib.hid (h.keep0 HK.out)
  have HS := Lib.hid ((hs.keep hk (by simp)).keep HK.out (by simp))
  have HN := Lib.hid ((hn.keep hk (by simp)).keep HK.out (by simp))
  have HX := Lib.hid (Blk.new w 27 #[.int .i64 c.1, .int .i64 c.2.1, .int .u64 c.2.2, .slice A l.length cap])
  clear h hs hn hk
  unfold scriptV
  go_enter Try.func10, Try.ntmps10
  go_upto_region 1 with fail
  generalize w.heap.size = xb at HX ⊢
  generalize w.alloc (.cells #[.int .i64 c.1, .int .i64 c.2.1, .int .u64 c.2.2, .slice A l.length cap] 27) = w1 at HK HE HS HN HX ⊢
  have hs0 := HS.out.cell 0
  have hs1 := HS.out.cell 1
  have hs2 := HS.out.cell 2
  have hn0 := HN.out.cell 0
  have hn1 := HN.out.cell 1
  have hn2 := HN.out.cell 2
  have hx0 := HX.out.cell 0
  have hx1 := HX.out.cell 1
  have hx2 := HX.out.cell 2
  have hx3 := HX.out.cell 3
  have KB := Lib.hid (ref42_bad w1 A l cap anyB HE.out (by omega) n)
  go_wp2_with (go_at_call 11; refine KB.out.mono ?_; rintro r y ⟨rfl, hk⟩; have HK3 := Lib.hid hk; clear hk)
  go_ret
  exact ⟨rfl, HK.out.trans HK3.out (by simp)⟩
theorem bad_ok (w0 : World) (sb nb : Nat) (c n : Int × Int × Int) (v : Value) (hs : Blk w0 sb 27 #[.int .i64 c.1, .int .i64 c.2.1, .int .u64 c.2.2, v]) (hn : Blk w0 nb 29 #[.int .i64 n.1, .int .i64 n.2.1, .int .i64 n.2.2]) : BadFn 10 #[.pointer (some ⟨sb, 0, none⟩), .pointer (some ⟨nb, 0, none⟩)] c (badB n) w0 :=
  ⟨fun args w => by kernel_rfl, fun w hk A l cap h hl => by
    have := fn_bad w w0 hk sb nb c n v hs hn A l cap h hl
    simpa using this⟩

set_option maxHeartbeats 1000000 in
theorem law42_lives (w : World) : Calls Try.prog 9 #[] w fun r w' => r = .returned (.bool true) ∧ Keep [] w w' := by
  go_enter Try.func9, Try.ntmps9
  go_wp2_with fail
  have HK := Lib.hid ((Keep.refl [] w).alloc (.cells (entL exEnts).toArray 43))
  have HB := Lib.hid (Blk.new w 43 (entL exEnts).toArray)
  have HE : Hid (EntAt (w.alloc (.cells (entL exEnts).toArray 43)) anyB (some ⟨w.heap.size, 0, none⟩) exEnts) := Lib.hid (fun _ => ⟨w.heap.size, 0, rfl, HB.out.lt, trivial, fun j u hj => by rw [HB.out.cell, Nat.zero_add, List.getElem?_toArray]; exact hj⟩)
  have KL := Lib.hid (shr_least (w.alloc (.cells (entL exEnts).toArray 43)) 37 #[] (0, 0, 0) _ (two_ok _) _ exEnts 3 anyB HE.out (by decide))
  rw [ex_least] at KL
  refine KL.out.mono ?_
  rintro r x ⟨hk, A2, c2, rfl, he⟩
  obtain ⟨b, o, hA, _, _, g0, _⟩ := he.at_ (k := 0) (by decide)
  obtain ⟨b', o', hA', _, _, g1, _⟩ := he.at_ (k := 1) (by decide)
  obtain rfl : A2 = some ⟨b, o, none⟩ := hA
  obtain ⟨rfl, rfl⟩ : b = b' ∧ o = o' := by simpa using hA'
  have HKX := Lib.hid (HK.out.trans hk (by simp))
  have g0' : x.cell? ⟨b, o, none⟩ = some (.int .i64 2) := g0
  have g1' : x.cell? ⟨b, o + 7, none⟩ = some (.int .i64 3) := g1
  clear he hA' g0 g1 hk KL HE HB HK
  unfold scriptV
  simp only [exLeft, List.length_cons, List.length_nil]
  go_wp2_with fail
  go_ret
  exact ⟨rfl, HKX.out.alloc _⟩
end Go.Proofs.Ytbhibmimdpodiaa
