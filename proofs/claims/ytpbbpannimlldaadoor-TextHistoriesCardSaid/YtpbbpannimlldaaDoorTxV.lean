/- An event, written: text.Event by its contract. Conditions: the library's table is as it was laid; numbers are int64, at most 4100 pairs. -/
import Derived.Test.YtpbbpannimlldaaDoorTxH
namespace Go.Proofs.YtpbbpannimlldaaDoor
open Go.RowKit

def EvX.cells (e : EvX) : Array Value := #[.int .i64 e.thr, .bool e.back, .int .i64 e.c.op, .int .i64 e.c.key, .int .i64 e.c.val, .int .i64 e.c.hi, .int .i64 e.c.lim, .int .i64 e.a.kind, .int .i64 e.a.key, .int .i64 e.a.val, .int .i64 e.a.n, .slice e.a.pA e.a.ps.length e.a.pc]
/-- What an event needs in memory. -/
structure EvIn (w : World) (e : EvX) : Prop where
  fit : e.Fit
  row : ElAt pairC w e.a.pA e.a.ps
theorem EvIn.keep {w w' : World} {e : EvX} (h : EvIn w e) (hk : Keep [] w w') : EvIn w' e := ⟨h.fit, h.row.keep hk⟩
theorem callZ_len (c : CallX) (h : c.Fit) : (callZ c).length ≤ 100 := by
  unfold callZ
  split
  · simp
  · rw [← four_eq, List.length_append]
    have h1 := wordB_len c.op
    have h2 := partB_len c.four (fun p hp => by
      unfold CallX.four at hp
      simp only [List.mem_cons, List.not_mem_nil, or_false] at hp
      rcases hp with rfl | rfl | rfl | rfl
      · exact h.key
      · exact h.val
      · exact h.hi
      · exact h.lim)
    rw [show c.four.length = 4 from rfl] at h2
    omega
theorem ansZ_len (a : AnsX) (h : a.Fit) (hl : a.ps.length ≤ 4100) : (ansZ a).length ≤ 200000 := by
  rw [ansZ_eq, List.length_append]
  have h1 := kindB_len a.kind
  have h2 := pairsB_len a.ps h.ps
  have h3 := numsB_len [a.key, a.val] (fun m hm => by
    simp only [List.mem_cons, List.not_mem_nil, or_false] at hm
    rcases hm with rfl | rfl
    · exact h.key
    · exact h.val)
  have h4 := numsB_len [a.n] (fun m hm => by rw [List.mem_singleton.1 hm]; exact h.n)
  simp only [List.length_cons, List.length_nil] at h3 h4
  split
  · omega
  · split
    · omega
    · split
      · omega
      · rw [List.length_nil]; omega
theorem evZ_len (e : EvX) (h : e.Fit) (hl : e.a.ps.length ≤ 4100) : (evZ e).length ≤ 210000 := by
  have h1 := itoa_len h.thr
  have h2 := callZ_len e.c h.c
  have h3 := ansZ_len e.a h.a hl
  unfold evZ
  split <;> simp only [List.length_append, List.length_cons, List.length_nil] <;> omega
set_option maxHeartbeats 2000000 in
theorem text_event (e : EvX) (w : World) (he : EvIn w e) (hl : e.a.ps.length ≤ 4100) (ht : TabOk w) : Calls Tryd.prog 19 #[.agg e.cells] w (TextOut (evZ e) w) := by
  have HB := Lib.hid (Blk.new w 45 e.cells)
  have HK0 := Lib.hid ((Keep.refl [] w).alloc (.cells e.cells 45))
  have KI := Lib.hid (fun (W : World) (h : TabOk W) => itoa_all e.thr he.fit.thr W h)
  have KC := Lib.hid (fun (W : World) (h : TabOk W) => text_call e.c he.fit.c W h)
  have KA := Lib.hid (fun (W : World) (h1 : ElAt pairC W e.a.pA e.a.ps) (h : TabOk W) => text_answer e.a he.fit.a W h1 hl h)
  unfold TextOut at KI KC KA
  rw [show e.c.cells = #[.int .i64 e.c.op, .int .i64 e.c.key, .int .i64 e.c.val, .int .i64 e.c.hi, .int .i64 e.c.lim] from rfl] at KC
  rw [show e.a.cells = #[.int .i64 e.a.kind, .int .i64 e.a.key, .int .i64 e.a.val, .int .i64 e.a.n, .slice e.a.pA e.a.ps.length e.a.pc] from rfl] at KA
  have hcs : e.cells = #[.int .i64 e.thr, .bool e.back, .int .i64 e.c.op, .int .i64 e.c.key, .int .i64 e.c.val, .int .i64 e.c.hi, .int .i64 e.c.lim, .int .i64 e.a.kind, .int .i64 e.a.key, .int .i64 e.a.val, .int .i64 e.a.n, .slice e.a.pA e.a.ps.length e.a.pc] := rfl
  rw [hcs] at HB HK0 ⊢
  have HT := Lib.hid ht
  have HE := Lib.hid he.row
  have hs1 := itoa_len he.fit.thr
  have hs2 := callZ_len e.c he.fit.c
  have hs3 := ansZ_len e.a he.fit.a hl
  have HZ : Hid (evZ e = if e.back then [98, 97, 99, 107, 32] ++ Lib.itoa e.thr ++ [32] ++ ansZ e.a else [98, 101, 103, 105, 110, 32] ++ Lib.itoa e.thr ++ [32] ++ callZ e.c) := Lib.hid rfl
  generalize evZ e = Z at *
  generalize ansZ e.a = az at *
  generalize callZ e.c = cz at *
  generalize Lib.itoa e.thr = tz at *
  clear he hcs ht hl
  obtain ⟨thr, back, ⟨op, key, val, hi, lim⟩, ⟨kind, akey, aval, an, ps, pA, pc⟩⟩ := e
  dsimp only at *
  go_enter Tryd.func19, Tryd.ntmps19
  go_upto_region 1 with fail
  generalize w.heap.size = eb at HB ⊢
  generalize w.alloc _ = w1 at HB HK0 ⊢
  have hc0 : w1.cell? ⟨eb, 0, none⟩ = some (.int .i64 thr) := HB.out.cell 0
  go_wp2_with fail
  refine (KI.out _ (HT.out.keep HK0.out)).mono ?_
  rintro r x ⟨rfl, hk⟩
  have HB1 := Lib.hid (HB.out.keep hk (by simp))
  have HK := Lib.hid (HK0.out.trans hk (by simp))
  clear hk hc0 HB HK0 KI
  have hc1 : x.cell? ⟨eb, 1, none⟩ = some (.bool back) := HB1.out.cell 1
  have hc2 : x.cell? ⟨eb, 2, none⟩ = some (.int .i64 op) := HB1.out.cell 2
  have hc3 : x.cell? ⟨eb, 3, none⟩ = some (.int .i64 key) := HB1.out.cell 3
  have hc4 : x.cell? ⟨eb, 4, none⟩ = some (.int .i64 val) := HB1.out.cell 4
  have hc5 : x.cell? ⟨eb, 5, none⟩ = some (.int .i64 hi) := HB1.out.cell 5
  have hc6 : x.cell? ⟨eb, 6, none⟩ = some (.int .i64 lim) := HB1.out.cell 6
  have hc7 : x.cell? ⟨eb, 7, none⟩ = some (.int .i64 kind) := HB1.out.cell 7
  have hc8 : x.cell? ⟨eb, 8, none⟩ = some (.int .i64 akey) := HB1.out.cell 8
  have hc9 : x.cell? ⟨eb, 9, none⟩ = some (.int .i64 aval) := HB1.out.cell 9
  have hc10 : x.cell? ⟨eb, 10, none⟩ = some (.int .i64 an) := HB1.out.cell 10
  have hc11 : x.cell? ⟨eb, 11, none⟩ = some (.slice pA ps.length pc) := HB1.out.cell 11
  cases back with
  | true =>
    have HCQ : Hid ((⟨#[98, 97, 99, 107, 32]⟩ : ByteArray) ++ ⟨tz.toArray⟩ ++ ⟨#[32]⟩ ++ ⟨az.toArray⟩ = ⟨Z.toArray⟩) := Lib.hid (by
      rw [HZ.out, if_pos rfl, ← catL, ← catL, ← catL])
    have hn1 : ¬ 9223372036854775807 < 5 + tz.length := by omega
    have hn2 : ¬ 9223372036854775807 < 5 + tz.length + 1 := by omega
    have hn3 : ¬ 9223372036854775807 < 5 + tz.length + 1 + az.length := by omega
    clear hs1 hs2 hs3 HZ KC
    have KA2 := Lib.hid (KA.out x (HE.out.keep HK.out) (HT.out.keep HK.out))
    generalize hn : ps.length = n at *
    go_wp2_with fail
    refine KA2.out.mono ?_
    rintro r y ⟨rfl, hk⟩
    have HK2 := Lib.hid (HK.out.trans hk (by simp))
    clear hk
    go_wp2_with fail
    go_ret
    rw [HCQ.out]
    exact ⟨rfl, HK2.out⟩
  | false =>
    have HCQ : Hid ((⟨#[98, 101, 103, 105, 110, 32]⟩ : ByteArray) ++ ⟨tz.toArray⟩ ++ ⟨#[32]⟩ ++ ⟨cz.toArray⟩ = ⟨Z.toArray⟩) := Lib.hid (by
      rw [HZ.out, if_neg (by decide), ← catL, ← catL, ← catL])
    have hn1 : ¬ 9223372036854775807 < 6 + tz.length := by omega
    have hn2 : ¬ 9223372036854775807 < 6 + tz.length + 1 := by omega
    have hn3 : ¬ 9223372036854775807 < 6 + tz.length + 1 + cz.length := by omega
    clear hs1 hs2 hs3 HZ KA
    go_wp2_with fail
    refine (KC.out x (HT.out.keep HK.out)).mono ?_
    rintro r y ⟨rfl, hk⟩
    have HK2 := Lib.hid (HK.out.trans hk (by simp))
    clear hk
    go_wp2_with fail
    go_ret
    rw [HCQ.out]
    exact ⟨rfl, HK2.out⟩
end Go.Proofs.YtpbbpannimlldaaDoor
