/- The reference of layer 5: Words, by its length. Condition: the configuration may be. -/
import Derived.Test.YtoghcikfkkmfkaaGreatRef05
namespace Go.Proofs.YtoghcikfkkmfkaaGreat
open Go.RowKit

/-- A row of the reference's words while it grows: new memory, so many elements. -/
structure RowOf (w0 wr : World) (v : Value) (n : Nat) : Prop where
  hk : Keep [] w0 wr
  own : ∃ xs, wr.ownsRow w0.heap.size 188 3 v n xs
theorem infoW : (Tryz.prog.info? 188).map (fun i => (i.zero, i.size, i.bytes)) = some (some (.agg #[.int .i64 0, .int .i64 0, .int .i64 0]), 3, 24) := by kernel_rfl
theorem RowOf.grow {w0 wr w2 : World} {v v' : Value} {n n' : Nat} {o : Obj} {xs : List Value} (hk : Keep [] w0 wr) (hown0 : wr.ownsRow w0.heap.size 188 3 v n xs) {ys : List Value} (hown : w2.ownsRow w0.heap.size 188 3 v' n' ys) (hg : (wr.alloc o).grownBy w2 v.ownBlock) : RowOf w0 w2 v' n' :=
  ⟨(hk.alloc o).trans (Keep.of_grown hg) (fun x hx => .inr (hown0.lt x (by simpa using hx)).1), ys, hown⟩
def RowOut (c : ConfS) (w : World) (r : Ending) (w' : World) : Prop := Keep [] w w' ∧ ∃ v xs, r = .returned v ∧ w'.ownsRow 0 188 3 v (wordsN c) xs
set_option maxRecDepth 100000 in
set_option maxHeartbeats 1000000 in
theorem ref05_words (c : ConfS) (w : World) (ho : c.Ok) : Calls Tryz.prog 105 #[.agg c.cells] w (RowOut c w) := by
  have HB := Lib.hid (Blk.new w 24 c.cells)
  have HK0 := Lib.hid ((Keep.refl [] w).alloc (.cells c.cells 24))
  have HO := Lib.hid ho
  have hcs : c.cells = #[.int .i64 c.thr, .int .i64 c.slots, .int .u64 c.stamps] := rfl
  rw [hcs] at HB HK0 ⊢
  clear hcs ho
  go_enter Tryz.func105, Tryz.ntmps105
  go_upto_region 1 with fail
  generalize w.heap.size = cb at HB ⊢
  generalize w.alloc (.cells #[.int .i64 c.thr, .int .i64 c.slots, .int .u64 c.stamps] 24) = w1 at HB HK0 ⊢
  go_wp2_with fail
  have ht1 := HO.out.t1
  have ht2 := HO.out.t2
  have HB1 := Lib.hid HB.out
  have hstart : RowOf w1 (w1.alloc (.cells #[.int .i64 0, .int .i64 0, .int .i64 0, .int .i64 0, .int .i64 1, .int .i64 0, .int .i64 0, .int .i64 2, .int .i64 0] 188)) (.slice (some ⟨w1.heap.size, 0, none⟩) 3 3) 3 :=
    ⟨(Keep.refl _ _).alloc _, [.int .i64 0, .int .i64 0, .int .i64 0, .int .i64 0, .int .i64 1, .int .i64 0, .int .i64 0, .int .i64 2, .int .i64 0], rfl, .inr ⟨w1.heap.size, 3, #[.int .i64 0, .int .i64 0, .int .i64 0, .int .i64 0, .int .i64 1, .int .i64 0, .int .i64 0, .int .i64 2, .int .i64 0], rfl, Nat.le_refl _, heap_alloc_new _ _, Nat.le_refl _, by unfold maxLen; omega, rfl, rfl⟩⟩
  go_loopg [3, 4] c.thr.toNat (fun g v q wr => ∃ k : Nat, k ≤ c.thr.toNat ∧ g = c.thr.toNat - k ∧ q = .int .i64 (k : Nat) ∧ RowOf w1 wr v (3 + 8 * k))
  case atStart => exact ⟨0, Nat.zero_le _, rfl, rfl, hstart⟩
  case round =>
    obtain ⟨k, hk, rfl, rfl, hro⟩ := hrel
    have HRO := Lib.hid hro
    clear hro hstart
    have hl0 : wr.cell? ⟨cb, 0, none⟩ = some (.int .i64 c.thr) := (HB1.out.keep HRO.out.hk (by simp)).cell 0
    have hl1 : wr.cell? ⟨cb, 1, none⟩ = some (.int .i64 c.slots) := (HB1.out.keep HRO.out.hk (by simp)).cell 1
    by_cases hlt : k < c.thr.toNat
    · have hz : ((k : Nat) : Int) < c.thr := by omega
      obtain ⟨xs, hox⟩ := HRO.out.own
      have HOW := Lib.hid hox
      have HKW := Lib.hid HRO.out.hk
      have HLE : Hid (3 + 8 * k ≤ 1000) := by show 3 + 8 * k ≤ 1000; omega
      clear hox
      go_wp2_with (at_builtin; obtain ⟨i0, hi, hz0, hz1, hz2⟩ := info_parts infoW; go_loud (refine wpList_append_own_at _ rfl (.tmp 19) (.tmp 24) 163 rfl w1.heap.size 188 i0 (.agg #[.int .i64 0, .int .i64 0, .int .i64 0]) 3 24 Tryz.underlying163 hi hz0 hz1 hz2 rfl (by decide) _ _ _ rfl (own_keep HOW.out ((Keep.refl [] _).alloc _) (by simp)) ⟨_, 0, none⟩ 2 2 [.int .i64 1, .int .i64 (k : Nat), .int .i64 0, .int .i64 2, .int .i64 (k : Nat), .int .i64 0] rfl rfl (World.news_of_block (heap_alloc_new _ _)) (by simp [Value.oneCell']) (by have := HLE.out; unfold maxLen; omega) (by have := HLE.out; omega) (by have := HKW.out.size; simp; omega) ?_); clear hi hz0 hz1 hz2; intro v2 w2 hown hg _ _; have HR2 := Lib.hid (RowOf.grow HKW.out HOW.out hown hg); clear hown hg)
      go_loopg [3, 5] 3 (fun g v q wr => ∃ j : Nat, j ≤ 3 ∧ g = 3 - j ∧ q = .int .i64 (j : Nat) ∧ RowOf w1 wr v (3 + 8 * k + 2 + j))
      case atStart => exact ⟨0, Nat.zero_le _, rfl, rfl, HR2.out⟩
      case round =>
        obtain ⟨j, hj, rfl, rfl, hro⟩ := hrel
        have HRJ := Lib.hid hro
        clear hro
        by_cases hlj : j < 3
        · have hzj : ((j : Nat) : Int) < 3 := by omega
          obtain ⟨xs, hox⟩ := HRJ.out.own
          have HOW := Lib.hid hox
          have HKW := Lib.hid HRJ.out.hk
          have HLE : Hid (3 + 8 * k + 2 + j ≤ 1000) := by show 3 + 8 * k + 2 + j ≤ 1000; omega
          clear hox
          go_wp2_with (at_builtin; obtain ⟨i0, hi, hz0, hz1, hz2⟩ := info_parts infoW; (refine wpList_append_own_at _ rfl (.tmp 30) (.tmp 34) 163 rfl w1.heap.size 188 i0 (.agg #[.int .i64 0, .int .i64 0, .int .i64 0]) 3 24 Tryz.underlying163 hi hz0 hz1 hz2 rfl (by decide) _ _ _ rfl (own_keep HOW.out ((Keep.refl [] _).alloc _) (by simp)) ⟨_, 0, none⟩ 1 1 [.int .i64 3, .int .i64 (k : Nat), .int .i64 (j : Nat)] rfl rfl (World.news_of_block (heap_alloc_new _ _)) (by simp [Value.oneCell']) (by have := HLE.out; unfold maxLen; omega) (by have := HLE.out; omega) (by have := HKW.out.size; simp; omega) ?_); clear hi hz0 hz1 hz2; intro v2 w2 hown hg _ _; have HR2 := Lib.hid (RowOf.grow HKW.out HOW.out hown hg); clear hown hg)
          go_roundg (3 - (j + 1))
          case measure => omega
          case rel => exact ⟨j + 1, by omega, rfl, by go_num, HR2.out⟩
        · obtain rfl : j = 3 := by omega
          go_wp2_with fail
          go_loopg [3, 6] 3 (fun g v q wr => ∃ j : Nat, j ≤ 3 ∧ g = 3 - j ∧ q = .int .i64 (j : Nat) ∧ RowOf w1 wr v (3 + 8 * k + 2 + 3 + j))
          case atStart => exact ⟨0, Nat.zero_le _, rfl, rfl, HRJ.out⟩
          case round =>
            obtain ⟨j, hj, rfl, rfl, hro⟩ := hrel
            have HRJ := Lib.hid hro
            clear hro
            by_cases hlj : j < 3
            · have hzj : ((j : Nat) : Int) < 3 := by omega
              obtain ⟨xs, hox⟩ := HRJ.out.own
              have HOW := Lib.hid hox
              have HKW := Lib.hid HRJ.out.hk
              have HLE : Hid (3 + 8 * k + 2 + 3 + j ≤ 1000) := by show 3 + 8 * k + 2 + 3 + j ≤ 1000; omega
              clear hox
              go_wp2_with (at_builtin; obtain ⟨i0, hi, hz0, hz1, hz2⟩ := info_parts infoW; (refine wpList_append_own_at _ rfl (.tmp 40) (.tmp 44) 163 rfl w1.heap.size 188 i0 (.agg #[.int .i64 0, .int .i64 0, .int .i64 0]) 3 24 Tryz.underlying163 hi hz0 hz1 hz2 rfl (by decide) _ _ _ rfl (own_keep HOW.out ((Keep.refl [] _).alloc _) (by simp)) ⟨_, 0, none⟩ 1 1 [.int .i64 4, .int .i64 (k : Nat), .int .i64 (j : Nat)] rfl rfl (World.news_of_block (heap_alloc_new _ _)) (by simp [Value.oneCell']) (by have := HLE.out; unfold maxLen; omega) (by have := HLE.out; omega) (by have := HKW.out.size; simp; omega) ?_); clear hi hz0 hz1 hz2; intro v2 w2 hown hg _ _; have HR2 := Lib.hid (RowOf.grow HKW.out HOW.out hown hg); clear hown hg)
              go_roundg (3 - (j + 1))
              case measure => omega
              case rel => exact ⟨j + 1, by omega, rfl, by go_num, HR2.out⟩
            · obtain rfl : j = 3 := by omega
              go_wp2_with fail
              go_roundg (c.thr.toNat - (k + 1))
              case measure => omega
              case rel => exact ⟨k + 1, by omega, rfl, by go_num, by have := HRJ.out; rw [show 3 + 8 * (k + 1) = 3 + 8 * k + 2 + 3 + 3 by omega]; exact this⟩
    · have hkt : k = c.thr.toNat := by omega
      have HKT := Lib.hid hkt
      have hs1 := HO.out.s1
      have hs2 := HO.out.s2
      have HRO2 := Lib.hid HRO.out
      rw [hkt] at HRO2
      have hge : ¬ ((k : Nat) : Int) < c.thr := by omega
      clear hkt hlt HRO
      go_wp2_with fail
      go_loopg [3, 7] c.slots.toNat (fun g v q wx => ∃ m : Nat, m ≤ c.slots.toNat ∧ g = c.slots.toNat - m ∧ q = .int .i64 (1 + m : Nat) ∧ RowOf w1 wx v (3 + 8 * c.thr.toNat + 7 * m))
      case atStart => exact ⟨0, Nat.zero_le _, rfl, rfl, HRO2.out⟩
      case round =>
        obtain ⟨m, hm, rfl, rfl, hro⟩ := hrel
        have HRO := Lib.hid hro
        clear hro HRO2 hl0 hl1
        have hl1 : wr.cell? ⟨cb, 1, none⟩ = some (.int .i64 c.slots) := (HB1.out.keep HRO.out.hk (by simp)).cell 1
        generalize hx : 1 + m = y
        have HX := Lib.hid hx
        by_cases hlm : m < c.slots.toNat
        · have hz : ((y : Nat) : Int) ≤ c.slots := by omega
          have hy1 : (1 : Int) ≤ ((y : Nat) : Int) := by omega
          have hy2 : ((y : Nat) : Int) ≤ 250 := by omega
          clear hx
          go_wp2_with fail
          go_loopg [3, 8] 7 (fun g v q wx => ∃ j : Nat, j ≤ 7 ∧ g = 7 - j ∧ q = .int .i64 (j : Nat) ∧ RowOf w1 wx v (3 + 8 * c.thr.toNat + 7 * m + j))
          case atStart => exact ⟨0, Nat.zero_le _, rfl, rfl, HRO.out⟩
          case round =>
            obtain ⟨j, hj, rfl, rfl, hro⟩ := hrel
            have HRJ := Lib.hid hro
            clear hro
            by_cases hlj : j < 7
            · have hzj : ((j : Nat) : Int) < 7 := by omega
              obtain ⟨xs, hox⟩ := HRJ.out.own
              have HOW := Lib.hid hox
              have HKW := Lib.hid HRJ.out.hk
              have HLE : Hid (3 + 8 * c.thr.toNat + 7 * m + j ≤ 2000) := by show 3 + 8 * c.thr.toNat + 7 * m + j ≤ 2000; omega
              clear hox
              go_wp2_with (at_builtin; obtain ⟨i0, hi, hz0, hz1, hz2⟩ := info_parts infoW; (refine wpList_append_own_at _ rfl (.tmp 56) (.tmp 60) 163 rfl w1.heap.size 188 i0 (.agg #[.int .i64 0, .int .i64 0, .int .i64 0]) 3 24 Tryz.underlying163 hi hz0 hz1 hz2 rfl (by decide) _ _ _ rfl (own_keep HOW.out ((Keep.refl [] _).alloc _) (by simp)) ⟨_, 0, none⟩ 1 1 [.int .i64 5, .int .i64 (y : Nat), .int .i64 (j : Nat)] rfl rfl (World.news_of_block (heap_alloc_new _ _)) (by simp [Value.oneCell']) (by have := HLE.out; unfold maxLen; omega) (by have := HLE.out; omega) (by have := HKW.out.size; simp; omega) ?_); clear hi hz0 hz1 hz2; intro v2 w2 hown hg _ _; have HR2 := Lib.hid (RowOf.grow HKW.out HOW.out hown hg); clear hown hg)
              go_roundg (7 - (j + 1))
              case measure => omega
              case rel => exact ⟨j + 1, by omega, rfl, by go_num, HR2.out⟩
            · obtain rfl : j = 7 := by omega
              go_wp2_with fail
              go_roundg (c.slots.toNat - (m + 1))
              case measure => omega
              case rel => exact ⟨m + 1, by omega, rfl, by have := HX.out; congr 1; omega, by have := HRJ.out; rw [show 3 + 8 * c.thr.toNat + 7 * (m + 1) = 3 + 8 * c.thr.toNat + 7 * m + 7 by omega]; exact this⟩
        · have hz : ¬ ((y : Nat) : Int) ≤ c.slots := by omega
          have hmm : m = c.slots.toNat := by omega
          clear hx
          go_wp2_with fail
          go_ret
          obtain ⟨xs, hox⟩ := HRO.out.own
          refine ⟨HK0.out.trans HRO.out.hk (by simp), _, xs, rfl, ?_⟩
          have := own_base hox
          rw [hmm] at this
          exact this
end Go.Proofs.YtoghcikfkkmfkaaGreat
