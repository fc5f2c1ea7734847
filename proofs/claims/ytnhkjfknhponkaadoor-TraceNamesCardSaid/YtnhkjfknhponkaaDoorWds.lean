/- The reference of layer 5: Words, with what it tells. Condition: the configuration may be. -/
import Derived.Test.YtnhkjfknhponkaaDoorTr3
namespace Go.Proofs.YtnhkjfknhponkaaDoor
open Go.RowKit

def placeL (x : Nat × Nat × Nat) : List Value := [.int .i64 (x.1 : Nat), .int .i64 (x.2.1 : Nat), .int .i64 (x.2.2 : Nat)]
/-- The first words, as cells. -/
def wcells (c : ConfS) (n : Nat) : List Value := (List.range n).flatMap fun a => placeL (whatS c a)
theorem wcells_succ (c : ConfS) (n : Nat) : wcells c (n + 1) = wcells c n ++ placeL (whatS c n) := by
  unfold wcells
  rw [List.range_succ, List.flatMap_append]
  simp
theorem wcells_len (c : ConfS) (n : Nat) : (wcells c n).length = n * 3 := by
  induction n with
  | zero => rfl
  | succ n ih => rw [wcells_succ, List.length_append, ih]; show n * 3 + 3 = _; omega
theorem wcells_at (c : ConfS) (a j : Nat) (hj : j < 3) : ∀ n, a < n → (wcells c n)[a * 3 + j]? = (placeL (whatS c a))[j]?
  | 0, h => by omega
  | n + 1, h => by
    rw [wcells_succ]
    by_cases h1 : a < n
    · rw [List.getElem?_append_left (by rw [wcells_len]; omega)]
      exact wcells_at c a j hj n h1
    · obtain rfl : a = n := by omega
      rw [List.getElem?_append_right (by rw [wcells_len]; omega), wcells_len]
      congr 1
      omega
section
variable (c : ConfS) (k j : Nat)
theorem what_active (h : k < c.thr.toNat) : whatS c (3 + 8 * k) = (1, k, 0) := by
  unfold whatS
  simp only
  rw [if_neg (by omega), if_neg (by omega), if_neg (by omega), if_neg (by omega)]
  refine Prod.ext ?_ (Prod.ext ?_ ?_) <;> first | rfl | (dsimp only; omega)
theorem what_victim (h : k < c.thr.toNat) : whatS c (3 + 8 * k + 1) = (2, k, 0) := by
  unfold whatS
  simp only
  rw [if_neg (by omega), if_neg (by omega), if_neg (by omega), if_neg (by omega)]
  refine Prod.ext ?_ (Prod.ext ?_ ?_) <;> first | rfl | (dsimp only; omega)
theorem what_stamp (h : k < c.thr.toNat) (hj : j < 3) : whatS c (3 + 8 * k + 2 + j) = (3, k, j) := by
  unfold whatS
  simp only
  rw [if_neg (by omega), if_neg (by omega), if_neg (by omega), if_pos (by omega)]
  refine Prod.ext ?_ (Prod.ext ?_ ?_) <;> first | rfl | (dsimp only; omega)
theorem what_bag (h : k < c.thr.toNat) (hj : j < 3) : whatS c (3 + 8 * k + 2 + 3 + j) = (4, k, j) := by
  unfold whatS
  simp only
  rw [if_neg (by omega), if_neg (by omega), if_pos (by omega)]
  refine Prod.ext ?_ (Prod.ext ?_ ?_) <;> first | rfl | (dsimp only; omega)
theorem what_node (hj : j < 7) : whatS c (3 + 8 * c.thr.toNat + 7 * k + j) = (5, 1 + k, j) := by
  unfold whatS
  simp only
  rw [if_neg (by omega), if_pos (by omega)]
  refine Prod.ext ?_ (Prod.ext ?_ ?_) <;> first | rfl | (dsimp only; omega)
end
/-- A row of the reference's words while it grows: new memory, so many elements. -/
structure RowC (c : ConfS) (w0 wr : World) (v : Value) (n : Nat) : Prop where
  hk : Keep [] w0 wr
  own : wr.ownsRow w0.heap.size 72 3 v n (wcells c n)
theorem infoW : (Tryd.prog.info? 72).map (fun i => (i.zero, i.size, i.bytes)) = some (some (.agg #[.int .i64 0, .int .i64 0, .int .i64 0]), 3, 24) := by kernel_rfl
theorem RowC.grow {c : ConfS} {w0 wr w2 : World} {v v' : Value} {n n' : Nat} {o : Obj} (hk : Keep [] w0 wr) (hown0 : wr.ownsRow w0.heap.size 72 3 v n (wcells c n)) {news : List Value} (hx : wcells c n ++ news = wcells c n') (hown : w2.ownsRow w0.heap.size 72 3 v' n' (wcells c n ++ news)) (hg : (wr.alloc o).grownBy w2 v.ownBlock) : RowC c w0 w2 v' n' :=
  ⟨(hk.alloc o).trans (Keep.of_grown hg) (fun x hx => .inr (hown0.lt x (by simpa using hx)).1), by rw [← hx]; exact hown⟩
def WordsOut (c : ConfS) (w : World) (r : Ending) (w' : World) : Prop := Keep [] w w' ∧ ∃ v, r = .returned v ∧ w'.ownsRow 0 72 3 v (nWords c) (wcells c (nWords c))
theorem wc_two (c : ConfS) (k : Nat) (h : k < c.thr.toNat) : wcells c (3 + 8 * k) ++ [.int .i64 1, .int .i64 (k : Nat), .int .i64 0, .int .i64 2, .int .i64 (k : Nat), .int .i64 0] = wcells c (3 + 8 * k + 2) := by
  rw [wcells_succ, wcells_succ, what_active c k h, what_victim c k h, List.append_assoc]
  rfl
theorem wc_stamp (c : ConfS) (k j : Nat) (h : k < c.thr.toNat) (hj : j < 3) : wcells c (3 + 8 * k + 2 + j) ++ [.int .i64 3, .int .i64 (k : Nat), .int .i64 (j : Nat)] = wcells c (3 + 8 * k + 2 + j + 1) := by
  rw [wcells_succ, what_stamp c k j h hj]
  rfl
theorem wc_bag (c : ConfS) (k j : Nat) (h : k < c.thr.toNat) (hj : j < 3) : wcells c (3 + 8 * k + 2 + 3 + j) ++ [.int .i64 4, .int .i64 (k : Nat), .int .i64 (j : Nat)] = wcells c (3 + 8 * k + 2 + 3 + j + 1) := by
  rw [wcells_succ, what_bag c k j h hj]
  rfl
theorem wc_node (c : ConfS) (m j y : Nat) (hy : 1 + m = y) (hj : j < 7) : wcells c (3 + 8 * c.thr.toNat + 7 * m + j) ++ [.int .i64 5, .int .i64 (y : Nat), .int .i64 (j : Nat)] = wcells c (3 + 8 * c.thr.toNat + 7 * m + j + 1) := by
  rw [wcells_succ, what_node c m j hj, hy]
  rfl
theorem wc_first (c : ConfS) : wcells c 3 = [.int .i64 0, .int .i64 0, .int .i64 0, .int .i64 0, .int .i64 1, .int .i64 0, .int .i64 0, .int .i64 2, .int .i64 0] := by
  have h0 : whatS c 0 = (0, 0, 0) := rfl
  have h1 : whatS c 1 = (0, 1, 0) := rfl
  have h2 : whatS c 2 = (0, 2, 0) := rfl
  rw [wcells_succ, wcells_succ, wcells_succ, h0, h1, h2]
  rfl
set_option maxRecDepth 100000 in
set_option maxHeartbeats 1000000 in
theorem ref05_words (c : ConfS) (w : World) (ho : c.Ok) : Calls Tryd.prog 15 #[.agg c.cells] w (WordsOut c w) := by
  have HB := Lib.hid (Blk.new w 32 c.cells)
  have HK0 := Lib.hid ((Keep.refl [] w).alloc (.cells c.cells 32))
  have HO := Lib.hid ho
  have hcs : c.cells = #[.int .i64 c.thr, .int .i64 c.slots, .int .u64 c.stamps] := rfl
  rw [hcs] at HB HK0 ⊢
  clear hcs ho
  go_enter Tryd.func15, Tryd.ntmps15
  go_upto_region 1 with fail
  generalize w.heap.size = cb at HB ⊢
  generalize w.alloc (.cells #[.int .i64 c.thr, .int .i64 c.slots, .int .u64 c.stamps] 32) = w1 at HB HK0 ⊢
  go_wp2_with fail
  have ht1 := HO.out.t1
  have ht2 := HO.out.t2
  have HB1 := Lib.hid HB.out
  have hstart : RowC c w1 (w1.alloc (.cells #[.int .i64 0, .int .i64 0, .int .i64 0, .int .i64 0, .int .i64 1, .int .i64 0, .int .i64 0, .int .i64 2, .int .i64 0] 72)) (.slice (some ⟨w1.heap.size, 0, none⟩) 3 3) 3 :=
    ⟨(Keep.refl _ _).alloc _, by rw [wc_first]; exact ⟨rfl, .inr ⟨w1.heap.size, 3, #[.int .i64 0, .int .i64 0, .int .i64 0, .int .i64 0, .int .i64 1, .int .i64 0, .int .i64 0, .int .i64 2, .int .i64 0], rfl, Nat.le_refl _, heap_alloc_new _ _, Nat.le_refl _, by unfold maxLen; omega, rfl, rfl⟩⟩⟩
  go_loopg [3, 4] c.thr.toNat (fun g v q wr => ∃ k : Nat, k ≤ c.thr.toNat ∧ g = c.thr.toNat - k ∧ q = .int .i64 (k : Nat) ∧ RowC c w1 wr v (3 + 8 * k))
  case atStart => exact ⟨0, Nat.zero_le _, rfl, rfl, hstart⟩
  case round =>
    obtain ⟨k, hk, rfl, rfl, hro⟩ := hrel
    have HRO := Lib.hid hro
    clear hro hstart
    have hl0 : wr.cell? ⟨cb, 0, none⟩ = some (.int .i64 c.thr) := (HB1.out.keep HRO.out.hk (by simp)).cell 0
    have hl1 : wr.cell? ⟨cb, 1, none⟩ = some (.int .i64 c.slots) := (HB1.out.keep HRO.out.hk (by simp)).cell 1
    by_cases hlt : k < c.thr.toNat
    · have hz : ((k : Nat) : Int) < c.thr := by omega
      have HLT := Lib.hid hlt
      have HOW := Lib.hid HRO.out.own
      have HKW := Lib.hid HRO.out.hk
      have HLE : Hid (3 + 8 * k ≤ 1000) := by show 3 + 8 * k ≤ 1000; omega
      go_wp2_with (at_builtin; obtain ⟨i0, hi, hz0, hz1, hz2⟩ := info_partsT infoW; go_loud (refine wpList_append_own_at _ rfl (.tmp 19) (.tmp 24) 42 rfl w1.heap.size 72 i0 (.agg #[.int .i64 0, .int .i64 0, .int .i64 0]) 3 24 Tryd.underlying42 hi hz0 hz1 hz2 rfl (by decide) _ _ _ rfl (own_keep HOW.out ((Keep.refl [] _).alloc _) (by simp)) ⟨_, 0, none⟩ 2 2 [.int .i64 1, .int .i64 (k : Nat), .int .i64 0, .int .i64 2, .int .i64 (k : Nat), .int .i64 0] rfl rfl (World.news_of_block (heap_alloc_new _ _)) (by simp [Value.oneCell']) (by have := HLE.out; unfold maxLen; omega) (by have := HLE.out; omega) (by have := HKW.out.size; simp; omega) ?_); clear hi hz0 hz1 hz2; intro v2 w2 hown hg _ _; have HR2 := Lib.hid (RowC.grow HKW.out HOW.out (wc_two c k HLT.out) hown hg); clear hown hg)
      go_loopg [3, 5] 3 (fun g v q wr => ∃ j : Nat, j ≤ 3 ∧ g = 3 - j ∧ q = .int .i64 (j : Nat) ∧ RowC c w1 wr v (3 + 8 * k + 2 + j))
      case atStart => exact ⟨0, Nat.zero_le _, rfl, rfl, HR2.out⟩
      case round =>
        obtain ⟨j, hj, rfl, rfl, hro⟩ := hrel
        have HRJ := Lib.hid hro
        clear hro
        by_cases hlj : j < 3
        · have hzj : ((j : Nat) : Int) < 3 := by omega
          have HLJ := Lib.hid hlj
          have HOW := Lib.hid HRJ.out.own
          have HKW := Lib.hid HRJ.out.hk
          have HLE : Hid (3 + 8 * k + 2 + j ≤ 1000) := by show 3 + 8 * k + 2 + j ≤ 1000; omega
          go_wp2_with (at_builtin; obtain ⟨i0, hi, hz0, hz1, hz2⟩ := info_partsT infoW; (refine wpList_append_own_at _ rfl (.tmp 30) (.tmp 34) 42 rfl w1.heap.size 72 i0 (.agg #[.int .i64 0, .int .i64 0, .int .i64 0]) 3 24 Tryd.underlying42 hi hz0 hz1 hz2 rfl (by decide) _ _ _ rfl (own_keep HOW.out ((Keep.refl [] _).alloc _) (by simp)) ⟨_, 0, none⟩ 1 1 [.int .i64 3, .int .i64 (k : Nat), .int .i64 (j : Nat)] rfl rfl (World.news_of_block (heap_alloc_new _ _)) (by simp [Value.oneCell']) (by have := HLE.out; unfold maxLen; omega) (by have := HLE.out; omega) (by have := HKW.out.size; simp; omega) ?_); clear hi hz0 hz1 hz2; intro v2 w2 hown hg _ _; have HR2 := Lib.hid (RowC.grow HKW.out HOW.out (wc_stamp c k j HLT.out HLJ.out) hown hg); clear hown hg)
          go_roundg (3 - (j + 1))
          case measure => omega
          case rel => exact ⟨j + 1, by omega, rfl, by go_num, HR2.out⟩
        · obtain rfl : j = 3 := by omega
          go_wp2_with fail
          go_loopg [3, 6] 3 (fun g v q wr => ∃ j : Nat, j ≤ 3 ∧ g = 3 - j ∧ q = .int .i64 (j : Nat) ∧ RowC c w1 wr v (3 + 8 * k + 2 + 3 + j))
          case atStart => exact ⟨0, Nat.zero_le _, rfl, rfl, HRJ.out⟩
          case round =>
            obtain ⟨j, hj, rfl, rfl, hro⟩ := hrel
            have HRJ := Lib.hid hro
            clear hro
            by_cases hlj : j < 3
            · have hzj : ((j : Nat) : Int) < 3 := by omega
              have HLJ := Lib.hid hlj
              have HOW := Lib.hid HRJ.out.own
              have HKW := Lib.hid HRJ.out.hk
              have HLE : Hid (3 + 8 * k + 2 + 3 + j ≤ 1000) := by show 3 + 8 * k + 2 + 3 + j ≤ 1000; omega
              go_wp2_with (at_builtin; obtain ⟨i0, hi, hz0, hz1, hz2⟩ := info_partsT infoW; (refine wpList_append_own_at _ rfl (.tmp 40) (.tmp 44) 42 rfl w1.heap.size 72 i0 (.agg #[.int .i64 0, .int .i64 0, .int .i64 0]) 3 24 Tryd.underlying42 hi hz0 hz1 hz2 rfl (by decide) _ _ _ rfl (own_keep HOW.out ((Keep.refl [] _).alloc _) (by simp)) ⟨_, 0, none⟩ 1 1 [.int .i64 4, .int .i64 (k : Nat), .int .i64 (j : Nat)] rfl rfl (World.news_of_block (heap_alloc_new _ _)) (by simp [Value.oneCell']) (by have := HLE.out; unfold maxLen; omega) (by have := HLE.out; omega) (by have := HKW.out.size; simp; omega) ?_); clear hi hz0 hz1 hz2; intro v2 w2 hown hg _ _; have HR2 := Lib.hid (RowC.grow HKW.out HOW.out (wc_bag c k j HLT.out HLJ.out) hown hg); clear hown hg)
              go_roundg (3 - (j + 1))
              case measure => omega
              case rel => exact ⟨j + 1, by omega, rfl, by go_num, HR2.out⟩
            · obtain rfl : j = 3 := by omega
              go_wp2_with fail
              go_roundg (c.thr.toNat - (k + 1))
              case measure => omega
              case rel => exact ⟨k + 1, by omega, rfl, by go_num, by have := HRJ.out; rw [show 3 + 8 * (k + 1) = 3 + 8 * k + 2 + 3 + 3 by omega]; exact this⟩
    · have hkt : k = c.thr.toNat := by omega
      have HKT := Lib.hid hkt
      have hs1 := HO.out.s1
      have hs2 := HO.out.s2
      have HRO2 := Lib.hid HRO.out
      rw [hkt] at HRO2
      have hge : ¬ ((k : Nat) : Int) < c.thr := by omega
      clear hkt hlt HRO
      go_wp2_with fail
      go_loopg [3, 7] c.slots.toNat (fun g v q wx => ∃ m : Nat, m ≤ c.slots.toNat ∧ g = c.slots.toNat - m ∧ q = .int .i64 (1 + m : Nat) ∧ RowC c w1 wx v (3 + 8 * c.thr.toNat + 7 * m))
      case atStart => exact ⟨0, Nat.zero_le _, rfl, rfl, HRO2.out⟩
      case round =>
        obtain ⟨m, hm, rfl, rfl, hro⟩ := hrel
        have HRO := Lib.hid hro
        clear hro HRO2 hl0 hl1
        have hl1 : wr.cell? ⟨cb, 1, none⟩ = some (.int .i64 c.slots) := (HB1.out.keep HRO.out.hk (by simp)).cell 1
        generalize hx : 1 + m = y
        have HX := Lib.hid hx
        by_cases hlm : m < c.slots.toNat
        · have hz : ((y : Nat) : Int) ≤ c.slots := by omega
          have hy1 : (1 : Int) ≤ ((y : Nat) : Int) := by omega
          have hy2 : ((y : Nat) : Int) ≤ 250 := by omega
          clear hx
          go_wp2_with fail
          go_loopg [3, 8] 7 (fun g v q wx => ∃ j : Nat, j ≤ 7 ∧ g = 7 - j ∧ q = .int .i64 (j : Nat) ∧ RowC c w1 wx v (3 + 8 * c.thr.toNat + 7 * m + j))
          case atStart => exact ⟨0, Nat.zero_le _, rfl, rfl, HRO.out⟩
          case round =>
            obtain ⟨j, hj, rfl, rfl, hro⟩ := hrel
            have HRJ := Lib.hid hro
            clear hro
            by_cases hlj : j < 7
            · have hzj : ((j : Nat) : Int) < 7 := by omega
              have HLJ := Lib.hid hlj
              have HOW := Lib.hid HRJ.out.own
              have HKW := Lib.hid HRJ.out.hk
              have HLE : Hid (3 + 8 * c.thr.toNat + 7 * m + j ≤ 2000) := by show 3 + 8 * c.thr.toNat + 7 * m + j ≤ 2000; omega
              go_wp2_with (at_builtin; obtain ⟨i0, hi, hz0, hz1, hz2⟩ := info_partsT infoW; (refine wpList_append_own_at _ rfl (.tmp 56) (.tmp 60) 42 rfl w1.heap.size 72 i0 (.agg #[.int .i64 0, .int .i64 0, .int .i64 0]) 3 24 Tryd.underlying42 hi hz0 hz1 hz2 rfl (by decide) _ _ _ rfl (own_keep HOW.out ((Keep.refl [] _).alloc _) (by simp)) ⟨_, 0, none⟩ 1 1 [.int .i64 5, .int .i64 (y : Nat), .int .i64 (j : Nat)] rfl rfl (World.news_of_block (heap_alloc_new _ _)) (by simp [Value.oneCell']) (by have := HLE.out; unfold maxLen; omega) (by have := HLE.out; omega) (by have := HKW.out.size; simp; omega) ?_); clear hi hz0 hz1 hz2; intro v2 w2 hown hg _ _; have HR2 := Lib.hid (RowC.grow HKW.out HOW.out (wc_node c m j y HX.out HLJ.out) hown hg); clear hown hg)
              go_roundg (7 - (j + 1))
              case measure => omega
              case rel => exact ⟨j + 1, by omega, rfl, by go_num, HR2.out⟩
            · obtain rfl : j = 7 := by omega
              go_wp2_with fail
              go_roundg (c.slots.toNat - (m + 1))
              case measure => omega
              case rel => exact ⟨m + 1, by omega, rfl, by have := HX.out; congr 1; omega, by have := HRJ.out; rw [show 3 + 8 * c.thr.toNat + 7 * (m + 1) = 3 + 8 * c.thr.toNat + 7 * m + 7 by omega]; exact this⟩
        · have hz : ¬ ((y : Nat) : Int) ≤ c.slots := by omega
          have hmm : m = c.slots.toNat := by omega
          clear hx
          go_wp2_with fail
          go_ret
          refine ⟨HK0.out.trans HRO.out.hk (by simp), _, rfl, ?_⟩
          have := own_base HRO.out.own
          rw [hmm] at this
          exact this
end Go.Proofs.YtnhkjfknhponkaaDoor
