/- Stats: great, overlaps by their contracts. Conditions: at most 200 opers. -/
import Derived.Test.YtofmonknhiggaaaSt5
namespace Go.Proofs.Ytofmonknhiggaaa
open Go.RowKit

def GreatOut (l : List EvS) (w : World) (r : Ending) (w' : World) : Prop := Drawn w w' ∧ ∃ b, r = .returned (.bool b) ∧ (b = false → l.length ≤ 150 ∧ ∀ i, i < l.length → (l.getD i ev0).pn ≤ 1500)
set_option maxHeartbeats 1000000 in
theorem law38_great (w : World) (A : Option Addr) (l : List EvS) (cap : Nat) (h : ElAt evC w A l) (hl : l.length ≤ maxLen) : Calls Try.prog 5 #[.slice A l.length cap] w (GreatOut l w) := by
  have HE := Lib.hid h
  have hl2 : ((l.length : Nat) : Int) ≤ 9223372036854775807 := by unfold maxLen at hl; omega
  clear h hl
  go_enter Try.func5, Try.ntmps5
  go_wp2_with fail
  go_loopg [3] 200 (fun g v3 wr => ∃ n : Nat, n ≤ 200 ∧ n ≤ l.length ∧ g = 200 - n ∧ v3 = .int .i64 (n : Nat) ∧ Drawn w wr ∧ ∀ i, i < n → (l.getD i ev0).pn ≤ 1500)
  case atStart => exact ⟨0, by omega, by omega, rfl, rfl, Drawn.refl _, fun i hi => absurd hi (by omega)⟩
  case round =>
    obtain ⟨n, hn, hnl, rfl, rfl, hd, hs⟩ := hrel
    have HD := Lib.hid hd
    have HS := Lib.hid hs
    have hz0 : (0 : Int) ≤ ((n : Nat) : Int) := by omega
    have hz9 : ((n : Nat) : Int) ≤ 200 := by omega
    clear hd hs
    by_cases hlt : n < l.length
    · have hz : ((n : Nat) : Int) < ((l.length : Nat) : Int) := by omega
      by_cases h2 : n < 200
      · have hzt : ((n : Nat) : Int) < 200 := by omega
        obtain ⟨b, o, rfl, _, c0, c1, c2, c3', c4, c5, c6, c7, c8, c9, c10, c11⟩ := (HE.out.keep (Keep.of_drawn HD.out)).at_ev hlt
        have HSN : Hid ((l.getD n ev0).pn ≤ 1500 → ∀ i, i < n + 1 → (l.getD i ev0).pn ≤ 1500) := Lib.hid (fun h i hi => by
          by_cases hin : i < n
          · exact HS.out i hin
          · obtain rfl : i = n := by omega
            exact h)
        generalize l.getD n ev0 = e at *
        clear c0 c1 c2 c3' c4 c5 c6 c7 c8 c9 c10
        by_cases hp : 1500 < e.pn
        · have hzp : (1500 : Int) < ((e.pn : Nat) : Int) := by omega
          clear hp
          go_wp2_with fail
          go_ret
          exact ⟨HD.out, true, rfl, fun h => by cases h⟩
        · have hzp : ¬ (1500 : Int) < ((e.pn : Nat) : Int) := by omega
          have HP := Lib.hid (show e.pn ≤ 1500 by omega)
          clear hp
          go_wp2_with fail
          go_roundg (200 - (n + 1))
          case measure => omega
          case rel => exact ⟨n + 1, by omega, by omega, rfl, by go_num, HD.out, HSN.out HP.out⟩
      · have hzt : ¬ ((n : Nat) : Int) < 200 := by omega
        have hzb : (150 : Int) < ((l.length : Nat) : Int) := by omega
        clear h2 hlt
        go_wp2_with fail
        go_ret
        refine ⟨HD.out, _, rfl, fun h => ?_⟩
        simp at h
        all_goals omega
    · have hz : ¬ ((n : Nat) : Int) < ((l.length : Nat) : Int) := by omega
      have hne : n = l.length := by omega
      have HNE := Lib.hid hne
      clear hlt hne
      go_wp2_with fail
      go_ret
      refine ⟨HD.out, _, rfl, fun h => ?_⟩
      simp at h
      exact ⟨by omega, fun i hi => HS.out i (by have := HNE.out; omega)⟩
def condP (os : List OpS) (i k : Nat) : Bool := decide (k ≠ i) && (!aheadP (os.getD i op0) (os.getD k op0) && !aheadP (os.getD k op0) (os.getD i op0))
theorem over_yes {os : List OpS} {i k : Nat} (hk : k < os.length) (h : condP os i k = true) : overP os i = true := List.any_eq_true.2 ⟨k, List.mem_range.2 hk, h⟩
theorem over_no {os : List OpS} {i : Nat} (h : ∀ k, k < os.length → condP os i k = false) : overP os i = false := List.any_eq_false.2 fun k hk => by
  have := h k (List.mem_range.1 hk)
  unfold condP at this
  simp only [this]
  simp
theorem ex_load_mid {P : Program} {ρ : Operand → Value} {o : Oper} {w : World} {ty : TypeId} {x : Operand} {b off : Nat} {cs : List Value} {d : TypeDesc} (ho : o.op = .load ty x) (hx : ρ x = .pointer (some ⟨b, off, none⟩)) (hc : w.rangeAt b off cs)
    (hu : P.underlying ty = some d) (hd : d.isRow = true) (hi : (P.info? ty).map (·.size) = some cs.length) : (execOp ρ o).run P w = .ok (.value (.agg cs.toArray)) w := by
  unfold execOp
  simp only [ho, hx, Instr.loadAt, Instr.sureAddr, Sem.run_bind, Sem.run_pure, Result.andThen_ok, run_loadVar_mid w b off ty cs d hc hu hd hi]
theorem rangeAt_keep {w w' : World} {b o : Nat} {cs : List Value} {S : List Nat} (h : w.rangeAt b o cs) (hb : b < w.heap.size) (hn : b ∉ S) (hk : Keep S w w') : w'.rangeAt b o cs := fun j v hv => (hk.cell hb hn).trans (h j v hv)
theorem Blk.range {w : World} {b t : Nat} {cs : List Value} (h : Blk w b t cs.toArray) : w.rangeAt b 0 cs := fun j v hv => by
  rw [Nat.zero_add, h.cell, List.getElem?_toArray]
  exact hv
theorem ElAt.range {α : Type} {f : α → List Value} (size : Nat) (hf : ∀ a, (f a).length = size) {w : World} {A : Option Addr} {l : List α} (h : ElAt f w A l) (d : α) {k : Nat} (hk : k < l.length) : ∃ b o, A = some ⟨b, o, none⟩ ∧ b < w.heap.size ∧ w.rangeAt b (o + k * size) (f (l.getD k d)) := by
  obtain ⟨b, o, h1, h2, h3⟩ := h (by omega)
  exact ⟨b, o, h1, h2, fun j v hv => by rw [Nat.add_assoc]; exact h3 _ _ (flat_at f size hf l k j v d hk hv)⟩
theorem sizeOper : (Try.prog.info? 41).map (·.size) = some 13 := by kernel_rfl
/-- The two opers that overlaps looks at. -/
structure OvS (w0 w : World) (eb b o i : Nat) (x y : OpS) : Prop where
  ry : w.rangeAt eb 0 (opC y)
  rx : w.rangeAt b (o + i * 13) (opC x)
  ely : eb < w.heap.size
  elx : b < w.heap.size
  hk : Keep [] w0 w
theorem OvS.keep {w0 w w' : World} {eb b o i : Nat} {x y : OpS} (h : OvS w0 w eb b o i x y) (hk : Keep [] w w') : OvS w0 w' eb b o i x y :=
  ⟨rangeAt_keep h.ry h.ely (by simp) hk, rangeAt_keep h.rx h.elx (by simp) hk, Nat.lt_of_lt_of_le h.ely hk.size, Nat.lt_of_lt_of_le h.elx hk.size, h.hk.trans hk (by simp)⟩
set_option maxHeartbeats 2000000 in
theorem st_overlaps (w : World) (A : Option Addr) (os : List OpS) (cap i : Nat) (h : ElAt opC w A os) (hl : os.length ≤ 200) (hi : i < os.length) : Calls Try.prog 16 #[.slice A os.length cap, .int .i64 (i : Nat)] w fun r w' => r = .returned (.bool (overP os i)) ∧ Keep [] w w' := by
  have HE := Lib.hid h
  have HL := Lib.hid hl
  have HI := Lib.hid hi
  have hzi : ((i : Nat) : Int) < ((os.length : Nat) : Int) := by omega
  have hzi0 : (0 : Int) ≤ ((i : Nat) : Int) := by omega
  clear h hl hi
  go_enter Try.func16, Try.ntmps16
  go_wp2_with fail
  go_loopg [5, 6, 9] os.length (fun g v5 v6 v9 wr => ∃ n : Nat, n ≤ os.length ∧ g = os.length - n ∧ v9 = .int .i64 (n : Nat) ∧ Keep [] w wr ∧ ∀ k, k < n → condP os i k = false)
  case atStart => exact ⟨0, Nat.zero_le _, rfl, rfl, Keep.refl _ _, fun k hk => absurd hk (by omega)⟩
  case round =>
    obtain ⟨n, hn, rfl, rfl, hk, hs⟩ := hrel
    have HK := Lib.hid hk
    have HS := Lib.hid hs
    have hz0 : (0 : Int) ≤ ((n : Nat) : Int) := by omega
    have hz9 : ((n : Nat) : Int) ≤ 200 := by have := HL.out; omega
    clear hk hs
    by_cases hlt : n < os.length
    · have hz : ((n : Nat) : Int) < ((os.length : Nat) : Int) := by omega
      obtain ⟨b, o, hA, _, c0, c1, c2, c3, c4, c5, c6, c7, c8, c9, c10, c11, c12⟩ := (HE.out.keep HK.out).at_op hlt
      subst hA
      have HOY := Lib.hid (over_yes (os := os) (i := i) hlt)
      have HSN : Hid (condP os i n = false → ∀ k, k < n + 1 → condP os i k = false) := Lib.hid (fun h k hk => by
        by_cases hkn : k < n
        · exact HS.out k hkn
        · obtain rfl : k = n := by omega
          exact h)
      have HCP : Hid (condP os i n = (decide (n ≠ i) && (!aheadP (os.getD i op0) (os.getD n op0) && !aheadP (os.getD n op0) (os.getD i op0)))) := Lib.hid rfl
      obtain ⟨b2, o2, he, hbl, hrow⟩ := (HE.out.keep HK.out).range 13 (fun _ => rfl) op0 HI.out
      cases he
      have HRW := Lib.hid hrow
      have HBL := Lib.hid hbl
      clear hrow hbl hlt
      generalize os.getD n op0 = y at *
      generalize os.getD i op0 = x at *
      go_upto_region 4 with fail
      have HB := Lib.hid (Blk.new wr 41 (opC y).toArray)
      have HK2 := Lib.hid ((Keep.refl [] wr).alloc (.cells (opC y).toArray 41))
      unfold opC at HB HK2
      generalize hw2 : wr.alloc _ = w2 at HB HK2 ⊢
      clear hw2
      have HKN := Lib.hid (HK.out.trans HK2.out (by simp))
      generalize wr.heap.size = eb at HB ⊢
      have HOV := Lib.hid ((show OvS w w2 eb b o i x y from ⟨Blk.range (cs := opC y) HB.out, rangeAt_keep HRW.out HBL.out (by simp) HK2.out, HB.out.lt, Nat.lt_of_lt_of_le HBL.out HK2.out.size, HKN.out⟩))
      clear c0 c1 c2 c3 c4 c5 c6 c7 c8 c9 c10 c11 c12
      by_cases hni : n = i
      · have HCF : Hid (condP os i n = false) := Lib.hid (by rw [HCP.out, decide_eq_false (fun h => h hni)]; rfl)
        have hznb : (((n : Nat) : Int) != ((i : Nat) : Int)) = false := by rw [bne_eq_false_iff_eq]; omega
        clear hni
        go_quiet (fail)
        go_wp2_with fail
        go_roundg (os.length - (n + 1))
        case measure => omega
        case rel => exact ⟨n + 1, by omega, rfl, by go_num, HKN.out.drewN _, HSN.out HCF.out⟩
      · have hznb : (((n : Nat) : Int) != ((i : Nat) : Int)) = true := by rw [bne_iff_ne]; omega
        have HCF : Hid (condP os i n = (!aheadP x y && !aheadP y x)) := Lib.hid (by rw [HCP.out, decide_eq_true hni]; rfl)
        clear hni
        cases h1 : aheadP y x with
        | true =>
          have HA1 := Lib.hid h1
          have HC2 : Hid (condP os i n = false) := Lib.hid (by rw [HCF.out, h1]; simp)
          clear h1
          refine wp_region_held_drew (S := (fun w' => OvS w w' eb b o i x y)) (by kernel_rfl) (HOV.out.keep (Keep.refl [] w2).drew) (fun hHeld => ?_)
          refine wpAnyH_take (i := 0) (oi := { dst := some 14, op := Go.Op.move (Go.Operand.tmp 5), type := 3, pos := "stats.go:30", after := #[], guard := none }) (v := ?_) rfl (by kernel_rfl) (by kernel_rfl) (by kernel_rfl) (fun _ _ _ h => h) (Or.inl ⟨by rfl, ?_⟩) (by assumption) ?_
          rotate_left
          · intro w hSw
            (try dsimp only at hSw)
            go_simp
            all_goals with_reducible rfl
          try simp only [Act.put, List.setIfInBounds_toArray, List.set_cons_zero, List.set_cons_succ]
          refine wpAnyH_take (i := 1) (oi := { dst := some 15, op := Go.Op.move (Go.Operand.tmp 1), type := 3, pos := "stats.go:30", after := #[], guard := none }) (v := ?_) rfl (by kernel_rfl) (by kernel_rfl) (by kernel_rfl) (fun _ _ _ h => h) (Or.inl ⟨by rfl, ?_⟩) (by assumption) ?_
          rotate_left
          · intro w hSw
            (try dsimp only at hSw)
            go_simp
            all_goals with_reducible rfl
          try simp only [Act.put, List.setIfInBounds_toArray, List.set_cons_zero, List.set_cons_succ]
          refine wpAnyH_take (i := 2) (oi := { dst := some 16, op := Go.Op.binOp Go.BinOp.neq 3 (Go.Operand.tmp 14) (Go.Operand.tmp 15) 3, type := 4, pos := "stats.go:30", after := #[{ on := 0, ground := Go.Ground.data }, { on := 1, ground := Go.Ground.data }], guard := none }) (v := ?_) rfl (by kernel_rfl) (by kernel_rfl) (by kernel_rfl) (fun _ _ _ h => h) (Or.inl ⟨by rfl, ?_⟩) (by assumption) ?_
          rotate_left
          · intro w hSw
            (try dsimp only at hSw)
            go_simp
            all_goals with_reducible rfl
          try simp only [Act.put, List.setIfInBounds_toArray, List.set_cons_zero, List.set_cons_succ]
          refine wpAnyH_take (i := 3) (oi := { dst := some 17, op := Go.Op.move (Go.Operand.tmp 16), type := 4, pos := "stats.go:30", after := #[{ on := 2, ground := Go.Ground.data }], guard := none }) (v := ?_) rfl (by kernel_rfl) (by kernel_rfl) (by kernel_rfl) (fun _ _ _ h => h) (Or.inl ⟨by rfl, ?_⟩) (by assumption) ?_
          rotate_left
          · intro w hSw
            (try dsimp only at hSw)
            go_simp
            all_goals with_reducible rfl
          try simp only [Act.put, List.setIfInBounds_toArray, List.set_cons_zero, List.set_cons_succ]
          refine wpAnyH_take (i := 4) (oi := { dst := some 18, op := Go.Op.load 41 (Go.Operand.tmp 6), type := 41, pos := "stats.go:30", after := #[{ on := 3, ground := Go.Ground.guard }], guard := some (3, true) }) (v := ?_) rfl (by kernel_rfl) (by kernel_rfl) (by kernel_rfl) (fun _ _ _ h => h) (Or.inl ⟨by rfl, ?_⟩) (by assumption) ?_
          rotate_left
          · intro w hSw
            refine ex_load_mid (o := { dst := some 18, op := Go.Op.load 41 (Go.Operand.tmp 6), type := 41, pos := "stats.go:30", after := #[{ on := 3, ground := Go.Ground.guard }], guard := some (3, true) }) rfl ?_ hSw.ry Try.underlying41 rfl sizeOper
            rfl
          try simp only [Act.put, List.setIfInBounds_toArray, List.set_cons_zero, List.set_cons_succ]
          refine wpAnyH_take (i := 5) (oi := { dst := some 19, op := Go.Op.move (Go.Operand.tmp 0), type := 33, pos := "stats.go:30", after := #[{ on := 3, ground := Go.Ground.guard }], guard := some (3, true) }) (v := ?_) rfl (by kernel_rfl) (by kernel_rfl) (by kernel_rfl) (fun _ _ _ h => h) (Or.inl ⟨by rfl, ?_⟩) (by assumption) ?_
          rotate_left
          · intro w hSw
            (try dsimp only at hSw)
            go_simp
            all_goals with_reducible rfl
          try simp only [Act.put, List.setIfInBounds_toArray, List.set_cons_zero, List.set_cons_succ]
          refine wpAnyH_take (i := 6) (oi := { dst := some 20, op := Go.Op.move (Go.Operand.tmp 1), type := 3, pos := "stats.go:30", after := #[{ on := 3, ground := Go.Ground.guard }], guard := some (3, true) }) (v := ?_) rfl (by kernel_rfl) (by kernel_rfl) (by kernel_rfl) (fun _ _ _ h => h) (Or.inl ⟨by rfl, ?_⟩) (by assumption) ?_
          rotate_left
          · intro w hSw
            (try dsimp only at hSw)
            go_simp
            all_goals with_reducible rfl
          try simp only [Act.put, List.setIfInBounds_toArray, List.set_cons_zero, List.set_cons_succ]
          refine wpAnyH_take (i := 7) (oi := { dst := some 21, op := Go.Op.indexAddr 33 (Go.Operand.tmp 19) (Go.Operand.tmp 20), type := 0, pos := "stats.go:30", after := #[{ on := 5, ground := Go.Ground.data }, { on := 6, ground := Go.Ground.data }, { on := 3, ground := Go.Ground.guard }], guard := some (3, true) }) (v := ?_) rfl (by kernel_rfl) (by kernel_rfl) (by kernel_rfl) (fun _ _ _ h => h) (Or.inl ⟨by rfl, ?_⟩) (by assumption) ?_
          rotate_left
          · intro w hSw
            (try dsimp only at hSw)
            go_simp
            all_goals with_reducible rfl
          try simp only [Act.put, List.setIfInBounds_toArray, List.set_cons_zero, List.set_cons_succ]
          refine wpAnyH_take (i := 8) (oi := { dst := some 22, op := Go.Op.load 41 (Go.Operand.tmp 21), type := 41, pos := "stats.go:30", after := #[{ on := 7, ground := Go.Ground.data }, { on := 3, ground := Go.Ground.guard }], guard := some (3, true) }) (v := ?_) rfl (by kernel_rfl) (by kernel_rfl) (by kernel_rfl) (fun _ _ _ h => h) (Or.inl ⟨by rfl, ?_⟩) (by assumption) ?_
          rotate_left
          · intro w hSw
            refine ex_load_mid (o := { dst := some 22, op := Go.Op.load 41 (Go.Operand.tmp 21), type := 41, pos := "stats.go:30", after := #[{ on := 7, ground := Go.Ground.data }, { on := 3, ground := Go.Ground.guard }], guard := some (3, true) }) rfl ?_ hSw.rx Try.underlying41 rfl sizeOper
            rfl
          try simp only [Act.put, List.setIfInBounds_toArray, List.set_cons_zero, List.set_cons_succ]
          refine wpAnyH_ready (rs := [9]) (by kernel_rfl) (by simp) ?_
          refine AllReadyH.cons (o := { dst := some 23, op := Go.Op.call { callee := Go.Callee.value (Go.Operand.func 23), args := #[Go.Operand.tmp 18, Go.Operand.tmp 22], argTypes := #[41, 41] }, type := 4, pos := "stats.go:30", after := #[{ on := 4, ground := Go.Ground.data }, { on := 8, ground := Go.Ground.data }, { on := 3, ground := Go.Ground.chain }, { on := 3, ground := Go.Ground.guard }], guard := some (3, true) }) rfl (fun K hK => ?_) AllReadyH.nil
          go_simp
          refine (hist_ahead y x _).mono ?_
          rintro r z ⟨rfl, hk⟩
          rw [HA1.out]
          try simp only []
          refine hK.out _ _ (hHeld.keep hk) (fun hHeld => ?_)
          clear hK K
          try simp only [Act.put, List.setIfInBounds_toArray, List.set_cons_zero, List.set_cons_succ]
          refine wpAnyH_take (i := 10) (oi := { dst := some 24, op := Go.Op.unOp Go.UnOp.not 4 (Go.Operand.tmp 23), type := 4, pos := "stats.go:30", after := #[{ on := 9, ground := Go.Ground.data }, { on := 3, ground := Go.Ground.guard }], guard := some (3, true) }) (v := ?_) rfl (by kernel_rfl) (by kernel_rfl) (by kernel_rfl) (fun _ _ _ h => h) (Or.inl ⟨by rfl, ?_⟩) (by assumption) ?_
          rotate_left
          · intro w hSw
            (try dsimp only at hSw)
            go_simp
            all_goals with_reducible rfl
          try simp only [Act.put, List.setIfInBounds_toArray, List.set_cons_zero, List.set_cons_succ]
          refine wpAnyH_take (i := 11) (oi := { dst := some 25, op := Go.Op.pick (Go.Operand.tmp 17) (Go.Operand.tmp 24) (Go.Operand.const (Go.Value.bool false)), type := 4, pos := "stats.go:30", after := #[{ on := 3, ground := Go.Ground.data }, { on := 10, ground := Go.Ground.data }], guard := none }) (v := ?_) rfl (by kernel_rfl) (by kernel_rfl) (by kernel_rfl) (fun _ _ _ h => h) (Or.inl ⟨by rfl, ?_⟩) (by assumption) ?_
          rotate_left
          · intro w hSw
            (try dsimp only at hSw)
            go_simp
            all_goals with_reducible rfl
          try simp only [Act.put, List.setIfInBounds_toArray, List.set_cons_zero, List.set_cons_succ]
          refine wpAnyH_take (i := 12) (oi := { dst := some 26, op := Go.Op.move (Go.Operand.tmp 25), type := 4, pos := "stats.go:30", after := #[{ on := 11, ground := Go.Ground.data }, { on := 9, ground := Go.Ground.chain }], guard := none }) (v := ?_) rfl (by kernel_rfl) (by kernel_rfl) (by kernel_rfl) (fun _ _ _ h => h) (Or.inl ⟨by rfl, ?_⟩) (by assumption) ?_
          rotate_left
          · intro w hSw
            (try dsimp only at hSw)
            go_simp
            all_goals with_reducible rfl
          try simp only [Act.put, List.setIfInBounds_toArray, List.set_cons_zero, List.set_cons_succ]
          refine wpAnyH_take (i := 13) (oi := { dst := some 27, op := Go.Op.move (Go.Operand.tmp 0), type := 33, pos := "stats.go:30", after := #[{ on := 12, ground := Go.Ground.guard }], guard := some (12, true) }) (v := _) rfl (by kernel_rfl) (by kernel_rfl) (by kernel_rfl) (fun _ _ _ h => h) (Or.inr ⟨by rfl, rfl⟩) (by assumption) ?_
          try simp only [Act.put, List.setIfInBounds_toArray, List.set_cons_zero, List.set_cons_succ]
          refine wpAnyH_take (i := 14) (oi := { dst := some 28, op := Go.Op.move (Go.Operand.tmp 1), type := 3, pos := "stats.go:30", after := #[{ on := 12, ground := Go.Ground.guard }], guard := some (12, true) }) (v := _) rfl (by kernel_rfl) (by kernel_rfl) (by kernel_rfl) (fun _ _ _ h => h) (Or.inr ⟨by rfl, rfl⟩) (by assumption) ?_
          try simp only [Act.put, List.setIfInBounds_toArray, List.set_cons_zero, List.set_cons_succ]
          refine wpAnyH_take (i := 15) (oi := { dst := some 29, op := Go.Op.indexAddr 33 (Go.Operand.tmp 27) (Go.Operand.tmp 28), type := 0, pos := "stats.go:30", after := #[{ on := 13, ground := Go.Ground.data }, { on := 14, ground := Go.Ground.data }, { on := 12, ground := Go.Ground.guard }], guard := some (12, true) }) (v := _) rfl (by kernel_rfl) (by kernel_rfl) (by kernel_rfl) (fun _ _ _ h => h) (Or.inr ⟨by rfl, rfl⟩) (by assumption) ?_
          try simp only [Act.put, List.setIfInBounds_toArray, List.set_cons_zero, List.set_cons_succ]
          refine wpAnyH_take (i := 16) (oi := { dst := some 30, op := Go.Op.load 41 (Go.Operand.tmp 29), type := 41, pos := "stats.go:30", after := #[{ on := 15, ground := Go.Ground.data }, { on := 12, ground := Go.Ground.guard }], guard := some (12, true) }) (v := _) rfl (by kernel_rfl) (by kernel_rfl) (by kernel_rfl) (fun _ _ _ h => h) (Or.inr ⟨by rfl, rfl⟩) (by assumption) ?_
          try simp only [Act.put, List.setIfInBounds_toArray, List.set_cons_zero, List.set_cons_succ]
          refine wpAnyH_take (i := 17) (oi := { dst := some 31, op := Go.Op.load 41 (Go.Operand.tmp 6), type := 41, pos := "stats.go:30", after := #[{ on := 12, ground := Go.Ground.guard }], guard := some (12, true) }) (v := _) rfl (by kernel_rfl) (by kernel_rfl) (by kernel_rfl) (fun _ _ _ h => h) (Or.inr ⟨by rfl, rfl⟩) (by assumption) ?_
          try simp only [Act.put, List.setIfInBounds_toArray, List.set_cons_zero, List.set_cons_succ]
          refine wpAnyH_take (i := 18) (oi := { dst := some 32, op := Go.Op.call { callee := Go.Callee.value (Go.Operand.func 23), args := #[Go.Operand.tmp 30, Go.Operand.tmp 31], argTypes := #[41, 41] }, type := 4, pos := "stats.go:30", after := #[{ on := 16, ground := Go.Ground.data }, { on := 17, ground := Go.Ground.data }, { on := 12, ground := Go.Ground.chain }, { on := 12, ground := Go.Ground.guard }], guard := some (12, true) }) (v := _) rfl (by kernel_rfl) (by kernel_rfl) (by kernel_rfl) (fun _ _ _ h => h) (Or.inr ⟨by rfl, rfl⟩) (by assumption) ?_
          try simp only [Act.put, List.setIfInBounds_toArray, List.set_cons_zero, List.set_cons_succ]
          refine wpAnyH_take (i := 19) (oi := { dst := some 33, op := Go.Op.unOp Go.UnOp.not 4 (Go.Operand.tmp 32), type := 4, pos := "stats.go:30", after := #[{ on := 18, ground := Go.Ground.data }, { on := 12, ground := Go.Ground.guard }], guard := some (12, true) }) (v := _) rfl (by kernel_rfl) (by kernel_rfl) (by kernel_rfl) (fun _ _ _ h => h) (Or.inr ⟨by rfl, rfl⟩) (by assumption) ?_
          try simp only [Act.put, List.setIfInBounds_toArray, List.set_cons_zero, List.set_cons_succ]
          refine wpAnyH_take (i := 20) (oi := { dst := some 34, op := Go.Op.pick (Go.Operand.tmp 26) (Go.Operand.tmp 33) (Go.Operand.const (Go.Value.bool false)), type := 4, pos := "stats.go:30", after := #[{ on := 12, ground := Go.Ground.data }, { on := 19, ground := Go.Ground.data }], guard := none }) (v := ?_) rfl (by kernel_rfl) (by kernel_rfl) (by kernel_rfl) (fun _ _ _ h => h) (Or.inl ⟨by rfl, ?_⟩) (by assumption) ?_
          rotate_left
          · intro w hSw
            (try dsimp only at hSw)
            go_simp
            all_goals with_reducible rfl
          try simp only [Act.put, List.setIfInBounds_toArray, List.set_cons_zero, List.set_cons_succ]
          refine wpAnyH_done (by kernel_rfl) ?_ _
          have HZ := Lib.hid hHeld
          clear hHeld
          go_wp2_with fail
          go_roundg (os.length - (n + 1))
          case measure => omega
          case rel => exact ⟨n + 1, by omega, rfl, by go_num, HZ.out.hk, HSN.out HC2.out⟩
        | false =>
          have HA1 := Lib.hid h1
          cases h2 : aheadP x y with
          | true =>
            have HA2 := Lib.hid h2
            have HC2 : Hid (condP os i n = false) := Lib.hid (by rw [HCF.out, h2]; simp)
            clear h1 h2
            refine wp_region_held_drew (S := (fun w' => OvS w w' eb b o i x y)) (by kernel_rfl) (HOV.out.keep (Keep.refl [] w2).drew) (fun hHeld => ?_)
            refine wpAnyH_take (i := 0) (oi := { dst := some 14, op := Go.Op.move (Go.Operand.tmp 5), type := 3, pos := "stats.go:30", after := #[], guard := none }) (v := ?_) rfl (by kernel_rfl) (by kernel_rfl) (by kernel_rfl) (fun _ _ _ h => h) (Or.inl ⟨by rfl, ?_⟩) (by assumption) ?_
            rotate_left
            · intro w hSw
              (try dsimp only at hSw)
              go_simp
              all_goals with_reducible rfl
            try simp only [Act.put, List.setIfInBounds_toArray, List.set_cons_zero, List.set_cons_succ]
            refine wpAnyH_take (i := 1) (oi := { dst := some 15, op := Go.Op.move (Go.Operand.tmp 1), type := 3, pos := "stats.go:30", after := #[], guard := none }) (v := ?_) rfl (by kernel_rfl) (by kernel_rfl) (by kernel_rfl) (fun _ _ _ h => h) (Or.inl ⟨by rfl, ?_⟩) (by assumption) ?_
            rotate_left
            · intro w hSw
              (try dsimp only at hSw)
              go_simp
              all_goals with_reducible rfl
            try simp only [Act.put, List.setIfInBounds_toArray, List.set_cons_zero, List.set_cons_succ]
            refine wpAnyH_take (i := 2) (oi := { dst := some 16, op := Go.Op.binOp Go.BinOp.neq 3 (Go.Operand.tmp 14) (Go.Operand.tmp 15) 3, type := 4, pos := "stats.go:30", after := #[{ on := 0, ground := Go.Ground.data }, { on := 1, ground := Go.Ground.data }], guard := none }) (v := ?_) rfl (by kernel_rfl) (by kernel_rfl) (by kernel_rfl) (fun _ _ _ h => h) (Or.inl ⟨by rfl, ?_⟩) (by assumption) ?_
            rotate_left
            · intro w hSw
              (try dsimp only at hSw)
              go_simp
              all_goals with_reducible rfl
            try simp only [Act.put, List.setIfInBounds_toArray, List.set_cons_zero, List.set_cons_succ]
            refine wpAnyH_take (i := 3) (oi := { dst := some 17, op := Go.Op.move (Go.Operand.tmp 16), type := 4, pos := "stats.go:30", after := #[{ on := 2, ground := Go.Ground.data }], guard := none }) (v := ?_) rfl (by kernel_rfl) (by kernel_rfl) (by kernel_rfl) (fun _ _ _ h => h) (Or.inl ⟨by rfl, ?_⟩) (by assumption) ?_
            rotate_left
            · intro w hSw
              (try dsimp only at hSw)
              go_simp
              all_goals with_reducible rfl
            try simp only [Act.put, List.setIfInBounds_toArray, List.set_cons_zero, List.set_cons_succ]
            refine wpAnyH_take (i := 4) (oi := { dst := some 18, op := Go.Op.load 41 (Go.Operand.tmp 6), type := 41, pos := "stats.go:30", after := #[{ on := 3, ground := Go.Ground.guard }], guard := some (3, true) }) (v := ?_) rfl (by kernel_rfl) (by kernel_rfl) (by kernel_rfl) (fun _ _ _ h => h) (Or.inl ⟨by rfl, ?_⟩) (by assumption) ?_
            rotate_left
            · intro w hSw
              refine ex_load_mid (o := { dst := some 18, op := Go.Op.load 41 (Go.Operand.tmp 6), type := 41, pos := "stats.go:30", after := #[{ on := 3, ground := Go.Ground.guard }], guard := some (3, true) }) rfl ?_ hSw.ry Try.underlying41 rfl sizeOper
              rfl
            try simp only [Act.put, List.setIfInBounds_toArray, List.set_cons_zero, List.set_cons_succ]
            refine wpAnyH_take (i := 5) (oi := { dst := some 19, op := Go.Op.move (Go.Operand.tmp 0), type := 33, pos := "stats.go:30", after := #[{ on := 3, ground := Go.Ground.guard }], guard := some (3, true) }) (v := ?_) rfl (by kernel_rfl) (by kernel_rfl) (by kernel_rfl) (fun _ _ _ h => h) (Or.inl ⟨by rfl, ?_⟩) (by assumption) ?_
            rotate_left
            · intro w hSw
              (try dsimp only at hSw)
              go_simp
              all_goals with_reducible rfl
            try simp only [Act.put, List.setIfInBounds_toArray, List.set_cons_zero, List.set_cons_succ]
            refine wpAnyH_take (i := 6) (oi := { dst := some 20, op := Go.Op.move (Go.Operand.tmp 1), type := 3, pos := "stats.go:30", after := #[{ on := 3, ground := Go.Ground.guard }], guard := some (3, true) }) (v := ?_) rfl (by kernel_rfl) (by kernel_rfl) (by kernel_rfl) (fun _ _ _ h => h) (Or.inl ⟨by rfl, ?_⟩) (by assumption) ?_
            rotate_left
            · intro w hSw
              (try dsimp only at hSw)
              go_simp
              all_goals with_reducible rfl
            try simp only [Act.put, List.setIfInBounds_toArray, List.set_cons_zero, List.set_cons_succ]
            refine wpAnyH_take (i := 7) (oi := { dst := some 21, op := Go.Op.indexAddr 33 (Go.Operand.tmp 19) (Go.Operand.tmp 20), type := 0, pos := "stats.go:30", after := #[{ on := 5, ground := Go.Ground.data }, { on := 6, ground := Go.Ground.data }, { on := 3, ground := Go.Ground.guard }], guard := some (3, true) }) (v := ?_) rfl (by kernel_rfl) (by kernel_rfl) (by kernel_rfl) (fun _ _ _ h => h) (Or.inl ⟨by rfl, ?_⟩) (by assumption) ?_
            rotate_left
            · intro w hSw
              (try dsimp only at hSw)
              go_simp
              all_goals with_reducible rfl
            try simp only [Act.put, List.setIfInBounds_toArray, List.set_cons_zero, List.set_cons_succ]
            refine wpAnyH_take (i := 8) (oi := { dst := some 22, op := Go.Op.load 41 (Go.Operand.tmp 21), type := 41, pos := "stats.go:30", after := #[{ on := 7, ground := Go.Ground.data }, { on := 3, ground := Go.Ground.guard }], guard := some (3, true) }) (v := ?_) rfl (by kernel_rfl) (by kernel_rfl) (by kernel_rfl) (fun _ _ _ h => h) (Or.inl ⟨by rfl, ?_⟩) (by assumption) ?_
            rotate_left
            · intro w hSw
              refine ex_load_mid (o := { dst := some 22, op := Go.Op.load 41 (Go.Operand.tmp 21), type := 41, pos := "stats.go:30", after := #[{ on := 7, ground := Go.Ground.data }, { on := 3, ground := Go.Ground.guard }], guard := some (3, true) }) rfl ?_ hSw.rx Try.underlying41 rfl sizeOper
              rfl
            try simp only [Act.put, List.setIfInBounds_toArray, List.set_cons_zero, List.set_cons_succ]
            refine wpAnyH_ready (rs := [9]) (by kernel_rfl) (by simp) ?_
            refine AllReadyH.cons (o := { dst := some 23, op := Go.Op.call { callee := Go.Callee.value (Go.Operand.func 23), args := #[Go.Operand.tmp 18, Go.Operand.tmp 22], argTypes := #[41, 41] }, type := 4, pos := "stats.go:30", after := #[{ on := 4, ground := Go.Ground.data }, { on := 8, ground := Go.Ground.data }, { on := 3, ground := Go.Ground.chain }, { on := 3, ground := Go.Ground.guard }], guard := some (3, true) }) rfl (fun K hK => ?_) AllReadyH.nil
            go_simp
            refine (hist_ahead y x _).mono ?_
            rintro r z ⟨rfl, hk⟩
            rw [HA1.out]
            try simp only []
            refine hK.out _ _ (hHeld.keep hk) (fun hHeld => ?_)
            clear hK K
            try simp only [Act.put, List.setIfInBounds_toArray, List.set_cons_zero, List.set_cons_succ]
            refine wpAnyH_take (i := 10) (oi := { dst := some 24, op := Go.Op.unOp Go.UnOp.not 4 (Go.Operand.tmp 23), type := 4, pos := "stats.go:30", after := #[{ on := 9, ground := Go.Ground.data }, { on := 3, ground := Go.Ground.guard }], guard := some (3, true) }) (v := ?_) rfl (by kernel_rfl) (by kernel_rfl) (by kernel_rfl) (fun _ _ _ h => h) (Or.inl ⟨by rfl, ?_⟩) (by assumption) ?_
            rotate_left
            · intro w hSw
              (try dsimp only at hSw)
              go_simp
              all_goals with_reducible rfl
            try simp only [Act.put, List.setIfInBounds_toArray, List.set_cons_zero, List.set_cons_succ]
            refine wpAnyH_take (i := 11) (oi := { dst := some 25, op := Go.Op.pick (Go.Operand.tmp 17) (Go.Operand.tmp 24) (Go.Operand.const (Go.Value.bool false)), type := 4, pos := "stats.go:30", after := #[{ on := 3, ground := Go.Ground.data }, { on := 10, ground := Go.Ground.data }], guard := none }) (v := ?_) rfl (by kernel_rfl) (by kernel_rfl) (by kernel_rfl) (fun _ _ _ h => h) (Or.inl ⟨by rfl, ?_⟩) (by assumption) ?_
            rotate_left
            · intro w hSw
              (try dsimp only at hSw)
              go_simp
              all_goals with_reducible rfl
            try simp only [Act.put, List.setIfInBounds_toArray, List.set_cons_zero, List.set_cons_succ]
            refine wpAnyH_take (i := 12) (oi := { dst := some 26, op := Go.Op.move (Go.Operand.tmp 25), type := 4, pos := "stats.go:30", after := #[{ on := 11, ground := Go.Ground.data }, { on := 9, ground := Go.Ground.chain }], guard := none }) (v := ?_) rfl (by kernel_rfl) (by kernel_rfl) (by kernel_rfl) (fun _ _ _ h => h) (Or.inl ⟨by rfl, ?_⟩) (by assumption) ?_
            rotate_left
            · intro w hSw
              (try dsimp only at hSw)
              go_simp
              all_goals with_reducible rfl
            try simp only [Act.put, List.setIfInBounds_toArray, List.set_cons_zero, List.set_cons_succ]
            refine wpAnyH_take (i := 13) (oi := { dst := some 27, op := Go.Op.move (Go.Operand.tmp 0), type := 33, pos := "stats.go:30", after := #[{ on := 12, ground := Go.Ground.guard }], guard := some (12, true) }) (v := ?_) rfl (by kernel_rfl) (by kernel_rfl) (by kernel_rfl) (fun _ _ _ h => h) (Or.inl ⟨by rfl, ?_⟩) (by assumption) ?_
            rotate_left
            · intro w hSw
              (try dsimp only at hSw)
              go_simp
              all_goals with_reducible rfl
            try simp only [Act.put, List.setIfInBounds_toArray, List.set_cons_zero, List.set_cons_succ]
            refine wpAnyH_take (i := 14) (oi := { dst := some 28, op := Go.Op.move (Go.Operand.tmp 1), type := 3, pos := "stats.go:30", after := #[{ on := 12, ground := Go.Ground.guard }], guard := some (12, true) }) (v := ?_) rfl (by kernel_rfl) (by kernel_rfl) (by kernel_rfl) (fun _ _ _ h => h) (Or.inl ⟨by rfl, ?_⟩) (by assumption) ?_
            rotate_left
            · intro w hSw
              (try dsimp only at hSw)
              go_simp
              all_goals with_reducible rfl
            try simp only [Act.put, List.setIfInBounds_toArray, List.set_cons_zero, List.set_cons_succ]
            refine wpAnyH_take (i := 15) (oi := { dst := some 29, op := Go.Op.indexAddr 33 (Go.Operand.tmp 27) (Go.Operand.tmp 28), type := 0, pos := "stats.go:30", after := #[{ on := 13, ground := Go.Ground.data }, { on := 14, ground := Go.Ground.data }, { on := 12, ground := Go.Ground.guard }], guard := some (12, true) }) (v := ?_) rfl (by kernel_rfl) (by kernel_rfl) (by kernel_rfl) (fun _ _ _ h => h) (Or.inl ⟨by rfl, ?_⟩) (by assumption) ?_
            rotate_left
            · intro w hSw
              (try dsimp only at hSw)
              go_simp
              all_goals with_reducible rfl
            try simp only [Act.put, List.setIfInBounds_toArray, List.set_cons_zero, List.set_cons_succ]
            refine wpAnyH_take (i := 16) (oi := { dst := some 30, op := Go.Op.load 41 (Go.Operand.tmp 29), type := 41, pos := "stats.go:30", after := #[{ on := 15, ground := Go.Ground.data }, { on := 12, ground := Go.Ground.guard }], guard := some (12, true) }) (v := ?_) rfl (by kernel_rfl) (by kernel_rfl) (by kernel_rfl) (fun _ _ _ h => h) (Or.inl ⟨by rfl, ?_⟩) (by assumption) ?_
            rotate_left
            · intro w hSw
              refine ex_load_mid (o := { dst := some 30, op := Go.Op.load 41 (Go.Operand.tmp 29), type := 41, pos := "stats.go:30", after := #[{ on := 15, ground := Go.Ground.data }, { on := 12, ground := Go.Ground.guard }], guard := some (12, true) }) rfl ?_ hSw.rx Try.underlying41 rfl sizeOper
              rfl
            try simp only [Act.put, List.setIfInBounds_toArray, List.set_cons_zero, List.set_cons_succ]
            refine wpAnyH_take (i := 17) (oi := { dst := some 31, op := Go.Op.load 41 (Go.Operand.tmp 6), type := 41, pos := "stats.go:30", after := #[{ on := 12, ground := Go.Ground.guard }], guard := some (12, true) }) (v := ?_) rfl (by kernel_rfl) (by kernel_rfl) (by kernel_rfl) (fun _ _ _ h => h) (Or.inl ⟨by rfl, ?_⟩) (by assumption) ?_
            rotate_left
            · intro w hSw
              refine ex_load_mid (o := { dst := some 31, op := Go.Op.load 41 (Go.Operand.tmp 6), type := 41, pos := "stats.go:30", after := #[{ on := 12, ground := Go.Ground.guard }], guard := some (12, true) }) rfl ?_ hSw.ry Try.underlying41 rfl sizeOper
              rfl
            try simp only [Act.put, List.setIfInBounds_toArray, List.set_cons_zero, List.set_cons_succ]
            refine wpAnyH_ready (rs := [18]) (by kernel_rfl) (by simp) ?_
            refine AllReadyH.cons (o := { dst := some 32, op := Go.Op.call { callee := Go.Callee.value (Go.Operand.func 23), args := #[Go.Operand.tmp 30, Go.Operand.tmp 31], argTypes := #[41, 41] }, type := 4, pos := "stats.go:30", after := #[{ on := 16, ground := Go.Ground.data }, { on := 17, ground := Go.Ground.data }, { on := 12, ground := Go.Ground.chain }, { on := 12, ground := Go.Ground.guard }], guard := some (12, true) }) rfl (fun K hK => ?_) AllReadyH.nil
            go_simp
            refine (hist_ahead x y _).mono ?_
            rintro r z2 ⟨rfl, hk2⟩
            rw [HA2.out]
            try simp only []
            refine hK.out _ _ (hHeld.keep hk2) (fun hHeld => ?_)
            clear hK K
            try simp only [Act.put, List.setIfInBounds_toArray, List.set_cons_zero, List.set_cons_succ]
            refine wpAnyH_take (i := 19) (oi := { dst := some 33, op := Go.Op.unOp Go.UnOp.not 4 (Go.Operand.tmp 32), type := 4, pos := "stats.go:30", after := #[{ on := 18, ground := Go.Ground.data }, { on := 12, ground := Go.Ground.guard }], guard := some (12, true) }) (v := ?_) rfl (by kernel_rfl) (by kernel_rfl) (by kernel_rfl) (fun _ _ _ h => h) (Or.inl ⟨by rfl, ?_⟩) (by assumption) ?_
            rotate_left
            · intro w hSw
              (try dsimp only at hSw)
              go_simp
              all_goals with_reducible rfl
            try simp only [Act.put, List.setIfInBounds_toArray, List.set_cons_zero, List.set_cons_succ]
            refine wpAnyH_take (i := 20) (oi := { dst := some 34, op := Go.Op.pick (Go.Operand.tmp 26) (Go.Operand.tmp 33) (Go.Operand.const (Go.Value.bool false)), type := 4, pos := "stats.go:30", after := #[{ on := 12, ground := Go.Ground.data }, { on := 19, ground := Go.Ground.data }], guard := none }) (v := ?_) rfl (by kernel_rfl) (by kernel_rfl) (by kernel_rfl) (fun _ _ _ h => h) (Or.inl ⟨by rfl, ?_⟩) (by assumption) ?_
            rotate_left
            · intro w hSw
              (try dsimp only at hSw)
              go_simp
              all_goals with_reducible rfl
            try simp only [Act.put, List.setIfInBounds_toArray, List.set_cons_zero, List.set_cons_succ]
            refine wpAnyH_done (by kernel_rfl) ?_ _
            have HZ := Lib.hid hHeld
            clear hHeld
            go_wp2_with fail
            go_roundg (os.length - (n + 1))
            case measure => omega
            case rel => exact ⟨n + 1, by omega, rfl, by go_num, HZ.out.hk, HSN.out HC2.out⟩
          | false =>
            have HA2 := Lib.hid h2
            have HC2 : Hid (condP os i n = true) := Lib.hid (by rw [HCF.out, h1, h2]; rfl)
            clear h1 h2
            refine wp_region_held_drew (S := (fun w' => OvS w w' eb b o i x y)) (by kernel_rfl) (HOV.out.keep (Keep.refl [] w2).drew) (fun hHeld => ?_)
            refine wpAnyH_take (i := 0) (oi := { dst := some 14, op := Go.Op.move (Go.Operand.tmp 5), type := 3, pos := "stats.go:30", after := #[], guard := none }) (v := ?_) rfl (by kernel_rfl) (by kernel_rfl) (by kernel_rfl) (fun _ _ _ h => h) (Or.inl ⟨by rfl, ?_⟩) (by assumption) ?_
            rotate_left
            · intro w hSw
              (try dsimp only at hSw)
              go_simp
              all_goals with_reducible rfl
            try simp only [Act.put, List.setIfInBounds_toArray, List.set_cons_zero, List.set_cons_succ]
            refine wpAnyH_take (i := 1) (oi := { dst := some 15, op := Go.Op.move (Go.Operand.tmp 1), type := 3, pos := "stats.go:30", after := #[], guard := none }) (v := ?_) rfl (by kernel_rfl) (by kernel_rfl) (by kernel_rfl) (fun _ _ _ h => h) (Or.inl ⟨by rfl, ?_⟩) (by assumption) ?_
            rotate_left
            · intro w hSw
              (try dsimp only at hSw)
              go_simp
              all_goals with_reducible rfl
            try simp only [Act.put, List.setIfInBounds_toArray, List.set_cons_zero, List.set_cons_succ]
            refine wpAnyH_take (i := 2) (oi := { dst := some 16, op := Go.Op.binOp Go.BinOp.neq 3 (Go.Operand.tmp 14) (Go.Operand.tmp 15) 3, type := 4, pos := "stats.go:30", after := #[{ on := 0, ground := Go.Ground.data }, { on := 1, ground := Go.Ground.data }], guard := none }) (v := ?_) rfl (by kernel_rfl) (by kernel_rfl) (by kernel_rfl) (fun _ _ _ h => h) (Or.inl ⟨by rfl, ?_⟩) (by assumption) ?_
            rotate_left
            · intro w hSw
              (try dsimp only at hSw)
              go_simp
              all_goals with_reducible rfl
            try simp only [Act.put, List.setIfInBounds_toArray, List.set_cons_zero, List.set_cons_succ]
            refine wpAnyH_take (i := 3) (oi := { dst := some 17, op := Go.Op.move (Go.Operand.tmp 16), type := 4, pos := "stats.go:30", after := #[{ on := 2, ground := Go.Ground.data }], guard := none }) (v := ?_) rfl (by kernel_rfl) (by kernel_rfl) (by kernel_rfl) (fun _ _ _ h => h) (Or.inl ⟨by rfl, ?_⟩) (by assumption) ?_
            rotate_left
            · intro w hSw
              (try dsimp only at hSw)
              go_simp
              all_goals with_reducible rfl
            try simp only [Act.put, List.setIfInBounds_toArray, List.set_cons_zero, List.set_cons_succ]
            refine wpAnyH_take (i := 4) (oi := { dst := some 18, op := Go.Op.load 41 (Go.Operand.tmp 6), type := 41, pos := "stats.go:30", after := #[{ on := 3, ground := Go.Ground.guard }], guard := some (3, true) }) (v := ?_) rfl (by kernel_rfl) (by kernel_rfl) (by kernel_rfl) (fun _ _ _ h => h) (Or.inl ⟨by rfl, ?_⟩) (by assumption) ?_
            rotate_left
            · intro w hSw
              refine ex_load_mid (o := { dst := some 18, op := Go.Op.load 41 (Go.Operand.tmp 6), type := 41, pos := "stats.go:30", after := #[{ on := 3, ground := Go.Ground.guard }], guard := some (3, true) }) rfl ?_ hSw.ry Try.underlying41 rfl sizeOper
              rfl
            try simp only [Act.put, List.setIfInBounds_toArray, List.set_cons_zero, List.set_cons_succ]
            refine wpAnyH_take (i := 5) (oi := { dst := some 19, op := Go.Op.move (Go.Operand.tmp 0), type := 33, pos := "stats.go:30", after := #[{ on := 3, ground := Go.Ground.guard }], guard := some (3, true) }) (v := ?_) rfl (by kernel_rfl) (by kernel_rfl) (by kernel_rfl) (fun _ _ _ h => h) (Or.inl ⟨by rfl, ?_⟩) (by assumption) ?_
            rotate_left
            · intro w hSw
              (try dsimp only at hSw)
              go_simp
              all_goals with_reducible rfl
            try simp only [Act.put, List.setIfInBounds_toArray, List.set_cons_zero, List.set_cons_succ]
            refine wpAnyH_take (i := 6) (oi := { dst := some 20, op := Go.Op.move (Go.Operand.tmp 1), type := 3, pos := "stats.go:30", after := #[{ on := 3, ground := Go.Ground.guard }], guard := some (3, true) }) (v := ?_) rfl (by kernel_rfl) (by kernel_rfl) (by kernel_rfl) (fun _ _ _ h => h) (Or.inl ⟨by rfl, ?_⟩) (by assumption) ?_
            rotate_left
            · intro w hSw
              (try dsimp only at hSw)
              go_simp
              all_goals with_reducible rfl
            try simp only [Act.put, List.setIfInBounds_toArray, List.set_cons_zero, List.set_cons_succ]
            refine wpAnyH_take (i := 7) (oi := { dst := some 21, op := Go.Op.indexAddr 33 (Go.Operand.tmp 19) (Go.Operand.tmp 20), type := 0, pos := "stats.go:30", after := #[{ on := 5, ground := Go.Ground.data }, { on := 6, ground := Go.Ground.data }, { on := 3, ground := Go.Ground.guard }], guard := some (3, true) }) (v := ?_) rfl (by kernel_rfl) (by kernel_rfl) (by kernel_rfl) (fun _ _ _ h => h) (Or.inl ⟨by rfl, ?_⟩) (by assumption) ?_
            rotate_left
            · intro w hSw
              (try dsimp only at hSw)
              go_simp
              all_goals with_reducible rfl
            try simp only [Act.put, List.setIfInBounds_toArray, List.set_cons_zero, List.set_cons_succ]
            refine wpAnyH_take (i := 8) (oi := { dst := some 22, op := Go.Op.load 41 (Go.Operand.tmp 21), type := 41, pos := "stats.go:30", after := #[{ on := 7, ground := Go.Ground.data }, { on := 3, ground := Go.Ground.guard }], guard := some (3, true) }) (v := ?_) rfl (by kernel_rfl) (by kernel_rfl) (by kernel_rfl) (fun _ _ _ h => h) (Or.inl ⟨by rfl, ?_⟩) (by assumption) ?_
            rotate_left
            · intro w hSw
              refine ex_load_mid (o := { dst := some 22, op := Go.Op.load 41 (Go.Operand.tmp 21), type := 41, pos := "stats.go:30", after := #[{ on := 7, ground := Go.Ground.data }, { on := 3, ground := Go.Ground.guard }], guard := some (3, true) }) rfl ?_ hSw.rx Try.underlying41 rfl sizeOper
              rfl
            try simp only [Act.put, List.setIfInBounds_toArray, List.set_cons_zero, List.set_cons_succ]
            refine wpAnyH_ready (rs := [9]) (by kernel_rfl) (by simp) ?_
            refine AllReadyH.cons (o := { dst := some 23, op := Go.Op.call { callee := Go.Callee.value (Go.Operand.func 23), args := #[Go.Operand.tmp 18, Go.Operand.tmp 22], argTypes := #[41, 41] }, type := 4, pos := "stats.go:30", after := #[{ on := 4, ground := Go.Ground.data }, { on := 8, ground := Go.Ground.data }, { on := 3, ground := Go.Ground.chain }, { on := 3, ground := Go.Ground.guard }], guard := some (3, true) }) rfl (fun K hK => ?_) AllReadyH.nil
            go_simp
            refine (hist_ahead y x _).mono ?_
            rintro r z ⟨rfl, hk⟩
            rw [HA1.out]
            try simp only []
            refine hK.out _ _ (hHeld.keep hk) (fun hHeld => ?_)
            clear hK K
            try simp only [Act.put, List.setIfInBounds_toArray, List.set_cons_zero, List.set_cons_succ]
            refine wpAnyH_take (i := 10) (oi := { dst := some 24, op := Go.Op.unOp Go.UnOp.not 4 (Go.Operand.tmp 23), type := 4, pos := "stats.go:30", after := #[{ on := 9, ground := Go.Ground.data }, { on := 3, ground := Go.Ground.guard }], guard := some (3, true) }) (v := ?_) rfl (by kernel_rfl) (by kernel_rfl) (by kernel_rfl) (fun _ _ _ h => h) (Or.inl ⟨by rfl, ?_⟩) (by assumption) ?_
            rotate_left
            · intro w hSw
              (try dsimp only at hSw)
              go_simp
              all_goals with_reducible rfl
            try simp only [Act.put, List.setIfInBounds_toArray, List.set_cons_zero, List.set_cons_succ]
            refine wpAnyH_take (i := 11) (oi := { dst := some 25, op := Go.Op.pick (Go.Operand.tmp 17) (Go.Operand.tmp 24) (Go.Operand.const (Go.Value.bool false)), type := 4, pos := "stats.go:30", after := #[{ on := 3, ground := Go.Ground.data }, { on := 10, ground := Go.Ground.data }], guard := none }) (v := ?_) rfl (by kernel_rfl) (by kernel_rfl) (by kernel_rfl) (fun _ _ _ h => h) (Or.inl ⟨by rfl, ?_⟩) (by assumption) ?_
            rotate_left
            · intro w hSw
              (try dsimp only at hSw)
              go_simp
              all_goals with_reducible rfl
            try simp only [Act.put, List.setIfInBounds_toArray, List.set_cons_zero, List.set_cons_succ]
            refine wpAnyH_take (i := 12) (oi := { dst := some 26, op := Go.Op.move (Go.Operand.tmp 25), type := 4, pos := "stats.go:30", after := #[{ on := 11, ground := Go.Ground.data }, { on := 9, ground := Go.Ground.chain }], guard := none }) (v := ?_) rfl (by kernel_rfl) (by kernel_rfl) (by kernel_rfl) (fun _ _ _ h => h) (Or.inl ⟨by rfl, ?_⟩) (by assumption) ?_
            rotate_left
            · intro w hSw
              (try dsimp only at hSw)
              go_simp
              all_goals with_reducible rfl
            try simp only [Act.put, List.setIfInBounds_toArray, List.set_cons_zero, List.set_cons_succ]
            refine wpAnyH_take (i := 13) (oi := { dst := some 27, op := Go.Op.move (Go.Operand.tmp 0), type := 33, pos := "stats.go:30", after := #[{ on := 12, ground := Go.Ground.guard }], guard := some (12, true) }) (v := ?_) rfl (by kernel_rfl) (by kernel_rfl) (by kernel_rfl) (fun _ _ _ h => h) (Or.inl ⟨by rfl, ?_⟩) (by assumption) ?_
            rotate_left
            · intro w hSw
              (try dsimp only at hSw)
              go_simp
              all_goals with_reducible rfl
            try simp only [Act.put, List.setIfInBounds_toArray, List.set_cons_zero, List.set_cons_succ]
            refine wpAnyH_take (i := 14) (oi := { dst := some 28, op := Go.Op.move (Go.Operand.tmp 1), type := 3, pos := "stats.go:30", after := #[{ on := 12, ground := Go.Ground.guard }], guard := some (12, true) }) (v := ?_) rfl (by kernel_rfl) (by kernel_rfl) (by kernel_rfl) (fun _ _ _ h => h) (Or.inl ⟨by rfl, ?_⟩) (by assumption) ?_
            rotate_left
            · intro w hSw
              (try dsimp only at hSw)
              go_simp
              all_goals with_reducible rfl
            try simp only [Act.put, List.setIfInBounds_toArray, List.set_cons_zero, List.set_cons_succ]
            refine wpAnyH_take (i := 15) (oi := { dst := some 29, op := Go.Op.indexAddr 33 (Go.Operand.tmp 27) (Go.Operand.tmp 28), type := 0, pos := "stats.go:30", after := #[{ on := 13, ground := Go.Ground.data }, { on := 14, ground := Go.Ground.data }, { on := 12, ground := Go.Ground.guard }], guard := some (12, true) }) (v := ?_) rfl (by kernel_rfl) (by kernel_rfl) (by kernel_rfl) (fun _ _ _ h => h) (Or.inl ⟨by rfl, ?_⟩) (by assumption) ?_
            rotate_left
            · intro w hSw
              (try dsimp only at hSw)
              go_simp
              all_goals with_reducible rfl
            try simp only [Act.put, List.setIfInBounds_toArray, List.set_cons_zero, List.set_cons_succ]
            refine wpAnyH_take (i := 16) (oi := { dst := some 30, op := Go.Op.load 41 (Go.Operand.tmp 29), type := 41, pos := "stats.go:30", after := #[{ on := 15, ground := Go.Ground.data }, { on := 12, ground := Go.Ground.guard }], guard := some (12, true) }) (v := ?_) rfl (by kernel_rfl) (by kernel_rfl) (by kernel_rfl) (fun _ _ _ h => h) (Or.inl ⟨by rfl, ?_⟩) (by assumption) ?_
            rotate_left
            · intro w hSw
              refine ex_load_mid (o := { dst := some 30, op := Go.Op.load 41 (Go.Operand.tmp 29), type := 41, pos := "stats.go:30", after := #[{ on := 15, ground := Go.Ground.data }, { on := 12, ground := Go.Ground.guard }], guard := some (12, true) }) rfl ?_ hSw.rx Try.underlying41 rfl sizeOper
              rfl
            try simp only [Act.put, List.setIfInBounds_toArray, List.set_cons_zero, List.set_cons_succ]
            refine wpAnyH_take (i := 17) (oi := { dst := some 31, op := Go.Op.load 41 (Go.Operand.tmp 6), type := 41, pos := "stats.go:30", after := #[{ on := 12, ground := Go.Ground.guard }], guard := some (12, true) }) (v := ?_) rfl (by kernel_rfl) (by kernel_rfl) (by kernel_rfl) (fun _ _ _ h => h) (Or.inl ⟨by rfl, ?_⟩) (by assumption) ?_
            rotate_left
            · intro w hSw
              refine ex_load_mid (o := { dst := some 31, op := Go.Op.load 41 (Go.Operand.tmp 6), type := 41, pos := "stats.go:30", after := #[{ on := 12, ground := Go.Ground.guard }], guard := some (12, true) }) rfl ?_ hSw.ry Try.underlying41 rfl sizeOper
              rfl
            try simp only [Act.put, List.setIfInBounds_toArray, List.set_cons_zero, List.set_cons_succ]
            refine wpAnyH_ready (rs := [18]) (by kernel_rfl) (by simp) ?_
            refine AllReadyH.cons (o := { dst := some 32, op := Go.Op.call { callee := Go.Callee.value (Go.Operand.func 23), args := #[Go.Operand.tmp 30, Go.Operand.tmp 31], argTypes := #[41, 41] }, type := 4, pos := "stats.go:30", after := #[{ on := 16, ground := Go.Ground.data }, { on := 17, ground := Go.Ground.data }, { on := 12, ground := Go.Ground.chain }, { on := 12, ground := Go.Ground.guard }], guard := some (12, true) }) rfl (fun K hK => ?_) AllReadyH.nil
            go_simp
            refine (hist_ahead x y _).mono ?_
            rintro r z2 ⟨rfl, hk2⟩
            rw [HA2.out]
            try simp only []
            refine hK.out _ _ (hHeld.keep hk2) (fun hHeld => ?_)
            clear hK K
            try simp only [Act.put, List.setIfInBounds_toArray, List.set_cons_zero, List.set_cons_succ]
            refine wpAnyH_take (i := 19) (oi := { dst := some 33, op := Go.Op.unOp Go.UnOp.not 4 (Go.Operand.tmp 32), type := 4, pos := "stats.go:30", after := #[{ on := 18, ground := Go.Ground.data }, { on := 12, ground := Go.Ground.guard }], guard := some (12, true) }) (v := ?_) rfl (by kernel_rfl) (by kernel_rfl) (by kernel_rfl) (fun _ _ _ h => h) (Or.inl ⟨by rfl, ?_⟩) (by assumption) ?_
            rotate_left
            · intro w hSw
              (try dsimp only at hSw)
              go_simp
              all_goals with_reducible rfl
            try simp only [Act.put, List.setIfInBounds_toArray, List.set_cons_zero, List.set_cons_succ]
            refine wpAnyH_take (i := 20) (oi := { dst := some 34, op := Go.Op.pick (Go.Operand.tmp 26) (Go.Operand.tmp 33) (Go.Operand.const (Go.Value.bool false)), type := 4, pos := "stats.go:30", after := #[{ on := 12, ground := Go.Ground.data }, { on := 19, ground := Go.Ground.data }], guard := none }) (v := ?_) rfl (by kernel_rfl) (by kernel_rfl) (by kernel_rfl) (fun _ _ _ h => h) (Or.inl ⟨by rfl, ?_⟩) (by assumption) ?_
            rotate_left
            · intro w hSw
              (try dsimp only at hSw)
              go_simp
              all_goals with_reducible rfl
            try simp only [Act.put, List.setIfInBounds_toArray, List.set_cons_zero, List.set_cons_succ]
            refine wpAnyH_done (by kernel_rfl) ?_ _
            have HZ := Lib.hid hHeld
            clear hHeld
            go_wp2_with fail
            go_ret
            exact ⟨by rw [HOY.out HC2.out]; rfl, HZ.out.hk⟩
    · have hz : ¬ ((n : Nat) : Int) < ((os.length : Nat) : Int) := by omega
      have HNO : Hid (overP os i = false) := Lib.hid (over_no fun k hk => HS.out k (by omega))
      go_wp2_with fail
      go_ret
      exact ⟨by rw [HNO.out]; rfl, HK.out⟩
end Go.Proofs.Ytofmonknhiggaaa
