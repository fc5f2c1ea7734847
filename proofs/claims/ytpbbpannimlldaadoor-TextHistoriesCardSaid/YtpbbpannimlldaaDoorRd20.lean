/- Histories compared, where both hold the same: law32.Same by its contract; TextHistories: the law's walk. Conditions: the library's tables and errors are as they were laid. -/
import Derived.Test.YtpbbpannimlldaaDoorRd19
namespace Go.Proofs.YtpbbpannimlldaaDoor
open Go.RowKit

theorem call_neq (a b c d e : Int) (w : World) : (binOp .neq 26 (.agg #[.int .i64 a, .int .i64 b, .int .i64 c, .int .i64 d, .int .i64 e]) (.agg #[.int .i64 a, .int .i64 b, .int .i64 c, .int .i64 d, .int .i64 e])).run Tryd.prog w = .ok (.bool false) w := by
  rw [run_neq_struct]
  simp [go_sem, Tryd.underlying26, Tryd.underlying3, Tryd.underlying2]
theorem bare_at {a b : List EvX} (h : a.map bareE = b.map bareE) {k : Nat} (hk : k < a.length) : bareE (a.getD k ev0) = bareE (b.getD k ev0) := by
  have hl : a.length = b.length := by have := congrArg List.length h; simpa using this
  have h1 : (a.map bareE).getD k ev0 = (b.map bareE).getD k ev0 := by rw [h]
  rw [List.getD_eq_getElem?_getD, List.getD_eq_getElem?_getD, List.getElem?_map, List.getElem?_map, List.getElem?_eq_getElem hk, List.getElem?_eq_getElem (by omega)] at h1
  rw [List.getD_eq_getElem?_getD, List.getD_eq_getElem?_getD, List.getElem?_eq_getElem hk, List.getElem?_eq_getElem (by omega)]
  exact h1
set_option maxRecDepth 100000 in
set_option maxHeartbeats 8000000 in
theorem law32_same (w : World) (A1 A2 : Option Addr) (n1 n2 : Nat) (a b : List EvX) (h1 : ElAt evL w A1 a) (h2 : ElAt evL w A2 b) (r1 : ∀ x ∈ a, ElAt pairC w x.a.pA x.a.ps) (r2 : ∀ x ∈ b, ElAt pairC w x.a.pA x.a.ps) (hab : a.map bareE = b.map bareE) (hl : a.length ≤ 20001) (hp : ∀ x ∈ a, x.a.ps.length ≤ 20001) : Calls Tryd.prog 15 #[.slice A1 a.length n1, .slice A2 b.length n2] w (SameOut w) := by
  have hlen : b.length = a.length := by have := congrArg List.length hab; simpa using this.symm
  have H1 := Lib.hid h1
  have H2 := Lib.hid h2
  have HP1 := Lib.hid r1
  have HP2 := Lib.hid r2
  have HAB := Lib.hid hab
  have HPL := Lib.hid hp
  have HLE := Lib.hid hlen
  rw [hlen]
  have hl0 : ((a.length : Nat) : Int) ≤ 20001 := by omega
  have hnn : ∀ x : Int, (x != x) = false := fun x => bne_self_eq_false x
  have hnb : ∀ x : Bool, (x != x) = false := fun x => bne_self_eq_false x
  clear h1 h2 r1 r2 hab hl hp hlen
  go_enter Tryd.func15, Tryd.ntmps15
  go_wp2_with fail
  go_loopg [5] a.length (fun g v5 wr => ∃ i : Nat, i ≤ a.length ∧ g = a.length - i ∧ v5 = .int .i64 (i : Nat) ∧ Keep [] w wr)
  case atStart => exact ⟨0, Nat.zero_le _, rfl, rfl, Keep.refl _ _⟩
  case round =>
    obtain ⟨i, hi, rfl, rfl, hk⟩ := hrel
    have HK := Lib.hid hk
    have hi0 : (0 : Int) ≤ ((i : Nat) : Int) := by omega
    have hi5 : ((i : Nat) : Int) ≤ 20001 := by omega
    clear hk
    by_cases hlt : i < a.length
    · have hz : ((i : Nat) : Int) < ((a.length : Nat) : Int) := by omega
      have hlt2 : i < b.length := by have := HLE.out; omega
      obtain ⟨b1, o1, hA1, _, c0, c1, c2, c3, c4, c5, c6, c7, c8, c9, c10, c11⟩ := (H1.out.keep HK.out).at_evx hlt
      obtain ⟨b2, o2, hA2, _, d0, d1, d2, d3, d4, d5, d6, d7, d8, d9, d10, d11⟩ := (H2.out.keep HK.out).at_evx hlt2
      subst hA1 hA2
      have hba := bare_at HAB.out hlt
      have hm1 : a.getD i ev0 ∈ a := by rw [List.getD_eq_getElem?_getD, List.getElem?_eq_getElem hlt]; exact List.getElem_mem hlt
      have hm2 : b.getD i ev0 ∈ b := by rw [List.getD_eq_getElem?_getD, List.getElem?_eq_getElem hlt2]; exact List.getElem_mem hlt2
      have hr1 := (HP1.out _ hm1).keep HK.out
      have hr2 := (HP2.out _ hm2).keep HK.out
      have hpl := HPL.out _ hm1
      have HLT := Lib.hid hlt
      clear hlt hlt2 hm1 hm2
      generalize a.getD i ev0 = q at *
      generalize b.getD i ev0 = q2 at *
      have g1 := congrArg EvX.thr hba
      have g2 := congrArg EvX.back hba
      have g3 := congrArg EvX.c hba
      have g4 := congrArg (fun e => e.a.kind) hba
      have g5 := congrArg (fun e => e.a.key) hba
      have g6 := congrArg (fun e => e.a.val) hba
      have g7 := congrArg (fun e => e.a.n) hba
      have g8 := congrArg (fun e => e.a.ps) hba
      dsimp only [bareE] at g1 g2 g3 g4 g5 g6 g7 g8
      rw [← g1] at d0
      rw [← g2] at d1
      rw [← g3] at d2 d3 d4 d5 d6
      rw [← g4] at d7
      rw [← g5] at d8
      rw [← g6] at d9
      rw [← g7] at d10
      rw [← g8] at d11 hr2
      have KS := Lib.hid (fun (W : World) (hk : Keep [] wr W) => ref09_same W q.a.kind q.a.key q.a.val q.a.n q.a.pA q2.a.pA q.a.pc q2.a.pc q.a.ps (hr1.keep hk) (hr2.keep hk) hpl)
      unfold SameOut at KS
      clear hba g1 g2 g3 g4 g5 g6 g7 g8 hr1 hr2 hpl
      generalize q2.a.pA = pA2 at *
      generalize q2.a.pc = pc2 at *
      go_upto_region 6 with fail
      refine wp_region_held_drew (S := (fun w' => Keep [] wr w')) (by kernel_rfl) (Keep.refl _ _).drew (fun hHeld => ?_)
      refine wpAnyH_take (i := 0) (oi := { dst := some 17, op := Go.Op.move (Go.Operand.tmp 0), type := 39, pos := "law.go:30", after := #[], guard := none }) (v := ?_) rfl (by kernel_rfl) (by kernel_rfl) (by kernel_rfl) (fun _ _ _ h => h) (Or.inl ⟨by rfl, ?_⟩) (by assumption) ?_
      rotate_left
      · intro w hSw
        (try dsimp only at hSw)
        go_simp
        all_goals with_reducible rfl
      try simp only [Act.put, List.setIfInBounds_toArray, List.set_cons_zero, List.set_cons_succ]
      refine wpAnyH_take (i := 1) (oi := { dst := some 18, op := Go.Op.move (Go.Operand.tmp 5), type := 3, pos := "law.go:30", after := #[], guard := none }) (v := ?_) rfl (by kernel_rfl) (by kernel_rfl) (by kernel_rfl) (fun _ _ _ h => h) (Or.inl ⟨by rfl, ?_⟩) (by assumption) ?_
      rotate_left
      · intro w hSw
        (try dsimp only at hSw)
        go_simp
        all_goals with_reducible rfl
      try simp only [Act.put, List.setIfInBounds_toArray, List.set_cons_zero, List.set_cons_succ]
      refine wpAnyH_take (i := 2) (oi := { dst := some 19, op := Go.Op.indexAddr 39 (Go.Operand.tmp 17) (Go.Operand.tmp 18), type := 0, pos := "law.go:30", after := #[{ on := 0, ground := Go.Ground.data }, { on := 1, ground := Go.Ground.data }], guard := none }) (v := ?_) rfl (by kernel_rfl) (by kernel_rfl) (by kernel_rfl) (fun _ _ _ h => h) (Or.inl ⟨by rfl, ?_⟩) (by assumption) ?_
      rotate_left
      · intro w hSw
        (try dsimp only at hSw)
        go_simp
        all_goals with_reducible rfl
      try simp only [Act.put, List.setIfInBounds_toArray, List.set_cons_zero, List.set_cons_succ]
      refine wpAnyH_take (i := 3) (oi := { dst := some 20, op := Go.Op.fieldAddr 45 (Go.Operand.tmp 19) 0, type := 0, pos := "law.go:30", after := #[{ on := 2, ground := Go.Ground.data }], guard := none }) (v := ?_) rfl (by kernel_rfl) (by kernel_rfl) (by kernel_rfl) (fun _ _ _ h => h) (Or.inl ⟨by rfl, ?_⟩) (by assumption) ?_
      rotate_left
      · intro w hSw
        (try dsimp only at hSw)
        go_simp
        all_goals with_reducible rfl
      try simp only [Act.put, List.setIfInBounds_toArray, List.set_cons_zero, List.set_cons_succ]
      refine wpAnyH_take (i := 4) (oi := { dst := some 21, op := Go.Op.load 3 (Go.Operand.tmp 20), type := 3, pos := "law.go:30", after := #[{ on := 3, ground := Go.Ground.data }], guard := none }) (v := ?_) rfl (by kernel_rfl) (by kernel_rfl) (by kernel_rfl) (fun _ _ _ h => h) (Or.inl ⟨by rfl, ?_⟩) (by assumption) ?_
      rotate_left
      · intro w hSw
        have hc := cell_keep0 c0 hSw
        go_simp
        all_goals with_reducible rfl
      try simp only [Act.put, List.setIfInBounds_toArray, List.set_cons_zero, List.set_cons_succ]
      refine wpAnyH_take (i := 5) (oi := { dst := some 22, op := Go.Op.move (Go.Operand.tmp 1), type := 39, pos := "law.go:30", after := #[], guard := none }) (v := ?_) rfl (by kernel_rfl) (by kernel_rfl) (by kernel_rfl) (fun _ _ _ h => h) (Or.inl ⟨by rfl, ?_⟩) (by assumption) ?_
      rotate_left
      · intro w hSw
        (try dsimp only at hSw)
        go_simp
        all_goals with_reducible rfl
      try simp only [Act.put, List.setIfInBounds_toArray, List.set_cons_zero, List.set_cons_succ]
      refine wpAnyH_take (i := 6) (oi := { dst := some 23, op := Go.Op.move (Go.Operand.tmp 5), type := 3, pos := "law.go:30", after := #[], guard := none }) (v := ?_) rfl (by kernel_rfl) (by kernel_rfl) (by kernel_rfl) (fun _ _ _ h => h) (Or.inl ⟨by rfl, ?_⟩) (by assumption) ?_
      rotate_left
      · intro w hSw
        (try dsimp only at hSw)
        go_simp
        all_goals with_reducible rfl
      try simp only [Act.put, List.setIfInBounds_toArray, List.set_cons_zero, List.set_cons_succ]
      refine wpAnyH_take (i := 7) (oi := { dst := some 24, op := Go.Op.indexAddr 39 (Go.Operand.tmp 22) (Go.Operand.tmp 23), type := 0, pos := "law.go:30", after := #[{ on := 5, ground := Go.Ground.data }, { on := 6, ground := Go.Ground.data }], guard := none }) (v := ?_) rfl (by kernel_rfl) (by kernel_rfl) (by kernel_rfl) (fun _ _ _ h => h) (Or.inl ⟨by rfl, ?_⟩) (by assumption) ?_
      rotate_left
      · intro w hSw
        (try dsimp only at hSw)
        go_simp
        all_goals with_reducible rfl
      try simp only [Act.put, List.setIfInBounds_toArray, List.set_cons_zero, List.set_cons_succ]
      refine wpAnyH_take (i := 8) (oi := { dst := some 25, op := Go.Op.fieldAddr 45 (Go.Operand.tmp 24) 0, type := 0, pos := "law.go:30", after := #[{ on := 7, ground := Go.Ground.data }], guard := none }) (v := ?_) rfl (by kernel_rfl) (by kernel_rfl) (by kernel_rfl) (fun _ _ _ h => h) (Or.inl ⟨by rfl, ?_⟩) (by assumption) ?_
      rotate_left
      · intro w hSw
        (try dsimp only at hSw)
        go_simp
        all_goals with_reducible rfl
      try simp only [Act.put, List.setIfInBounds_toArray, List.set_cons_zero, List.set_cons_succ]
      refine wpAnyH_take (i := 9) (oi := { dst := some 26, op := Go.Op.load 3 (Go.Operand.tmp 25), type := 3, pos := "law.go:30", after := #[{ on := 8, ground := Go.Ground.data }], guard := none }) (v := ?_) rfl (by kernel_rfl) (by kernel_rfl) (by kernel_rfl) (fun _ _ _ h => h) (Or.inl ⟨by rfl, ?_⟩) (by assumption) ?_
      rotate_left
      · intro w hSw
        have hc := cell_keep0 d0 hSw
        go_simp
        all_goals with_reducible rfl
      try simp only [Act.put, List.setIfInBounds_toArray, List.set_cons_zero, List.set_cons_succ]
      refine wpAnyH_take (i := 10) (oi := { dst := some 27, op := Go.Op.binOp Go.BinOp.neq 3 (Go.Operand.tmp 21) (Go.Operand.tmp 26) 3, type := 4, pos := "law.go:30", after := #[{ on := 4, ground := Go.Ground.data }, { on := 9, ground := Go.Ground.data }], guard := none }) (v := ?_) rfl (by kernel_rfl) (by kernel_rfl) (by kernel_rfl) (fun _ _ _ h => h) (Or.inl ⟨by rfl, ?_⟩) (by assumption) ?_
      rotate_left
      · intro w hSw
        (try dsimp only at hSw)
        go_simp
        all_goals with_reducible rfl
      try simp only [Act.put, List.setIfInBounds_toArray, List.set_cons_zero, List.set_cons_succ]
      refine wpAnyH_take (i := 11) (oi := { dst := some 28, op := Go.Op.move (Go.Operand.tmp 27), type := 4, pos := "law.go:30", after := #[{ on := 10, ground := Go.Ground.data }], guard := none }) (v := ?_) rfl (by kernel_rfl) (by kernel_rfl) (by kernel_rfl) (fun _ _ _ h => h) (Or.inl ⟨by rfl, ?_⟩) (by assumption) ?_
      rotate_left
      · intro w hSw
        (try dsimp only at hSw)
        go_simp
        all_goals with_reducible rfl
      try simp only [Act.put, List.setIfInBounds_toArray, List.set_cons_zero, List.set_cons_succ]
      refine wpAnyH_take (i := 12) (oi := { dst := some 29, op := Go.Op.move (Go.Operand.tmp 0), type := 39, pos := "law.go:30", after := #[{ on := 11, ground := Go.Ground.guard }], guard := some (11, false) }) (v := ?_) rfl (by kernel_rfl) (by kernel_rfl) (by kernel_rfl) (fun _ _ _ h => h) (Or.inl ⟨by rfl, ?_⟩) (by assumption) ?_
      rotate_left
      · intro w hSw
        (try dsimp only at hSw)
        go_simp
        all_goals with_reducible rfl
      try simp only [Act.put, List.setIfInBounds_toArray, List.set_cons_zero, List.set_cons_succ]
      refine wpAnyH_take (i := 13) (oi := { dst := some 30, op := Go.Op.move (Go.Operand.tmp 5), type := 3, pos := "law.go:30", after := #[{ on := 11, ground := Go.Ground.guard }], guard := some (11, false) }) (v := ?_) rfl (by kernel_rfl) (by kernel_rfl) (by kernel_rfl) (fun _ _ _ h => h) (Or.inl ⟨by rfl, ?_⟩) (by assumption) ?_
      rotate_left
      · intro w hSw
        (try dsimp only at hSw)
        go_simp
        all_goals with_reducible rfl
      try simp only [Act.put, List.setIfInBounds_toArray, List.set_cons_zero, List.set_cons_succ]
      refine wpAnyH_take (i := 14) (oi := { dst := some 31, op := Go.Op.indexAddr 39 (Go.Operand.tmp 29) (Go.Operand.tmp 30), type := 0, pos := "law.go:30", after := #[{ on := 12, ground := Go.Ground.data }, { on := 13, ground := Go.Ground.data }, { on := 11, ground := Go.Ground.guard }], guard := some (11, false) }) (v := ?_) rfl (by kernel_rfl) (by kernel_rfl) (by kernel_rfl) (fun _ _ _ h => h) (Or.inl ⟨by rfl, ?_⟩) (by assumption) ?_
      rotate_left
      · intro w hSw
        (try dsimp only at hSw)
        go_simp
        all_goals with_reducible rfl
      try simp only [Act.put, List.setIfInBounds_toArray, List.set_cons_zero, List.set_cons_succ]
      refine wpAnyH_take (i := 15) (oi := { dst := some 32, op := Go.Op.fieldAddr 45 (Go.Operand.tmp 31) 1, type := 0, pos := "law.go:30", after := #[{ on := 14, ground := Go.Ground.data }, { on := 11, ground := Go.Ground.guard }], guard := some (11, false) }) (v := ?_) rfl (by kernel_rfl) (by kernel_rfl) (by kernel_rfl) (fun _ _ _ h => h) (Or.inl ⟨by rfl, ?_⟩) (by assumption) ?_
      rotate_left
      · intro w hSw
        (try dsimp only at hSw)
        go_simp
        all_goals with_reducible rfl
      try simp only [Act.put, List.setIfInBounds_toArray, List.set_cons_zero, List.set_cons_succ]
      refine wpAnyH_take (i := 16) (oi := { dst := some 33, op := Go.Op.load 4 (Go.Operand.tmp 32), type := 4, pos := "law.go:30", after := #[{ on := 15, ground := Go.Ground.data }, { on := 11, ground := Go.Ground.guard }], guard := some (11, false) }) (v := ?_) rfl (by kernel_rfl) (by kernel_rfl) (by kernel_rfl) (fun _ _ _ h => h) (Or.inl ⟨by rfl, ?_⟩) (by assumption) ?_
      rotate_left
      · intro w hSw
        have hc := cell_keep0 c1 hSw
        go_simp
        all_goals with_reducible rfl
      try simp only [Act.put, List.setIfInBounds_toArray, List.set_cons_zero, List.set_cons_succ]
      refine wpAnyH_take (i := 17) (oi := { dst := some 34, op := Go.Op.move (Go.Operand.tmp 1), type := 39, pos := "law.go:30", after := #[{ on := 11, ground := Go.Ground.guard }], guard := some (11, false) }) (v := ?_) rfl (by kernel_rfl) (by kernel_rfl) (by kernel_rfl) (fun _ _ _ h => h) (Or.inl ⟨by rfl, ?_⟩) (by assumption) ?_
      rotate_left
      · intro w hSw
        (try dsimp only at hSw)
        go_simp
        all_goals with_reducible rfl
      try simp only [Act.put, List.setIfInBounds_toArray, List.set_cons_zero, List.set_cons_succ]
      refine wpAnyH_take (i := 18) (oi := { dst := some 35, op := Go.Op.move (Go.Operand.tmp 5), type := 3, pos := "law.go:30", after := #[{ on := 11, ground := Go.Ground.guard }], guard := some (11, false) }) (v := ?_) rfl (by kernel_rfl) (by kernel_rfl) (by kernel_rfl) (fun _ _ _ h => h) (Or.inl ⟨by rfl, ?_⟩) (by assumption) ?_
      rotate_left
      · intro w hSw
        (try dsimp only at hSw)
        go_simp
        all_goals with_reducible rfl
      try simp only [Act.put, List.setIfInBounds_toArray, List.set_cons_zero, List.set_cons_succ]
      refine wpAnyH_take (i := 19) (oi := { dst := some 36, op := Go.Op.indexAddr 39 (Go.Operand.tmp 34) (Go.Operand.tmp 35), type := 0, pos := "law.go:30", after := #[{ on := 17, ground := Go.Ground.data }, { on := 18, ground := Go.Ground.data }, { on := 11, ground := Go.Ground.guard }], guard := some (11, false) }) (v := ?_) rfl (by kernel_rfl) (by kernel_rfl) (by kernel_rfl) (fun _ _ _ h => h) (Or.inl ⟨by rfl, ?_⟩) (by assumption) ?_
      rotate_left
      · intro w hSw
        (try dsimp only at hSw)
        go_simp
        all_goals with_reducible rfl
      try simp only [Act.put, List.setIfInBounds_toArray, List.set_cons_zero, List.set_cons_succ]
      refine wpAnyH_take (i := 20) (oi := { dst := some 37, op := Go.Op.fieldAddr 45 (Go.Operand.tmp 36) 1, type := 0, pos := "law.go:30", after := #[{ on := 19, ground := Go.Ground.data }, { on := 11, ground := Go.Ground.guard }], guard := some (11, false) }) (v := ?_) rfl (by kernel_rfl) (by kernel_rfl) (by kernel_rfl) (fun _ _ _ h => h) (Or.inl ⟨by rfl, ?_⟩) (by assumption) ?_
      rotate_left
      · intro w hSw
        (try dsimp only at hSw)
        go_simp
        all_goals with_reducible rfl
      try simp only [Act.put, List.setIfInBounds_toArray, List.set_cons_zero, List.set_cons_succ]
      refine wpAnyH_take (i := 21) (oi := { dst := some 38, op := Go.Op.load 4 (Go.Operand.tmp 37), type := 4, pos := "law.go:30", after := #[{ on := 20, ground := Go.Ground.data }, { on := 11, ground := Go.Ground.guard }], guard := some (11, false) }) (v := ?_) rfl (by kernel_rfl) (by kernel_rfl) (by kernel_rfl) (fun _ _ _ h => h) (Or.inl ⟨by rfl, ?_⟩) (by assumption) ?_
      rotate_left
      · intro w hSw
        have hc := cell_keep0 d1 hSw
        go_simp
        all_goals with_reducible rfl
      try simp only [Act.put, List.setIfInBounds_toArray, List.set_cons_zero, List.set_cons_succ]
      refine wpAnyH_take (i := 22) (oi := { dst := some 39, op := Go.Op.binOp Go.BinOp.neq 4 (Go.Operand.tmp 33) (Go.Operand.tmp 38) 4, type := 4, pos := "law.go:30", after := #[{ on := 16, ground := Go.Ground.data }, { on := 21, ground := Go.Ground.data }, { on := 11, ground := Go.Ground.guard }], guard := some (11, false) }) (v := ?_) rfl (by kernel_rfl) (by kernel_rfl) (by kernel_rfl) (fun _ _ _ h => h) (Or.inl ⟨by rfl, ?_⟩) (by assumption) ?_
      rotate_left
      · intro w hSw
        (try dsimp only at hSw)
        go_simp
        all_goals with_reducible rfl
      try simp only [Act.put, List.setIfInBounds_toArray, List.set_cons_zero, List.set_cons_succ]
      refine wpAnyH_take (i := 23) (oi := { dst := some 40, op := Go.Op.pick (Go.Operand.tmp 28) (Go.Operand.const (Go.Value.bool true)) (Go.Operand.tmp 39), type := 4, pos := "law.go:30", after := #[{ on := 11, ground := Go.Ground.data }, { on := 22, ground := Go.Ground.data }], guard := none }) (v := ?_) rfl (by kernel_rfl) (by kernel_rfl) (by kernel_rfl) (fun _ _ _ h => h) (Or.inl ⟨by rfl, ?_⟩) (by assumption) ?_
      rotate_left
      · intro w hSw
        (try dsimp only at hSw)
        go_simp
        all_goals with_reducible rfl
      try simp only [Act.put, List.setIfInBounds_toArray, List.set_cons_zero, List.set_cons_succ]
      refine wpAnyH_take (i := 24) (oi := { dst := some 41, op := Go.Op.move (Go.Operand.tmp 40), type := 4, pos := "law.go:30", after := #[{ on := 23, ground := Go.Ground.data }, { on := 11, ground := Go.Ground.chain }], guard := none }) (v := ?_) rfl (by kernel_rfl) (by kernel_rfl) (by kernel_rfl) (fun _ _ _ h => h) (Or.inl ⟨by rfl, ?_⟩) (by assumption) ?_
      rotate_left
      · intro w hSw
        (try dsimp only at hSw)
        go_simp
        all_goals with_reducible rfl
      try simp only [Act.put, List.setIfInBounds_toArray, List.set_cons_zero, List.set_cons_succ]
      refine wpAnyH_take (i := 25) (oi := { dst := some 42, op := Go.Op.move (Go.Operand.tmp 0), type := 39, pos := "law.go:30", after := #[{ on := 24, ground := Go.Ground.guard }], guard := some (24, false) }) (v := ?_) rfl (by kernel_rfl) (by kernel_rfl) (by kernel_rfl) (fun _ _ _ h => h) (Or.inl ⟨by rfl, ?_⟩) (by assumption) ?_
      rotate_left
      · intro w hSw
        (try dsimp only at hSw)
        go_simp
        all_goals with_reducible rfl
      try simp only [Act.put, List.setIfInBounds_toArray, List.set_cons_zero, List.set_cons_succ]
      refine wpAnyH_take (i := 26) (oi := { dst := some 43, op := Go.Op.move (Go.Operand.tmp 5), type := 3, pos := "law.go:30", after := #[{ on := 24, ground := Go.Ground.guard }], guard := some (24, false) }) (v := ?_) rfl (by kernel_rfl) (by kernel_rfl) (by kernel_rfl) (fun _ _ _ h => h) (Or.inl ⟨by rfl, ?_⟩) (by assumption) ?_
      rotate_left
      · intro w hSw
        (try dsimp only at hSw)
        go_simp
        all_goals with_reducible rfl
      try simp only [Act.put, List.setIfInBounds_toArray, List.set_cons_zero, List.set_cons_succ]
      refine wpAnyH_take (i := 27) (oi := { dst := some 44, op := Go.Op.indexAddr 39 (Go.Operand.tmp 42) (Go.Operand.tmp 43), type := 0, pos := "law.go:30", after := #[{ on := 25, ground := Go.Ground.data }, { on := 26, ground := Go.Ground.data }, { on := 24, ground := Go.Ground.guard }], guard := some (24, false) }) (v := ?_) rfl (by kernel_rfl) (by kernel_rfl) (by kernel_rfl) (fun _ _ _ h => h) (Or.inl ⟨by rfl, ?_⟩) (by assumption) ?_
      rotate_left
      · intro w hSw
        (try dsimp only at hSw)
        go_simp
        all_goals with_reducible rfl
      try simp only [Act.put, List.setIfInBounds_toArray, List.set_cons_zero, List.set_cons_succ]
      refine wpAnyH_take (i := 28) (oi := { dst := some 45, op := Go.Op.fieldAddr 45 (Go.Operand.tmp 44) 2, type := 0, pos := "law.go:30", after := #[{ on := 27, ground := Go.Ground.data }, { on := 24, ground := Go.Ground.guard }], guard := some (24, false) }) (v := ?_) rfl (by kernel_rfl) (by kernel_rfl) (by kernel_rfl) (fun _ _ _ h => h) (Or.inl ⟨by rfl, ?_⟩) (by assumption) ?_
      rotate_left
      · intro w hSw
        (try dsimp only at hSw)
        go_simp
        all_goals with_reducible rfl
      try simp only [Act.put, List.setIfInBounds_toArray, List.set_cons_zero, List.set_cons_succ]
      refine wpAnyH_take (i := 29) (oi := { dst := some 46, op := Go.Op.load 26 (Go.Operand.tmp 45), type := 26, pos := "law.go:30", after := #[{ on := 28, ground := Go.Ground.data }, { on := 24, ground := Go.Ground.guard }], guard := some (24, false) }) (v := ?_) rfl (by kernel_rfl) (by kernel_rfl) (by kernel_rfl) (fun _ _ _ h => h) (Or.inl ⟨by rfl, ?_⟩) (by assumption) ?_
      rotate_left
      · intro w hSw
        have hc2 := cell_keep0 c2 hSw
        have hc3 := cell_keep0 c3 hSw
        have hc4 := cell_keep0 c4 hSw
        have hc5 := cell_keep0 c5 hSw
        have hc6 := cell_keep0 c6 hSw
        go_simp
        all_goals with_reducible rfl
      try simp only [Act.put, List.setIfInBounds_toArray, List.set_cons_zero, List.set_cons_succ]
      refine wpAnyH_take (i := 30) (oi := { dst := some 47, op := Go.Op.move (Go.Operand.tmp 1), type := 39, pos := "law.go:30", after := #[{ on := 24, ground := Go.Ground.guard }], guard := some (24, false) }) (v := ?_) rfl (by kernel_rfl) (by kernel_rfl) (by kernel_rfl) (fun _ _ _ h => h) (Or.inl ⟨by rfl, ?_⟩) (by assumption) ?_
      rotate_left
      · intro w hSw
        (try dsimp only at hSw)
        go_simp
        all_goals with_reducible rfl
      try simp only [Act.put, List.setIfInBounds_toArray, List.set_cons_zero, List.set_cons_succ]
      refine wpAnyH_take (i := 31) (oi := { dst := some 48, op := Go.Op.move (Go.Operand.tmp 5), type := 3, pos := "law.go:30", after := #[{ on := 24, ground := Go.Ground.guard }], guard := some (24, false) }) (v := ?_) rfl (by kernel_rfl) (by kernel_rfl) (by kernel_rfl) (fun _ _ _ h => h) (Or.inl ⟨by rfl, ?_⟩) (by assumption) ?_
      rotate_left
      · intro w hSw
        (try dsimp only at hSw)
        go_simp
        all_goals with_reducible rfl
      try simp only [Act.put, List.setIfInBounds_toArray, List.set_cons_zero, List.set_cons_succ]
      refine wpAnyH_take (i := 32) (oi := { dst := some 49, op := Go.Op.indexAddr 39 (Go.Operand.tmp 47) (Go.Operand.tmp 48), type := 0, pos := "law.go:30", after := #[{ on := 30, ground := Go.Ground.data }, { on := 31, ground := Go.Ground.data }, { on := 24, ground := Go.Ground.guard }], guard := some (24, false) }) (v := ?_) rfl (by kernel_rfl) (by kernel_rfl) (by kernel_rfl) (fun _ _ _ h => h) (Or.inl ⟨by rfl, ?_⟩) (by assumption) ?_
      rotate_left
      · intro w hSw
        (try dsimp only at hSw)
        go_simp
        all_goals with_reducible rfl
      try simp only [Act.put, List.setIfInBounds_toArray, List.set_cons_zero, List.set_cons_succ]
      refine wpAnyH_take (i := 33) (oi := { dst := some 50, op := Go.Op.fieldAddr 45 (Go.Operand.tmp 49) 2, type := 0, pos := "law.go:30", after := #[{ on := 32, ground := Go.Ground.data }, { on := 24, ground := Go.Ground.guard }], guard := some (24, false) }) (v := ?_) rfl (by kernel_rfl) (by kernel_rfl) (by kernel_rfl) (fun _ _ _ h => h) (Or.inl ⟨by rfl, ?_⟩) (by assumption) ?_
      rotate_left
      · intro w hSw
        (try dsimp only at hSw)
        go_simp
        all_goals with_reducible rfl
      try simp only [Act.put, List.setIfInBounds_toArray, List.set_cons_zero, List.set_cons_succ]
      refine wpAnyH_take (i := 34) (oi := { dst := some 51, op := Go.Op.load 26 (Go.Operand.tmp 50), type := 26, pos := "law.go:30", after := #[{ on := 33, ground := Go.Ground.data }, { on := 24, ground := Go.Ground.guard }], guard := some (24, false) }) (v := ?_) rfl (by kernel_rfl) (by kernel_rfl) (by kernel_rfl) (fun _ _ _ h => h) (Or.inl ⟨by rfl, ?_⟩) (by assumption) ?_
      rotate_left
      · intro w hSw
        have hc2 := cell_keep0 d2 hSw
        have hc3 := cell_keep0 d3 hSw
        have hc4 := cell_keep0 d4 hSw
        have hc5 := cell_keep0 d5 hSw
        have hc6 := cell_keep0 d6 hSw
        go_simp
        all_goals with_reducible rfl
      try simp only [Act.put, List.setIfInBounds_toArray, List.set_cons_zero, List.set_cons_succ]
      refine wpAnyH_take (i := 35) (oi := { dst := some 52, op := Go.Op.binOp Go.BinOp.neq 26 (Go.Operand.tmp 46) (Go.Operand.tmp 51) 26, type := 4, pos := "law.go:30", after := #[{ on := 29, ground := Go.Ground.data }, { on := 34, ground := Go.Ground.data }, { on := 24, ground := Go.Ground.guard }], guard := some (24, false) }) (v := ?_) rfl (by kernel_rfl) (by kernel_rfl) (by kernel_rfl) (fun _ _ _ h => h) (Or.inl ⟨by rfl, ?_⟩) (by assumption) ?_
      rotate_left
      · intro w hSw
        have hq := fun (w : World) => call_neq q.c.op q.c.key q.c.val q.c.hi q.c.lim w
        go_simp
        all_goals with_reducible rfl
      try simp only [Act.put, List.setIfInBounds_toArray, List.set_cons_zero, List.set_cons_succ]
      refine wpAnyH_take (i := 36) (oi := { dst := some 53, op := Go.Op.pick (Go.Operand.tmp 41) (Go.Operand.const (Go.Value.bool true)) (Go.Operand.tmp 52), type := 4, pos := "law.go:30", after := #[{ on := 24, ground := Go.Ground.data }, { on := 35, ground := Go.Ground.data }], guard := none }) (v := ?_) rfl (by kernel_rfl) (by kernel_rfl) (by kernel_rfl) (fun _ _ _ h => h) (Or.inl ⟨by rfl, ?_⟩) (by assumption) ?_
      rotate_left
      · intro w hSw
        (try dsimp only at hSw)
        go_simp
        all_goals with_reducible rfl
      try simp only [Act.put, List.setIfInBounds_toArray, List.set_cons_zero, List.set_cons_succ]
      refine wpAnyH_take (i := 37) (oi := { dst := some 54, op := Go.Op.move (Go.Operand.tmp 53), type := 4, pos := "law.go:30", after := #[{ on := 36, ground := Go.Ground.data }, { on := 24, ground := Go.Ground.chain }], guard := none }) (v := ?_) rfl (by kernel_rfl) (by kernel_rfl) (by kernel_rfl) (fun _ _ _ h => h) (Or.inl ⟨by rfl, ?_⟩) (by assumption) ?_
      rotate_left
      · intro w hSw
        (try dsimp only at hSw)
        go_simp
        all_goals with_reducible rfl
      try simp only [Act.put, List.setIfInBounds_toArray, List.set_cons_zero, List.set_cons_succ]
      refine wpAnyH_take (i := 38) (oi := { dst := some 55, op := Go.Op.move (Go.Operand.tmp 0), type := 39, pos := "law.go:30", after := #[{ on := 37, ground := Go.Ground.guard }], guard := some (37, false) }) (v := ?_) rfl (by kernel_rfl) (by kernel_rfl) (by kernel_rfl) (fun _ _ _ h => h) (Or.inl ⟨by rfl, ?_⟩) (by assumption) ?_
      rotate_left
      · intro w hSw
        (try dsimp only at hSw)
        go_simp
        all_goals with_reducible rfl
      try simp only [Act.put, List.setIfInBounds_toArray, List.set_cons_zero, List.set_cons_succ]
      refine wpAnyH_take (i := 39) (oi := { dst := some 56, op := Go.Op.move (Go.Operand.tmp 5), type := 3, pos := "law.go:30", after := #[{ on := 37, ground := Go.Ground.guard }], guard := some (37, false) }) (v := ?_) rfl (by kernel_rfl) (by kernel_rfl) (by kernel_rfl) (fun _ _ _ h => h) (Or.inl ⟨by rfl, ?_⟩) (by assumption) ?_
      rotate_left
      · intro w hSw
        (try dsimp only at hSw)
        go_simp
        all_goals with_reducible rfl
      try simp only [Act.put, List.setIfInBounds_toArray, List.set_cons_zero, List.set_cons_succ]
      refine wpAnyH_take (i := 40) (oi := { dst := some 57, op := Go.Op.indexAddr 39 (Go.Operand.tmp 55) (Go.Operand.tmp 56), type := 0, pos := "law.go:30", after := #[{ on := 38, ground := Go.Ground.data }, { on := 39, ground := Go.Ground.data }, { on := 37, ground := Go.Ground.guard }], guard := some (37, false) }) (v := ?_) rfl (by kernel_rfl) (by kernel_rfl) (by kernel_rfl) (fun _ _ _ h => h) (Or.inl ⟨by rfl, ?_⟩) (by assumption) ?_
      rotate_left
      · intro w hSw
        (try dsimp only at hSw)
        go_simp
        all_goals with_reducible rfl
      try simp only [Act.put, List.setIfInBounds_toArray, List.set_cons_zero, List.set_cons_succ]
      refine wpAnyH_take (i := 41) (oi := { dst := some 58, op := Go.Op.fieldAddr 45 (Go.Operand.tmp 57) 3, type := 0, pos := "law.go:30", after := #[{ on := 40, ground := Go.Ground.data }, { on := 37, ground := Go.Ground.guard }], guard := some (37, false) }) (v := ?_) rfl (by kernel_rfl) (by kernel_rfl) (by kernel_rfl) (fun _ _ _ h => h) (Or.inl ⟨by rfl, ?_⟩) (by assumption) ?_
      rotate_left
      · intro w hSw
        (try dsimp only at hSw)
        go_simp
        all_goals with_reducible rfl
      try simp only [Act.put, List.setIfInBounds_toArray, List.set_cons_zero, List.set_cons_succ]
      refine wpAnyH_take (i := 42) (oi := { dst := some 59, op := Go.Op.load 33 (Go.Operand.tmp 58), type := 33, pos := "law.go:30", after := #[{ on := 41, ground := Go.Ground.data }, { on := 37, ground := Go.Ground.guard }], guard := some (37, false) }) (v := ?_) rfl (by kernel_rfl) (by kernel_rfl) (by kernel_rfl) (fun _ _ _ h => h) (Or.inl ⟨by rfl, ?_⟩) (by assumption) ?_
      rotate_left
      · intro w hSw
        have hc7 := cell_keep0 c7 hSw
        have hc8 := cell_keep0 c8 hSw
        have hc9 := cell_keep0 c9 hSw
        have hc10 := cell_keep0 c10 hSw
        have hc11 := cell_keep0 c11 hSw
        go_simp
        all_goals with_reducible rfl
      try simp only [Act.put, List.setIfInBounds_toArray, List.set_cons_zero, List.set_cons_succ]
      refine wpAnyH_take (i := 43) (oi := { dst := some 60, op := Go.Op.move (Go.Operand.tmp 1), type := 39, pos := "law.go:30", after := #[{ on := 37, ground := Go.Ground.guard }], guard := some (37, false) }) (v := ?_) rfl (by kernel_rfl) (by kernel_rfl) (by kernel_rfl) (fun _ _ _ h => h) (Or.inl ⟨by rfl, ?_⟩) (by assumption) ?_
      rotate_left
      · intro w hSw
        (try dsimp only at hSw)
        go_simp
        all_goals with_reducible rfl
      try simp only [Act.put, List.setIfInBounds_toArray, List.set_cons_zero, List.set_cons_succ]
      refine wpAnyH_take (i := 44) (oi := { dst := some 61, op := Go.Op.move (Go.Operand.tmp 5), type := 3, pos := "law.go:30", after := #[{ on := 37, ground := Go.Ground.guard }], guard := some (37, false) }) (v := ?_) rfl (by kernel_rfl) (by kernel_rfl) (by kernel_rfl) (fun _ _ _ h => h) (Or.inl ⟨by rfl, ?_⟩) (by assumption) ?_
      rotate_left
      · intro w hSw
        (try dsimp only at hSw)
        go_simp
        all_goals with_reducible rfl
      try simp only [Act.put, List.setIfInBounds_toArray, List.set_cons_zero, List.set_cons_succ]
      refine wpAnyH_take (i := 45) (oi := { dst := some 62, op := Go.Op.indexAddr 39 (Go.Operand.tmp 60) (Go.Operand.tmp 61), type := 0, pos := "law.go:30", after := #[{ on := 43, ground := Go.Ground.data }, { on := 44, ground := Go.Ground.data }, { on := 37, ground := Go.Ground.guard }], guard := some (37, false) }) (v := ?_) rfl (by kernel_rfl) (by kernel_rfl) (by kernel_rfl) (fun _ _ _ h => h) (Or.inl ⟨by rfl, ?_⟩) (by assumption) ?_
      rotate_left
      · intro w hSw
        (try dsimp only at hSw)
        go_simp
        all_goals with_reducible rfl
      try simp only [Act.put, List.setIfInBounds_toArray, List.set_cons_zero, List.set_cons_succ]
      refine wpAnyH_take (i := 46) (oi := { dst := some 63, op := Go.Op.fieldAddr 45 (Go.Operand.tmp 62) 3, type := 0, pos := "law.go:30", after := #[{ on := 45, ground := Go.Ground.data }, { on := 37, ground := Go.Ground.guard }], guard := some (37, false) }) (v := ?_) rfl (by kernel_rfl) (by kernel_rfl) (by kernel_rfl) (fun _ _ _ h => h) (Or.inl ⟨by rfl, ?_⟩) (by assumption) ?_
      rotate_left
      · intro w hSw
        (try dsimp only at hSw)
        go_simp
        all_goals with_reducible rfl
      try simp only [Act.put, List.setIfInBounds_toArray, List.set_cons_zero, List.set_cons_succ]
      refine wpAnyH_take (i := 47) (oi := { dst := some 64, op := Go.Op.load 33 (Go.Operand.tmp 63), type := 33, pos := "law.go:30", after := #[{ on := 46, ground := Go.Ground.data }, { on := 37, ground := Go.Ground.guard }], guard := some (37, false) }) (v := ?_) rfl (by kernel_rfl) (by kernel_rfl) (by kernel_rfl) (fun _ _ _ h => h) (Or.inl ⟨by rfl, ?_⟩) (by assumption) ?_
      rotate_left
      · intro w hSw
        have hc7 := cell_keep0 d7 hSw
        have hc8 := cell_keep0 d8 hSw
        have hc9 := cell_keep0 d9 hSw
        have hc10 := cell_keep0 d10 hSw
        have hc11 := cell_keep0 d11 hSw
        go_simp
        all_goals with_reducible rfl
      try simp only [Act.put, List.setIfInBounds_toArray, List.set_cons_zero, List.set_cons_succ]
      refine wpAnyH_ready (rs := [48]) (by kernel_rfl) (by simp) ?_
      refine AllReadyH.cons (o := { dst := some 65, op := Go.Op.call { callee := Go.Callee.value (Go.Operand.func 12), args := #[Go.Operand.tmp 59, Go.Operand.tmp 64], argTypes := #[33, 33] }, type := 4, pos := "law.go:30", after := #[{ on := 42, ground := Go.Ground.data }, { on := 47, ground := Go.Ground.data }, { on := 37, ground := Go.Ground.chain }, { on := 37, ground := Go.Ground.guard }], guard := some (37, false) }) rfl (fun K hK => ?_) AllReadyH.nil
      go_simp
      refine (KS.out _ hHeld).mono ?_
      rintro r z ⟨rfl, hk⟩
      try simp only []
      refine hK.out _ _ (hHeld.trans hk (by simp)) (fun hHeld => ?_)
      clear hK K
      try simp only [Act.put, List.setIfInBounds_toArray, List.set_cons_zero, List.set_cons_succ]
      refine wpAnyH_take (i := 49) (oi := { dst := some 66, op := Go.Op.unOp Go.UnOp.not 4 (Go.Operand.tmp 65), type := 4, pos := "law.go:30", after := #[{ on := 48, ground := Go.Ground.data }, { on := 37, ground := Go.Ground.guard }], guard := some (37, false) }) (v := ?_) rfl (by kernel_rfl) (by kernel_rfl) (by kernel_rfl) (fun _ _ _ h => h) (Or.inl ⟨by rfl, ?_⟩) (by assumption) ?_
      rotate_left
      · intro w hSw
        (try dsimp only at hSw)
        go_simp
        all_goals with_reducible rfl
      try simp only [Act.put, List.setIfInBounds_toArray, List.set_cons_zero, List.set_cons_succ]
      refine wpAnyH_take (i := 50) (oi := { dst := some 67, op := Go.Op.pick (Go.Operand.tmp 54) (Go.Operand.const (Go.Value.bool true)) (Go.Operand.tmp 66), type := 4, pos := "law.go:30", after := #[{ on := 37, ground := Go.Ground.data }, { on := 49, ground := Go.Ground.data }], guard := none }) (v := ?_) rfl (by kernel_rfl) (by kernel_rfl) (by kernel_rfl) (fun _ _ _ h => h) (Or.inl ⟨by rfl, ?_⟩) (by assumption) ?_
      rotate_left
      · intro w hSw
        (try dsimp only at hSw)
        go_simp
        all_goals with_reducible rfl
      try simp only [Act.put, List.setIfInBounds_toArray, List.set_cons_zero, List.set_cons_succ]
      refine wpAnyH_done (by kernel_rfl) ?_ _
      have HKF := Lib.hid hHeld
      clear hHeld KS
      go_wp2_with fail
      go_roundg (a.length - (i + 1))
      case measure => have := HLT.out; omega
      case rel => exact ⟨i + 1, HLT.out, rfl, by go_num, HK.out.trans HKF.out (by simp)⟩
    · have hz : ¬ ((i : Nat) : Int) < ((a.length : Nat) : Int) := by omega
      clear hlt
      go_wp2_with fail
      go_ret
      exact ⟨rfl, HK.out⟩
/-- Both readers tell this. -/
theorem EvsR.ins {base : Nat} {w : World} {A : Option Addr} {n : Nat} {evs : List EvX} (h : EvsR base w (.slice A evs.length n) evs) : ElAt evL w A evs ∧ ∀ x ∈ evs, ElAt pairC w x.a.pA x.a.ps := ⟨ElAt.of_own h.own rfl, fun x hx => ElAt.of_own (h.rows x hx) rfl⟩
set_option maxHeartbeats 4000000 in
theorem text_histories (s : List UInt8) (w : World) (ht : TabsOk w) : Calls Tryd.prog 4 #[.string ⟨s.toArray⟩] w (TrueOut w) := by
  have KV := Lib.hid (fun (W : World) (hk : Keep [] w W) => law35_lives W (ht.tab.keep hk))
  unfold TrueOut at KV
  by_cases h4 : 4000 < s.length
  · have hz : (4000 : Int) < ((s.length : Nat) : Int) := by omega
    clear h4 ht
    go_enter Tryd.func4, Tryd.ntmps4
    go_wp2_with fail
    refine (KV.out _ (Keep.refl _ _)).mono ?_
    rintro r x ⟨rfl, hk⟩
    have HK := Lib.hid hk
    clear hk
    go_wp2_with fail
    go_ret
    exact ⟨rfl, HK.out⟩
  have hz4 : ¬ (4000 : Int) < ((s.length : Nat) : Int) := by omega
  have HS4 : Hid (s.length ≤ 4000) := Lib.hid (by omega)
  have KH := Lib.hid (text_readHistory s w (by omega) ht)
  have KR := Lib.hid (fun (W : World) => ref35_readHistory s W (by omega))
  unfold ReadHOut at KH KR
  clear h4 ht
  cases hr : readH s with
  | error k =>
    rw [hr] at KH KR
    have hnn : (k == k) = true := beq_self_eq_true k
    have KS := Lib.hid (fun (W : World) => law32_same W none none 0 0 [] [] (fun h => absurd h (Nat.lt_irrefl 0)) (fun h => absurd h (Nat.lt_irrefl 0)) (fun x hx => by cases hx) (fun x hx => by cases hx) rfl (Nat.zero_le _) (fun x hx => by cases hx))
    unfold SameOut at KS
    rw [show ([] : List EvX).length = 0 from rfl] at KS
    clear hr
    go_enter Tryd.func4, Tryd.ntmps4
    go_wp2_with fail
    refine KH.out.mono ?_
    rintro r w1 ⟨hk, rfl⟩
    have HK1 := Lib.hid hk
    clear hk KH hz4
    go_wp2_with fail
    refine (KR.out _).mono ?_
    rintro r w2 ⟨hk, rfl⟩
    have HK2 := Lib.hid (HK1.out.trans hk (by simp))
    clear hk KR HK1
    go_wp2_with fail
    refine (KS.out _).mono ?_
    rintro r w3 ⟨rfl, hk⟩
    have HK3 := Lib.hid (HK2.out.trans hk (by simp))
    clear hk KS HK2
    go_wp2_with fail
    refine (KV.out _ HK3.out).mono ?_
    rintro r w4 ⟨rfl, hk⟩
    have HK4 := Lib.hid (HK3.out.trans hk (by simp))
    clear hk
    go_wp2_with fail
    go_ret
    exact ⟨rfl, HK4.out⟩
  | ok es =>
    rw [hr] at KH KR
    obtain ⟨_, hfit, hle⟩ := readH_back hr
    have HFIT := Lib.hid hfit
    have HLE := Lib.hid hle
    clear hr hfit hle
    go_enter Tryd.func4, Tryd.ntmps4
    go_wp2_with fail
    refine KH.out.mono ?_
    rintro r w1 ⟨hk, A1, n1, e1, rfl, hev1, hm1⟩
    have HK1 := Lib.hid hk
    have HV1 := Lib.hid hev1
    have HM1 := Lib.hid hm1
    clear hk KH hz4 hev1 hm1
    go_wp2_with fail
    refine (KR.out _).mono ?_
    rintro r w2 ⟨hk, A2, n2, e2, rfl, hev2, hm2⟩
    have HK2 := Lib.hid (HK1.out.trans hk (by simp))
    have hev1 := HV1.out.keep hk (fun b hb => by cases hb)
    have KS := Lib.hid (law32_same w2 A1 A2 n1 n2 e1 e2 hev1.ins.1 hev2.ins.1 hev1.ins.2 hev2.ins.2 (HM1.out.trans hm2.symm) (by
      have h1 := congrArg List.length HM1.out
      rw [List.length_map, List.length_map] at h1
      have := HLE.out
      have := HS4.out
      omega) (fun x hx => by
      have h1 : bareE x ∈ es.map bareE := by rw [← HM1.out]; exact List.mem_map_of_mem hx
      obtain ⟨y, hy, hye⟩ := List.mem_map.1 h1
      have g6 := congrArg (fun e => e.a.ps.length) hye
      dsimp only [bareE] at g6
      have := (HFIT.out y hy).2
      have := HS4.out
      omega))
    unfold SameOut at KS
    clear hk KR HK1 hev1 hev2 hm2
    go_wp2_with fail
    refine KS.out.mono ?_
    rintro r w3 ⟨rfl, hk⟩
    have HK3 := Lib.hid (HK2.out.trans hk (by simp))
    clear hk KS HK2
    go_wp2_with fail
    refine (KV.out _ HK3.out).mono ?_
    rintro r w4 ⟨rfl, hk⟩
    have HK4 := Lib.hid (HK3.out.trans hk (by simp))
    clear hk
    go_wp2_with fail
    go_ret
    exact ⟨rfl, HK4.out⟩
end Go.Proofs.YtpbbpannimlldaaDoor
