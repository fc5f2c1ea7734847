/- The reference's text of an answer: ref35.Answer by its contract. Conditions: numbers are int64, at most 200 pairs. -/
import Derived.Test.YtnhkjfknhponkaaDoorTx5
namespace Go.Proofs.YtnhkjfknhponkaaDoor
open Go.RowKit

theorem pairsB_take {l : List (Int × Int)} {k : Nat} (h : k < l.length) : pairsB (l.take (k + 1)) = pairsB (l.take k) ++ 32 :: pairB (l.getD k (0, 0)) := by
  unfold pairsB
  rw [take_snoc l (0, 0) h, List.flatMap_append]
  simp
theorem ansZ_eq (a : AnsX) : ansZ a = kindB a.kind ++ (if a.kind = 1 then numsB [a.key, a.val] else if a.kind = 2 then numsB [a.n] else if a.kind = 3 then pairsB a.ps else []) := by
  unfold ansZ
  by_cases h : kindB a.kind = []
  · rw [if_pos h, h]
    by_cases h1 : 0 ≤ a.kind ∧ a.kind ≤ 8
    · obtain ⟨k, hk⟩ : ∃ k : Nat, a.kind = (k : Int) := ⟨a.kind.toNat, by omega⟩
      rw [hk] at h
      exact absurd h (kindB_some (by omega)).2
    · rw [if_neg (by omega), if_neg (by omega), if_neg (by omega)]
      rfl
  · rw [if_neg h]
set_option maxHeartbeats 4000000 in
theorem ref35_answer (a : AnsX) (hf : a.Fit) (w : World) (hp : ElAt pairC w a.pA a.ps) (hl : a.ps.length ≤ 200) : Calls Tryd.prog 22 #[.agg a.cells] w (TextOut (ansZ a) w) := by
  have HB := Lib.hid (Blk.new w 51 a.cells)
  have HK0 := Lib.hid ((Keep.refl [] w).alloc (.cells a.cells 51))
  have HP := Lib.hid hp
  have HL := Lib.hid hl
  have HF := Lib.hid hf
  have KK := Lib.hid (fun W => ref35_kind a.kind W)
  unfold TextOut at KK
  have KN := Lib.hid (fun (m : Int) (hm : I64 m) (W : World) => ref35_number m hm.1 hm.2 W)
  unfold NumOut at KN
  have hcs : a.cells = #[.int .i64 a.kind, .int .i64 a.key, .int .i64 a.val, .int .i64 a.n, .slice a.pA a.ps.length a.pc] := rfl
  have HWL := Lib.hid (kindB_len a.kind)
  have HZ := Lib.hid (ansZ_eq a).symm
  rw [hcs] at HB HK0 ⊢
  generalize ansZ a = Z at *
  clear hp hl hf hcs
  generalize kindB a.kind = wd at *
  go_enter Tryd.func22, Tryd.ntmps22
  go_upto_region 1 with fail
  generalize w.heap.size = ab at HB ⊢
  generalize w.alloc _ = w1 at HB HK0 ⊢
  have hc0 : w1.cell? ⟨ab, 0, none⟩ = some (.int .i64 a.kind) := HB.out.cell 0
  go_wp2_with fail
  refine (KK.out _).mono ?_
  rintro r x ⟨rfl, hk⟩
  have HB1 := Lib.hid (HB.out.keep hk (by simp))
  have HK := Lib.hid (HK0.out.trans hk (by simp))
  clear hk hc0 HB HK0 KK
  have hc0 : x.cell? ⟨ab, 0, none⟩ = some (.int .i64 a.kind) := HB1.out.cell 0
  have hc1 : x.cell? ⟨ab, 1, none⟩ = some (.int .i64 a.key) := HB1.out.cell 1
  have hc2 : x.cell? ⟨ab, 2, none⟩ = some (.int .i64 a.val) := HB1.out.cell 2
  have hc3 : x.cell? ⟨ab, 3, none⟩ = some (.int .i64 a.n) := HB1.out.cell 3
  have hc4 : x.cell? ⟨ab, 4, none⟩ = some (.slice a.pA a.ps.length a.pc) := HB1.out.cell 4
  have hkd : a.kind = a.kind := rfl
  have hl0 : ((a.ps.length : Nat) : Int) ≤ 200 := by have := HL.out; omega
  have hl1 : (0 : Int) ≤ ((a.ps.length : Nat) : Int) := by omega
  by_cases k3 : a.kind = 3
  · have e1 : (a.kind == 1) = false := by rw [k3]; rfl
    have e2 : (a.kind == 2) = false := by rw [k3]; rfl
    have e3 : (a.kind == 3) = true := by rw [k3]; rfl
    have HZ3 : Hid (wd ++ pairsB a.ps = Z) := Lib.hid (by rw [← HZ.out, if_neg (by omega), if_neg (by omega), if_pos k3])
    have HPS := Lib.hid HF.out.ps
    clear k3 HZ HF hkd
    generalize a.kind = kd at *
    generalize a.key = m1 at *
    generalize a.val = m2 at *
    generalize a.n = m3 at *
    generalize a.ps = ps at *
    generalize a.pA = pA at *
    generalize a.pc = pc at *
    clear hc1 hc2 hc3
    go_wp2_with fail
    go_loopg [3, 4] ps.length (fun g v3 v4 wr => ∃ j : Nat, j ≤ ps.length ∧ g = ps.length - j ∧ v4 = .int .i64 (j : Nat) ∧ (Keep [] w wr ∧ Blk wr ab 51 #[.int .i64 kd, .int .i64 m1, .int .i64 m2, .int .i64 m3, .slice pA ps.length pc]) ∧ v3 = .string ⟨(wd ++ pairsB (ps.take j)).toArray⟩)
    case atStart => exact ⟨0, Nat.zero_le _, rfl, rfl, ⟨HK.out, HB1.out⟩, by rw [List.take_zero, show pairsB [] = [] from rfl, List.append_nil]⟩
    case round =>
      obtain ⟨j, hj, rfl, rfl, hkb, rfl⟩ := hrel
      have HKR := Lib.hid hkb.1
      have HBR := Lib.hid hkb.2
      clear hkb hc0 hc4 HK HB1
      have hc0 : wr.cell? ⟨ab, 0, none⟩ = some (.int .i64 kd) := HBR.out.cell 0
      have hc4 : wr.cell? ⟨ab, 4, none⟩ = some (.slice pA ps.length pc) := HBR.out.cell 4
      have hj0 : (0 : Int) ≤ ((j : Nat) : Int) := by omega
      have hj2 : ((j : Nat) : Int) ≤ 200 := by omega
      by_cases hlt : j < ps.length
      · have hz : ((j : Nat) : Int) < ((ps.length : Nat) : Int) := by omega
        obtain ⟨b, o, hA, _, c0, c1⟩ := (HP.out.keep HKR.out).at_pair hlt
        subst hA
        have HTK : Hid (wd ++ pairsB (ps.take (j + 1)) = wd ++ pairsB (ps.take j) ++ 32 :: pairB (ps.getD j (0, 0))) := Lib.hid (by rw [pairsB_take hlt, List.append_assoc])
        have HI : Hid (I64 (ps.getD j (0, 0)).1 ∧ I64 (ps.getD j (0, 0)).2) := Lib.hid (HPS.out _ (by rw [List.getD_eq_getElem?_getD, List.getElem?_eq_getElem hlt]; exact List.getElem_mem hlt))
        have HSL : (wd ++ pairsB (ps.take j)).length ≤ 10000 := by
          have h1 := pairsB_len (ps.take j) (fun p hp => HPS.out p (List.mem_of_mem_take hp))
          have h2 := HWL.out
          rw [List.length_take] at h1
          rw [List.length_append]
          omega
        have HLT := Lib.hid hlt
        clear hlt
        generalize hs2 : wd ++ pairsB (ps.take (j + 1)) = s2 at HTK
        have HS := Lib.hid hs2
        clear hs2
        generalize wd ++ pairsB (ps.take j) = s1 at *
        generalize ps.getD j (0, 0) = pq at *
        obtain ⟨p1, p2⟩ := pq
        dsimp only at c0 c1 HI
        have hs1 := itoa_len HI.out.1
        have hs3 := itoa_len HI.out.2
        have KN1 := Lib.hid (KN.out p1 HI.out.1)
        have KN2 := Lib.hid (KN.out p2 HI.out.2)
        have HCQ : Hid ((⟨s1.toArray⟩ : ByteArray) ++ ⟨#[32]⟩ ++ ⟨(Lib.itoa p1).toArray⟩ ++ ⟨#[58]⟩ ++ ⟨(Lib.itoa p2).toArray⟩ = ⟨s2.toArray⟩) := Lib.hid (by
          rw [HTK.out, show (32 :: pairB (p1, p2)) = [32] ++ (Lib.itoa p1 ++ [58] ++ Lib.itoa p2) from rfl, ← List.append_assoc, ← List.append_assoc, ← List.append_assoc, ← catL, ← catL, ← catL, ← catL])
        generalize Lib.itoa p1 = l1 at *
        generalize Lib.itoa p2 = l2 at *
        have hn1 : ¬ 9223372036854775807 < s1.length + 1 := by omega
        have hn2 : ¬ 9223372036854775807 < s1.length + 1 + l1.length := by omega
        have hn3 : ¬ 9223372036854775807 < s1.length + 1 + l1.length + 1 := by omega
        have hn4 : ¬ 9223372036854775807 < s1.length + 1 + l1.length + 1 + l2.length := by omega
        clear hs1 hs3 HSL HTK
        go_upto_region 9 with fail
        refine wp_region_held_drew (S := (fun w' => w'.cell? ⟨ab, 4, none⟩ = some (.slice (some ⟨b, o, none⟩) ps.length pc) ∧ w'.cell? ⟨b, o + j * 2, none⟩ = some (.int .i64 p1) ∧ w'.cell? ⟨b, o + j * 2 + 1, none⟩ = some (.int .i64 p2) ∧ Keep [] wr w')) (by kernel_rfl) ⟨hc4, c0, c1, (Keep.refl _ _).drew⟩ (fun hHeld => ?_)
        refine wpAnyH_take (i := 0) (oi := { dst := some 43, op := Go.Op.move (Go.Operand.tmp 3), type := 9, pos := "ref.go:114", after := #[], guard := none }) (v := ?_) rfl (by kernel_rfl) (by kernel_rfl) (by kernel_rfl) (fun _ _ _ h => h) (Or.inl ⟨by rfl, ?_⟩) (by assumption) ?_
        rotate_left
        · intro w hSw
          (try dsimp only at hSw)
          go_simp
          all_goals with_reducible rfl
        try simp only [Act.put, List.setIfInBounds_toArray, List.set_cons_zero, List.set_cons_succ]
        refine wpAnyH_take (i := 1) (oi := { dst := some 44, op := Go.Op.binOp Go.BinOp.add 9 (Go.Operand.tmp 43) (Go.Operand.const (Go.Value.string { data := #[32] })) 9, type := 9, pos := "ref.go:114", after := #[{ on := 0, ground := Go.Ground.data }], guard := none }) (v := ?_) rfl (by kernel_rfl) (by kernel_rfl) (by kernel_rfl) (fun _ _ _ h => h) (Or.inl ⟨by rfl, ?_⟩) (by assumption) ?_
        rotate_left
        · intro w hSw
          (try dsimp only at hSw)
          go_simp
          all_goals with_reducible rfl
        try simp only [Act.put, List.setIfInBounds_toArray, List.set_cons_zero, List.set_cons_succ]
        refine wpAnyH_take (i := 2) (oi := { dst := some 45, op := Go.Op.fieldAddr 51 (Go.Operand.tmp 1) 4, type := 0, pos := "ref.go:114", after := #[], guard := none }) (v := ?_) rfl (by kernel_rfl) (by kernel_rfl) (by kernel_rfl) (fun _ _ _ h => h) (Or.inl ⟨by rfl, ?_⟩) (by assumption) ?_
        rotate_left
        · intro w hSw
          (try dsimp only at hSw)
          go_simp
          all_goals with_reducible rfl
        try simp only [Act.put, List.setIfInBounds_toArray, List.set_cons_zero, List.set_cons_succ]
        refine wpAnyH_take (i := 3) (oi := { dst := some 46, op := Go.Op.load 49 (Go.Operand.tmp 45), type := 49, pos := "ref.go:114", after := #[{ on := 2, ground := Go.Ground.data }], guard := none }) (v := ?_) rfl (by kernel_rfl) (by kernel_rfl) (by kernel_rfl) (fun _ _ _ h => h) (Or.inl ⟨by rfl, ?_⟩) (by assumption) ?_
        rotate_left
        · intro w hSw
          have hc := hSw.1
          go_simp
          all_goals with_reducible rfl
        try simp only [Act.put, List.setIfInBounds_toArray, List.set_cons_zero, List.set_cons_succ]
        refine wpAnyH_take (i := 4) (oi := { dst := some 47, op := Go.Op.move (Go.Operand.tmp 4), type := 3, pos := "ref.go:114", after := #[], guard := none }) (v := ?_) rfl (by kernel_rfl) (by kernel_rfl) (by kernel_rfl) (fun _ _ _ h => h) (Or.inl ⟨by rfl, ?_⟩) (by assumption) ?_
        rotate_left
        · intro w hSw
          (try dsimp only at hSw)
          go_simp
          all_goals with_reducible rfl
        try simp only [Act.put, List.setIfInBounds_toArray, List.set_cons_zero, List.set_cons_succ]
        refine wpAnyH_take (i := 5) (oi := { dst := some 48, op := Go.Op.indexAddr 49 (Go.Operand.tmp 46) (Go.Operand.tmp 47), type := 0, pos := "ref.go:114", after := #[{ on := 3, ground := Go.Ground.data }, { on := 4, ground := Go.Ground.data }], guard := none }) (v := ?_) rfl (by kernel_rfl) (by kernel_rfl) (by kernel_rfl) (fun _ _ _ h => h) (Or.inl ⟨by rfl, ?_⟩) (by assumption) ?_
        rotate_left
        · intro w hSw
          (try dsimp only at hSw)
          go_simp
          all_goals with_reducible rfl
        try simp only [Act.put, List.setIfInBounds_toArray, List.set_cons_zero, List.set_cons_succ]
        refine wpAnyH_take (i := 6) (oi := { dst := some 49, op := Go.Op.fieldAddr 79 (Go.Operand.tmp 48) 0, type := 0, pos := "ref.go:114", after := #[{ on := 5, ground := Go.Ground.data }], guard := none }) (v := ?_) rfl (by kernel_rfl) (by kernel_rfl) (by kernel_rfl) (fun _ _ _ h => h) (Or.inl ⟨by rfl, ?_⟩) (by assumption) ?_
        rotate_left
        · intro w hSw
          (try dsimp only at hSw)
          go_simp
          all_goals with_reducible rfl
        try simp only [Act.put, List.setIfInBounds_toArray, List.set_cons_zero, List.set_cons_succ]
        refine wpAnyH_take (i := 7) (oi := { dst := some 50, op := Go.Op.load 2 (Go.Operand.tmp 49), type := 2, pos := "ref.go:114", after := #[{ on := 6, ground := Go.Ground.data }], guard := none }) (v := ?_) rfl (by kernel_rfl) (by kernel_rfl) (by kernel_rfl) (fun _ _ _ h => h) (Or.inl ⟨by rfl, ?_⟩) (by assumption) ?_
        rotate_left
        · intro w hSw
          have hc := hSw.2.1
          go_simp
          all_goals with_reducible rfl
        try simp only [Act.put, List.setIfInBounds_toArray, List.set_cons_zero, List.set_cons_succ]
        refine wpAnyH_take (i := 11) (oi := { dst := some 54, op := Go.Op.fieldAddr 51 (Go.Operand.tmp 1) 4, type := 0, pos := "ref.go:114", after := #[], guard := none }) (v := ?_) rfl (by kernel_rfl) (by kernel_rfl) (by kernel_rfl) (fun _ _ _ h => h) (Or.inl ⟨by rfl, ?_⟩) (by assumption) ?_
        rotate_left
        · intro w hSw
          (try dsimp only at hSw)
          go_simp
          all_goals with_reducible rfl
        try simp only [Act.put, List.setIfInBounds_toArray, List.set_cons_zero, List.set_cons_succ]
        refine wpAnyH_take (i := 12) (oi := { dst := some 55, op := Go.Op.load 49 (Go.Operand.tmp 54), type := 49, pos := "ref.go:114", after := #[{ on := 11, ground := Go.Ground.data }], guard := none }) (v := ?_) rfl (by kernel_rfl) (by kernel_rfl) (by kernel_rfl) (fun _ _ _ h => h) (Or.inl ⟨by rfl, ?_⟩) (by assumption) ?_
        rotate_left
        · intro w hSw
          have hc := hSw.1
          go_simp
          all_goals with_reducible rfl
        try simp only [Act.put, List.setIfInBounds_toArray, List.set_cons_zero, List.set_cons_succ]
        refine wpAnyH_take (i := 13) (oi := { dst := some 56, op := Go.Op.move (Go.Operand.tmp 4), type := 3, pos := "ref.go:114", after := #[], guard := none }) (v := ?_) rfl (by kernel_rfl) (by kernel_rfl) (by kernel_rfl) (fun _ _ _ h => h) (Or.inl ⟨by rfl, ?_⟩) (by assumption) ?_
        rotate_left
        · intro w hSw
          (try dsimp only at hSw)
          go_simp
          all_goals with_reducible rfl
        try simp only [Act.put, List.setIfInBounds_toArray, List.set_cons_zero, List.set_cons_succ]
        refine wpAnyH_take (i := 14) (oi := { dst := some 57, op := Go.Op.indexAddr 49 (Go.Operand.tmp 55) (Go.Operand.tmp 56), type := 0, pos := "ref.go:114", after := #[{ on := 12, ground := Go.Ground.data }, { on := 13, ground := Go.Ground.data }], guard := none }) (v := ?_) rfl (by kernel_rfl) (by kernel_rfl) (by kernel_rfl) (fun _ _ _ h => h) (Or.inl ⟨by rfl, ?_⟩) (by assumption) ?_
        rotate_left
        · intro w hSw
          (try dsimp only at hSw)
          go_simp
          all_goals with_reducible rfl
        try simp only [Act.put, List.setIfInBounds_toArray, List.set_cons_zero, List.set_cons_succ]
        refine wpAnyH_take (i := 15) (oi := { dst := some 58, op := Go.Op.fieldAddr 79 (Go.Operand.tmp 57) 1, type := 0, pos := "ref.go:114", after := #[{ on := 14, ground := Go.Ground.data }], guard := none }) (v := ?_) rfl (by kernel_rfl) (by kernel_rfl) (by kernel_rfl) (fun _ _ _ h => h) (Or.inl ⟨by rfl, ?_⟩) (by assumption) ?_
        rotate_left
        · intro w hSw
          (try dsimp only at hSw)
          go_simp
          all_goals with_reducible rfl
        try simp only [Act.put, List.setIfInBounds_toArray, List.set_cons_zero, List.set_cons_succ]
        refine wpAnyH_take (i := 16) (oi := { dst := some 59, op := Go.Op.load 2 (Go.Operand.tmp 58), type := 2, pos := "ref.go:114", after := #[{ on := 15, ground := Go.Ground.data }], guard := none }) (v := ?_) rfl (by kernel_rfl) (by kernel_rfl) (by kernel_rfl) (fun _ _ _ h => h) (Or.inl ⟨by rfl, ?_⟩) (by assumption) ?_
        rotate_left
        · intro w hSw
          have hc := hSw.2.2.1
          go_simp
          all_goals with_reducible rfl
        try simp only [Act.put, List.setIfInBounds_toArray, List.set_cons_zero, List.set_cons_succ]
        refine wpAnyH_ready (rs := [8]) (by kernel_rfl) (by simp) ?_
        refine AllReadyH.cons (o := { dst := some 51, op := Go.Op.call { callee := Go.Callee.value (Go.Operand.func 31), args := #[Go.Operand.tmp 50], argTypes := #[2] }, type := 9, pos := "ref.go:114", after := #[{ on := 7, ground := Go.Ground.data }], guard := none }) rfl (fun K hK => ?_) AllReadyH.nil
        go_simp
        refine (KN1.out _).mono ?_
        rintro r z ⟨rfl, rfl⟩
        try simp only []
        refine hK.out _ _ hHeld (fun hHeld => ?_)
        clear hK K
        try simp only [Act.put, List.setIfInBounds_toArray, List.set_cons_zero, List.set_cons_succ]
        refine wpAnyH_take (i := 9) (oi := { dst := some 52, op := Go.Op.binOp Go.BinOp.add 9 (Go.Operand.tmp 44) (Go.Operand.tmp 51) 9, type := 9, pos := "ref.go:114", after := #[{ on := 1, ground := Go.Ground.data }, { on := 8, ground := Go.Ground.data }], guard := none }) (v := ?_) rfl (by kernel_rfl) (by kernel_rfl) (by kernel_rfl) (fun _ _ _ h => h) (Or.inl ⟨by rfl, ?_⟩) (by assumption) ?_
        rotate_left
        · intro w hSw
          (try dsimp only at hSw)
          go_simp
          all_goals with_reducible rfl
        try simp only [Act.put, List.setIfInBounds_toArray, List.set_cons_zero, List.set_cons_succ]
        refine wpAnyH_take (i := 10) (oi := { dst := some 53, op := Go.Op.binOp Go.BinOp.add 9 (Go.Operand.tmp 52) (Go.Operand.const (Go.Value.string { data := #[58] })) 9, type := 9, pos := "ref.go:114", after := #[{ on := 9, ground := Go.Ground.data }], guard := none }) (v := ?_) rfl (by kernel_rfl) (by kernel_rfl) (by kernel_rfl) (fun _ _ _ h => h) (Or.inl ⟨by rfl, ?_⟩) (by assumption) ?_
        rotate_left
        · intro w hSw
          (try dsimp only at hSw)
          go_simp
          all_goals with_reducible rfl
        try simp only [Act.put, List.setIfInBounds_toArray, List.set_cons_zero, List.set_cons_succ]
        refine wpAnyH_ready (rs := [17]) (by kernel_rfl) (by simp) ?_
        refine AllReadyH.cons (o := { dst := some 60, op := Go.Op.call { callee := Go.Callee.value (Go.Operand.func 31), args := #[Go.Operand.tmp 59], argTypes := #[2] }, type := 9, pos := "ref.go:114", after := #[{ on := 16, ground := Go.Ground.data }, { on := 8, ground := Go.Ground.chain }], guard := none }) rfl (fun K hK => ?_) AllReadyH.nil
        go_simp
        refine (KN2.out _).mono ?_
        rintro r z ⟨rfl, rfl⟩
        try simp only []
        refine hK.out _ _ hHeld (fun hHeld => ?_)
        clear hK K
        try simp only [Act.put, List.setIfInBounds_toArray, List.set_cons_zero, List.set_cons_succ]
        refine wpAnyH_take (i := 18) (oi := { dst := some 61, op := Go.Op.binOp Go.BinOp.add 9 (Go.Operand.tmp 53) (Go.Operand.tmp 60) 9, type := 9, pos := "ref.go:114", after := #[{ on := 10, ground := Go.Ground.data }, { on := 17, ground := Go.Ground.data }], guard := none }) (v := ?_) rfl (by kernel_rfl) (by kernel_rfl) (by kernel_rfl) (fun _ _ _ h => h) (Or.inl ⟨by rfl, ?_⟩) (by assumption) ?_
        rotate_left
        · intro w hSw
          (try dsimp only at hSw)
          go_simp
          all_goals with_reducible rfl
        try simp only [Act.put, List.setIfInBounds_toArray, List.set_cons_zero, List.set_cons_succ]
        refine wpAnyH_take (i := 19) (oi := { dst := some 3, op := Go.Op.assign (Go.Operand.tmp 61), type := 9, pos := "ref.go:114", after := #[{ on := 18, ground := Go.Ground.data }, { on := 17, ground := Go.Ground.chain }, { on := 0, ground := Go.Ground.phase }, { on := 1, ground := Go.Ground.phase }, { on := 2, ground := Go.Ground.phase }, { on := 3, ground := Go.Ground.phase }, { on := 4, ground := Go.Ground.phase }, { on := 5, ground := Go.Ground.phase }, { on := 6, ground := Go.Ground.phase }, { on := 7, ground := Go.Ground.phase }, { on := 8, ground := Go.Ground.phase }, { on := 9, ground := Go.Ground.phase }, { on := 10, ground := Go.Ground.phase }, { on := 11, ground := Go.Ground.phase }, { on := 12, ground := Go.Ground.phase }, { on := 13, ground := Go.Ground.phase }, { on := 14, ground := Go.Ground.phase }, { on := 15, ground := Go.Ground.phase }, { on := 16, ground := Go.Ground.phase }, { on := 17, ground := Go.Ground.phase }, { on := 18, ground := Go.Ground.phase }], guard := none }) (v := ?_) rfl (by kernel_rfl) (by kernel_rfl) (by kernel_rfl) (fun _ _ _ h => h) (Or.inl ⟨by rfl, ?_⟩) (by assumption) ?_
        rotate_left
        · intro w hSw
          (try dsimp only at hSw)
          go_simp
          all_goals with_reducible rfl
        try simp only [Act.put, List.setIfInBounds_toArray, List.set_cons_zero, List.set_cons_succ]
        refine wpAnyH_done (by kernel_rfl) ?_ _
        clear hHeld KN1 KN2 hn1 hn2 hn3 hn4
        rw [HCQ.out]
        clear HCQ
        go_wp2_with fail
        go_roundg (ps.length - (j + 1))
        case measure => have := HLT.out; omega
        case rel => exact ⟨j + 1, HLT.out, rfl, by go_num, ⟨HKR.out.drew, HBR.out.drew⟩, by rw [HS.out]⟩
      · have hz : ¬ ((j : Nat) : Int) < ((ps.length : Nat) : Int) := by omega
        obtain rfl : j = ps.length := by omega
        rw [List.take_length, HZ3.out]
        clear hlt
        go_wp2_with fail
        go_ret
        exact ⟨rfl, HKR.out⟩
  · have e3 : (a.kind == 3) = false := by rw [beq_eq_false_iff_ne]; exact k3
    by_cases k1 : a.kind = 1
    · have e1 : (a.kind == 1) = true := by rw [k1]; rfl
      have e2 : (a.kind == 2) = false := by rw [k1]; rfl
      have KN1 := Lib.hid (KN.out a.key HF.out.key)
      have KN2 := Lib.hid (KN.out a.val HF.out.val)
      have hs1 := itoa_len HF.out.key
      have hs2 := itoa_len HF.out.val
      have hs3 := HWL.out
      have HCQ : Hid ((⟨wd.toArray⟩ : ByteArray) ++ ⟨#[32]⟩ ++ ⟨(Lib.itoa a.key).toArray⟩ ++ ⟨#[32]⟩ ++ ⟨(Lib.itoa a.val).toArray⟩ = ⟨Z.toArray⟩) := Lib.hid (by
        rw [← HZ.out, if_pos k1, show numsB [a.key, a.val] = [32] ++ Lib.itoa a.key ++ [32] ++ Lib.itoa a.val by simp [numsB], ← List.append_assoc, ← List.append_assoc, ← List.append_assoc, ← catL, ← catL, ← catL, ← catL])
      clear k1 k3 HZ HF hkd HP HL KN
      generalize a.kind = kd at *
      generalize Lib.itoa a.key = l1 at *
      generalize Lib.itoa a.val = l2 at *
      generalize a.key = m1 at *
      generalize a.val = m2 at *
      generalize a.n = m3 at *
      generalize a.ps = ps at *
      generalize a.pA = pA at *
      generalize a.pc = pc at *
      have hn1 : ¬ 9223372036854775807 < wd.length + 1 := by omega
      have hn2 : ¬ 9223372036854775807 < wd.length + 1 + l1.length := by omega
      have hn3 : ¬ 9223372036854775807 < wd.length + 1 + l1.length + 1 := by omega
      have hn4 : ¬ 9223372036854775807 < wd.length + 1 + l1.length + 1 + l2.length := by omega
      clear hs1 hs2 hs3
      go_upto_region 3 with fail
      refine wp_region_held_drew (S := (fun w' => w'.cell? ⟨ab, 1, none⟩ = some (.int .i64 m1) ∧ w'.cell? ⟨ab, 2, none⟩ = some (.int .i64 m2) ∧ Keep [] x w')) (by kernel_rfl) ⟨hc1, hc2, (Keep.refl _ _).drew⟩ (fun hHeld => ?_)
      refine wpAnyH_take (i := 0) (oi := { dst := some 11, op := Go.Op.move (Go.Operand.tmp 3), type := 9, pos := "ref.go:108", after := #[], guard := none }) (v := ?_) rfl (by kernel_rfl) (by kernel_rfl) (by kernel_rfl) (fun _ _ _ h => h) (Or.inl ⟨by rfl, ?_⟩) (by assumption) ?_
      rotate_left
      · intro w hSw
        (try dsimp only at hSw)
        go_simp
        all_goals with_reducible rfl
      try simp only [Act.put, List.setIfInBounds_toArray, List.set_cons_zero, List.set_cons_succ]
      refine wpAnyH_take (i := 1) (oi := { dst := some 12, op := Go.Op.binOp Go.BinOp.add 9 (Go.Operand.tmp 11) (Go.Operand.const (Go.Value.string { data := #[32] })) 9, type := 9, pos := "ref.go:108", after := #[{ on := 0, ground := Go.Ground.data }], guard := none }) (v := ?_) rfl (by kernel_rfl) (by kernel_rfl) (by kernel_rfl) (fun _ _ _ h => h) (Or.inl ⟨by rfl, ?_⟩) (by assumption) ?_
      rotate_left
      · intro w hSw
        (try dsimp only at hSw)
        go_simp
        all_goals with_reducible rfl
      try simp only [Act.put, List.setIfInBounds_toArray, List.set_cons_zero, List.set_cons_succ]
      refine wpAnyH_take (i := 2) (oi := { dst := some 13, op := Go.Op.fieldAddr 51 (Go.Operand.tmp 1) 1, type := 0, pos := "ref.go:108", after := #[], guard := none }) (v := ?_) rfl (by kernel_rfl) (by kernel_rfl) (by kernel_rfl) (fun _ _ _ h => h) (Or.inl ⟨by rfl, ?_⟩) (by assumption) ?_
      rotate_left
      · intro w hSw
        (try dsimp only at hSw)
        go_simp
        all_goals with_reducible rfl
      try simp only [Act.put, List.setIfInBounds_toArray, List.set_cons_zero, List.set_cons_succ]
      refine wpAnyH_take (i := 3) (oi := { dst := some 14, op := Go.Op.load 2 (Go.Operand.tmp 13), type := 2, pos := "ref.go:108", after := #[{ on := 2, ground := Go.Ground.data }], guard := none }) (v := ?_) rfl (by kernel_rfl) (by kernel_rfl) (by kernel_rfl) (fun _ _ _ h => h) (Or.inl ⟨by rfl, ?_⟩) (by assumption) ?_
      rotate_left
      · intro w hSw
        have hc := hSw.1
        go_simp
        all_goals with_reducible rfl
      try simp only [Act.put, List.setIfInBounds_toArray, List.set_cons_zero, List.set_cons_succ]
      refine wpAnyH_take (i := 7) (oi := { dst := some 18, op := Go.Op.fieldAddr 51 (Go.Operand.tmp 1) 2, type := 0, pos := "ref.go:108", after := #[], guard := none }) (v := ?_) rfl (by kernel_rfl) (by kernel_rfl) (by kernel_rfl) (fun _ _ _ h => h) (Or.inl ⟨by rfl, ?_⟩) (by assumption) ?_
      rotate_left
      · intro w hSw
        (try dsimp only at hSw)
        go_simp
        all_goals with_reducible rfl
      try simp only [Act.put, List.setIfInBounds_toArray, List.set_cons_zero, List.set_cons_succ]
      refine wpAnyH_take (i := 8) (oi := { dst := some 19, op := Go.Op.load 2 (Go.Operand.tmp 18), type := 2, pos := "ref.go:108", after := #[{ on := 7, ground := Go.Ground.data }], guard := none }) (v := ?_) rfl (by kernel_rfl) (by kernel_rfl) (by kernel_rfl) (fun _ _ _ h => h) (Or.inl ⟨by rfl, ?_⟩) (by assumption) ?_
      rotate_left
      · intro w hSw
        have hc := hSw.2.1
        go_simp
        all_goals with_reducible rfl
      try simp only [Act.put, List.setIfInBounds_toArray, List.set_cons_zero, List.set_cons_succ]
      refine wpAnyH_ready (rs := [4]) (by kernel_rfl) (by simp) ?_
      refine AllReadyH.cons (o := { dst := some 15, op := Go.Op.call { callee := Go.Callee.value (Go.Operand.func 31), args := #[Go.Operand.tmp 14], argTypes := #[2] }, type := 9, pos := "ref.go:108", after := #[{ on := 3, ground := Go.Ground.data }], guard := none }) rfl (fun K hK => ?_) AllReadyH.nil
      go_simp
      refine (KN1.out _).mono ?_
      rintro r z ⟨rfl, rfl⟩
      try simp only []
      refine hK.out _ _ hHeld (fun hHeld => ?_)
      clear hK K
      try simp only [Act.put, List.setIfInBounds_toArray, List.set_cons_zero, List.set_cons_succ]
      refine wpAnyH_take (i := 5) (oi := { dst := some 16, op := Go.Op.binOp Go.BinOp.add 9 (Go.Operand.tmp 12) (Go.Operand.tmp 15) 9, type := 9, pos := "ref.go:108", after := #[{ on := 1, ground := Go.Ground.data }, { on := 4, ground := Go.Ground.data }], guard := none }) (v := ?_) rfl (by kernel_rfl) (by kernel_rfl) (by kernel_rfl) (fun _ _ _ h => h) (Or.inl ⟨by rfl, ?_⟩) (by assumption) ?_
      rotate_left
      · intro w hSw
        (try dsimp only at hSw)
        go_simp
        all_goals with_reducible rfl
      try simp only [Act.put, List.setIfInBounds_toArray, List.set_cons_zero, List.set_cons_succ]
      refine wpAnyH_take (i := 6) (oi := { dst := some 17, op := Go.Op.binOp Go.BinOp.add 9 (Go.Operand.tmp 16) (Go.Operand.const (Go.Value.string { data := #[32] })) 9, type := 9, pos := "ref.go:108", after := #[{ on := 5, ground := Go.Ground.data }], guard := none }) (v := ?_) rfl (by kernel_rfl) (by kernel_rfl) (by kernel_rfl) (fun _ _ _ h => h) (Or.inl ⟨by rfl, ?_⟩) (by assumption) ?_
      rotate_left
      · intro w hSw
        (try dsimp only at hSw)
        go_simp
        all_goals with_reducible rfl
      try simp only [Act.put, List.setIfInBounds_toArray, List.set_cons_zero, List.set_cons_succ]
      refine wpAnyH_ready (rs := [9]) (by kernel_rfl) (by simp) ?_
      refine AllReadyH.cons (o := { dst := some 20, op := Go.Op.call { callee := Go.Callee.value (Go.Operand.func 31), args := #[Go.Operand.tmp 19], argTypes := #[2] }, type := 9, pos := "ref.go:108", after := #[{ on := 8, ground := Go.Ground.data }, { on := 4, ground := Go.Ground.chain }], guard := none }) rfl (fun K hK => ?_) AllReadyH.nil
      go_simp
      refine (KN2.out _).mono ?_
      rintro r z ⟨rfl, rfl⟩
      try simp only []
      refine hK.out _ _ hHeld (fun hHeld => ?_)
      clear hK K
      try simp only [Act.put, List.setIfInBounds_toArray, List.set_cons_zero, List.set_cons_succ]
      refine wpAnyH_take (i := 10) (oi := { dst := some 21, op := Go.Op.binOp Go.BinOp.add 9 (Go.Operand.tmp 17) (Go.Operand.tmp 20) 9, type := 9, pos := "ref.go:108", after := #[{ on := 6, ground := Go.Ground.data }, { on := 9, ground := Go.Ground.data }], guard := none }) (v := ?_) rfl (by kernel_rfl) (by kernel_rfl) (by kernel_rfl) (fun _ _ _ h => h) (Or.inl ⟨by rfl, ?_⟩) (by assumption) ?_
      rotate_left
      · intro w hSw
        (try dsimp only at hSw)
        go_simp
        all_goals with_reducible rfl
      try simp only [Act.put, List.setIfInBounds_toArray, List.set_cons_zero, List.set_cons_succ]
      refine wpAnyH_take (i := 11) (oi := { dst := some 3, op := Go.Op.assign (Go.Operand.tmp 21), type := 9, pos := "ref.go:108", after := #[{ on := 10, ground := Go.Ground.data }, { on := 9, ground := Go.Ground.chain }, { on := 0, ground := Go.Ground.phase }, { on := 1, ground := Go.Ground.phase }, { on := 2, ground := Go.Ground.phase }, { on := 3, ground := Go.Ground.phase }, { on := 4, ground := Go.Ground.phase }, { on := 5, ground := Go.Ground.phase }, { on := 6, ground := Go.Ground.phase }, { on := 7, ground := Go.Ground.phase }, { on := 8, ground := Go.Ground.phase }, { on := 9, ground := Go.Ground.phase }, { on := 10, ground := Go.Ground.phase }], guard := none }) (v := ?_) rfl (by kernel_rfl) (by kernel_rfl) (by kernel_rfl) (fun _ _ _ h => h) (Or.inl ⟨by rfl, ?_⟩) (by assumption) ?_
      rotate_left
      · intro w hSw
        (try dsimp only at hSw)
        go_simp
        all_goals with_reducible rfl
      try simp only [Act.put, List.setIfInBounds_toArray, List.set_cons_zero, List.set_cons_succ]
      refine wpAnyH_done (by kernel_rfl) ?_ _
      clear hHeld KN1 KN2 hn1 hn2 hn3 hn4
      rw [HCQ.out]
      clear HCQ hc1 hc2 hc3 hc0 hc4
      have HB2 := Lib.hid HB1.out.drew
      have HK2 := Lib.hid HK.out.drew
      generalize x.drew = x2 at *
      have hc0 : x2.cell? ⟨ab, 0, none⟩ = some (.int .i64 kd) := HB2.out.cell 0
      have hc4 : x2.cell? ⟨ab, 4, none⟩ = some (.slice pA ps.length pc) := HB2.out.cell 4
      go_wp2_with fail
      go_loopg [3, 4] 1 (fun g v3 v4 wr => v4 = .int .i64 0 ∧ wr = x2 ∧ v3 = .string ⟨Z.toArray⟩)
      case atStart => exact ⟨rfl, rfl, rfl⟩
      case round =>
        obtain ⟨rfl, rfl, rfl⟩ := hrel
        cases ps with
        | nil =>
          go_wp2_with fail
          go_ret
          exact ⟨rfl, HK2.out⟩
        | cons p ps =>
          have hz : (0 : Int) < (((p :: ps).length : Nat) : Int) := by rw [List.length_cons]; omega
          generalize p :: ps = qs at *
          go_wp2_with fail
          go_ret
          exact ⟨rfl, HK2.out⟩
    by_cases k2 : a.kind = 2
    · have e1 : (a.kind == 1) = false := by rw [k2]; rfl
      have e2 : (a.kind == 2) = true := by rw [k2]; rfl
      have KN1 := Lib.hid (KN.out a.n HF.out.n)
      have hs1 := itoa_len HF.out.n
      have hs3 := HWL.out
      have HCQ : Hid ((⟨wd.toArray⟩ : ByteArray) ++ ⟨#[32]⟩ ++ ⟨(Lib.itoa a.n).toArray⟩ = ⟨Z.toArray⟩) := Lib.hid (by
        rw [← HZ.out, if_neg (by omega), if_pos k2, show numsB [a.n] = [32] ++ Lib.itoa a.n by simp [numsB], ← List.append_assoc, ← catL, ← catL])
      clear k1 k2 k3 HZ HF hkd HP HL KN
      generalize Lib.itoa a.n = l1 at *
      generalize a.kind = kd at *
      generalize a.key = m1 at *
      generalize a.val = m2 at *
      generalize a.n = m3 at *
      generalize a.ps = ps at *
      generalize a.pA = pA at *
      generalize a.pc = pc at *
      have hn1 : ¬ 9223372036854775807 < wd.length + 1 := by omega
      have hn2 : ¬ 9223372036854775807 < wd.length + 1 + l1.length := by omega
      clear hs1 hs3
      go_wp2_with fail
      refine (KN1.out _).mono ?_
      rintro r z ⟨rfl, rfl⟩
      go_upto_region 6 with fail
      rw [HCQ.out]
      clear HCQ hn1 hn2 hc1 hc2 hc3
      go_wp2_with fail
      go_loopg [3, 4] 1 (fun g v3 v4 wr => v4 = .int .i64 0 ∧ wr = x ∧ v3 = .string ⟨Z.toArray⟩)
      case atStart => exact ⟨rfl, rfl, rfl⟩
      case round =>
        obtain ⟨rfl, rfl, rfl⟩ := hrel
        cases ps with
        | nil =>
          go_wp2_with fail
          go_ret
          exact ⟨rfl, HK.out⟩
        | cons p ps =>
          have hz : (0 : Int) < (((p :: ps).length : Nat) : Int) := by rw [List.length_cons]; omega
          generalize p :: ps = qs at *
          go_wp2_with fail
          go_ret
          exact ⟨rfl, HK.out⟩
    · have e1 : (a.kind == 1) = false := by rw [beq_eq_false_iff_ne]; exact k1
      have e2 : (a.kind == 2) = false := by rw [beq_eq_false_iff_ne]; exact k2
      have HZ2 : Hid (wd = Z) := Lib.hid (by rw [← HZ.out, if_neg k1, if_neg k2, if_neg k3, List.append_nil])
      clear k1 k2 k3 HZ HF hkd HP HL KN
      rw [HZ2.out]
      clear HZ2
      generalize a.kind = kd at *
      generalize a.key = m1 at *
      generalize a.val = m2 at *
      generalize a.n = m3 at *
      generalize a.ps = ps at *
      generalize a.pA = pA at *
      generalize a.pc = pc at *
      go_wp2_with fail
      go_loopg [3, 4] 1 (fun g v3 v4 wr => v4 = .int .i64 0 ∧ wr = x ∧ v3 = .string ⟨Z.toArray⟩)
      case atStart => exact ⟨rfl, rfl, rfl⟩
      case round =>
        obtain ⟨rfl, rfl, rfl⟩ := hrel
        cases ps with
        | nil =>
          go_wp2_with fail
          go_ret
          exact ⟨rfl, HK.out⟩
        | cons p ps =>
          have hz : (0 : Int) < (((p :: ps).length : Nat) : Int) := by rw [List.length_cons]; omega
          generalize p :: ps = qs at *
          go_wp2_with fail
          go_ret
          exact ⟨rfl, HK.out⟩
end Go.Proofs.YtnhkjfknhponkaaDoor
