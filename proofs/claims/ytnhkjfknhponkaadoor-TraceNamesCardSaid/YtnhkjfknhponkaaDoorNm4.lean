/- A change, written, and a name's place: trace.Line, trace.Place by their contracts. Conditions: the configuration may be; at most 60 slots; the library's table is as it was laid. -/
import Derived.Test.YtnhkjfknhponkaaDoorNm3
namespace Go.Proofs.YtnhkjfknhponkaaDoor
open Go.RowKit

theorem PlanAt.keep0 {w w' : World} {p : Nat} {c : ConfS} (h : PlanAt w p c) (hk : Keep [] w w') : PlanAt w' p c := Blk.keep h hk (by simp)
set_option maxHeartbeats 4000000 in
theorem trace_line (c : ConfS) (p : Nat) (w : World) (hp : PlanAt w p c) (ho : c.Ok) (hs : c.slots ≤ 60) (x : ChS) (h1 : x.was < 18446744073709551616) (h2 : x.now < 18446744073709551616) (ht : TabOk w) : Calls Tryd.prog 13 #[.pointer (some ⟨p, 0, none⟩), .agg #[.int .i64 x.p, .int .u64 (x.was : Nat), .int .u64 (x.now : Nat)]] w (StrOut (lineZ c x) w) := by
  have KN : Hid (∀ W, PlanAt W p c → Calls Tryd.prog 9 #[.pointer (some ⟨p, 0, none⟩), .int .i64 x.p] W fun r w' => r = .returned (.string ⟨(nameZ c x.p).toArray⟩) ∧ Keep [] W w') := Lib.hid (fun W hW => trace_name c p W hW ho hs x.p)
  have KU : Hid (∀ W, TabOk W → Calls Tryd.prog 32 #[.int .u64 (x.was : Nat), .int .i64 10] W fun r w' => r = .returned (.string ⟨(Lib.decDigits x.was).toArray⟩) ∧ Keep [] W w') := Lib.hid (fun W hW => fmt_uint x.was h1 W hW)
  have KV : Hid (∀ W, TabOk W → Calls Tryd.prog 32 #[.int .u64 (x.now : Nat), .int .i64 10] W fun r w' => r = .returned (.string ⟨(Lib.decDigits x.now).toArray⟩) ∧ Keep [] W w') := Lib.hid (fun W hW => fmt_uint x.now h2 W hW)
  have hl0 := nameZ_len c ho hs x.p
  have hl1 := dec_len h1
  have hl2 := dec_len h2
  have HE : Hid ((⟨(nameZ c x.p).toArray⟩ : ByteArray) ++ ⟨#[58, 32]⟩ ++ ⟨(Lib.decDigits x.was).toArray⟩ ++ ⟨#[32]⟩ ++ ⟨(Lib.decDigits x.now).toArray⟩ = ⟨(lineZ c x).toArray⟩) := Lib.hid (by unfold lineZ; rw [← cat_eq, ← cat_eq, ← cat_eq, ← cat_eq])
  generalize lineZ c x = L at *
  generalize nameZ c x.p = nz at *
  obtain ⟨xp, was, now⟩ := x
  simp only at *
  have HP := Lib.hid hp
  have HT := Lib.hid ht
  clear h1 h2 ho hs hp ht
  generalize Lib.decDigits was = d1 at *
  generalize Lib.decDigits now = d2 at *
  have hn1 : ¬ 9223372036854775807 < nz.length + 2 := by omega
  have hn2 : ¬ 9223372036854775807 < nz.length + 2 + d1.length := by omega
  have hn3 : ¬ 9223372036854775807 < nz.length + 2 + d1.length + 1 := by omega
  have hn4 : ¬ 9223372036854775807 < nz.length + 2 + d1.length + 1 + d2.length := by omega
  clear hl0 hl1 hl2
  go_enter Tryd.func13, Tryd.ntmps13
  go_upto_region 1 with fail
  have HB := Lib.hid (Blk.new w 27 #[.int .i64 xp, .int .u64 (was : Nat), .int .u64 (now : Nat)])
  have HK0 := Lib.hid ((Keep.refl [] w).alloc (.cells #[.int .i64 xp, .int .u64 (was : Nat), .int .u64 (now : Nat)] 27))
  have HP1 := Lib.hid (HP.out.keep0 HK0.out)
  have HT1 := Lib.hid (HT.out.keep HK0.out)
  generalize w.heap.size = g at HB ⊢
  generalize w.alloc _ = w1 at HB HK0 HP1 HT1 ⊢
  have hc0 : w1.cell? ⟨g, 0, none⟩ = some (.int .i64 xp) := HB.out.cell 0
  have hc1 : w1.cell? ⟨g, 1, none⟩ = some (.int .u64 (was : Nat)) := HB.out.cell 1
  have hc2 : w1.cell? ⟨g, 2, none⟩ = some (.int .u64 (now : Nat)) := HB.out.cell 2
  have HCL : Hid (∀ W, Keep [] w1 W → W.cell? ⟨g, 0, none⟩ = some (.int .i64 xp) ∧ W.cell? ⟨g, 1, none⟩ = some (.int .u64 (was : Nat)) ∧ W.cell? ⟨g, 2, none⟩ = some (.int .u64 (now : Nat))) := Lib.hid (fun W hW => ⟨(hW.cell HB.out.lt (by simp)).trans hc0, (hW.cell HB.out.lt (by simp)).trans hc1, (hW.cell HB.out.lt (by simp)).trans hc2⟩)
  clear HB hc0 hc1 hc2
  refine wp_region_held_drew (S := (fun w' => Keep [] w1 w')) (by kernel_rfl) (Keep.refl _ _).drew (fun hHeld => ?_)
  refine wpAnyH_take (i := 0) (oi := { dst := some 5, op := Go.Op.move (Go.Operand.tmp 0), type := 34, pos := "trace.go:88", after := #[], guard := none }) (v := ?_) rfl (by kernel_rfl) (by kernel_rfl) (by kernel_rfl) (fun _ _ _ h => h) (Or.inl ⟨by rfl, ?_⟩) (by assumption) ?_
  rotate_left
  · intro w hSw
    (try dsimp only at hSw)
    go_simp
    all_goals with_reducible rfl
  try simp only [Act.put, List.setIfInBounds_toArray, List.set_cons_zero, List.set_cons_succ]
  refine wpAnyH_take (i := 1) (oi := { dst := some 6, op := Go.Op.fieldAddr 27 (Go.Operand.tmp 3) 0, type := 0, pos := "trace.go:88", after := #[], guard := none }) (v := ?_) rfl (by kernel_rfl) (by kernel_rfl) (by kernel_rfl) (fun _ _ _ h => h) (Or.inl ⟨by rfl, ?_⟩) (by assumption) ?_
  rotate_left
  · intro w hSw
    (try dsimp only at hSw)
    go_simp
    all_goals with_reducible rfl
  try simp only [Act.put, List.setIfInBounds_toArray, List.set_cons_zero, List.set_cons_succ]
  refine wpAnyH_take (i := 2) (oi := { dst := some 7, op := Go.Op.load 3 (Go.Operand.tmp 6), type := 3, pos := "trace.go:88", after := #[{ on := 1, ground := Go.Ground.data }], guard := none }) (v := ?_) rfl (by kernel_rfl) (by kernel_rfl) (by kernel_rfl) (fun _ _ _ h => h) (Or.inl ⟨by rfl, ?_⟩) (by assumption) ?_
  rotate_left
  · intro w hSw
    have hc := (HCL.out _ hSw).1
    go_simp
    all_goals with_reducible rfl
  try simp only [Act.put, List.setIfInBounds_toArray, List.set_cons_zero, List.set_cons_succ]
  refine wpAnyH_take (i := 5) (oi := { dst := some 10, op := Go.Op.fieldAddr 27 (Go.Operand.tmp 3) 1, type := 0, pos := "trace.go:88", after := #[], guard := none }) (v := ?_) rfl (by kernel_rfl) (by kernel_rfl) (by kernel_rfl) (fun _ _ _ h => h) (Or.inl ⟨by rfl, ?_⟩) (by assumption) ?_
  rotate_left
  · intro w hSw
    (try dsimp only at hSw)
    go_simp
    all_goals with_reducible rfl
  try simp only [Act.put, List.setIfInBounds_toArray, List.set_cons_zero, List.set_cons_succ]
  refine wpAnyH_take (i := 6) (oi := { dst := some 11, op := Go.Op.load 25 (Go.Operand.tmp 10), type := 25, pos := "trace.go:88", after := #[{ on := 5, ground := Go.Ground.data }], guard := none }) (v := ?_) rfl (by kernel_rfl) (by kernel_rfl) (by kernel_rfl) (fun _ _ _ h => h) (Or.inl ⟨by rfl, ?_⟩) (by assumption) ?_
  rotate_left
  · intro w hSw
    have hc := (HCL.out _ hSw).2.1
    go_simp
    all_goals with_reducible rfl
  try simp only [Act.put, List.setIfInBounds_toArray, List.set_cons_zero, List.set_cons_succ]
  refine wpAnyH_take (i := 10) (oi := { dst := some 15, op := Go.Op.fieldAddr 27 (Go.Operand.tmp 3) 2, type := 0, pos := "trace.go:88", after := #[], guard := none }) (v := ?_) rfl (by kernel_rfl) (by kernel_rfl) (by kernel_rfl) (fun _ _ _ h => h) (Or.inl ⟨by rfl, ?_⟩) (by assumption) ?_
  rotate_left
  · intro w hSw
    (try dsimp only at hSw)
    go_simp
    all_goals with_reducible rfl
  try simp only [Act.put, List.setIfInBounds_toArray, List.set_cons_zero, List.set_cons_succ]
  refine wpAnyH_take (i := 11) (oi := { dst := some 16, op := Go.Op.load 25 (Go.Operand.tmp 15), type := 25, pos := "trace.go:88", after := #[{ on := 10, ground := Go.Ground.data }], guard := none }) (v := ?_) rfl (by kernel_rfl) (by kernel_rfl) (by kernel_rfl) (fun _ _ _ h => h) (Or.inl ⟨by rfl, ?_⟩) (by assumption) ?_
  rotate_left
  · intro w hSw
    have hc := (HCL.out _ hSw).2.2
    go_simp
    all_goals with_reducible rfl
  try simp only [Act.put, List.setIfInBounds_toArray, List.set_cons_zero, List.set_cons_succ]
  refine wpAnyH_ready (rs := [3]) (by kernel_rfl) (by simp) ?_
  refine AllReadyH.cons (o := { dst := some 8, op := Go.Op.call { callee := Go.Callee.value (Go.Operand.func 9), args := #[Go.Operand.tmp 5, Go.Operand.tmp 7], argTypes := #[34, 3] }, type := 9, pos := "trace.go:88", after := #[{ on := 0, ground := Go.Ground.data }, { on := 2, ground := Go.Ground.data }], guard := none }) rfl (fun K hK => ?_) AllReadyH.nil
  go_simp
  refine (KN.out _ (HP1.out.keep0 hHeld)).mono ?_
  rintro r z ⟨rfl, hk⟩
  try simp only []
  refine hK.out _ _ (hHeld.trans hk (by simp)) (fun hHeld => ?_)
  clear hK K
  try simp only [Act.put, List.setIfInBounds_toArray, List.set_cons_zero, List.set_cons_succ]
  refine wpAnyH_take (i := 4) (oi := { dst := some 9, op := Go.Op.binOp Go.BinOp.add 9 (Go.Operand.tmp 8) (Go.Operand.const (Go.Value.string { data := #[58, 32] })) 9, type := 9, pos := "trace.go:88", after := #[{ on := 3, ground := Go.Ground.data }], guard := none }) (v := ?_) rfl (by kernel_rfl) (by kernel_rfl) (by kernel_rfl) (fun _ _ _ h => h) (Or.inl ⟨by rfl, ?_⟩) (by assumption) ?_
  rotate_left
  · intro w hSw
    (try dsimp only at hSw)
    go_simp
    all_goals with_reducible rfl
  try simp only [Act.put, List.setIfInBounds_toArray, List.set_cons_zero, List.set_cons_succ]
  refine wpAnyH_ready (rs := [7]) (by kernel_rfl) (by simp) ?_
  refine AllReadyH.cons (o := { dst := some 12, op := Go.Op.call { callee := Go.Callee.value (Go.Operand.func 32), args := #[Go.Operand.tmp 11, Go.Operand.const (Go.Value.int Go.IntKind.i64 10)], argTypes := #[25, 3] }, type := 9, pos := "trace.go:88", after := #[{ on := 6, ground := Go.Ground.data }, { on := 3, ground := Go.Ground.chain }], guard := none }) rfl (fun K hK => ?_) AllReadyH.nil
  go_simp
  refine (KU.out _ (HT1.out.keep hHeld)).mono ?_
  rintro r z ⟨rfl, hk⟩
  try simp only []
  refine hK.out _ _ (hHeld.trans hk (by simp)) (fun hHeld => ?_)
  clear hK K
  try simp only [Act.put, List.setIfInBounds_toArray, List.set_cons_zero, List.set_cons_succ]
  refine wpAnyH_take (i := 8) (oi := { dst := some 13, op := Go.Op.binOp Go.BinOp.add 9 (Go.Operand.tmp 9) (Go.Operand.tmp 12) 9, type := 9, pos := "trace.go:88", after := #[{ on := 4, ground := Go.Ground.data }, { on := 7, ground := Go.Ground.data }], guard := none }) (v := ?_) rfl (by kernel_rfl) (by kernel_rfl) (by kernel_rfl) (fun _ _ _ h => h) (Or.inl ⟨by rfl, ?_⟩) (by assumption) ?_
  rotate_left
  · intro w hSw
    (try dsimp only at hSw)
    go_simp
    all_goals with_reducible rfl
  try simp only [Act.put, List.setIfInBounds_toArray, List.set_cons_zero, List.set_cons_succ]
  refine wpAnyH_take (i := 9) (oi := { dst := some 14, op := Go.Op.binOp Go.BinOp.add 9 (Go.Operand.tmp 13) (Go.Operand.const (Go.Value.string { data := #[32] })) 9, type := 9, pos := "trace.go:88", after := #[{ on := 8, ground := Go.Ground.data }], guard := none }) (v := ?_) rfl (by kernel_rfl) (by kernel_rfl) (by kernel_rfl) (fun _ _ _ h => h) (Or.inl ⟨by rfl, ?_⟩) (by assumption) ?_
  rotate_left
  · intro w hSw
    (try dsimp only at hSw)
    go_simp
    all_goals with_reducible rfl
  try simp only [Act.put, List.setIfInBounds_toArray, List.set_cons_zero, List.set_cons_succ]
  refine wpAnyH_ready (rs := [12]) (by kernel_rfl) (by simp) ?_
  refine AllReadyH.cons (o := { dst := some 17, op := Go.Op.call { callee := Go.Callee.value (Go.Operand.func 32), args := #[Go.Operand.tmp 16, Go.Operand.const (Go.Value.int Go.IntKind.i64 10)], argTypes := #[25, 3] }, type := 9, pos := "trace.go:88", after := #[{ on := 11, ground := Go.Ground.data }, { on := 7, ground := Go.Ground.chain }], guard := none }) rfl (fun K hK => ?_) AllReadyH.nil
  go_simp
  refine (KV.out _ (HT1.out.keep hHeld)).mono ?_
  rintro r z ⟨rfl, hk⟩
  try simp only []
  refine hK.out _ _ (hHeld.trans hk (by simp)) (fun hHeld => ?_)
  clear hK K
  try simp only [Act.put, List.setIfInBounds_toArray, List.set_cons_zero, List.set_cons_succ]
  refine wpAnyH_take (i := 13) (oi := { dst := some 18, op := Go.Op.binOp Go.BinOp.add 9 (Go.Operand.tmp 14) (Go.Operand.tmp 17) 9, type := 9, pos := "trace.go:88", after := #[{ on := 9, ground := Go.Ground.data }, { on := 12, ground := Go.Ground.data }], guard := none }) (v := ?_) rfl (by kernel_rfl) (by kernel_rfl) (by kernel_rfl) (fun _ _ _ h => h) (Or.inl ⟨by rfl, ?_⟩) (by assumption) ?_
  rotate_left
  · intro w hSw
    (try dsimp only at hSw)
    go_simp
    all_goals with_reducible rfl
  try simp only [Act.put, List.setIfInBounds_toArray, List.set_cons_zero, List.set_cons_succ]
  refine wpAnyH_take (i := 14) (oi := { dst := some 4, op := Go.Op.assign (Go.Operand.tmp 18), type := 9, pos := "trace.go:88", after := #[{ on := 13, ground := Go.Ground.data }, { on := 12, ground := Go.Ground.chain }, { on := 0, ground := Go.Ground.phase }, { on := 1, ground := Go.Ground.phase }, { on := 2, ground := Go.Ground.phase }, { on := 3, ground := Go.Ground.phase }, { on := 4, ground := Go.Ground.phase }, { on := 5, ground := Go.Ground.phase }, { on := 6, ground := Go.Ground.phase }, { on := 7, ground := Go.Ground.phase }, { on := 8, ground := Go.Ground.phase }, { on := 9, ground := Go.Ground.phase }, { on := 10, ground := Go.Ground.phase }, { on := 11, ground := Go.Ground.phase }, { on := 12, ground := Go.Ground.phase }, { on := 13, ground := Go.Ground.phase }], guard := none }) (v := ?_) rfl (by kernel_rfl) (by kernel_rfl) (by kernel_rfl) (fun _ _ _ h => h) (Or.inl ⟨by rfl, ?_⟩) (by assumption) ?_
  rotate_left
  · intro w hSw
    (try dsimp only at hSw)
    go_simp
    all_goals with_reducible rfl
  try simp only [Act.put, List.setIfInBounds_toArray, List.set_cons_zero, List.set_cons_succ]
  refine wpAnyH_done (by kernel_rfl) ?_ _
  go_wp2
  go_ret
  exact ⟨congrArg (fun s => Ending.returned (.string s)) HE.out, HK0.out.trans hHeld (by simp)⟩
end Go.Proofs.YtnhkjfknhponkaaDoor
