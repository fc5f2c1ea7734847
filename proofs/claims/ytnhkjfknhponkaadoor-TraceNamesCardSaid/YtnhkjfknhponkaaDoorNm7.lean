/- TraceNames: the law's walk where all is looked at. Conditions: the configuration may be, at most 60 slots; the library's table is as it was laid. -/
import Derived.Test.YtnhkjfknhponkaaDoorNm6
namespace Go.Proofs.YtnhkjfknhponkaaDoor
open Go.RowKit

/-- What the law holds: the configuration's box, the change's, the plan. -/
structure NmR (w wr : World) (g h p : Nat) (c : ConfS) (x : ChS) : Prop where
  hk : Keep [] w wr
  bc : Blk wr g 32 #[.int .i64 c.thr, .int .i64 c.slots, .int .u64 c.stamps]
  bx : Blk wr h 27 #[.int .i64 x.p, .int .u64 (x.was : Nat), .int .u64 (x.now : Nat)]
  pl : PlanAt wr p c
  tab : TabOk wr
section
variable {w wr w2 : World} {g h p : Nat} {c : ConfS} {x : ChS}
theorem NmR.keep (r : NmR w wr g h p c x) (hk : Keep [] wr w2) : NmR w w2 g h p c x := ⟨r.hk.trans hk (by simp), r.bc.keep hk (by simp), r.bx.keep hk (by simp), r.pl.keep0 hk, r.tab.keep hk⟩
theorem NmR.c0 (r : NmR w wr g h p c x) : wr.cell? ⟨g, 0, none⟩ = some (.int .i64 c.thr) := r.bc.cell 0
theorem NmR.c1 (r : NmR w wr g h p c x) : wr.cell? ⟨g, 1, none⟩ = some (.int .i64 c.slots) := r.bc.cell 1
theorem NmR.c2 (r : NmR w wr g h p c x) : wr.cell? ⟨g, 2, none⟩ = some (.int .u64 c.stamps) := r.bc.cell 2
theorem NmR.x0 (r : NmR w wr g h p c x) : wr.cell? ⟨h, 0, none⟩ = some (.int .i64 x.p) := r.bx.cell 0
theorem NmR.x1 (r : NmR w wr g h p c x) : wr.cell? ⟨h, 1, none⟩ = some (.int .u64 (x.was : Nat)) := r.bx.cell 1
theorem NmR.x2 (r : NmR w wr g h p c x) : wr.cell? ⟨h, 2, none⟩ = some (.int .u64 (x.now : Nat)) := r.bx.cell 2
end
/-- The law's search, a words on. -/
def LookR (c : ConfS) (nm : List UInt8) (n a want : Nat) (is : Bool) : Prop :=
  (is = false ∧ want = 0 ∧ ∀ j, j < a → nameZ c (j : Nat) ≠ nm) ∨ (is = true ∧ want < n ∧ nameZ c (want : Nat) = nm ∧ ∀ j, j < want → nameZ c (j : Nat) ≠ nm)
theorem look_end {c : ConfS} {nm : List UInt8} {a want : Nat} {is : Bool} (h : LookR c nm (nWords c) a want is) (he : is = true ∨ nWords c ≤ a) : placeZ c nm = (want, is) := by
  rcases h with ⟨rfl, rfl, hn⟩ | ⟨rfl, hk, he2, hn⟩
  · have h2 : nWords c ≤ a := by rcases he with he | he; cases he; exact he
    unfold placeZ
    rw [findZ_none (fun j hj => by rw [← nameZ_in hj]; exact hn j (by omega))]
  · unfold placeZ
    rw [findZ_some hk (by rw [← nameZ_in hk]; exact he2) (fun j hj => by rw [← nameZ_in (show j < nWords c by omega)]; exact hn j hj)]
theorem place_back (c : ConfS) (ho : c.Ok) (hs : c.slots ≤ 60) (a : Nat) (ha : a < nWords c) : placeZ c (nameZ c (a : Nat)) = (a, true) := by
  unfold placeZ
  rw [findZ_some ha (nameZ_in ha).symm (fun j hj he => by
    have := names_one c ho hs j a (by omega) ha (by rw [he, nameZ_in ha])
    omega)]
set_option maxHeartbeats 8000000 in
theorem names_main (c : ConfS) (x : ChS) (nm : List UInt8) (w : World) (h : nm.length ≤ 100) (ho : c.Ok) (hs : c.slots ≤ 60) (h1 : x.was < 18446744073709551616) (h2 : x.now < 18446744073709551616) (ht : TabOk w) : Calls Tryd.prog 4 #[.agg c.cells, chV x, .string ⟨nm.toArray⟩] w (LivesOut w) := by
  have KN0 := Lib.hid (fun W => trace_name_nil W x.p)
  have KP := Lib.hid (fun W => plan_new_yes c W ho)
  have KM := Lib.hid (fun W => ref05_may c W)
  rw [ConfS.may_iff.2 ho] at KM
  have KN : Hid (∀ W p, PlanAt W p c → Calls Tryd.prog 9 #[.pointer (some ⟨p, 0, none⟩), .int .i64 x.p] W fun r w' => r = .returned (.string ⟨(nameZ c x.p).toArray⟩) ∧ Keep [] W w') := Lib.hid (fun W p hW => trace_name c p W hW ho hs x.p)
  have KF : Hid (∀ W (a : Int), Calls Tryd.prog 12 #[.agg c.cells, .int .i64 a] W fun r w' => r = .returned (.string ⟨(nameZ c a).toArray⟩) ∧ Keep [] W w') := Lib.hid (fun W a => ref40_name c W ho hs a)
  have KL : Hid (∀ W p, PlanAt W p c → TabOk W → Calls Tryd.prog 13 #[.pointer (some ⟨p, 0, none⟩), .agg #[.int .i64 x.p, .int .u64 (x.was : Nat), .int .u64 (x.now : Nat)]] W fun r w' => r = .returned (.string ⟨(lineZ c x).toArray⟩) ∧ Keep [] W w') := Lib.hid (fun W p hW hT => trace_line c p W hW ho hs x h1 h2 hT)
  have KR : Hid (∀ W, Calls Tryd.prog 14 #[.agg c.cells, .int .i64 x.p, .int .u64 (x.was : Nat), .int .u64 (x.now : Nat)] W fun r w' => r = .returned (.string ⟨(lineZ c x).toArray⟩) ∧ Keep [] W w') := Lib.hid (fun W => ref40_line c W ho hs x h1 h2)
  have KW : Hid (∀ W, Calls Tryd.prog 15 #[.agg c.cells] W fun r w' => Keep [] W w' ∧ ∃ v, r = .returned v ∧ w'.ownsRow 0 72 3 v (nWords c) (wcells c (nWords c))) := Lib.hid (fun W => ref05_words c W ho)
  have KA : Hid (∀ W p, PlanAt W p c → ∀ l : List UInt8, Calls Tryd.prog 16 #[.pointer (some ⟨p, 0, none⟩), .string ⟨l.toArray⟩] W fun r w' => r = .returned (.tuple #[.int .i64 ((placeZ c l).1 : Nat), .bool (placeZ c l).2]) ∧ Keep [] W w') := Lib.hid (fun W p hW l => trace_place c p W hW ho hs l)
  have HOS : Hid (c.Ok ∧ c.slots ≤ 60) := Lib.hid ⟨ho, hs⟩
  have hn2 : Hid (nWords c ≤ 2000) := Lib.hid (by unfold nWords; have := ho.t2; have := ho.s2; omega)
  have HK0 := Lib.hid (((Keep.refl [] w).alloc (.cells c.cells 32)).alloc (.cells #[.int .i64 x.p, .int .u64 (x.was : Nat), .int .u64 (x.now : Nat)] 27))
  have HB := Lib.hid ((Blk.new w 32 c.cells).alloc (.cells #[.int .i64 x.p, .int .u64 (x.was : Nat), .int .u64 (x.now : Nat)] 27))
  have HX := Lib.hid (Blk.new (w.alloc (.cells c.cells 32)) 27 #[.int .i64 x.p, .int .u64 (x.was : Nat), .int .u64 (x.now : Nat)])
  rw [show (w.alloc (.cells c.cells 32)).heap.size = w.heap.size + 1 from (by show (w.heap.push _).size = _; simp)] at HX
  rw [show c.cells = #[.int .i64 c.thr, .int .i64 c.slots, .int .u64 c.stamps] from rfl] at HK0 HB HX KP KM KF KR KW ⊢
  have HT0 := Lib.hid (ht.keep HK0.out)
  have hz : ¬ (100 : Int) < ((nm.length : Nat) : Int) := by omega
  have hsl : ¬ (60 : Int) < c.slots := by omega
  have hb0 : (0 : Int) ≤ ((nWords c : Nat) : Int) := by omega
  unfold chV
  clear h ho hs h1 h2 ht
  go_enter Tryd.func4, Tryd.ntmps4
  go_upto_region 1 with fail
  generalize w.heap.size = g at HB HX ⊢
  generalize (w.alloc _).alloc _ = w1 at HK0 HB HX HT0 ⊢
  have hx0 : w1.cell? ⟨g + 1, 0, none⟩ = some (.int .i64 x.p) := HX.out.cell 0
  go_wp2_with fail
  refine (KN0.out _).mono ?_
  rintro r y ⟨rfl, hk⟩
  have HK := Lib.hid (HK0.out.trans hk (by simp))
  have HB1 := Lib.hid (HB.out.keep hk (by simp))
  have HX1 := Lib.hid (HX.out.keep hk (by simp))
  have HT1 := Lib.hid (HT0.out.keep hk)
  clear hk HB HX HT0 hx0 HK0
  have hc0 : y.cell? ⟨g, 0, none⟩ = some (.int .i64 c.thr) := HB1.out.cell 0
  have hc1 : y.cell? ⟨g, 1, none⟩ = some (.int .i64 c.slots) := HB1.out.cell 1
  have hc2 : y.cell? ⟨g, 2, none⟩ = some (.int .u64 c.stamps) := HB1.out.cell 2
  go_wp2_with fail
  refine (KP.out _).mono ?_
  rintro r z ⟨p, rfl, hp, _, hk⟩
  have HR0 : Hid (NmR w z g (g + 1) p c x) := Lib.hid ⟨HK.out.trans hk (by simp), HB1.out.keep hk (by simp), HX1.out.keep hk (by simp), hp, HT1.out.keep hk⟩
  clear hk hp HB1 HX1 HT1 hc0 hc1 hc2 HK KP
  generalize g + 1 = h at *
  have hc0 := HR0.out.c0
  have hc1 := HR0.out.c1
  have hc2 := HR0.out.c2
  go_wp2_with fail
  refine (KM.out _).mono ?_
  rintro r z2 ⟨rfl, hk⟩
  have HR1 := Lib.hid (HR0.out.keep hk)
  clear hk hc0 hc1 hc2 HR0 KM
  have hc1 := HR1.out.c1
  go_upto_region 8 with fail
  clear hc1
  have hnn : ∀ l : List UInt8, (l == l) = true := fun l => beq_self_eq_true l
  refine wp_region_held_drew (S := (fun w' => NmR w w' g h p c x)) (by kernel_rfl) (HR1.out.keep (Keep.refl _ _).drew) (fun hHeld => ?_)
  refine wpAnyH_take (i := 0) (oi := { dst := some 52, op := Go.Op.move (Go.Operand.tmp 7), type := 34, pos := "law.go:45", after := #[], guard := none }) (v := ?_) rfl (by kernel_rfl) (by kernel_rfl) (by kernel_rfl) (fun _ _ _ h => h) (Or.inl ⟨by rfl, ?_⟩) (by assumption) ?_
  rotate_left
  · intro w hSw
    (try dsimp only at hSw)
    go_simp
    all_goals with_reducible rfl
  try simp only [Act.put, List.setIfInBounds_toArray, List.set_cons_zero, List.set_cons_succ]
  refine wpAnyH_take (i := 1) (oi := { dst := some 53, op := Go.Op.fieldAddr 27 (Go.Operand.tmp 4) 0, type := 0, pos := "law.go:45", after := #[], guard := none }) (v := ?_) rfl (by kernel_rfl) (by kernel_rfl) (by kernel_rfl) (fun _ _ _ h => h) (Or.inl ⟨by rfl, ?_⟩) (by assumption) ?_
  rotate_left
  · intro w hSw
    (try dsimp only at hSw)
    go_simp
    all_goals with_reducible rfl
  try simp only [Act.put, List.setIfInBounds_toArray, List.set_cons_zero, List.set_cons_succ]
  refine wpAnyH_take (i := 2) (oi := { dst := some 54, op := Go.Op.load 3 (Go.Operand.tmp 53), type := 3, pos := "law.go:45", after := #[{ on := 1, ground := Go.Ground.data }], guard := none }) (v := ?_) rfl (by kernel_rfl) (by kernel_rfl) (by kernel_rfl) (fun _ _ _ h => h) (Or.inl ⟨by rfl, ?_⟩) (by assumption) ?_
  rotate_left
  · intro w hSw
    have hc := hSw.x0
    go_simp
    all_goals with_reducible rfl
  try simp only [Act.put, List.setIfInBounds_toArray, List.set_cons_zero, List.set_cons_succ]
  refine wpAnyH_take (i := 4) (oi := { dst := some 56, op := Go.Op.load 32 (Go.Operand.tmp 3), type := 32, pos := "law.go:45", after := #[], guard := none }) (v := ?_) rfl (by kernel_rfl) (by kernel_rfl) (by kernel_rfl) (fun _ _ _ h => h) (Or.inl ⟨by rfl, ?_⟩) (by assumption) ?_
  rotate_left
  · intro w hSw
    have hc0 := hSw.c0
    have hc1 := hSw.c1
    have hc2 := hSw.c2
    go_simp
    all_goals with_reducible rfl
  try simp only [Act.put, List.setIfInBounds_toArray, List.set_cons_zero, List.set_cons_succ]
  refine wpAnyH_take (i := 5) (oi := { dst := some 57, op := Go.Op.fieldAddr 27 (Go.Operand.tmp 4) 0, type := 0, pos := "law.go:45", after := #[], guard := none }) (v := ?_) rfl (by kernel_rfl) (by kernel_rfl) (by kernel_rfl) (fun _ _ _ h => h) (Or.inl ⟨by rfl, ?_⟩) (by assumption) ?_
  rotate_left
  · intro w hSw
    (try dsimp only at hSw)
    go_simp
    all_goals with_reducible rfl
  try simp only [Act.put, List.setIfInBounds_toArray, List.set_cons_zero, List.set_cons_succ]
  refine wpAnyH_take (i := 6) (oi := { dst := some 58, op := Go.Op.load 3 (Go.Operand.tmp 57), type := 3, pos := "law.go:45", after := #[{ on := 5, ground := Go.Ground.data }], guard := none }) (v := ?_) rfl (by kernel_rfl) (by kernel_rfl) (by kernel_rfl) (fun _ _ _ h => h) (Or.inl ⟨by rfl, ?_⟩) (by assumption) ?_
  rotate_left
  · intro w hSw
    have hc := hSw.x0
    go_simp
    all_goals with_reducible rfl
  try simp only [Act.put, List.setIfInBounds_toArray, List.set_cons_zero, List.set_cons_succ]
  refine wpAnyH_ready (rs := [3]) (by kernel_rfl) (by simp) ?_
  refine AllReadyH.cons (o := { dst := some 55, op := Go.Op.call { callee := Go.Callee.value (Go.Operand.func 9), args := #[Go.Operand.tmp 52, Go.Operand.tmp 54], argTypes := #[34, 3] }, type := 9, pos := "law.go:45", after := #[{ on := 0, ground := Go.Ground.data }, { on := 2, ground := Go.Ground.data }], guard := none }) rfl (fun K hK => ?_) AllReadyH.nil
  go_simp
  refine (KN.out _ _ hHeld.pl).mono ?_
  rintro r z ⟨rfl, hk⟩
  try simp only []
  refine hK.out _ _ (hHeld.keep hk) (fun hHeld => ?_)
  clear hK K
  try simp only [Act.put, List.setIfInBounds_toArray, List.set_cons_zero, List.set_cons_succ]
  refine wpAnyH_ready (rs := [7]) (by kernel_rfl) (by simp) ?_
  refine AllReadyH.cons (o := { dst := some 59, op := Go.Op.call { callee := Go.Callee.value (Go.Operand.func 12), args := #[Go.Operand.tmp 56, Go.Operand.tmp 58], argTypes := #[32, 3] }, type := 9, pos := "law.go:45", after := #[{ on := 4, ground := Go.Ground.data }, { on := 6, ground := Go.Ground.data }, { on := 3, ground := Go.Ground.chain }], guard := none }) rfl (fun K hK => ?_) AllReadyH.nil
  go_simp
  refine (KF.out _ _).mono ?_
  rintro r z ⟨rfl, hk⟩
  try simp only []
  refine hK.out _ _ (hHeld.keep hk) (fun hHeld => ?_)
  clear hK K
  try simp only [Act.put, List.setIfInBounds_toArray, List.set_cons_zero, List.set_cons_succ]
  refine wpAnyH_take (i := 8) (oi := { dst := some 60, op := Go.Op.binOp Go.BinOp.neq 9 (Go.Operand.tmp 55) (Go.Operand.tmp 59) 9, type := 4, pos := "law.go:45", after := #[{ on := 3, ground := Go.Ground.data }, { on := 7, ground := Go.Ground.data }], guard := none }) (v := ?_) rfl (by kernel_rfl) (by kernel_rfl) (by kernel_rfl) (fun _ _ _ h => h) (Or.inl ⟨by rfl, ?_⟩) (by assumption) ?_
  rotate_left
  · intro w hSw
    (try dsimp only at hSw)
    go_simp
    all_goals with_reducible rfl
  try simp only [Act.put, List.setIfInBounds_toArray, List.set_cons_zero, List.set_cons_succ]
  refine wpAnyH_take (i := 9) (oi := { dst := some 61, op := Go.Op.move (Go.Operand.tmp 60), type := 4, pos := "law.go:45", after := #[{ on := 8, ground := Go.Ground.data }, { on := 7, ground := Go.Ground.chain }], guard := none }) (v := ?_) rfl (by kernel_rfl) (by kernel_rfl) (by kernel_rfl) (fun _ _ _ h => h) (Or.inl ⟨by rfl, ?_⟩) (by assumption) ?_
  rotate_left
  · intro w hSw
    (try dsimp only at hSw)
    go_simp
    all_goals with_reducible rfl
  try simp only [Act.put, List.setIfInBounds_toArray, List.set_cons_zero, List.set_cons_succ]
  refine wpAnyH_take (i := 10) (oi := { dst := some 62, op := Go.Op.move (Go.Operand.tmp 7), type := 34, pos := "law.go:45", after := #[{ on := 9, ground := Go.Ground.guard }], guard := some (9, false) }) (v := ?_) rfl (by kernel_rfl) (by kernel_rfl) (by kernel_rfl) (fun _ _ _ h => h) (Or.inl ⟨by rfl, ?_⟩) (by assumption) ?_
  rotate_left
  · intro w hSw
    (try dsimp only at hSw)
    go_simp
    all_goals with_reducible rfl
  try simp only [Act.put, List.setIfInBounds_toArray, List.set_cons_zero, List.set_cons_succ]
  refine wpAnyH_take (i := 11) (oi := { dst := some 63, op := Go.Op.load 27 (Go.Operand.tmp 4), type := 27, pos := "law.go:45", after := #[{ on := 9, ground := Go.Ground.guard }], guard := some (9, false) }) (v := ?_) rfl (by kernel_rfl) (by kernel_rfl) (by kernel_rfl) (fun _ _ _ h => h) (Or.inl ⟨by rfl, ?_⟩) (by assumption) ?_
  rotate_left
  · intro w hSw
    have hc0 := hSw.x0
    have hc1 := hSw.x1
    have hc2 := hSw.x2
    go_simp
    all_goals with_reducible rfl
  try simp only [Act.put, List.setIfInBounds_toArray, List.set_cons_zero, List.set_cons_succ]
  refine wpAnyH_take (i := 13) (oi := { dst := some 65, op := Go.Op.load 32 (Go.Operand.tmp 3), type := 32, pos := "law.go:45", after := #[{ on := 9, ground := Go.Ground.guard }], guard := some (9, false) }) (v := ?_) rfl (by kernel_rfl) (by kernel_rfl) (by kernel_rfl) (fun _ _ _ h => h) (Or.inl ⟨by rfl, ?_⟩) (by assumption) ?_
  rotate_left
  · intro w hSw
    have hc0 := hSw.c0
    have hc1 := hSw.c1
    have hc2 := hSw.c2
    go_simp
    all_goals with_reducible rfl
  try simp only [Act.put, List.setIfInBounds_toArray, List.set_cons_zero, List.set_cons_succ]
  refine wpAnyH_take (i := 14) (oi := { dst := some 66, op := Go.Op.fieldAddr 27 (Go.Operand.tmp 4) 0, type := 0, pos := "law.go:45", after := #[{ on := 9, ground := Go.Ground.guard }], guard := some (9, false) }) (v := ?_) rfl (by kernel_rfl) (by kernel_rfl) (by kernel_rfl) (fun _ _ _ h => h) (Or.inl ⟨by rfl, ?_⟩) (by assumption) ?_
  rotate_left
  · intro w hSw
    (try dsimp only at hSw)
    go_simp
    all_goals with_reducible rfl
  try simp only [Act.put, List.setIfInBounds_toArray, List.set_cons_zero, List.set_cons_succ]
  refine wpAnyH_take (i := 15) (oi := { dst := some 67, op := Go.Op.load 3 (Go.Operand.tmp 66), type := 3, pos := "law.go:45", after := #[{ on := 14, ground := Go.Ground.data }, { on := 9, ground := Go.Ground.guard }], guard := some (9, false) }) (v := ?_) rfl (by kernel_rfl) (by kernel_rfl) (by kernel_rfl) (fun _ _ _ h => h) (Or.inl ⟨by rfl, ?_⟩) (by assumption) ?_
  rotate_left
  · intro w hSw
    have hc := hSw.x0
    go_simp
    all_goals with_reducible rfl
  try simp only [Act.put, List.setIfInBounds_toArray, List.set_cons_zero, List.set_cons_succ]
  refine wpAnyH_take (i := 16) (oi := { dst := some 68, op := Go.Op.fieldAddr 27 (Go.Operand.tmp 4) 1, type := 0, pos := "law.go:45", after := #[{ on := 9, ground := Go.Ground.guard }], guard := some (9, false) }) (v := ?_) rfl (by kernel_rfl) (by kernel_rfl) (by kernel_rfl) (fun _ _ _ h => h) (Or.inl ⟨by rfl, ?_⟩) (by assumption) ?_
  rotate_left
  · intro w hSw
    (try dsimp only at hSw)
    go_simp
    all_goals with_reducible rfl
  try simp only [Act.put, List.setIfInBounds_toArray, List.set_cons_zero, List.set_cons_succ]
  refine wpAnyH_take (i := 17) (oi := { dst := some 69, op := Go.Op.load 25 (Go.Operand.tmp 68), type := 25, pos := "law.go:45", after := #[{ on := 16, ground := Go.Ground.data }, { on := 9, ground := Go.Ground.guard }], guard := some (9, false) }) (v := ?_) rfl (by kernel_rfl) (by kernel_rfl) (by kernel_rfl) (fun _ _ _ h => h) (Or.inl ⟨by rfl, ?_⟩) (by assumption) ?_
  rotate_left
  · intro w hSw
    have hc := hSw.x1
    go_simp
    all_goals with_reducible rfl
  try simp only [Act.put, List.setIfInBounds_toArray, List.set_cons_zero, List.set_cons_succ]
  refine wpAnyH_take (i := 18) (oi := { dst := some 70, op := Go.Op.fieldAddr 27 (Go.Operand.tmp 4) 2, type := 0, pos := "law.go:45", after := #[{ on := 9, ground := Go.Ground.guard }], guard := some (9, false) }) (v := ?_) rfl (by kernel_rfl) (by kernel_rfl) (by kernel_rfl) (fun _ _ _ h => h) (Or.inl ⟨by rfl, ?_⟩) (by assumption) ?_
  rotate_left
  · intro w hSw
    (try dsimp only at hSw)
    go_simp
    all_goals with_reducible rfl
  try simp only [Act.put, List.setIfInBounds_toArray, List.set_cons_zero, List.set_cons_succ]
  refine wpAnyH_take (i := 19) (oi := { dst := some 71, op := Go.Op.load 25 (Go.Operand.tmp 70), type := 25, pos := "law.go:45", after := #[{ on := 18, ground := Go.Ground.data }, { on := 9, ground := Go.Ground.guard }], guard := some (9, false) }) (v := ?_) rfl (by kernel_rfl) (by kernel_rfl) (by kernel_rfl) (fun _ _ _ h => h) (Or.inl ⟨by rfl, ?_⟩) (by assumption) ?_
  rotate_left
  · intro w hSw
    have hc := hSw.x2
    go_simp
    all_goals with_reducible rfl
  try simp only [Act.put, List.setIfInBounds_toArray, List.set_cons_zero, List.set_cons_succ]
  refine wpAnyH_ready (rs := [12]) (by kernel_rfl) (by simp) ?_
  refine AllReadyH.cons (o := { dst := some 64, op := Go.Op.call { callee := Go.Callee.value (Go.Operand.func 13), args := #[Go.Operand.tmp 62, Go.Operand.tmp 63], argTypes := #[34, 27] }, type := 9, pos := "law.go:45", after := #[{ on := 10, ground := Go.Ground.data }, { on := 11, ground := Go.Ground.data }, { on := 9, ground := Go.Ground.chain }, { on := 9, ground := Go.Ground.guard }], guard := some (9, false) }) rfl (fun K hK => ?_) AllReadyH.nil
  go_simp
  refine (KL.out _ _ hHeld.pl hHeld.tab).mono ?_
  rintro r z ⟨rfl, hk⟩
  try simp only []
  refine hK.out _ _ (hHeld.keep hk) (fun hHeld => ?_)
  clear hK K
  try simp only [Act.put, List.setIfInBounds_toArray, List.set_cons_zero, List.set_cons_succ]
  refine wpAnyH_ready (rs := [20]) (by kernel_rfl) (by simp) ?_
  refine AllReadyH.cons (o := { dst := some 72, op := Go.Op.call { callee := Go.Callee.value (Go.Operand.func 14), args := #[Go.Operand.tmp 65, Go.Operand.tmp 67, Go.Operand.tmp 69, Go.Operand.tmp 71], argTypes := #[32, 3, 25, 25] }, type := 9, pos := "law.go:45", after := #[{ on := 13, ground := Go.Ground.data }, { on := 15, ground := Go.Ground.data }, { on := 17, ground := Go.Ground.data }, { on := 19, ground := Go.Ground.data }, { on := 12, ground := Go.Ground.chain }, { on := 9, ground := Go.Ground.guard }], guard := some (9, false) }) rfl (fun K hK => ?_) AllReadyH.nil
  go_simp
  refine (KR.out _).mono ?_
  rintro r z ⟨rfl, hk⟩
  try simp only []
  refine hK.out _ _ (hHeld.keep hk) (fun hHeld => ?_)
  clear hK K
  try simp only [Act.put, List.setIfInBounds_toArray, List.set_cons_zero, List.set_cons_succ]
  refine wpAnyH_take (i := 21) (oi := { dst := some 73, op := Go.Op.binOp Go.BinOp.neq 9 (Go.Operand.tmp 64) (Go.Operand.tmp 72) 9, type := 4, pos := "law.go:45", after := #[{ on := 12, ground := Go.Ground.data }, { on := 20, ground := Go.Ground.data }, { on := 9, ground := Go.Ground.guard }], guard := some (9, false) }) (v := ?_) rfl (by kernel_rfl) (by kernel_rfl) (by kernel_rfl) (fun _ _ _ h => h) (Or.inl ⟨by rfl, ?_⟩) (by assumption) ?_
  rotate_left
  · intro w hSw
    (try dsimp only at hSw)
    go_simp
    all_goals with_reducible rfl
  try simp only [Act.put, List.setIfInBounds_toArray, List.set_cons_zero, List.set_cons_succ]
  refine wpAnyH_take (i := 22) (oi := { dst := some 74, op := Go.Op.pick (Go.Operand.tmp 61) (Go.Operand.const (Go.Value.bool true)) (Go.Operand.tmp 73), type := 4, pos := "law.go:45", after := #[{ on := 9, ground := Go.Ground.data }, { on := 21, ground := Go.Ground.data }], guard := none }) (v := ?_) rfl (by kernel_rfl) (by kernel_rfl) (by kernel_rfl) (fun _ _ _ h => h) (Or.inl ⟨by rfl, ?_⟩) (by assumption) ?_
  rotate_left
  · intro w hSw
    (try dsimp only at hSw)
    go_simp
    all_goals with_reducible rfl
  try simp only [Act.put, List.setIfInBounds_toArray, List.set_cons_zero, List.set_cons_succ]
  refine wpAnyH_done (by kernel_rfl) ?_ _
  have HR2 := Lib.hid hHeld
  clear hHeld HR1 KL KR KN KN0 hnn
  have hc0 := HR2.out.c0
  have hc1 := HR2.out.c1
  have hc2 := HR2.out.c2
  go_wp2_with fail
  refine (KW.out _).mono ?_
  rintro r z3 ⟨hk, v, rfl, hown⟩
  obtain ⟨A, cap, rfl⟩ := own_form hown
  have HR3 := Lib.hid (HR2.out.keep hk)
  clear hk hown KW HR2 hc0 hc1 hc2
  obtain ⟨n, hn⟩ : ∃ n, n = nWords c := ⟨_, rfl⟩
  have HN : Hid (n = nWords c ∧ n ≤ 2000) := Lib.hid ⟨hn, by rw [hn]; exact hn2.out⟩
  rw [← hn] at hb0 ⊢
  clear hn hn2
  have hn0 : ((n : Nat) : Int) ≤ 2000 := by have := HN.out.2; omega
  go_wp2_with fail
  go_loopg [10, 11, 12] n (fun gq v10 v11 v12 wr => ∃ (a want : Nat) (is : Bool), a ≤ n ∧ gq = n - a ∧ v10 = .int .i64 (want : Nat) ∧ v11 = .bool is ∧ v12 = .int .i64 (a : Nat) ∧ NmR w wr g h p c x ∧ LookR c nm n a want is)
  case atStart => exact ⟨0, 0, false, Nat.zero_le _, rfl, rfl, rfl, rfl, HR3.out, .inl ⟨rfl, rfl, fun j hj => by omega⟩⟩
  case round =>
    obtain ⟨a, want, is, ha, rfl, rfl, rfl, rfl, hr, hlk⟩ := hrel
    have HR := Lib.hid hr
    have HLK := Lib.hid hlk
    have ha0 : (0 : Int) ≤ ((a : Nat) : Int) := by omega
    have ha9 : ((a : Nat) : Int) ≤ 2000 := by omega
    clear hlk HR3
    by_cases hgo : a < n ∧ is = false
    · obtain ⟨hlt, rfl⟩ := hgo
      have hzl : ((a : Nat) : Int) < ((n : Nat) : Int) := by omega
      have HLT := Lib.hid hlt
      have HLO : Hid (want = 0 ∧ ∀ j, j < a → nameZ c (j : Nat) ≠ nm) := Lib.hid (by
        rcases HLK.out with ⟨_, h1, h2⟩ | ⟨h0, _⟩
        · exact ⟨h1, h2⟩
        · cases h0)
      have hc0 := hr.c0
      have hc1 := hr.c1
      have hc2 := hr.c2
      clear hr hlt HLK
      by_cases he : nameZ c (a : Nat) = nm
      · have hb := str_eq _ _ he
        have HE := Lib.hid he
        have KX := Lib.hid (KF.out wr (a : Nat))
        clear he
        generalize nameZ c (a : Nat) = na at KX hb
        go_wp2_with fail
        refine KX.out.mono ?_
        rintro r z4 ⟨rfl, hk⟩
        have HR4 := Lib.hid (HR.out.keep hk)
        clear hk
        go_wp2_with fail
        go_roundg (n - (a + 1))
        case measure => have := HLT.out; omega
        case rel => exact ⟨a + 1, a, true, HLT.out, rfl, rfl, rfl, by go_num, HR4.out, .inr ⟨rfl, HLT.out, HE.out, HLO.out.2⟩⟩
      · have hb := str_ne _ _ he
        have HE : Hid (∀ j, j < a + 1 → nameZ c (j : Nat) ≠ nm) := Lib.hid (fun j hj => by
          by_cases h : j < a
          · exact HLO.out.2 j h
          · obtain rfl : j = a := by omega
            exact he)
        have KX := Lib.hid (KF.out wr (a : Nat))
        clear he
        generalize nameZ c (a : Nat) = na at KX hb
        go_wp2_with fail
        refine KX.out.mono ?_
        rintro r z4 ⟨rfl, hk⟩
        have HR4 := Lib.hid (HR.out.keep hk)
        clear hk
        go_wp2_with fail
        go_roundg (n - (a + 1))
        case measure => have := HLT.out; omega
        case rel => exact ⟨a + 1, want, false, HLT.out, rfl, rfl, rfl, by go_num, HR4.out, .inl ⟨rfl, HLO.out.1, HE.out⟩⟩
    · have HPZ : Hid (placeZ c nm = (want, is)) := Lib.hid (look_end (by rw [← HN.out.1]; exact HLK.out) (by
        rw [← HN.out.1]
        by_cases h1 : is = true
        · exact .inl h1
        · refine .inr ?_
          have : is = false := by simpa using h1
          exact Nat.le_of_not_lt (fun h2 => hgo ⟨h2, this⟩)))
      have KX := Lib.hid (KA.out wr p HR.out.pl nm)
      rw [HPZ.out] at KX
      simp only at KX
      have hww : (((want : Nat) : Int) != ((want : Nat) : Int)) = false := by simp
      have hii : (is != is) = false := by cases is <;> rfl
      have hex : (¬ ((a : Nat) : Int) < ((n : Nat) : Int)) ∨ (((a : Nat) : Int) < ((n : Nat) : Int) ∧ is = true) := by
        by_cases h1 : a < n
        · refine .inr ⟨by omega, ?_⟩
          cases is with
          | true => rfl
          | false => exact absurd ⟨h1, rfl⟩ hgo
        · exact .inl (by omega)
      clear hgo hr HLK HPZ
      rcases hex with hge | ⟨hlt, rfl⟩
      · skip
        go_wp2_with fail
        refine KX.out.mono ?_
        rintro r z4 ⟨rfl, hk⟩
        have HR4 := Lib.hid (HR.out.keep hk)
        clear hk KX HR
        have hx0 := HR4.out.x0
        by_cases hin : 0 ≤ x.p ∧ x.p < ((n : Nat) : Int)
        · obtain ⟨k, hk⟩ : ∃ k : Nat, x.p = (k : Int) := ⟨x.p.toNat, by omega⟩
          have hkn : k < n := by omega
          rw [hk] at hx0
          have KX2 := Lib.hid (fun W => KF.out W (k : Nat))
          have KY := Lib.hid (fun W (hW : PlanAt W p c) => KA.out W p hW (nameZ c (k : Nat)))
          rw [place_back c HOS.out.1 HOS.out.2 k (by rw [← HN.out.1]; exact hkn)] at KY
          simp only at KY
          have hk0 : (0 : Int) ≤ ((k : Nat) : Int) := by omega
          have hkl : ((k : Nat) : Int) < ((n : Nat) : Int) := by omega
          have HXP := Lib.hid hk
          clear hin hk hkn
          generalize nameZ c (k : Nat) = nk at *
          have hc0 := HR4.out.c0
          have hc1 := HR4.out.c1
          have hc2 := HR4.out.c2
          go_wp2_with fail
          refine (KX2.out _).mono ?_
          rintro r z5 ⟨rfl, hk⟩
          have HR5 := Lib.hid (HR4.out.keep hk)
          clear hk hx0 hc0 hc1 hc2 HR4 KX2
          go_wp2_with fail
          refine (KY.out _ HR5.out.pl).mono ?_
          rintro r z6 ⟨rfl, hk⟩
          have HR6 := Lib.hid (HR5.out.keep hk)
          have hx0 := HR6.out.x0
          rw [HXP.out] at hx0
          clear hk HR5 KY
          go_wp2_with fail
          refine (lives40 _).mono ?_
          rintro r z7 ⟨rfl, hk⟩
          have HK7 := Lib.hid (HR6.out.hk.trans hk (by simp))
          clear hk
          go_wp2_with fail
          go_ret
          exact ⟨rfl, HK7.out⟩
        · by_cases hneg : x.p < 0
          · clear hin
            go_wp2_with fail
            refine (lives40 _).mono ?_
            rintro r z7 ⟨rfl, hk⟩
            have HK7 := Lib.hid (HR4.out.hk.trans hk (by simp))
            clear hk
            go_wp2_with fail
            go_ret
            exact ⟨rfl, HK7.out⟩
          · have hge : ((n : Nat) : Int) ≤ x.p := by omega
            clear hin
            go_wp2_with fail
            refine (lives40 _).mono ?_
            rintro r z7 ⟨rfl, hk⟩
            have HK7 := Lib.hid (HR4.out.hk.trans hk (by simp))
            clear hk
            go_wp2_with fail
            go_ret
            exact ⟨rfl, HK7.out⟩
      · skip
        go_wp2_with fail
        refine KX.out.mono ?_
        rintro r z4 ⟨rfl, hk⟩
        have HR4 := Lib.hid (HR.out.keep hk)
        clear hk KX HR
        have hx0 := HR4.out.x0
        by_cases hin : 0 ≤ x.p ∧ x.p < ((n : Nat) : Int)
        · obtain ⟨k, hk⟩ : ∃ k : Nat, x.p = (k : Int) := ⟨x.p.toNat, by omega⟩
          have hkn : k < n := by omega
          rw [hk] at hx0
          have KX2 := Lib.hid (fun W => KF.out W (k : Nat))
          have KY := Lib.hid (fun W (hW : PlanAt W p c) => KA.out W p hW (nameZ c (k : Nat)))
          rw [place_back c HOS.out.1 HOS.out.2 k (by rw [← HN.out.1]; exact hkn)] at KY
          simp only at KY
          have hk0 : (0 : Int) ≤ ((k : Nat) : Int) := by omega
          have hkl : ((k : Nat) : Int) < ((n : Nat) : Int) := by omega
          have HXP := Lib.hid hk
          clear hin hk hkn
          generalize nameZ c (k : Nat) = nk at *
          have hc0 := HR4.out.c0
          have hc1 := HR4.out.c1
          have hc2 := HR4.out.c2
          go_wp2_with fail
          refine (KX2.out _).mono ?_
          rintro r z5 ⟨rfl, hk⟩
          have HR5 := Lib.hid (HR4.out.keep hk)
          clear hk hx0 hc0 hc1 hc2 HR4 KX2
          go_wp2_with fail
          refine (KY.out _ HR5.out.pl).mono ?_
          rintro r z6 ⟨rfl, hk⟩
          have HR6 := Lib.hid (HR5.out.keep hk)
          have hx0 := HR6.out.x0
          rw [HXP.out] at hx0
          clear hk HR5 KY
          go_wp2_with fail
          refine (lives40 _).mono ?_
          rintro r z7 ⟨rfl, hk⟩
          have HK7 := Lib.hid (HR6.out.hk.trans hk (by simp))
          clear hk
          go_wp2_with fail
          go_ret
          exact ⟨rfl, HK7.out⟩
        · by_cases hneg : x.p < 0
          · clear hin
            go_wp2_with fail
            refine (lives40 _).mono ?_
            rintro r z7 ⟨rfl, hk⟩
            have HK7 := Lib.hid (HR4.out.hk.trans hk (by simp))
            clear hk
            go_wp2_with fail
            go_ret
            exact ⟨rfl, HK7.out⟩
          · have hge : ((n : Nat) : Int) ≤ x.p := by omega
            clear hin
            go_wp2_with fail
            refine (lives40 _).mono ?_
            rintro r z7 ⟨rfl, hk⟩
            have HK7 := Lib.hid (HR4.out.hk.trans hk (by simp))
            clear hk
            go_wp2_with fail
            go_ret
            exact ⟨rfl, HK7.out⟩
end Go.Proofs.YtnhkjfknhponkaaDoor
