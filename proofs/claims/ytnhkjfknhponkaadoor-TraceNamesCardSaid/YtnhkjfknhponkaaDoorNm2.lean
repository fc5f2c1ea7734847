/- A word's name: the reference's Name by its contract. Conditions: the configuration may be; at most 60 slots. -/
import Derived.Test.YtnhkjfknhponkaaDoorNm1
import Derived.Test.YtnhkjfknhponkaaDoorWds
import Derived.Test.YtnhkjfknhponkaaDoorNum
namespace Go.Proofs.YtnhkjfknhponkaaDoor
open Go.RowKit

theorem num_small (i : Nat) (hi : i < 100) (w : World) : Calls Tryd.prog 31 #[.int .i64 (i : Nat)] w fun r w' => r = .returned (.string ⟨(Lib.decDigits i).toArray⟩) ∧ w = w' := by
  have := ref35_number (i : Nat) (by omega) (by omega) w
  rw [Lib.itoa_nonneg] at this
  exact this
set_option maxHeartbeats 1000000 in
theorem ref40_name_no (c : ConfS) (w : World) (ho : c.Ok) (a : Int) (ha : a < 0 ∨ (nWords c : Int) ≤ a) : Calls Tryd.prog 12 #[.agg c.cells, .int .i64 a] w (StrOut [] w) := by
  have KW := Lib.hid (fun W => ref05_words c W ho)
  have HK0 := Lib.hid ((Keep.refl [] w).alloc (.cells c.cells 32))
  rw [show c.cells = #[.int .i64 c.thr, .int .i64 c.slots, .int .u64 c.stamps] from rfl] at KW HK0 ⊢
  have HN : Hid (nWords c ≤ 2000) := Lib.hid (by unfold nWords; have := ho.t2; have := ho.s2; omega)
  clear ho
  by_cases hneg : a < 0
  · clear ha
    go_enter Tryd.func12, Tryd.ntmps12
    go_wp2_with fail
    refine (KW.out _).mono ?_
    rintro r x ⟨hk, v, rfl, hown⟩
    have HK := Lib.hid (HK0.out.trans hk (by simp))
    clear hk hown
    go_wp2_with fail
    go_ret
    exact ⟨rfl, HK.out⟩
  · have hge : ((nWords c : Nat) : Int) ≤ a := by omega
    have hz : ¬ a < 0 := hneg
    clear ha hneg
    go_enter Tryd.func12, Tryd.ntmps12
    go_wp2_with fail
    refine (KW.out _).mono ?_
    rintro r x ⟨hk, v, rfl, hown⟩
    obtain ⟨A, cap, rfl⟩ := own_form hown
    have HK := Lib.hid (HK0.out.trans hk (by simp))
    clear hk hown
    go_wp2_with fail
    go_ret
    exact ⟨rfl, HK.out⟩
theorem own_cell3 {w : World} {base n a j : Nat} {e : TypeId} {g cap : Nat} {xs : List Value} {u : Value} (h : w.ownsRow base e 3 (.slice (some ⟨g, 0, none⟩) n cap) n xs) (hx : xs[a * 3 + j]? = some u) : w.cell? ⟨g, a * 3 + j, none⟩ = some u := by
  have h1 := h.cells (g := g) rfl (a * 3 + j) u hx
  rw [Addr_add_zero] at h1
  exact h1
theorem own_some3 {w : World} {base n : Nat} {e : TypeId} {v : Value} {xs : List Value} (h : w.ownsRow base e 3 v n xs) (hn : 0 < n) : ∃ g cap, v = .slice (some ⟨g, 0, none⟩) n cap := by
  obtain ⟨_, ⟨h1, _⟩ | ⟨g, cap, cur, hv, _⟩⟩ := h
  · omega
  · exact ⟨g, cap, hv⟩
set_option maxHeartbeats 4000000 in
theorem ref40_name_at (c : ConfS) (w : World) (ho : c.Ok) (hs : c.slots ≤ 60) (a : Nat) (ha : a < nWords c) : Calls Tryd.prog 12 #[.agg c.cells, .int .i64 (a : Nat)] w (StrOut (nameP (whatS c a)) w) := by
  have KW : Hid (∀ W, Calls Tryd.prog 15 #[.agg c.cells] W fun r w' => Keep [] W w' ∧ ∃ v, r = .returned v ∧ w'.ownsRow 0 72 3 v (nWords c) (wcells c (nWords c))) := Lib.hid (fun W => ref05_words c W ho)
  have HK0 := Lib.hid ((Keep.refl [] w).alloc (.cells c.cells 32))
  rw [show c.cells = #[.int .i64 c.thr, .int .i64 c.slots, .int .u64 c.stamps] from rfl] at KW HK0 ⊢
  have HN : Hid (nWords c ≤ 2000 ∧ a < nWords c) := Lib.hid ⟨by unfold nWords; have := ho.t2; have := ho.s2; omega, ha⟩
  have hx := what_ok c ho hs a ha
  have HC : Hid (∀ j, j < 3 → (wcells c (nWords c))[a * 3 + j]? = (placeL (whatS c a))[j]?) := Lib.hid (fun j hj => wcells_at c a j hj _ ha)
  clear ho hs
  generalize nWords c = n at *
  generalize wcells c n = xs at *
  generalize whatS c a = x at *
  obtain ⟨K, I, J⟩ := x
  obtain ⟨h5, hi, hj, h0⟩ := hx
  simp only at h5 hi hj h0
  have h60 : ((I : Nat) : Int) ≤ 60 := by omega
  have HX : Hid (K ≤ 5 ∧ I ≤ 60 ∧ J < 7 ∧ (K = 0 → I < 3)) := Lib.hid ⟨h5, hi, hj, h0⟩
  have KN := Lib.hid (fun W => num_small I (by omega) W)
  have KM := Lib.hid (fun W => num_small J (by omega) W)
  have hl1 := small_len (i := I) (by omega)
  have hl2 := small_len (i := J) (by omega)
  have hn1 : ¬ 9223372036854775807 < 1 + (Lib.decDigits I).length := by omega
  have hn2 : ¬ 9223372036854775807 < 1 + (Lib.decDigits J).length := by omega
  have ha0 : (0 : Int) ≤ ((a : Nat) : Int) := by omega
  have hz : ¬ ((a : Nat) : Int) < 0 := by omega
  have hz2 : ((a : Nat) : Int) < ((n : Nat) : Int) := by omega
  obtain ⟨NI, HNI⟩ : ∃ NI, Hid (NI = numB I) := ⟨_, Lib.hid rfl⟩
  obtain ⟨NJ, HNJ⟩ : ∃ NJ, Hid (NJ = numB J) := ⟨_, Lib.hid rfl⟩
  have HE1 : Hid ((⟨#[32]⟩ : ByteArray) ++ ⟨(Lib.decDigits I).toArray⟩ = ⟨NI.toArray⟩) := Lib.hid (by rw [HNI.out]; exact cat_eq [32] _)
  have HE2 : Hid ((⟨#[32]⟩ : ByteArray) ++ ⟨(Lib.decDigits J).toArray⟩ = ⟨NJ.toArray⟩) := Lib.hid (by rw [HNJ.out]; exact cat_eq [32] _)
  clear h5 hi hj h0 ha hl1 hl2
  generalize Lib.decDigits I = ib at *
  generalize Lib.decDigits J = jb at *
  go_enter Tryd.func12, Tryd.ntmps12
  go_wp2_with fail
  refine (KW.out _).mono ?_
  rintro r y ⟨hk, v, rfl, hown⟩
  obtain ⟨g, cap, rfl⟩ := own_some3 hown (by have := HN.out; omega)
  have HK := Lib.hid (HK0.out.trans hk (by simp))
  have hc0 : y.cell? ⟨g, a * 3, none⟩ = some (.int .i64 (K : Nat)) := own_cell3 (j := 0) hown (HC.out 0 (by decide))
  have hc1 : y.cell? ⟨g, a * 3 + 1, none⟩ = some (.int .i64 (I : Nat)) := own_cell3 (j := 1) hown (HC.out 1 (by decide))
  have hc2 : y.cell? ⟨g, a * 3 + 2, none⟩ = some (.int .i64 (J : Nat)) := own_cell3 (j := 2) hown (HC.out 2 (by decide))
  clear hk hown KW HK0
  go_upto_region 5 with fail
  have HB := Lib.hid (Blk.new y 72 #[.int .i64 (K : Nat), .int .i64 (I : Nat), .int .i64 (J : Nat)])
  have HK2 := Lib.hid (HK.out.alloc (.cells #[.int .i64 (K : Nat), .int .i64 (I : Nat), .int .i64 (J : Nat)] 72))
  clear hc0 hc1 hc2 HK
  generalize y.heap.size = g2 at HB ⊢
  generalize y.alloc _ = w2 at HB HK2 ⊢
  have hd1 : w2.cell? ⟨g2, 1, none⟩ = some (.int .i64 (I : Nat)) := HB.out.cell 1
  have hd2 : w2.cell? ⟨g2, 2, none⟩ = some (.int .i64 (J : Nat)) := HB.out.cell 2
  refine wp_region_held_drew (S := (fun w' => w'.cell? ⟨g2, 1, none⟩ = some (.int .i64 (I : Nat)) ∧ w'.cell? ⟨g2, 2, none⟩ = some (.int .i64 (J : Nat)) ∧ Keep [] w2 w')) (by kernel_rfl) ⟨hd1, hd2, (Keep.refl _ _).drew⟩ (fun hHeld => ?_)
  refine wpAnyH_take (i := 0) (oi := { dst := some 25, op := Go.Op.fieldAddr 72 (Go.Operand.tmp 6) 1, type := 0, pos := "ref.go:17", after := #[], guard := none }) (v := ?_) rfl (by kernel_rfl) (by kernel_rfl) (by kernel_rfl) (fun _ _ _ h => h) (Or.inl ⟨by rfl, ?_⟩) (by assumption) ?_
  rotate_left
  · intro w hSw
    (try dsimp only at hSw)
    go_simp
    all_goals with_reducible rfl
  try simp only [Act.put, List.setIfInBounds_toArray, List.set_cons_zero, List.set_cons_succ]
  refine wpAnyH_take (i := 1) (oi := { dst := some 26, op := Go.Op.load 3 (Go.Operand.tmp 25), type := 3, pos := "ref.go:17", after := #[{ on := 0, ground := Go.Ground.data }], guard := none }) (v := ?_) rfl (by kernel_rfl) (by kernel_rfl) (by kernel_rfl) (fun _ _ _ h => h) (Or.inl ⟨by rfl, ?_⟩) (by assumption) ?_
  rotate_left
  · intro w hSw
    have hc := hSw.1
    go_simp
    all_goals with_reducible rfl
  try simp only [Act.put, List.setIfInBounds_toArray, List.set_cons_zero, List.set_cons_succ]
  refine wpAnyH_take (i := 4) (oi := { dst := some 29, op := Go.Op.fieldAddr 72 (Go.Operand.tmp 6) 2, type := 0, pos := "ref.go:17", after := #[], guard := none }) (v := ?_) rfl (by kernel_rfl) (by kernel_rfl) (by kernel_rfl) (fun _ _ _ h => h) (Or.inl ⟨by rfl, ?_⟩) (by assumption) ?_
  rotate_left
  · intro w hSw
    (try dsimp only at hSw)
    go_simp
    all_goals with_reducible rfl
  try simp only [Act.put, List.setIfInBounds_toArray, List.set_cons_zero, List.set_cons_succ]
  refine wpAnyH_take (i := 5) (oi := { dst := some 30, op := Go.Op.load 3 (Go.Operand.tmp 29), type := 3, pos := "ref.go:17", after := #[{ on := 4, ground := Go.Ground.data }], guard := none }) (v := ?_) rfl (by kernel_rfl) (by kernel_rfl) (by kernel_rfl) (fun _ _ _ h => h) (Or.inl ⟨by rfl, ?_⟩) (by assumption) ?_
  rotate_left
  · intro w hSw
    have hc := hSw.2.1
    go_simp
    all_goals with_reducible rfl
  try simp only [Act.put, List.setIfInBounds_toArray, List.set_cons_zero, List.set_cons_succ]
  refine wpAnyH_ready (rs := [2]) (by kernel_rfl) (by simp) ?_
  refine AllReadyH.cons (o := { dst := some 27, op := Go.Op.call { callee := Go.Callee.value (Go.Operand.func 31), args := #[Go.Operand.tmp 26], argTypes := #[2] }, type := 9, pos := "ref.go:17", after := #[{ on := 1, ground := Go.Ground.data }], guard := none }) rfl (fun K hK => ?_) AllReadyH.nil
  go_simp
  refine (KN.out _).mono ?_
  rintro r z ⟨rfl, rfl⟩
  try simp only []
  refine hK.out _ _ hHeld (fun hHeld => ?_)
  clear hK K
  try simp only [Act.put, List.setIfInBounds_toArray, List.set_cons_zero, List.set_cons_succ]
  refine wpAnyH_take (i := 3) (oi := { dst := some 28, op := Go.Op.binOp Go.BinOp.add 9 (Go.Operand.const (Go.Value.string { data := #[32] })) (Go.Operand.tmp 27) 9, type := 9, pos := "ref.go:17", after := #[{ on := 2, ground := Go.Ground.data }], guard := none }) (v := ?_) rfl (by kernel_rfl) (by kernel_rfl) (by kernel_rfl) (fun _ _ _ h => h) (Or.inl ⟨by rfl, ?_⟩) (by assumption) ?_
  rotate_left
  · intro w hSw
    (try dsimp only at hSw)
    go_simp
    all_goals with_reducible rfl
  try simp only [Act.put, List.setIfInBounds_toArray, List.set_cons_zero, List.set_cons_succ]
  refine wpAnyH_ready (rs := [6]) (by kernel_rfl) (by simp) ?_
  refine AllReadyH.cons (o := { dst := some 31, op := Go.Op.call { callee := Go.Callee.value (Go.Operand.func 31), args := #[Go.Operand.tmp 30], argTypes := #[2] }, type := 9, pos := "ref.go:17", after := #[{ on := 5, ground := Go.Ground.data }, { on := 2, ground := Go.Ground.chain }], guard := none }) rfl (fun K hK => ?_) AllReadyH.nil
  go_simp
  refine (KM.out _).mono ?_
  rintro r z ⟨rfl, rfl⟩
  try simp only []
  refine hK.out _ _ hHeld (fun hHeld => ?_)
  clear hK K
  try simp only [Act.put, List.setIfInBounds_toArray, List.set_cons_zero, List.set_cons_succ]
  refine wpAnyH_take (i := 7) (oi := { dst := some 32, op := Go.Op.binOp Go.BinOp.add 9 (Go.Operand.const (Go.Value.string { data := #[32] })) (Go.Operand.tmp 31) 9, type := 9, pos := "ref.go:17", after := #[{ on := 6, ground := Go.Ground.data }, { on := 8, ground := Go.Ground.gcOnly Go.Departure.lateStores }], guard := none }) (v := ?_) rfl (by kernel_rfl) (by kernel_rfl) (by kernel_rfl) (fun _ _ _ h => h) (Or.inl ⟨by rfl, ?_⟩) (by assumption) ?_
  rotate_left
  · intro w hSw
    (try dsimp only at hSw)
    go_simp
    all_goals with_reducible rfl
  try simp only [Act.put, List.setIfInBounds_toArray, List.set_cons_zero, List.set_cons_succ]
  refine wpAnyH_take (i := 8) (oi := { dst := some 7, op := Go.Op.assign (Go.Operand.tmp 28), type := 9, pos := "ref.go:17", after := #[{ on := 3, ground := Go.Ground.data }, { on := 6, ground := Go.Ground.chain }, { on := 0, ground := Go.Ground.phase }, { on := 1, ground := Go.Ground.phase }, { on := 2, ground := Go.Ground.phase }, { on := 3, ground := Go.Ground.phase }, { on := 4, ground := Go.Ground.textOnly Go.Departure.lateStores }, { on := 5, ground := Go.Ground.textOnly Go.Departure.lateStores }, { on := 6, ground := Go.Ground.textOnly Go.Departure.lateStoresUnsure }, { on := 7, ground := Go.Ground.textOnly Go.Departure.lateStores }], guard := none }) (v := ?_) rfl (by kernel_rfl) (by kernel_rfl) (by kernel_rfl) (fun _ _ _ h => h) (Or.inl ⟨by rfl, ?_⟩) (by assumption) ?_
  rotate_left
  · intro w hSw
    (try dsimp only at hSw)
    go_simp
    all_goals with_reducible rfl
  try simp only [Act.put, List.setIfInBounds_toArray, List.set_cons_zero, List.set_cons_succ]
  refine wpAnyH_take (i := 9) (oi := { dst := some 8, op := Go.Op.assign (Go.Operand.tmp 32), type := 9, pos := "ref.go:17", after := #[{ on := 7, ground := Go.Ground.data }, { on := 8, ground := Go.Ground.chain }, { on := 0, ground := Go.Ground.phase }, { on := 1, ground := Go.Ground.phase }, { on := 2, ground := Go.Ground.phase }, { on := 3, ground := Go.Ground.phase }, { on := 4, ground := Go.Ground.phase }, { on := 5, ground := Go.Ground.phase }, { on := 6, ground := Go.Ground.phase }, { on := 7, ground := Go.Ground.phase }, { on := 8, ground := Go.Ground.phase }], guard := none }) (v := ?_) rfl (by kernel_rfl) (by kernel_rfl) (by kernel_rfl) (fun _ _ _ h => h) (Or.inl ⟨by rfl, ?_⟩) (by assumption) ?_
  rotate_left
  · intro w hSw
    (try dsimp only at hSw)
    go_simp
    all_goals with_reducible rfl
  try simp only [Act.put, List.setIfInBounds_toArray, List.set_cons_zero, List.set_cons_succ]
  refine wpAnyH_done (by kernel_rfl) ?_ _
  have HB2 := Lib.hid (HB.out.drew)
  have HK3 := Lib.hid (HK2.out.drew)
  clear hHeld KN KM hn1 hn2 hd1 hd2
  rw [HE1.out, HE2.out]
  clear HE1 HE2
  have hb1 : NI.length ≤ 3 ∧ NJ.length ≤ 3 := by
    rw [HNI.out, HNJ.out]
    exact ⟨numB_len (by have := HX.out.2.1; omega), numB_len (by have := HX.out.2.2.1; omega)⟩
  generalize w2.drew = w3 at HB2 HK3 ⊢
  go_upto_region 8 with fail
  have HB3 := Lib.hid ((HB2.out.alloc (.cells aloneC 9)).alloc (.cells fieldsC 9))
  have HA3 := Lib.hid ((Blk.new w3 9 aloneC).alloc (.cells fieldsC 9))
  have HF3 := Lib.hid (Blk.new (w3.alloc (.cells aloneC 9)) 9 fieldsC)
  have HK4 := Lib.hid ((HK3.out.alloc (.cells aloneC 9)).alloc (.cells fieldsC 9))
  rw [show (w3.alloc (.cells aloneC 9)).heap.size = w3.heap.size + 1 from (by show (w3.heap.push _).size = _; simp)] at HF3
  rw [show fieldsC = #[.string { data := #[108, 105, 110, 107] }, .string { data := #[103, 101, 110] }, .string { data := #[105, 110, 102, 111] }, .string { data := #[107, 101, 121] }, .string { data := #[108, 101, 102, 116] }, .string { data := #[114, 105, 103, 104, 116] }, .string { data := #[100, 105, 101, 100] }] from rfl, show aloneC = #[.string { data := #[99, 108, 111, 99, 107] }, .string { data := #[101, 112, 111, 99, 104] }, .string { data := #[102, 114, 101, 101] }] from rfl] at HB3 HA3 HF3 HK4
  generalize w3.heap.size = o at HA3 HF3 ⊢
  generalize (w3.alloc _).alloc _ = w4 at HB3 HA3 HF3 HK4 ⊢
  have hc0 : w4.cell? ⟨g2, 0, none⟩ = some (.int .i64 (K : Nat)) := HB3.out.cell 0
  have hc1 : w4.cell? ⟨g2, 1, none⟩ = some (.int .i64 (I : Nat)) := HB3.out.cell 1
  have hc2 : w4.cell? ⟨g2, 2, none⟩ = some (.int .i64 (J : Nat)) := HB3.out.cell 2
  clear HB HB2 HK2 HK3
  have hcase : K = 0 ∨ K = 1 ∨ K = 2 ∨ K = 3 ∨ K = 4 ∨ K = 5 := by have := HX.out.1; omega
  have hi0 : (0 : Int) ≤ ((I : Nat) : Int) := by omega
  have hj0 : (0 : Int) ≤ ((J : Nat) : Int) := by omega
  have hj7 : ((J : Nat) : Int) < 7 := by have := HX.out.2.2.1; omega
  rcases hcase with rfl | rfl | rfl | rfl | rfl | rfl
  · have HE : Hid (aloneB I = nameP (0, I, J)) := Lib.hid rfl
    have hi3 : ((I : Nat) : Int) < 3 := by have := HX.out.2.2.2 rfl; omega
    have hl : w4.cell? ⟨o, I, none⟩ = some (.string ⟨(aloneB I).toArray⟩) := by
      rw [HA3.out.cell]
      have hI : I = 0 ∨ I = 1 ∨ I = 2 := by omega
      rcases hI with rfl | rfl | rfl <;> rfl
    generalize nameP (0, I, J) = L at *
    generalize aloneB I = ab at *
    go_wp2_with fail
    go_ret
    exact ⟨congrArg (fun l : List UInt8 => Ending.returned (.string ⟨l.toArray⟩)) HE.out, HK4.out⟩
  · have HE : Hid ((⟨#[97, 99, 116, 105, 118, 101]⟩ : ByteArray) ++ ⟨NI.toArray⟩ = ⟨(nameP (1, I, J)).toArray⟩) := Lib.hid (by rw [HNI.out]; exact cat_eq [97, 99, 116, 105, 118, 101] _)
    have hn1 : ¬ 9223372036854775807 < 6 + NI.length := by omega
    clear hb1
    generalize nameP (1, I, J) = L at *
    go_wp2_with fail
    go_ret
    exact ⟨congrArg (fun s => Ending.returned (.string s)) HE.out, HK4.out⟩
  · have HE : Hid ((⟨#[118, 105, 99, 116, 105, 109]⟩ : ByteArray) ++ ⟨NI.toArray⟩ = ⟨(nameP (2, I, J)).toArray⟩) := Lib.hid (by rw [HNI.out]; exact cat_eq [118, 105, 99, 116, 105, 109] _)
    have hn1 : ¬ 9223372036854775807 < 6 + NI.length := by omega
    clear hb1
    generalize nameP (2, I, J) = L at *
    go_wp2_with fail
    go_ret
    exact ⟨congrArg (fun s => Ending.returned (.string s)) HE.out, HK4.out⟩
  · have HE : Hid ((⟨#[115, 116, 97, 109, 112]⟩ : ByteArray) ++ ⟨NI.toArray⟩ ++ ⟨NJ.toArray⟩ = ⟨(nameP (3, I, J)).toArray⟩) := Lib.hid (by rw [HNI.out, HNJ.out, show nameP (3, I, J) = [115, 116, 97, 109, 112] ++ numB I ++ numB J from rfl, ← cat_eq, ← cat_eq])
    have hn1 : ¬ 9223372036854775807 < 5 + NI.length := by omega
    have hn2 : ¬ 9223372036854775807 < 5 + NI.length + NJ.length := by omega
    clear hb1
    generalize nameP (3, I, J) = L at *
    go_wp2_with fail
    go_ret
    exact ⟨congrArg (fun s => Ending.returned (.string s)) HE.out, HK4.out⟩
  · have HE : Hid ((⟨#[98, 97, 103]⟩ : ByteArray) ++ ⟨NI.toArray⟩ ++ ⟨NJ.toArray⟩ = ⟨(nameP (4, I, J)).toArray⟩) := Lib.hid (by rw [HNI.out, HNJ.out, show nameP (4, I, J) = [98, 97, 103] ++ numB I ++ numB J from rfl, ← cat_eq, ← cat_eq])
    have hn1 : ¬ 9223372036854775807 < 3 + NI.length := by omega
    have hn2 : ¬ 9223372036854775807 < 3 + NI.length + NJ.length := by omega
    clear hb1
    generalize nameP (4, I, J) = L at *
    go_wp2_with fail
    go_ret
    exact ⟨congrArg (fun s => Ending.returned (.string s)) HE.out, HK4.out⟩
  · have hl : w4.cell? ⟨o + 1, J, none⟩ = some (.string ⟨(fieldB J).toArray⟩) := by
      rw [HF3.out.cell]
      have hJ : J = 0 ∨ J = 1 ∨ J = 2 ∨ J = 3 ∨ J = 4 ∨ J = 5 ∨ J = 6 := by omega
      rcases hJ with rfl | rfl | rfl | rfl | rfl | rfl | rfl <;> rfl
    have hfl := (field_index J (by omega)).1
    have HE : Hid ((⟨#[115, 108, 111, 116]⟩ : ByteArray) ++ ⟨NI.toArray⟩ ++ ⟨#[32]⟩ ++ ⟨(fieldB J).toArray⟩ = ⟨(nameP (5, I, J)).toArray⟩) := Lib.hid (by rw [HNI.out, show nameP (5, I, J) = [115, 108, 111, 116] ++ numB I ++ [32] ++ fieldB J from rfl, ← cat_eq, ← cat_eq, ← cat_eq])
    have hn1 : ¬ 9223372036854775807 < 4 + NI.length := by omega
    have hn2 : ¬ 9223372036854775807 < 4 + NI.length + 1 := by omega
    have hn3 : ¬ 9223372036854775807 < 4 + NI.length + 1 + (fieldB J).length := by omega
    clear hb1 hfl
    generalize nameP (5, I, J) = L at *
    generalize fieldB J = fb at *
    go_wp2_with fail
    go_ret
    exact ⟨congrArg (fun s => Ending.returned (.string s)) HE.out, HK4.out⟩
theorem ref40_name (c : ConfS) (w : World) (ho : c.Ok) (hs : c.slots ≤ 60) (a : Int) : Calls Tryd.prog 12 #[.agg c.cells, .int .i64 a] w (StrOut (nameZ c a) w) := by
  by_cases h1 : 0 ≤ a ∧ a < (nWords c : Int)
  · obtain ⟨k, rfl⟩ : ∃ k : Nat, a = (k : Int) := ⟨a.toNat, by omega⟩
    rw [nameZ_in (by omega)]
    exact ref40_name_at c w ho hs k (by omega)
  · rw [nameZ_out (by omega)]
    exact ref40_name_no c w ho a (by omega)
end Go.Proofs.YtnhkjfknhponkaaDoor
