/- The reference's ReadCall by its contract. Condition: at most 20001 words of at most 20000 bytes. -/
import Derived.Test.YtpbbpannimlldaaDoorRd9
import Derived.Test.YtpbbpannimlldaaDoorRdB
import Derived.Laws.ResultCell
namespace Go.Proofs.YtpbbpannimlldaaDoor
open Go.RowKit

theorem results_rowT {P : Program} {fn : Func} {p u : Tmp} {ty : TypeId} (h : fn.results = #[.cell p ty, .tmp u]) (tmps : Array Value) (w : World) (g : Nat) (t : TypeId) (cs : Array Value) (fr : Nat × Nat) (d : TypeDesc)
    (hp : tmps.getD p undef = .pointer (some ⟨g, 0, none⟩)) (hg : w.heap[g]? = some (.cells cs t fr))
    (hu : P.underlying ty = some d) (hd : (match d with | .struct _ | .array _ _ => true | _ => false) = true) (hi : (P.info? ty).map (·.size) = some cs.size) :
    (results fn tmps).run P w = .ok (.tuple #[.agg cs, tmps.getD u undef]) w := by
  rw [results_cell_tmp h, hp]
  simp [asAddr, run_loadVar_row w g t ty cs fr d hg hu hd hi, Result.andThen]
def strC (s : List UInt8) : List Value := [.string ⟨s.toArray⟩]
theorem ElAt.at_str {w : World} {A : Option Addr} {l : List (List UInt8)} (h : ElAt strC w A l) {k : Nat} (hk : k < l.length) : ∃ b o, A = some ⟨b, o, none⟩ ∧ b < w.heap.size ∧ w.cell? ⟨b, o + k, none⟩ = some (.string ⟨(l.getD k []).toArray⟩) := by
  obtain ⟨b, o, h1, h2, h3⟩ := h.range 1 (fun _ => rfl) [] hk
  have := h3 0 _ rfl
  rw [Nat.mul_one, Nat.add_zero] at this
  exact ⟨b, o, h1, h2, this⟩
structure WsOk (w : World) (A : Option Addr) (ws : List (List UInt8)) : Prop where
  at_ : ElAt strC w A ws
  len : ∀ s ∈ ws, s.length ≤ 20000
  num : ws.length ≤ 20001
theorem WsOk.keep {w w' : World} {A : Option Addr} {ws : List (List UInt8)} (h : WsOk w A ws) (hk : Keep [] w w') : WsOk w' A ws := ⟨h.at_.keep hk, h.len, h.num⟩
def RCallOut (ws : List (List UInt8)) (w : World) (r : Ending) (w' : World) : Prop := Keep [] w w' ∧ match readC ws with
  | .ok c => r = .returned (.tuple #[.agg c.cells, .int .i64 0])
  | .error k => r = .returned (.tuple #[.agg CallX.zero.cells, .int .i64 k])
set_option maxRecDepth 100000 in
set_option maxHeartbeats 8000000 in
theorem ref35_readCall (w : World) (A : Option Addr) (cap : Nat) (s : List UInt8) (t : List (List UInt8)) (h : WsOk w A (s :: t)) : Calls Tryd.prog 9 #[.slice A (s :: t).length cap] w (RCallOut (s :: t) w) := by
  have HWS := Lib.hid h
  have HOUT : Hid (∀ (e : Ending) (W : World), Keep [] w W → (match readC (s :: t) with | .ok c => e = .returned (.tuple #[.agg c.cells, .int .i64 0]) | .error k => e = .returned (.tuple #[.agg CallX.zero.cells, .int .i64 k])) → RCallOut (s :: t) w e W) := Lib.hid (fun e W h1 h2 => ⟨h1, h2⟩)
  have HRB := Lib.hid (Blk.new w 26 CallX.zero.cells)
  have HK1 := Lib.hid ((Keep.refl [] w).alloc (.cells CallX.zero.cells 26))
  rw [show CallX.zero.cells = #[.int .i64 0, .int .i64 0, .int .i64 0, .int .i64 0, .int .i64 0] from rfl] at HRB HK1
  have hn : (s :: t).length = t.length + 1 := rfl
  rw [hn]
  have hl0 : (0 : Int) < ((t.length + 1 : Nat) : Int) := by omega
  have hl1 : ((t.length + 1 : Nat) : Int) ≤ 20001 := by have := h.num; rw [hn] at this; omega
  clear h hn
  go_enter Tryd.func9, Tryd.ntmps9
  go_upto_region 1 with fail
  generalize hrb : w.heap.size = rb at HRB ⊢
  have HRN := Lib.hid hrb
  clear hrb
  generalize w.alloc _ = w1 at HRB HK1 ⊢
  go_wp2_with fail
  go_loopg [4, 5] 15 (fun g v4 v5 wr => ∃ (k : Nat) (op : Int), k ≤ 15 ∧ g = 15 - k ∧ v5 = .int .i64 (k : Nat) ∧ v4 = .int .i64 op ∧ Keep [] w1 wr ∧ LastR wordL s k op)
  case atStart => exact ⟨0, -1, Nat.zero_le _, rfl, rfl, rfl, Keep.refl _ _, .inl ⟨rfl, fun j hj => by omega⟩⟩
  case round =>
    obtain ⟨k, op, hk, rfl, rfl, rfl, hkw, hla⟩ := hrel
    have HKW := Lib.hid hkw
    have HLA := Lib.hid hla
    have hk0 : (0 : Int) ≤ ((k : Nat) : Int) := by omega
    have hk15 : ((k : Nat) : Int) ≤ 15 := by omega
    clear hkw hla
    by_cases hlt : k < 15
    · have hz : ((k : Nat) : Int) < 15 := by omega
      obtain ⟨b, o, hA, hbl, hc⟩ := (HWS.out.keep (HK1.out.trans HKW.out (by simp))).at_.at_str (k := 0) (by simp)
      subst hA
      have HBL := Lib.hid hbl
      rw [List.getD_cons_zero, Nat.add_zero] at hc
      have KW := Lib.hid (fun W => ref09_word ((k : Nat) : Int) W)
      unfold TextOut at KW
      rw [wordB_nat hlt] at KW
      have HLT := Lib.hid hlt
      clear hlt hbl
      have HHM : Hid ((wordL.getD k [] = s → LastR wordL s (k + 1) (k : Nat)) ∧ (wordL.getD k [] ≠ s → LastR wordL s (k + 1) op)) := Lib.hid ⟨fun h => LastR.hit h, fun h => HLA.out.miss h⟩
      obtain ⟨bb, hbb⟩ : ∃ b, (wordL.getD k [] == s) = b := ⟨_, rfl⟩
      have HNX : Hid (LastR wordL s (k + 1) (if bb then ((k : Nat) : Int) else op)) := Lib.hid (by
        cases bb with
        | true => exact HHM.out.1 (by simpa using hbb)
        | false => exact HHM.out.2 (by simpa using hbb))
      clear HHM
      generalize wordL.getD k [] = L at *
      go_upto_region 5 with fail
      refine wp_region_held_drew (S := (fun w' => w'.cell? ⟨b, o, none⟩ = some (.string ⟨s.toArray⟩) ∧ b < w'.heap.size ∧ Keep [] w1 w')) (by kernel_rfl) ⟨hc, HBL.out, HKW.out.drew⟩ (fun hHeld => ?_)
      refine wpAnyH_take (i := 0) (oi := { dst := some 16, op := Go.Op.move (Go.Operand.tmp 0), type := 23, pos := "ref.go:131", after := #[], guard := none }) (v := ?_) rfl (by kernel_rfl) (by kernel_rfl) (by kernel_rfl) (fun _ _ _ h => h) (Or.inl ⟨by rfl, ?_⟩) (by assumption) ?_
      rotate_left
      · intro w hSw
        (try dsimp only at hSw)
        go_simp
        all_goals with_reducible rfl
      try simp only [Act.put, List.setIfInBounds_toArray, List.set_cons_zero, List.set_cons_succ]
      refine wpAnyH_take (i := 1) (oi := { dst := some 17, op := Go.Op.call { callee := Go.Callee.builtin Go.Builtin.len, args := #[Go.Operand.tmp 16], argTypes := #[23] }, type := 3, pos := "ref.go:131", after := #[{ on := 0, ground := Go.Ground.data }], guard := none }) (v := ?_) rfl (by kernel_rfl) (by kernel_rfl) (by kernel_rfl) (fun _ _ _ h => h) (Or.inl ⟨by rfl, ?_⟩) (by assumption) ?_
      rotate_left
      · intro w hSw
        (try dsimp only at hSw)
        go_simp
        all_goals with_reducible rfl
      try simp only [Act.put, List.setIfInBounds_toArray, List.set_cons_zero, List.set_cons_succ]
      refine wpAnyH_take (i := 2) (oi := { dst := some 18, op := Go.Op.binOp Go.BinOp.gtr 3 (Go.Operand.tmp 17) (Go.Operand.const (Go.Value.int Go.IntKind.i64 0)) 3, type := 4, pos := "ref.go:131", after := #[{ on := 1, ground := Go.Ground.data }], guard := none }) (v := ?_) rfl (by kernel_rfl) (by kernel_rfl) (by kernel_rfl) (fun _ _ _ h => h) (Or.inl ⟨by rfl, ?_⟩) (by assumption) ?_
      rotate_left
      · intro w hSw
        (try dsimp only at hSw)
        go_simp
        all_goals with_reducible rfl
      try simp only [Act.put, List.setIfInBounds_toArray, List.set_cons_zero, List.set_cons_succ]
      refine wpAnyH_take (i := 3) (oi := { dst := some 19, op := Go.Op.move (Go.Operand.tmp 18), type := 4, pos := "ref.go:131", after := #[{ on := 2, ground := Go.Ground.data }], guard := none }) (v := ?_) rfl (by kernel_rfl) (by kernel_rfl) (by kernel_rfl) (fun _ _ _ h => h) (Or.inl ⟨by rfl, ?_⟩) (by assumption) ?_
      rotate_left
      · intro w hSw
        (try dsimp only at hSw)
        go_simp
        all_goals with_reducible rfl
      try simp only [Act.put, List.setIfInBounds_toArray, List.set_cons_zero, List.set_cons_succ]
      refine wpAnyH_take (i := 4) (oi := { dst := some 20, op := Go.Op.move (Go.Operand.tmp 5), type := 3, pos := "ref.go:131", after := #[{ on := 3, ground := Go.Ground.guard }], guard := some (3, true) }) (v := ?_) rfl (by kernel_rfl) (by kernel_rfl) (by kernel_rfl) (fun _ _ _ h => h) (Or.inl ⟨by rfl, ?_⟩) (by assumption) ?_
      rotate_left
      · intro w hSw
        (try dsimp only at hSw)
        go_simp
        all_goals with_reducible rfl
      try simp only [Act.put, List.setIfInBounds_toArray, List.set_cons_zero, List.set_cons_succ]
      refine wpAnyH_take (i := 6) (oi := { dst := some 22, op := Go.Op.move (Go.Operand.tmp 0), type := 23, pos := "ref.go:131", after := #[{ on := 3, ground := Go.Ground.guard }], guard := some (3, true) }) (v := ?_) rfl (by kernel_rfl) (by kernel_rfl) (by kernel_rfl) (fun _ _ _ h => h) (Or.inl ⟨by rfl, ?_⟩) (by assumption) ?_
      rotate_left
      · intro w hSw
        (try dsimp only at hSw)
        go_simp
        all_goals with_reducible rfl
      try simp only [Act.put, List.setIfInBounds_toArray, List.set_cons_zero, List.set_cons_succ]
      refine wpAnyH_take (i := 7) (oi := { dst := some 23, op := Go.Op.indexAddr 23 (Go.Operand.tmp 22) (Go.Operand.const (Go.Value.int Go.IntKind.i64 0)), type := 0, pos := "ref.go:131", after := #[{ on := 6, ground := Go.Ground.data }, { on := 3, ground := Go.Ground.guard }], guard := some (3, true) }) (v := ?_) rfl (by kernel_rfl) (by kernel_rfl) (by kernel_rfl) (fun _ _ _ h => h) (Or.inl ⟨by rfl, ?_⟩) (by assumption) ?_
      rotate_left
      · intro w hSw
        (try dsimp only at hSw)
        go_simp
        all_goals with_reducible rfl
      try simp only [Act.put, List.setIfInBounds_toArray, List.set_cons_zero, List.set_cons_succ]
      refine wpAnyH_take (i := 8) (oi := { dst := some 24, op := Go.Op.load 9 (Go.Operand.tmp 23), type := 9, pos := "ref.go:131", after := #[{ on := 7, ground := Go.Ground.data }, { on := 3, ground := Go.Ground.guard }], guard := some (3, true) }) (v := ?_) rfl (by kernel_rfl) (by kernel_rfl) (by kernel_rfl) (fun _ _ _ h => h) (Or.inl ⟨by rfl, ?_⟩) (by assumption) ?_
      rotate_left
      · intro w hSw
        have hc := hSw.1
        go_simp
        all_goals with_reducible rfl
      try simp only [Act.put, List.setIfInBounds_toArray, List.set_cons_zero, List.set_cons_succ]
      refine wpAnyH_ready (rs := [5]) (by kernel_rfl) (by simp) ?_
      refine AllReadyH.cons (o := { dst := some 21, op := Go.Op.call { callee := Go.Callee.value (Go.Operand.func 24), args := #[Go.Operand.tmp 20], argTypes := #[3] }, type := 9, pos := "ref.go:131", after := #[{ on := 4, ground := Go.Ground.data }, { on := 3, ground := Go.Ground.chain }, { on := 3, ground := Go.Ground.guard }], guard := some (3, true) }) rfl (fun K hK => ?_) AllReadyH.nil
      go_simp
      refine (KW.out _).mono ?_
      rintro r z ⟨rfl, hk⟩
      try simp only []
      refine hK.out _ _ ⟨(hk.cell hHeld.2.1 (by simp)).trans hHeld.1, Nat.lt_of_lt_of_le hHeld.2.1 hk.size, hHeld.2.2.trans hk (by simp)⟩ (fun hHeld => ?_)
      clear hK K
      try simp only [Act.put, List.setIfInBounds_toArray, List.set_cons_zero, List.set_cons_succ]
      refine wpAnyH_take (i := 9) (oi := { dst := some 25, op := Go.Op.binOp Go.BinOp.eql 9 (Go.Operand.tmp 21) (Go.Operand.tmp 24) 9, type := 4, pos := "ref.go:131", after := #[{ on := 5, ground := Go.Ground.data }, { on := 8, ground := Go.Ground.data }, { on := 3, ground := Go.Ground.guard }], guard := some (3, true) }) (v := ?_) rfl (by kernel_rfl) (by kernel_rfl) (by kernel_rfl) (fun _ _ _ h => h) (Or.inl ⟨by rfl, ?_⟩) (by assumption) ?_
      rotate_left
      · intro w hSw
        (try dsimp only at hSw)
        go_simp
        all_goals with_reducible rfl
      try simp only [Act.put, List.setIfInBounds_toArray, List.set_cons_zero, List.set_cons_succ]
      refine wpAnyH_take (i := 10) (oi := { dst := some 26, op := Go.Op.pick (Go.Operand.tmp 19) (Go.Operand.tmp 25) (Go.Operand.const (Go.Value.bool false)), type := 4, pos := "ref.go:131", after := #[{ on := 3, ground := Go.Ground.data }, { on := 9, ground := Go.Ground.data }], guard := none }) (v := ?_) rfl (by kernel_rfl) (by kernel_rfl) (by kernel_rfl) (fun _ _ _ h => h) (Or.inl ⟨by rfl, ?_⟩) (by assumption) ?_
      rotate_left
      · intro w hSw
        (try dsimp only at hSw)
        go_simp
        all_goals with_reducible rfl
      try simp only [Act.put, List.setIfInBounds_toArray, List.set_cons_zero, List.set_cons_succ]
      refine wpAnyH_done (by kernel_rfl) ?_ _
      have HKX := Lib.hid hHeld.2.2
      clear hHeld hc
      cases bb with
      | true =>
        go_wp2_with fail
        go_roundg (15 - (k + 1))
        case measure => have := HLT.out; omega
        case rel => exact ⟨k + 1, _, HLT.out, rfl, by go_num, rfl, HKX.out, HNX.out⟩
      | false =>
        go_wp2_with fail
        go_roundg (15 - (k + 1))
        case measure => have := HLT.out; omega
        case rel => exact ⟨k + 1, _, HLT.out, rfl, by go_num, rfl, HKX.out, HNX.out⟩
    · have hz : ¬ ((k : Nat) : Int) < 15 := by omega
      obtain rfl : k = 15 := by omega
      have HR2 := Lib.hid (HRB.out.keep HKW.out (by simp))
      have HK2 := Lib.hid (HK1.out.trans HKW.out (by simp))
      clear hlt HRB HKW HK1
      rcases HLA.out.end_ wordL_one with ⟨rfl, ho⟩ | ⟨j0, hj0, rfl, ho⟩
      · have HE := Lib.hid (readC_none (t := t) ho)
        have hneg : (-1 : Int) < 0 := by decide
        clear ho HLA
        have hr0 : wr.cell? ⟨rb, 0, none⟩ = some (.int .i64 0) := HR2.out.cell 0
        have hf0 := HR2.out.frozen 0
        have hr1 : wr.cell? ⟨rb, 1, none⟩ = some (.int .i64 0) := HR2.out.cell 1
        have hf1 := HR2.out.frozen 1
        have hr2 : wr.cell? ⟨rb, 2, none⟩ = some (.int .i64 0) := HR2.out.cell 2
        have hf2 := HR2.out.frozen 2
        have hr3 : wr.cell? ⟨rb, 3, none⟩ = some (.int .i64 0) := HR2.out.cell 3
        have hf3 := HR2.out.frozen 3
        have hr4 : wr.cell? ⟨rb, 4, none⟩ = some (.int .i64 0) := HR2.out.cell 4
        have hf4 := HR2.out.frozen 4
        go_wp2_with fail
        exact bodyPost_ret (results_rowT (p := 2) (ty := 26) rfl _ _ rb _ _ _ _ rfl (store5 HR2.out _ _ _ _ _) Tryd.underlying26 rfl (by kernel_rfl)) rfl (HOUT.out _ _ (keep5 HK2.out (Nat.le_of_eq HRN.out) _ _ _ _ _) (by rw [HE.out] <;> rfl))
      · have HE := Lib.hid ((readC_some (t := t) ho).trans (by rw [← posF_zero]))
        have hneg : ¬ ((j0 : Nat) : Int) < 0 := by omega
        have KH := Lib.hid (fun W => ref35_has ((j0 : Nat) : Int) W)
        clear ho HLA hj0
        generalize readC (s :: t) = rr at *
        have HP : Hid (hasC ((j0 : Nat) : Int) = #[.bool (hasL ((j0 : Nat) : Int)).1, .bool (hasL ((j0 : Nat) : Int)).2.1, .bool (hasL ((j0 : Nat) : Int)).2.2.1, .bool (hasL ((j0 : Nat) : Int)).2.2.2] ∧ hasP ((j0 : Nat) : Int) = [((hasL ((j0 : Nat) : Int)).1, 1), ((hasL ((j0 : Nat) : Int)).2.1, 2), ((hasL ((j0 : Nat) : Int)).2.2.1, 3), ((hasL ((j0 : Nat) : Int)).2.2.2, 4)]) := Lib.hid ⟨rfl, rfl⟩
        rw [HP.out.1] at KH
        have HST : Hid (∀ i, i < 4 → posF ((j0 : Nat) : Int) i = if ((hasP ((j0 : Nat) : Int)).getD i (false, 0)).1 then (i + 1) :: posF ((j0 : Nat) : Int) (i + 1) else posF ((j0 : Nat) : Int) (i + 1)) := Lib.hid (fun i hi => posF_step _ hi)
        have H4 : Hid (posF ((j0 : Nat) : Int) 4 = []) := Lib.hid (posF_four _)
        rw [HP.out.2] at HST
        generalize (hasL ((j0 : Nat) : Int)).1 = b0 at *
        generalize (hasL ((j0 : Nat) : Int)).2.1 = b1 at *
        generalize (hasL ((j0 : Nat) : Int)).2.2.1 = b2 at *
        generalize (hasL ((j0 : Nat) : Int)).2.2.2 = b3 at *
        generalize posF ((j0 : Nat) : Int) = pf at *
        clear HP
        generalize ((j0 : Nat) : Int) = op at *
        go_wp2_with fail
        refine (KH.out _).mono ?_
        rintro r y ⟨rfl, hk⟩
        have HK3 := Lib.hid (HK2.out.trans hk (by simp))
        have HR3 := Lib.hid (HR2.out.keep hk (by simp))
        clear hk HK2 HR2 KH
        go_upto_region 10 with fail
        have HH4 := Lib.hid (Blk.new y 57 #[.bool b0, .bool b1, .bool b2, .bool b3])
        have HR4 := Lib.hid (HR3.out.alloc (.cells #[.bool b0, .bool b1, .bool b2, .bool b3] 57))
        have HK4 := Lib.hid (HK3.out.alloc (.cells #[.bool b0, .bool b1, .bool b2, .bool b3] 57))
        generalize y.heap.size = hb at HH4 ⊢
        generalize y.alloc _ = w4 at HH4 HR4 HK4 ⊢
        clear HR3 HK3
        go_upto_region 11 with fail
        have HN5 := Lib.hid (Blk.new w4 59 #[.int .i64 0, .int .i64 0, .int .i64 0, .int .i64 0])
        have HH5 := Lib.hid (HH4.out.alloc (.cells #[.int .i64 0, .int .i64 0, .int .i64 0, .int .i64 0] 59))
        have HR5 := Lib.hid (HR4.out.alloc (.cells #[.int .i64 0, .int .i64 0, .int .i64 0, .int .i64 0] 59))
        have HK5 := Lib.hid (HK4.out.alloc (.cells #[.int .i64 0, .int .i64 0, .int .i64 0, .int .i64 0] 59))
        have HNB := Lib.hid HK4.out.size
        generalize w4.heap.size = nb at HN5 HNB ⊢
        generalize w4.alloc _ = w5 at HN5 HH5 HR5 HK5 ⊢
        clear HH4 HR4 HK4
        go_wp2_with fail
        go_loopg [8, 9] 4 (fun gq v8 v9 wq => ∃ (i j : Nat) (c2 : CallX), i ≤ 4 ∧ gq = 4 - i ∧ v9 = .int .i64 (i : Nat) ∧ v8 = .int .i64 ((j + 1 : Nat)) ∧ j ≤ t.length ∧ Keep [] w wq ∧ Blk wq rb 26 #[.int .i64 0, .int .i64 0, .int .i64 0, .int .i64 0, .int .i64 0] ∧ Blk wq hb 57 #[.bool b0, .bool b1, .bool b2, .bool b3] ∧ Blk wq nb 59 #[.int .i64 c2.key, .int .i64 c2.val, .int .i64 c2.hi, .int .i64 c2.lim] ∧ c2.op = op ∧ restC c2 (pf i) (t.drop j) = rr)
        case atStart => exact ⟨0, 0, _, Nat.zero_le _, rfl, rfl, rfl, Nat.zero_le _, HK5.out, HR5.out, HH5.out, HN5.out, rfl, HE.out.symm⟩
        case round =>
          obtain ⟨i, j, c2, hi, rfl, rfl, rfl, hj, hkq, hrq, hhq, hnq, hop, hre⟩ := hrel
          have HKQ := Lib.hid hkq
          have HRQ := Lib.hid hrq
          have HHQ := Lib.hid hhq
          have HNQ := Lib.hid hnq
          have HRE := Lib.hid hre
          have HOP := Lib.hid hop
          have HJ := Lib.hid hj
          have hi0 : (0 : Int) ≤ ((i : Nat) : Int) := by omega
          have hi4 : ((i : Nat) : Int) ≤ 4 := by omega
          have hj0 : (0 : Int) ≤ ((j + 1 : Nat) : Int) := by omega
          have hj1 : ((j + 1 : Nat) : Int) ≤ ((t.length + 1 : Nat) : Int) := by omega
          clear hkq hrq hhq hnq hre hop hj HK5 HR5 HH5 HN5
          by_cases hlt : i < 4
          · have hz : ((i : Nat) : Int) < 4 := by omega
            have HLT := Lib.hid hlt
            have hsti := HST.out i hlt
            have hcb : wr.cell? ⟨hb, i, none⟩ = some (.bool ([(b0, 1), (b1, 2), (b2, 3), (b3, 4)].getD i (false, 0)).1) := by
              have hc : i = 0 ∨ i = 1 ∨ i = 2 ∨ i = 3 := by omega
              rcases hc with rfl | rfl | rfl | rfl <;> exact HHQ.out.cell _
            have HNC : Hid (∃ v, wr.cell? ⟨nb, i, none⟩ = some v) := Lib.hid (by
              have hc : i = 0 ∨ i = 1 ∨ i = 2 ∨ i = 3 := by omega
              rcases hc with rfl | rfl | rfl | rfl <;> exact ⟨_, HNQ.out.cell _⟩)
            have HPU : Hid (∀ n, (#[.int .i64 c2.key, .int .i64 c2.val, .int .i64 c2.hi, .int .i64 c2.lim] : Array Value).setIfInBounds i (.int .i64 n) = #[.int .i64 (c2.put (i + 1) n).key, .int .i64 (c2.put (i + 1) n).val, .int .i64 (c2.put (i + 1) n).hi, .int .i64 (c2.put (i + 1) n).lim]) := Lib.hid (fun n => by
              have hc : i = 0 ∨ i = 1 ∨ i = 2 ∨ i = 3 := by omega
              rcases hc with rfl | rfl | rfl | rfl <;> rfl)
            generalize ([(b0, 1), (b1, 2), (b2, 3), (b3, 4)].getD i (false, 0)).1 = bb at hsti hcb
            clear hlt
            cases bb with
            | false =>
              rw [if_neg (by decide)] at hsti
              have HPI := Lib.hid hsti
              clear hsti
              go_wp2_with fail
              go_roundg (4 - (i + 1))
              case measure => have := HLT.out; omega
              case rel => exact ⟨i + 1, j, c2, HLT.out, rfl, by go_num, rfl, HJ.out, HKQ.out, HRQ.out, HHQ.out, HNQ.out, HOP.out, by rw [← HPI.out]; exact HRE.out⟩
            | true =>
              rw [if_pos rfl] at hsti
              rw [hsti] at HRE
              clear hsti
              by_cases hjt : j = t.length
              · have hge : ((t.length + 1 : Nat) : Int) ≤ ((j + 1 : Nat) : Int) := by omega
                rw [hjt, List.drop_length, restC_none] at HRE
                clear hjt
                have HEX := Lib.hid HRE.out.symm
                have hr0 : wr.cell? ⟨rb, 0, none⟩ = some (.int .i64 0) := HRQ.out.cell 0
                have hf0 := HRQ.out.frozen 0
                have hr1 : wr.cell? ⟨rb, 1, none⟩ = some (.int .i64 0) := HRQ.out.cell 1
                have hf1 := HRQ.out.frozen 1
                have hr2 : wr.cell? ⟨rb, 2, none⟩ = some (.int .i64 0) := HRQ.out.cell 2
                have hf2 := HRQ.out.frozen 2
                have hr3 : wr.cell? ⟨rb, 3, none⟩ = some (.int .i64 0) := HRQ.out.cell 3
                have hf3 := HRQ.out.frozen 3
                have hr4 : wr.cell? ⟨rb, 4, none⟩ = some (.int .i64 0) := HRQ.out.cell 4
                have hf4 := HRQ.out.frozen 4
                go_wp2_with fail
                exact bodyPost_ret (results_rowT (p := 2) (ty := 26) rfl _ _ rb _ _ _ _ rfl (store5 HRQ.out _ _ _ _ _) Tryd.underlying26 rfl (by kernel_rfl)) rfl (HOUT.out _ _ (keep5 HKQ.out (Nat.le_of_eq HRN.out) _ _ _ _ _) (by rw [HEX.out] <;> rfl))
              · have hge : ¬ ((t.length + 1 : Nat) : Int) ≤ ((j + 1 : Nat) : Int) := by have := HJ.out; omega
                have hlt2 : ((j + 1 : Nat) : Int) < ((t.length + 1 : Nat) : Int) := by have := HJ.out; omega
                have hjl : j < t.length := by have := HJ.out; omega
                obtain ⟨b, o, hA, _, hcs⟩ := (HWS.out.keep HKQ.out).at_.at_str (k := j + 1) (by simpa using hjl)
                subst hA
                rw [List.getD_cons_succ] at hcs
                have HDJ : Hid (t.drop j = t.getD j [] :: t.drop (j + 1)) := Lib.hid (by
                  rw [List.drop_eq_getElem_cons hjl]
                  congr 1
                  rw [List.getD_eq_getElem?_getD, List.getElem?_eq_getElem hjl]
                  rfl)
                have HS5 : Hid ((t.getD j []).length ≤ 20000) := Lib.hid (HWS.out.len _ (by
                  rw [List.getD_eq_getElem?_getD, List.getElem?_eq_getElem hjl]
                  exact List.mem_cons_of_mem _ (List.getElem_mem hjl)))
                have HJL := Lib.hid hjl
                clear hjt hjl
                rw [HDJ.out] at HRE
                clear HDJ
                generalize t.getD j [] = s2 at *
                have KP := Lib.hid (ref35_parse s2 wr HS5.out)
                unfold RParseOut at KP
                cases hp : parseZ s2 with
                | none =>
                  rw [restC_bad _ _ _ _ hp] at HRE
                  rw [hp, show (none : Option Int).isSome = false from rfl] at KP
                  clear hp
                  have HEX := Lib.hid HRE.out.symm
                  generalize numOf s2 = n2 at *
                  go_wp2_with fail
                  refine KP.out.mono ?_
                  rintro r z ⟨rfl, rfl⟩
                  have hr0 : wr.cell? ⟨rb, 0, none⟩ = some (.int .i64 0) := HRQ.out.cell 0
                  have hf0 := HRQ.out.frozen 0
                  have hr1 : wr.cell? ⟨rb, 1, none⟩ = some (.int .i64 0) := HRQ.out.cell 1
                  have hf1 := HRQ.out.frozen 1
                  have hr2 : wr.cell? ⟨rb, 2, none⟩ = some (.int .i64 0) := HRQ.out.cell 2
                  have hf2 := HRQ.out.frozen 2
                  have hr3 : wr.cell? ⟨rb, 3, none⟩ = some (.int .i64 0) := HRQ.out.cell 3
                  have hf3 := HRQ.out.frozen 3
                  have hr4 : wr.cell? ⟨rb, 4, none⟩ = some (.int .i64 0) := HRQ.out.cell 4
                  have hf4 := HRQ.out.frozen 4
                  go_wp2_with fail
                  exact bodyPost_ret (results_rowT (p := 2) (ty := 26) rfl _ _ rb _ _ _ _ rfl (store5 HRQ.out _ _ _ _ _) Tryd.underlying26 rfl (by kernel_rfl)) rfl (HOUT.out _ _ (keep5 HKQ.out (Nat.le_of_eq HRN.out) _ _ _ _ _) (by rw [HEX.out] <;> rfl))
                | some n2 =>
                  rw [restC_step _ _ _ _ hp] at HRE
                  rw [hp, show (some n2).isSome = true from rfl, show numOf s2 = n2 by unfold numOf; rw [hp]] at KP
                  clear hp
                  obtain ⟨vn, hvn⟩ := HNC.out
                  have hfn := HNQ.out.frozen i
                  have HN6 : Hid (Blk (wr.setCell ⟨nb, i, none⟩ (.int .i64 n2)) nb 59 #[.int .i64 (c2.put (i + 1) n2).key, .int .i64 (c2.put (i + 1) n2).val, .int .i64 (c2.put (i + 1) n2).hi, .int .i64 (c2.put (i + 1) n2).lim]) := Lib.hid (by rw [← HPU.out n2]; exact HNQ.out.set_ i _)
                  have HR6 := Lib.hid (HRQ.out.far (p := ⟨nb, i, none⟩) (HRQ.out.ne_ HNQ.out (by decide)) (.int .i64 n2))
                  have HH6 := Lib.hid (HHQ.out.far (p := ⟨nb, i, none⟩) (HHQ.out.ne_ HNQ.out (by decide)) (.int .i64 n2))
                  have HK6 := Lib.hid (HKQ.out.set_ (p := ⟨nb, i, none⟩) (.int .i64 n2) (.inr HNB.out))
                  have HOP6 : Hid ((c2.put (i + 1) n2).op = op) := Lib.hid ((put_op c2 n2).trans HOP.out)
                  go_wp2_with fail
                  refine KP.out.mono ?_
                  rintro r z ⟨rfl, rfl⟩
                  go_wp2_with fail
                  go_roundg (4 - (i + 1))
                  case measure => have := HLT.out; omega
                  case rel => exact ⟨i + 1, j + 1, c2.put (i + 1) n2, HLT.out, rfl, by go_num, by go_num, HJL.out, HK6.out, HR6.out, HH6.out, HN6.out, HOP6.out, HRE.out⟩
          · have hz : ¬ ((i : Nat) : Int) < 4 := by omega
            obtain rfl : i = 4 := by omega
            rw [H4.out, restC_end] at HRE
            clear hlt
            by_cases hjt : j = t.length
            · have hbe : (((j + 1 : Nat) : Int) == ((t.length + 1 : Nat) : Int)) = true := by rw [beq_iff_eq]; omega
              rw [hjt, List.drop_length, if_pos rfl] at HRE
              clear hjt
              have HEX := Lib.hid HRE.out.symm
              have hn0 : wr.cell? ⟨nb, 0, none⟩ = some (.int .i64 c2.key) := HNQ.out.cell 0
              have hn1 : wr.cell? ⟨nb, 1, none⟩ = some (.int .i64 c2.val) := HNQ.out.cell 1
              have hn2 : wr.cell? ⟨nb, 2, none⟩ = some (.int .i64 c2.hi) := HNQ.out.cell 2
              have hn3 : wr.cell? ⟨nb, 3, none⟩ = some (.int .i64 c2.lim) := HNQ.out.cell 3
              have HOS := Lib.hid HOP.out.symm
              have hr0 : wr.cell? ⟨rb, 0, none⟩ = some (.int .i64 0) := HRQ.out.cell 0
              have hf0 := HRQ.out.frozen 0
              have hr1 : wr.cell? ⟨rb, 1, none⟩ = some (.int .i64 0) := HRQ.out.cell 1
              have hf1 := HRQ.out.frozen 1
              have hr2 : wr.cell? ⟨rb, 2, none⟩ = some (.int .i64 0) := HRQ.out.cell 2
              have hf2 := HRQ.out.frozen 2
              have hr3 : wr.cell? ⟨rb, 3, none⟩ = some (.int .i64 0) := HRQ.out.cell 3
              have hf3 := HRQ.out.frozen 3
              have hr4 : wr.cell? ⟨rb, 4, none⟩ = some (.int .i64 0) := HRQ.out.cell 4
              have hf4 := HRQ.out.frozen 4
              go_wp2_with fail
              exact bodyPost_ret (results_rowT (p := 2) (ty := 26) rfl _ _ rb _ _ _ _ rfl (store5 HRQ.out _ _ _ _ _) Tryd.underlying26 rfl (by kernel_rfl)) rfl (HOUT.out _ _ (keep5 HKQ.out (Nat.le_of_eq HRN.out) _ _ _ _ _) (by rw [HOS.out, HEX.out] <;> rfl))
            · have hbe : (((j + 1 : Nat) : Int) == ((t.length + 1 : Nat) : Int)) = false := by rw [beq_eq_false_iff_ne]; omega
              rw [if_neg (by have := HJ.out; rw [List.drop_eq_nil_iff]; omega)] at HRE
              clear hjt
              have HEX := Lib.hid HRE.out.symm
              have hr0 : wr.cell? ⟨rb, 0, none⟩ = some (.int .i64 0) := HRQ.out.cell 0
              have hf0 := HRQ.out.frozen 0
              have hr1 : wr.cell? ⟨rb, 1, none⟩ = some (.int .i64 0) := HRQ.out.cell 1
              have hf1 := HRQ.out.frozen 1
              have hr2 : wr.cell? ⟨rb, 2, none⟩ = some (.int .i64 0) := HRQ.out.cell 2
              have hf2 := HRQ.out.frozen 2
              have hr3 : wr.cell? ⟨rb, 3, none⟩ = some (.int .i64 0) := HRQ.out.cell 3
              have hf3 := HRQ.out.frozen 3
              have hr4 : wr.cell? ⟨rb, 4, none⟩ = some (.int .i64 0) := HRQ.out.cell 4
              have hf4 := HRQ.out.frozen 4
              go_wp2_with fail
              exact bodyPost_ret (results_rowT (p := 2) (ty := 26) rfl _ _ rb _ _ _ _ rfl (store5 HRQ.out _ _ _ _ _) Tryd.underlying26 rfl (by kernel_rfl)) rfl (HOUT.out _ _ (keep5 HKQ.out (Nat.le_of_eq HRN.out) _ _ _ _ _) (by rw [HEX.out] <;> rfl))
end Go.Proofs.YtpbbpannimlldaaDoor
