/- Package core: words by its contract. Conditions: the plan's block is known; the configuration may be. -/
import Derived.Test.YtoghcikfkkmfkaaGreatCore2
namespace Go.Proofs.YtoghcikfkkmfkaaGreat
open Go.RowKit

def setAt (l : List Nat) (k v : Nat) : List Nat := l.set k v
theorem u64s_set (l : List Nat) (k v : Nat) : (u64s l ++ []).toArray.setIfInBounds k (.int .u64 (v : Nat)) = (u64s (l.set k v) ++ []).toArray := by
  simp [u64s, List.map_set]
theorem Blk.word {w : World} {b : Nat} {l : List Nat} (h : Blk w b 22 (u64s l ++ []).toArray) (k v : Nat) : Blk (w.setCell ⟨b, k, none⟩ (.int .u64 (v : Nat))) b 22 (u64s (l.set k v) ++ []).toArray := by
  rw [← u64s_set]
  exact h.set_ k _
/-- Words while they are laid: the plan's block is old, the words' block new. -/
structure Laid (w wr : World) (b p : Nat) (c : ConfS) (l : List Nat) : Prop where
  hb : Blk wr b 22 (u64s l ++ []).toArray
  hp : PlanAt wr p c
  hk : Keep [] w wr
  hn : w.heap.size ≤ b
  hl : l.length = wordsN c
theorem Laid.word {w wr : World} {b p : Nat} {c : ConfS} {l : List Nat} (h : Laid w wr b p c l) (k v : Nat) : Laid w (wr.setCell ⟨b, k, none⟩ (.int .u64 (v : Nat))) b p c (l.set k v) :=
  ⟨h.hb.word k v, h.hp.far (p := ⟨b, k, none⟩) (h.hp.ne_ h.hb (by decide)) _, h.hk.set_ _ (.inr h.hn), h.hn, by simpa using h.hl⟩
theorem Laid.drew {w wr : World} {b p : Nat} {c : ConfS} {l : List Nat} (h : Laid w wr b p c l) : Laid w wr.drew b p c l := ⟨h.hb.drew, h.hp.drew, h.hk.drew, h.hn, h.hl⟩
theorem Laid.keep {w wr w2 : World} {b p : Nat} {c : ConfS} {l : List Nat} (h : Laid w wr b p c l) (hk : Keep [] wr w2) : Laid w w2 b p c l :=
  ⟨h.hb.keep hk (by simp), h.hp.keep hk (by simp), h.hk.trans hk (by simp), h.hn, h.hl⟩

theorem Laid.cell {w wr : World} {b p : Nat} {c : ConfS} {l : List Nat} (h : Laid w wr b p c l) (k : Nat) (hk : k < wordsN c) : wr.cell? ⟨b, k, none⟩ = some (.int .u64 (l.getD k 0 : Nat)) := by
  rw [h.hb.cell]
  have := h.hl
  simp [u64s, show k < l.length by omega]
theorem tree_index (k : Nat) (hk : k < 5) : ∃ (s : Nat) (leaf : Bool) (cl l r : Nat), treeL[k]? = some (s, leaf, cl, l, r) ∧ 1 ≤ s ∧ s ≤ 5 ∧ cl ≤ 3 ∧ l ≤ 5 ∧ r ≤ 5 ∧ ∀ w : World, (Instr.index 112 (.agg treeCells) (.int .i64 (k : Nat))).run Tryz.prog w = .ok (.agg #[.int .i64 (s : Nat), .bool leaf, .int .i64 (cl : Nat), .int .i64 (l : Nat), .int .i64 (r : Nat)]) w := by
  have hcase : k = 0 ∨ k = 1 ∨ k = 2 ∨ k = 3 ∨ k = 4 := by omega
  rcases hcase with rfl | rfl | rfl | rfl | rfl
  · exact ⟨1, false, 3, 2, 5, rfl, by omega, by omega, by omega, by omega, by omega, fun _ => by kernel_rfl⟩
  · exact ⟨2, false, 2, 3, 4, rfl, by omega, by omega, by omega, by omega, by omega, fun _ => by kernel_rfl⟩
  · exact ⟨3, true, 1, 0, 0, rfl, by omega, by omega, by omega, by omega, by omega, fun _ => by kernel_rfl⟩
  · exact ⟨4, true, 2, 0, 0, rfl, by omega, by omega, by omega, by omega, by omega, fun _ => by kernel_rfl⟩
  · exact ⟨5, true, 3, 0, 0, rfl, by omega, by omega, by omega, by omega, by omega, fun _ => by kernel_rfl⟩
theorem treeW_succ (c : ConfS) (ws : List Nat) (k : Nat) (n) (h : treeL[k]? = some n) : treeW c ws (k + 1) = putNode c (treeW c ws k) n := by
  unfold treeW
  rw [List.take_add_one, h, List.foldl_append]
  rfl
theorem plan_node_fi (c : ConfS) (p : Nat) (s f : Nat) (fi : Int) (hfi : (f : Int) = fi) (w : World) (h : PlanAt w p c) (ho : c.Ok) (h0 : 1 ≤ s) (h1 : (s : Int) ≤ c.slots) (h3 : f ≤ 6) :
    Calls Tryz.prog 89 #[.pointer (some ⟨p, 0, none⟩), .int .i64 (s : Nat), .int .i64 fi] w fun e w' => e = .returned (.int .i64 (ixN c s f : Nat)) ∧ w' = w := by
  subst hfi
  exact (plan_node_nat c p s f w h ho h0 h1 h3).mono (fun _ _ h => ⟨h.1, h.2.symm⟩)
theorem edge_make_zero (s : Nat) (w : World) (h : s < 4096) : Calls Tryz.prog 90 #[.int .i64 s, .int .u64 0] w fun e w' => e = .returned (.int .u64 (mkE s 0 : Nat)) ∧ w' = w :=
  (edge_make s 0 w h).mono (fun _ _ h => ⟨h.1, h.2.symm⟩)
theorem laid_made {w w1 w2 : World} {p : Nat} {c : ConfS} (h : PlanAt w p c) (hd : Drawn w w1) (ho : c.Ok)
    (hm : w2.ownsRow w1.heap.size 22 1 (.slice (some ⟨w1.heap.size, 0, none⟩) (wordsN c) (wordsN c)) (wordsN c) (madeCells (Value.int IntKind.u64 0).cells (wordsN c * 1)).toList) (hg : w1.grownBy w2 none) : Laid w w2 w1.heap.size p c (List.replicate (wordsN c) 0) := by
  have hge := wordsN_ge ho
  have hk : Keep [] w w2 := (Keep.of_drawn hd).trans (Keep.of_grown hg) (by simp)
  refine ⟨?_, h.keep hk (by simp), hk, (Keep.of_drawn (S := []) hd).size, by simp⟩
  obtain ⟨_, h1 | ⟨g, c', cur, hv, _, hh, _, _, hcs, htk⟩⟩ := hm
  · omega
  · injection hv with hg' _ hc
    injection hg' with hg'
    have hg : g = w1.heap.size := (congrArg Addr.block hg').symm
    subst hc
    rw [hg] at hh
    have hcur : cur = (u64s (List.replicate (wordsN c) 0) ++ []).toArray := by
      have e : (madeCells (Value.int IntKind.u64 0).cells (wordsN c * 1)).toList = List.replicate (wordsN c) (.int .u64 0) := by
        rw [Nat.mul_one]
        exact toList_madeCells_one _ _
      rw [e] at htk
      have hcs' : cur.size = wordsN c := by simpa using hcs
      have : cur.toList = List.replicate (wordsN c) (.int .u64 0) := by
        rw [← htk, List.take_of_length_le (by simp [hcs'])]
      rw [← Array.toArray_toList (xs := cur), this]
      simp [u64s, List.map_replicate]
    rw [← hcur]
    exact hh
/-- What words tells. -/
def WordsOut (c : ConfS) (w : World) (r : Ending) (w' : World) : Prop := ∃ g cap xt, r = .returned (.slice (some ⟨g, 0, none⟩) (wordsN c) cap) ∧ Blk w' g 22 (u64s (words0 c) ++ xt).toArray ∧ w.heap.size ≤ g ∧ Keep [] w w'
set_option maxRecDepth 100000 in
set_option maxHeartbeats 1000000 in
theorem core_words (c : ConfS) (p : Nat) (w : World) (h : PlanAt w p c) (ho : c.Ok) : Calls Tryz.prog 48 #[ptr p, .int .i64 c.slots] w (WordsOut c w) := by
  have HW := Lib.hid (plan_words_nat c p w h ho)
  have HH := Lib.hid (badge_head 6 0)
  have HT := Lib.hid core_tree
  have HO := Lib.hid ho
  have HP := Lib.hid h
  have hge := wordsN_ge ho
  have hle := wordsN_le ho
  have hzn : (0 : Int) < (wordsN c : Int) := by omega
  have hzn1 : (1 : Int) < (wordsN c : Int) := by omega
  have hzn2 : (2 : Int) < (wordsN c : Int) := by omega
  clear ho h
  unfold ptr
  go_enter Tryz.func48, Tryz.ntmps48
  go_wp2_with fail
  refine HW.out.mono ?_
  rintro r w1 ⟨rfl, hd1⟩
  have HD := Lib.hid hd1
  clear hd1
  go_wp2_with (at_make; obtain ⟨i0, hi, hz0, hz1, hz2⟩ := info_parts info22; refine wpList_make_full _ rfl _ _ 43 rfl w1.heap.size 22 i0 (.int .u64 0) 1 Tryz.underlying43 hi hz0 hz1 .i64 .i64 (wordsN c) (wordsN c) (wordsN c) rfl rfl rfl rfl (by rw [hz2]; omega) (by unfold maxLen; omega) (Nat.le_refl _) ?_; clear hi hz0 hz1 hz2; intro w2 hown hg; have HM := Lib.hid hown; have HG := Lib.hid hg; clear hown hg)
  have HL := Lib.hid (laid_made HP.out HD.out HO.out HM.out HG.out)
  clear HM HG HD
  generalize w1.heap.size = b at HL ⊢
  refine (HH.out w2 (by decide)).mono ?_
  rintro r w3 ⟨rfl, rfl⟩
  have hf := HL.out.hb.frozen
  have hs0 := HL.out.cell 0 (by omega)
  have hs1 := HL.out.cell 1 (by omega)
  have hs2 := HL.out.cell 2 (by omega)
  go_wp2_with fail
  have HL2 := Lib.hid (((HL.out.word 0 1).word 1 3).word 2 (headN 6 0))
  refine (HT.out _).mono ?_
  rintro r w4 ⟨rfl, hk4⟩
  have HL4 := Lib.hid (HL2.out.keep hk4)
  clear hk4 HL2 hs0 hs1 hs2 hf HL HT HH HW
  go_wp2_with fail
  generalize hl0 : ((((List.replicate (wordsN c) 0).set 0 1).set 1 3).set 2 (headN 6 0)) = l0 at *
  have H0 := Lib.hid hl0
  clear hl0
  go_loopg [20] 5 (fun g q wr => ∃ k : Nat, k ≤ 5 ∧ g = 5 - k ∧ q = .int .i64 (k : Nat) ∧ Laid w wr b p c (treeW c l0 k))
  case atStart => exact ⟨0, by omega, rfl, rfl, HL4.out⟩
  case round =>
    obtain ⟨k, hk, rfl, rfl, hrl⟩ := hrel
    have HR := Lib.hid hrl
    clear hrl HL4
    by_cases h5 : k < 5
    · obtain ⟨s, leaf, cl, l, r, hn, hs1, hs5, hcl, hl5, hr5, hidx⟩ := tree_index k h5
      have HS := Lib.hid (treeW_succ c l0 k _ hn)
      have hz5 : (k : Int) < 5 := by omega
      have hsl : (s : Int) ≤ c.slots := by have := HO.out.s1; omega
      have a2 := ixN_lt HO.out hs1 hsl (f := 2) (by omega)
      have a4 := ixN_lt HO.out hs1 hsl (f := 4) (by omega)
      have a5 := ixN_lt HO.out hs1 hsl (f := 5) (by omega)
      have HN2 : ∀ w, PlanAt w p c → _ := fun w h => plan_node_fi c p s 2 2 rfl w h HO.out hs1 hsl (by omega)
      have HN4 : ∀ w, PlanAt w p c → _ := fun w h => plan_node_fi c p s 4 4 rfl w h HO.out hs1 hsl (by omega)
      have HN5 : ∀ w, PlanAt w p c → _ := fun w h => plan_node_fi c p s 5 5 rfl w h HO.out hs1 hsl (by omega)
      have HI : ∀ w, _ := fun w => order_info leaf cl w hcl
      have HL : ∀ w, _ := fun w => edge_make_zero l w (by omega)
      have HR' : ∀ w, _ := fun w => edge_make_zero r w (by omega)
      have KN2 := Lib.hid HN2
      have KN4 := Lib.hid HN4
      have KN5 := Lib.hid HN5
      have KI := Lib.hid HI
      have KL := Lib.hid HL
      have KR := Lib.hid HR'
      have b2 := a2
      clear HN2 HN4 HN5 HI HL HR' hn hs1 hs5 hcl hl5 hr5
      go_wp2_with fail
      have hN := Blk.new wr 111 #[Value.int IntKind.i64 (s : Nat), Value.bool leaf, Value.int IntKind.i64 (cl : Nat), Value.int IntKind.i64 (l : Nat), Value.int IntKind.i64 (r : Nat)]
      have HL5 := Lib.hid (HR.out.keep ((Keep.refl [] wr).alloc (Obj.cells #[Value.int IntKind.i64 (s : Nat), Value.bool leaf, Value.int IntKind.i64 (cl : Nat), Value.int IntKind.i64 (l : Nat), Value.int IntKind.i64 (r : Nat)] 111)))
      generalize wr.heap.size = nb at hN ⊢
      generalize wr.alloc (Obj.cells #[Value.int IntKind.i64 (s : Nat), Value.bool leaf, Value.int IntKind.i64 (cl : Nat), Value.int IntKind.i64 (l : Nat), Value.int IntKind.i64 (r : Nat)] 111) = v5 at hN HL5 ⊢
      have HN := Lib.hid hN
      have hcn := hN.cell
      have hne : nb ≠ b := hN.ne_ HL5.out.hb (by decide)
      have hce := HL5.out.cell _ a2
      have hf := HL5.out.hb.frozen (ixN c s 2)
      clear hN
      refine wp_region_still_tail 11 (by kernel_rfl) (by kernel_rfl) ?_
      simp only [List.take_succ_cons, List.take_zero, List.drop_succ_cons, List.drop_zero]
      iterate 4 still_step
      still_call (KN2.out _ HL5.out.hp.drew)
      iterate 4 still_step
      still_call ((KI.out _).mono (fun _ _ h => ⟨h.1, h.2.symm⟩))
      iterate 1 still_step
      refine wpStill_nil ?_
      change wpList _ _ _ _ _ v5.drew
      go_wp2_with fail
      have HL6 := Lib.hid (HL5.out.word (ixN c s 2) (infoN leaf cl)).drew
      have hN6 := (HN.out.far (p := ⟨b, ixN c s 2, none⟩) hne (.int .u64 (infoN leaf cl : Nat))).drew
      generalize (v5.setCell ⟨b, ixN c s 2, none⟩ (.int .u64 (infoN leaf cl : Nat))).drew = v6 at *
      clear hcn hne hce hf HN HL5
      have hcn := hN6.cell
      have hne : nb ≠ b := hN6.ne_ HL6.out.hb (by decide)
      have hce := HL6.out.cell _ a4
      have hf := HL6.out.hb.frozen (ixN c s 4)
      have HNx := Lib.hid hN6
      clear hN6
      refine wp_region_still_tail 9 (by kernel_rfl) (by kernel_rfl) ?_
      simp only [List.take_succ_cons, List.take_zero, List.drop_succ_cons, List.drop_zero]
      iterate 4 still_step
      still_call (KN4.out _ HL6.out.hp.drew)
      iterate 2 still_step
      still_call (KL.out _)
      iterate 1 still_step
      refine wpStill_nil ?_
      change wpList _ _ _ _ _ v6.drew
      go_wp2_with fail
      have HL7 := Lib.hid (HL6.out.word (ixN c s 4) (mkE l 0)).drew
      have hN7 := (HNx.out.far (p := ⟨b, ixN c s 4, none⟩) hne (.int .u64 (mkE l 0 : Nat))).drew
      generalize (v6.setCell ⟨b, ixN c s 4, none⟩ (.int .u64 (mkE l 0 : Nat))).drew = v7 at *
      clear hcn hne hce hf HNx
      have hcn := hN7.cell
      have hne : nb ≠ b := hN7.ne_ HL7.out.hb (by decide)
      have hce := HL7.out.cell _ a5
      have hf := HL7.out.hb.frozen (ixN c s 5)
      have HNx := Lib.hid hN7
      clear hN7
      refine wp_region_still_tail 9 (by kernel_rfl) (by kernel_rfl) ?_
      simp only [List.take_succ_cons, List.take_zero, List.drop_succ_cons, List.drop_zero]
      iterate 4 still_step
      still_call (KN5.out _ HL7.out.hp.drew)
      iterate 2 still_step
      still_call (KR.out _)
      iterate 1 still_step
      refine wpStill_nil ?_
      change wpList _ _ _ _ _ v7.drew
      go_wp2_with fail
      have HL8 := Lib.hid (HL7.out.word (ixN c s 5) (mkE r 0)).drew
      have hN8 := (HNx.out.far (p := ⟨b, ixN c s 5, none⟩) hne (.int .u64 (mkE r 0 : Nat))).drew
      generalize (v7.setCell ⟨b, ixN c s 5, none⟩ (.int .u64 (mkE r 0 : Nat))).drew = v8 at *
      clear hcn hne hce hf HNx
      go_wp2
      go_roundg (5 - (k + 1))
      case measure => omega
      case rel => exact ⟨k + 1, by omega, rfl, by go_num, by rw [HS.out]; exact HL8.out⟩
    · obtain rfl : k = 5 := by omega
      have HT5 := Lib.hid HR.out
      have hs1 := HO.out.s1
      have hs2 := HO.out.s2
      go_wp2
      clear HR
      go_loopg [8] (c.slots.toNat - 6) (fun g q wr => ∃ j : Nat, j ≤ c.slots.toNat - 6 ∧ g = c.slots.toNat - 6 - j ∧ q = .int .i64 (6 + j : Nat) ∧ Laid w wr b p c (linkW c (treeW c l0 5) j))
      case atStart => exact ⟨0, by omega, rfl, rfl, HT5.out⟩
      case round =>
        obtain ⟨j, hj, rfl, rfl, hrl⟩ := hrel
        have HR := Lib.hid hrl
        clear hrl HT5
        have HS := Lib.hid (linkW_succ c (treeW c l0 5) j)
        generalize hx : 6 + j = x at *
        by_cases hlt : (x : Int) < c.slots
        · have HX := Lib.hid hx
          have hx250 : (x : Int) ≤ 250 := by omega
          have hx0 : (6 : Int) ≤ (x : Int) := by omega
          have a0 := ixN_lt HO.out (s := x) (by omega) (by omega) (f := 0) (by omega)
          have KN := Lib.hid (plan_node_fi c p x 0 0 rfl _ HR.out.hp HO.out (by omega) (by omega) (by omega))
          have hce := HR.out.cell _ a0
          have hf := HR.out.hb.frozen (ixN c x 0)
          clear hx
          go_wp2_with fail
          refine KN.out.mono ?_
          rintro e w' ⟨rfl, rfl⟩
          go_wp2
          go_roundg (c.slots.toNat - 6 - (j + 1))
          case measure =>
            have hxj := HX.out
            omega
          case rel =>
            have hxj := HX.out
            refine ⟨j + 1, by omega, rfl, ?_, ?_⟩
            · congr 1
              omega
            · rw [HS.out]
              have e : 7 + j = x + 1 := by omega
              rw [e]
              exact HR.out.word (ixN c x 0) (x + 1)
        · go_wp2
          go_ret
          have : j = c.slots.toNat - 6 := by omega
          subst this
          refine ⟨b, _, [], rfl, ?_, HR.out.hn, HR.out.hk⟩
          unfold words0
          rw [H0.out]
          exact HR.out.hb
end Go.Proofs.YtoghcikfkkmfkaaGreat
