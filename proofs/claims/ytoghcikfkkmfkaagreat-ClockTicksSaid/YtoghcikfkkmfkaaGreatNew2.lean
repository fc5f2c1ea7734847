/- Package core: New, of a configuration that may be. -/
import Derived.Test.YtoghcikfkkmfkaaGreatNew
import Derived.Deep.CutBlock
import Derived.Deep.AppendLies
import Derived.Deep.RegionLaw
namespace Go.Proofs.YtoghcikfkkmfkaaGreat
open Go.RowKit

def gd0 (c : ConfS) : GuardS := ⟨List.replicate (c.slots.toNat + 1) 0, [], 0⟩
def gdK (c : ConfS) (k : Nat) : GuardS := ⟨List.replicate (c.slots.toNat + 1) 0, ((List.range k).map (· + 1)).reverse, 0⟩
/-- What New tells. -/
def NewOut (c : ConfS) (w : World) (r : Ending) (w' : World) : Prop := ∃ i, r = .returned (.tuple #[ptr i.m, .int .i64 0]) ∧ NewAt c w w' i (gdK c 5) c.thr.toNat

theorem guard_new_c (c : ConfS) (w : World) (ho : c.Ok) : Calls Tryz.prog 49 #[.int .i64 c.slots] w fun r w' => ∃ i : GuardI, r = .returned (.pointer (some ⟨i.gb, 0, none⟩)) ∧ GuardAt w' i (gd0 c) ∧ w.heap.size ≤ i.gb ∧ w.heap.size ≤ i.gsb ∧ w.heap.size ≤ i.hb ∧ Keep [] w w' := by
  have h1 := ho.s1
  have h2 := ho.s2
  have e : c.slots = ((c.slots.toNat : Nat) : Int) := by omega
  rw [e]
  exact guard_new w c.slots.toNat (by omega) (by omega)
theorem frame_new_p (w : World) : Calls Tryz.prog 50 #[] w fun r w' => r = .returned (.pointer (some ⟨w.heap.size, 0, none⟩)) ∧ ThAt w' (ThI.fresh w.heap.size) ThS.zero ∧ Keep [] w w' := frame_new w
theorem infoThP : (Tryz.prog.info? 36).map (fun i => (i.zero, i.size, i.bytes)) = some (some (.pointer none), 1, 8) := by kernel_rfl
theorem MachAt.guard {w w' : World} {i : MI} {s : MS} {g' : GuardS} (h : MachAt w i s) (hg : GuardAt w' i.gi g') (hk : Keep [i.gi.gb, i.gi.hb, i.gi.gsb] w w') : MachAt w' i { s with gd := g' } := by
  have hmb : ∀ {b t : Nat} {cs : Array Value}, Blk w b t cs → t ≠ 122 → t ≠ 22 → b ∉ [i.gi.gb, i.gi.hb, i.gi.gsb] := fun hb h1 h2 => by
    simp only [List.mem_cons, List.not_mem_nil, or_false, not_or]
    exact ⟨hb.ne_ h.hG.hg h1, (h.hG.hh.neBlk hb).symm, hb.ne_ h.hG.hs h2⟩
  refine ⟨h.hM.keep hk (hmb h.hM (by decide) (by decide)), h.hP.keep hk (hmb h.hP (by decide) (by decide)), h.ok, h.hMem.keep hk (hmb h.hMem.hm (by decide) (by decide)) ?_, hg, own_keep h.hrow hk ?_, h.tl, ?_, h.wbf, h.gsf, h.wg, h.apart⟩
  · simp only [List.mem_cons, List.not_mem_nil, or_false, not_or]
    exact ⟨h.hMem.hw.ne_ h.hG.hg (by decide), (h.hG.hh.neBlk h.hMem.hw).symm, h.wg⟩
  · intro g hg
    obtain ⟨cs, hb⟩ := own_blk h.hrow hg
    exact hmb hb (by decide) (by decide)
  · intro k ti t h1 h2
    have ht := h.th k ti t h1 h2
    refine ht.keep hk (fun x hx => ?_)
    simp only [List.mem_cons, List.not_mem_nil, or_false, not_or]
    exact ⟨fun e => ht.foot_ne h.hG.hg (by decide) (e ▸ hx), fun e => ht.foot_held h.hG.hh (e ▸ hx), fun e => h.gsf ti (List.mem_of_getElem? h1) (e ▸ hx)⟩
theorem NewAt.guard {c : ConfS} {w wr w2 : World} {i : MI} {gd g' : GuardS} {k : Nat} (h : NewAt c w wr i gd k) (hg : GuardAt w2 i.gi g') (hk : Keep [i.gi.gb, i.gi.hb] wr w2) : NewAt c w w2 i g' k :=
  ⟨h.hm.guard hg (hk.mono (by simp)), h.new, h.np, h.hk.trans hk (fun x hx => .inr (h.new x (by
    simp only [List.mem_cons, List.not_mem_nil, or_false] at hx
    rcases hx with rfl | rfl <;> simp [MI.foot])))⟩
theorem NewAt.keep0 {c : ConfS} {w wr w2 : World} {i : MI} {gd : GuardS} {k : Nat} (h : NewAt c w wr i gd k) (hk : Keep [] wr w2) : NewAt c w w2 i gd k :=
  ⟨h.hm.keep0 hk, h.new, h.np, h.hk.trans hk (by simp)⟩
theorem gdK_zero (c : ConfS) : gdK c 0 = gd0 c := rfl
theorem gdK_succ (c : ConfS) (ho : c.Ok) (k : Nat) (hk : k < 5) : (gdK c k).takeS (k + 1) = gdK c (k + 1) := by
  have := ho.s1
  unfold GuardS.takeS
  rw [if_pos]
  · simp [gdK, List.range_succ]
  · refine ⟨by omega, by simp [gdK]; omega, ?_⟩
    simp [gdK]
theorem tree_slot {k s : Nat} {leaf : Bool} {cl l r : Nat} (hk : k < 5) (h : treeL[k]? = some (s, leaf, cl, l, r)) : s = k + 1 := by
  have hcase : k = 0 ∨ k = 1 ∨ k = 2 ∨ k = 3 ∨ k = 4 := by omega
  rcases hcase with rfl | rfl | rfl | rfl | rfl <;> · simp [treeL] at h; omega
theorem NewAt.grow {c : ConfS} {w wr w1 w2 : World} {i : MI} {gd : GuardS} {k gv cv n : Nat} {o : Obj} (h : NewAt c w wr i gd k) (hk1 : Keep [] wr w1) (hT : ThAt w1 (ThI.fresh wr.heap.size) ThS.zero) (hn : n = k + 1)
    (hown : w2.ownsRow 0 36 1 (.slice (some ⟨gv, 0, none⟩) n cv) n (i.row ++ [ptr wr.heap.size])) (hg : (w1.alloc o).grownBy w2 i.tv.ownBlock)
    (hat : i.tv.ownBlock = some gv ∨ gv = (w1.alloc o).heap.size) : ∃ i2 : MI, i2.m = i.m ∧ NewAt c w (w2.setCell ⟨i.m, 3, none⟩ (.slice (some ⟨gv, 0, none⟩) n cv)) i2 gd (k + 1) := by
  have e : (MS.start c gd k).ths.length + 1 = n := by simp [MS.start, hn]
  have hs := h.hk.size
  obtain ⟨h1, h2, h3⟩ := h.hm.grow (o := o) (v' := .slice (some ⟨gv, 0, none⟩) n cv) hk1 hT (by rw [e]; exact hown) hg (by
    rcases hat with e | e
    · exact .inl e.symm
    · exact .inr (by rw [← e]; rfl))
  refine ⟨{ i with tv := .slice (some ⟨gv, 0, none⟩) n cv, tis := i.tis ++ [ThI.fresh wr.heap.size] }, rfl, ?_, ?_, h.np, h.hk.trans h2 (fun x hx => .inr (h.new x (MI.mem_foot.2 ?_)))⟩
  · have e2 : ({ MS.start c gd k with ths := (MS.start c gd k).ths ++ [ThS.zero] } : MS) = MS.start c gd (k + 1) := by simp [MS.start, List.replicate_succ']
    rw [← e2]
    exact h1
  · intro x hx
    rcases MI.mem_foot.1 hx with rfl | rfl | rfl | rfl | rfl | rfl | hx | ⟨ti, hm, hx⟩
    · exact h.new _ (by simp [MI.foot])
    · exact h.new _ (by simp [MI.foot])
    · exact h.new _ (by simp [MI.foot])
    · exact h.new _ (by simp [MI.foot])
    · exact h.new _ (by simp [MI.foot])
    · exact h.new _ (by simp [MI.foot])
    · rcases h3 with e | e
      · simp only at hx
        rw [e] at hx
        exact h.new _ (MI.mem_foot.2 (by simp [hx]))
      · exact Nat.le_trans hs (e x hx)
    · simp only [List.mem_append, List.mem_singleton] at hm
      rcases hm with hm | rfl
      · exact h.new _ (MI.mem_foot.2 (.inr (.inr (.inr (.inr (.inr (.inr (.inr ⟨ti, hm, hx⟩))))))))
      · have : x = wr.heap.size := by simpa [ThI.foot, ThI.fresh, Value.ownBlock] using hx
        omega
  · simp only [List.mem_cons, Option.mem_toList] at hx
    rcases hx with rfl | hx
    · simp
    · simp [hx]
theorem thread_after {w x w2 : World} {i : MI} {s : MS} {o : Obj} (h : MachAt w i s) (hk : Keep [] w x) (hg : (x.alloc o).grownBy w2 i.tv.ownBlock) : w2.cell? ⟨i.m, 3, none⟩ = some i.tv ∧ w2.frozen? ⟨i.m, 3, none⟩ = false := by
  have hm2 : Blk w2 i.m 108 (machCells (ptr i.p) (ptr i.mi.mb) (ptr i.gi.gb) i.tv s.steps s.fault) :=
    (h.hM.keep (hk.alloc o) (by simp)).keep (Keep.of_grown hg) (by simpa using own_ne h.hrow h.hM (by decide))
  exact ⟨hm2.cell 3, hm2.frozen 3⟩
theorem thread_row {w x : World} {i : MI} {s : MS} (h : MachAt w i s) (hk : Keep [] w x) (o : Obj) : (x.alloc o).ownsRow 0 36 1 i.tv s.ths.length i.row :=
  own_keep (own_keep h.hrow hk (by simp)) ((Keep.refl [] x).alloc _) (by simp)
set_option maxRecDepth 100000 in
set_option maxHeartbeats 1000000 in
theorem core_new (c : ConfS) (w : World) (h : c.Ok) : Calls Tryz.prog 10 #[.agg c.cells] w (NewOut c w) := by
  have HN := Lib.hid (fun w => plan_new_yes c w h)
  have HO := Lib.hid h
  have hcs : c.cells = #[.int .i64 c.thr, .int .i64 c.slots, .int .u64 c.stamps] := rfl
  have HX := Lib.hid (Blk.new w 24 c.cells)
  have hk0 := (Keep.refl [] w).alloc (.cells c.cells 24)
  have HK0 := Lib.hid hk0
  clear h hk0
  rw [hcs] at HN HX HK0 ⊢
  clear hcs
  go_enter Tryz.func10, Tryz.ntmps10
  go_wp2_with fail
  generalize hcb : w.heap.size = cb at HX ⊢
  have HCB := Lib.hid hcb
  clear hcb
  generalize w.alloc (.cells #[.int .i64 c.thr, .int .i64 c.slots, .int .u64 c.stamps] 24) = w1 at HX HK0 ⊢
  refine (HN.out _).mono ?_
  rintro r w2 ⟨p, rfl, hp, hpn, hk⟩
  have HP := Lib.hid hp
  have HPN := Lib.hid (Nat.le_trans HK0.out.size hpn)
  have HK := Lib.hid (HK0.out.trans hk (by simp))
  have HX2 := Lib.hid (HX.out.keep hk (by simp))
  clear hp hpn hk HX HK0
  have hx1 : w2.cell? ⟨cb, 1, none⟩ = some (.int .i64 c.slots) := HX2.out.cell 1
  have hx0 : w2.cell? ⟨cb, 0, none⟩ = some (.int .i64 c.thr) := HX2.out.cell 0
  go_upto_region 4 with fail
  have HXk := Lib.hid (fun x (hk : Keep [] w2 x) => (show x.cell? ⟨cb, 1, none⟩ = some (.int .i64 c.slots) from (HX2.out.keep hk (by simp)).cell 1))
  have HW := Lib.hid (fun x (hk : Keep [] w2 x) => core_words c p x (HP.out.keep hk (by simp)) HO.out)
  have HG := Lib.hid (fun x => guard_new_c c x HO.out)
  have HM := Lib.hid (fun x b cap xt hb => mem_of x b (wordsN c) cap (words0 c) xt hb (words0_length c) (by have := wordsN_ge HO.out; omega) (by have := wordsN_le HO.out; omega))
  have HKc := Lib.hid ((Keep.refl [] w2).drew)
  unfold ptr at *
  go_cut [6] (fun s6 wx => ∃ i, s6 = .pointer (some ⟨i.m, 0, none⟩) ∧ NewAt c w wx i (gd0 c) 0 ∧ wx.cell? ⟨cb, 0, none⟩ = some (.int .i64 c.thr))
  case first =>
    go_region_with (first
      | (go_at_call 48; refine (HW.out _ HKc.out).mono ?_; rintro r x ⟨g, cap, xt, rfl, hb, hg, hk⟩; have HB := Lib.hid hb; have HKc := Lib.hid (HKc.out.trans hk (by simp)); have hx1 := HXk.out _ HKc.out; (try have HGd := Lib.hid (HGd.out.keep hk (by simp) (by simp) (by simp))); clear hb hg hk)
      | (go_at_call 49; refine (HG.out _).mono ?_; rintro r x ⟨gi, rfl, hgd, hg1, hg2, hg3, hk⟩; have HGd := Lib.hid hgd; have HG1 := Lib.hid (And.intro (Nat.le_trans HKc.out.size hg1) (And.intro (Nat.le_trans HKc.out.size hg2) (Nat.le_trans HKc.out.size hg3))); (try have HWG := Lib.hid (Nat.ne_of_lt (Nat.lt_of_lt_of_le HMe.out.hw.lt hg2))); have HKc := Lib.hid (HKc.out.trans hk (by simp)); have hx1 := HXk.out _ HKc.out; (try have HB := Lib.hid (HB.out.keep hk (by simp))); (try have HMe := Lib.hid (HMe.out.keep hk (by simp) (by simp))); clear hgd hg1 hg2 hg3 hk)
      | (go_at_call 47; refine (HM.out _ _ _ _ HB.out).mono ?_; rintro r x ⟨mi, rfl, hme, hm1, hm2, hk⟩; have HMe := Lib.hid hme; have HM1 := Lib.hid (And.intro (Nat.le_trans HKc.out.size hm1) (Nat.le_trans HKc.out.size hm2)); (try have HWG := Lib.hid (Nat.ne_of_lt (Nat.lt_of_lt_of_le HGd.out.hs.lt hm2)).symm); have HKc := Lib.hid (HKc.out.trans hk (by simp)); have hx1 := HXk.out _ HKc.out; (try have HGd := Lib.hid (HGd.out.keep hk (by simp) (by simp) (by simp))); clear hme hm1 hm2 hk))
    all_goals
      have HF := Lib.hid (NewAt.start (HP.out.keep HKc.out (by simp)) HO.out HMe.out HGd.out HWG.out (HK.out.trans HKc.out (by simp)) (Nat.le_trans HK.out.size HM1.out.1) (Nat.le_trans HK.out.size HM1.out.2) (Nat.le_trans HK.out.size HG1.out.1) (Nat.le_trans HK.out.size HG1.out.2.1) (Nat.le_trans HK.out.size HG1.out.2.2) HPN.out)
      clear HXk HW HG HM HN hx1
      go_wp2_with fail
      go_meet
      exact ⟨_, rfl, HF.out, (((HX2.out.keep HKc.out (by simp)).alloc _).cell 0)⟩
  case rest =>
    obtain ⟨i, rfl, hn, hx0⟩ := hcut
    have HA := Lib.hid hn
    clear hn HXk HW HG HM HKc HN hx1 HX2 HK HPN HP HCB
    go_wp2_with fail
    have ht1 := HO.out.t1
    have ht2 := HO.out.t2
    generalize hmm : i.m = m at *
    have HMM := Lib.hid hmm
    clear hmm
    go_loopg [30] (c.thr.toNat) (fun g q wr => ∃ (k : Nat) (i' : MI), k ≤ c.thr.toNat ∧ g = c.thr.toNat - k ∧ q = .int .i64 (k : Nat) ∧ i'.m = m ∧ NewAt c w wr i' (gd0 c) k)
    case atStart => exact ⟨0, i, by omega, rfl, rfl, HMM.out, HA.out⟩
    case round =>
      obtain ⟨k, i', hk, rfl, rfl, hm', hn⟩ := hrel
      have HN := Lib.hid hn
      have HM' := Lib.hid hm'
      clear hn hm' hx0 HA
      by_cases hlt : (k : Int) < c.thr
      · have hc3 : wr.cell? ⟨m, 3, none⟩ = some i'.tv := by rw [← HM'.out]; exact HN.out.hm.c3
        have hf3 : wr.frozen? ⟨m, 3, none⟩ = false := by rw [← HM'.out]; exact HN.out.hm.hM.frozen 3
        go_upto_block 1 with fail
        go_cut [] (fun wx => ∃ i2 : MI, i2.m = m ∧ NewAt c w wx i2 (gd0 c) (k + 1))
        case rest =>
          obtain ⟨i2, h2m, h2⟩ := hcut
          have H2 := Lib.hid (And.intro h2m h2)
          clear h2m h2
          go_wp2_with fail
          go_roundg (c.thr.toNat - (k + 1))
          case measure => omega
          case rel => exact ⟨k + 1, i2, by omega, rfl, rfl, H2.out.1, H2.out.2⟩
        case first =>
          have HKd := Lib.hid ((Keep.refl [] wr).drew)
          go_wp2_with fail
          go_region_law (first
            | (obtain ⟨i0, hi, hz0, hz1, hz2⟩ := info_parts infoThP; (refine step_append_lies _ rfl (.tmp 36) (.tmp 38) 106 rfl 0 36 i0 (.pointer none) 1 8 Tryz.underlying106 hi hz0 hz1 hz2 rfl (by decide) i'.tv (MS.start c (gd0 c) k).ths.length i'.row rfl (thread_row HN.out.hm HK1.out _) ⟨_, 0, none⟩ 1 1 [.pointer (some ⟨wr.heap.size, 0, none⟩)] rfl rfl (cell_one_new _ _ _) (by simp [Value.oneCell']) (by decide) (by simp [MS.start, maxLen]; omega) (by simp [MS.start]; omega) (Nat.zero_le _) _ rfl ?_); clear hi hz0 hz1 hz2; intro gv cv w2 hown hg hat hlt; have HW2 := Lib.hid hown; have HG2 := Lib.hid hg; have HA2 := Lib.hid hat; obtain ⟨hc4, hf4⟩ := thread_after HN.out.hm HK1.out hg; rw [HM'.out] at hc4 hf4; clear hown hg hat hlt)
            | (go_simp; go_at_call 50; refine (frame_new_p _).mono ?_; rintro r x ⟨rfl, hth, hk⟩; have HT := Lib.hid hth; have HK1 := Lib.hid (HKd.out.trans hk (by simp)); have hc3 : x.cell? ⟨m, 3, none⟩ = some i'.tv := (by rw [← HM'.out]; exact (HN.out.hm.keep0 HK1.out).c3); have hc3a : (x.alloc (.cells #[.pointer (some ⟨wr.heap.size, 0, none⟩)] 36)).cell? ⟨m, 3, none⟩ = some i'.tv := (by rw [← HM'.out]; exact ((HN.out.hm.keep0 HK1.out).alloc _).c3); clear hth hk))
          all_goals
            have HF := Lib.hid (HN.out.grow HK1.out HT.out (by simp [MS.start]) HW2.out HG2.out HA2.out)
            rw [HM'.out] at HF
            clear HW2 HG2 HA2 HT HK1 hc3 hc3a hc4 hf4 hf3
            go_wp2_with fail
            go_meet
            exact HF.out
      · have hkt : k = c.thr.toNat := by omega
        have HM2 := Lib.hid HM'.out
        subst hkt
        clear HMM ht1 ht2
        go_wp2_with fail
        refine (core_tree _).mono ?_
        rintro r w4 ⟨rfl, hk4⟩
        have HN4 := Lib.hid (HN.out.keep0 hk4)
        clear hk4 HN HM'
        go_wp2_with fail
        go_loopg [44] 5 (fun g q wx => ∃ j : Nat, j ≤ 5 ∧ g = 5 - j ∧ q = .int .i64 (j : Nat) ∧ NewAt c w wx i' (gdK c j) c.thr.toNat)
        case atStart => exact ⟨0, by omega, rfl, rfl, HN4.out⟩
        case round =>
          obtain ⟨j, hj, rfl, rfl, hrl⟩ := hrel
          have HR := Lib.hid hrl
          clear hrl HN4
          by_cases h5 : j < 5
          · obtain ⟨s, leaf, cl, l, r, hn, hs1, hs5, hcl, hl5, hr5, hidx⟩ := tree_index j h5
            have hsj := tree_slot h5 hn
            have HS := Lib.hid (gdK_succ c HO.out j h5)
            rw [← hsj] at HS
            have HSJ := Lib.hid hsj
            have hz5 : (j : Int) < 5 := by omega
            clear hn hs1 hcl hl5 hr5 hsj
            go_wp2_with fail
            have hNd := Blk.new wr 111 #[Value.int IntKind.i64 (s : Nat), Value.bool leaf, Value.int IntKind.i64 (cl : Nat), Value.int IntKind.i64 (l : Nat), Value.int IntKind.i64 (r : Nat)]
            have HR5 := Lib.hid (HR.out.keep0 ((Keep.refl [] wr).alloc (Obj.cells #[Value.int IntKind.i64 (s : Nat), Value.bool leaf, Value.int IntKind.i64 (cl : Nat), Value.int IntKind.i64 (l : Nat), Value.int IntKind.i64 (r : Nat)] 111)))
            generalize wr.heap.size = nb at hNd ⊢
            generalize wr.alloc (Obj.cells #[Value.int IntKind.i64 (s : Nat), Value.bool leaf, Value.int IntKind.i64 (cl : Nat), Value.int IntKind.i64 (l : Nat), Value.int IntKind.i64 (r : Nat)] 111) = v5 at hNd HR5 ⊢
            have hcn := hNd.cell
            have hcm : v5.cell? ⟨m, 2, none⟩ = some (ptr i'.gi.gb) := by rw [← HM2.out]; exact HR5.out.hm.hM.cell 2
            unfold ptr at hcm
            have KT := Lib.hid (guard_take v5.drew i'.gi (gdK c j) s HR5.out.hm.hG.drew (by omega) (by simp [gdK]))
            clear hNd HR
            refine wp_region_still_tail 6 (by kernel_rfl) (by kernel_rfl) ?_
            simp only [List.take_succ_cons, List.take_zero, List.drop_succ_cons, List.drop_zero]
            iterate 6 still_step
            refine wpStill_nil ?_
            change wpList _ _ _ _ _ v5.drew
            go_wp2_with fail
            refine KT.out.mono ?_
            rintro r6 v6 ⟨rfl, hg6, hk6⟩
            rw [HS.out] at hg6
            have H6 := Lib.hid (HR5.out.keep0 (Keep.refl [] v5).drew |>.guard hg6 hk6)
            clear hg6 hk6 KT HS HR5
            go_wp2_with fail
            go_roundg (5 - (j + 1))
            case measure => omega
            case rel =>
              refine ⟨j + 1, by omega, rfl, rfl, ?_⟩
              have := H6.out
              rw [HSJ.out] at this
              exact this
          · obtain rfl : j = 5 := by omega
            go_wp2_with fail
            go_ret2
            exact ⟨i', by rw [HM2.out]; rfl, HR.out⟩
end Go.Proofs.YtoghcikfkkmfkaaGreat
