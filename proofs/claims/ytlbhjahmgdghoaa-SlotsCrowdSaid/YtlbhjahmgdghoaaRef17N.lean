/- The reference of layer 17: New by its contract. Condition: the configuration may be. -/
import Derived.Test.YtlbhjahmgdghoaaFree
import Derived.Test.YtlbhjahmgdghoaaW0
namespace Go.Proofs.Ytlbhjahmgdghoaa
open Go.RowKit

set_option maxRecDepth 100000 in
theorem f_ret {fn : Func} {p : Tmp} {g : Nat} {cs : Array Value} {a : Act} {w : World} {K : Ending → World → Prop} (h : fn.results = #[.cell p 43]) (hg : Blk w g 43 cs) (hp : a.tmps.getD p undef = .pointer (some ⟨g, 0, none⟩)) (hi : (Try.prog.info? 43).map (·.size) = some cs.size) (hd : a.defers = []) (hk : K (.returned (.agg cs)) w) : bodyPost Try.prog fn K .ret a w :=
  bodyPost_ret (v := .agg cs) (results_cell_row h _ _ g _ _ _ _ hp hg Try.underlying43 rfl hi) hd hk
def L0 (k : Nat) : List Nat := (List.range k).map (6 + ·)
theorem L0_succ (k : Nat) : L0 (k + 1) = L0 k ++ [6 + k] := by simp [L0, List.range_succ]
theorem L0_length (k : Nat) : (L0 k).length = k := by simp [L0]
def FNew (c : ConfS) (w : World) (r : Ending) (w' : World) : Prop :=
  Keep [] w w' ∧ ∃ vL vG, r = .returned (.agg #[vL, vG]) ∧ RowI w' (w.heap.size ≤ ·) 3 vL (ints (L0 (c.slots.toNat - 5))) ∧ RowI w' (w.heap.size ≤ ·) 22 vG (u64s (List.replicate c.slots.toNat 0))
/-- New's list while it grows. -/
structure NewI (w wr : World) (rb fb : Nat) (vG : Value) (n j : Nat) (vL : Value) : Prop where
  hk : Keep [] w wr
  hf : Blk wr fb 43 #[vL, vG]
  own : wr.ownsRow w.heap.size 3 1 vL j (ints (L0 j))
  gen : RowI wr (w.heap.size ≤ ·) 22 vG (u64s (List.replicate n 0))
  fbn : w.heap.size ≤ fb
  hr : Blk wr rb 43 #[.slice none 0 0, .slice none 0 0]
  rbf : rb ≠ fb
  rbn : w.heap.size ≤ rb
theorem NewI.ne {w wr : World} {rb fb n j : Nat} {vG vL : Value} (h : NewI w wr rb fb vG n j vL) : vL.ownBlock ≠ some fb := own_ne h.own h.hf (by decide)
theorem NewI.grow {w wr w2 : World} {rb fb n j : Nat} {vG vL v' : Value} {o : Obj} (h : NewI w wr rb fb vG n j vL) (hown : w2.ownsRow w.heap.size 3 1 v' (j + 1) (ints (L0 j) ++ [.int .i64 (6 + j : Nat)])) (hg : (wr.alloc o).grownBy w2 vL.ownBlock) :
    NewI w (w2.setCell ⟨fb, 0, none⟩ v') rb fb vG n (j + 1) v' := by
  have hk2 : Keep vL.ownBlock.toList wr w2 := ((Keep.refl _ wr).alloc o).trans (Keep.of_grown hg) (fun x hx => .inl hx)
  have hlt : ∀ x, vL.ownBlock = some x → w.heap.size ≤ x := fun x hx => (h.own.lt x hx).1
  have hf2 : Blk w2 fb 43 #[vL, vG] := h.hf.keep hk2 (by simpa using h.ne)
  have hk : Keep [] w w2 := h.hk.trans hk2 (fun x hx => .inr (hlt x (by simpa using hx)))
  refine ⟨hk.set_ _ (.inr h.fbn), by simpa using hf2.set_ 0 v', ?_, ?_, h.fbn, (h.hr.keep hk2 (by simpa using own_ne h.own h.hr (by decide))).far (p := ⟨fb, 0, none⟩) h.rbf _, h.rbf, h.rbn⟩
  · rw [L0_succ]
    have e2 : ints (L0 j ++ [6 + j]) = ints (L0 j) ++ [.int .i64 (6 + j : Nat)] := by simp [ints]
    rw [e2]
    exact own_same hown (fun g hgg => Below.heap_setCell _ _ _ _ (fun e => own_ne hown hf2 (by decide) (by rw [hgg, e])))
  · obtain ⟨b, o', cap, cs, h1, h2, h3, h4, h5⟩ := h.gen
    have hb2 : Blk w2 b 22 cs := h3.keep hk2 (fun hm => own_ne h.own h3 (by decide) (by simpa using hm))
    exact ⟨b, o', cap, cs, h1, h2, hb2.far (p := ⟨fb, 0, none⟩) (hb2.ne_ hf2 (by decide)) _, h4, h5⟩
theorem made_row {w w1 w2 : World} {n : Nat} (hk : Keep [] w w1) (hn : 0 < n) (hm : w2.ownsRow w1.heap.size 22 1 (.slice (some ⟨w1.heap.size, 0, none⟩) n n) n (madeCells (Value.int IntKind.u64 0).cells (n * 1)).toList) :
    RowI w2 (w.heap.size ≤ ·) 22 (.slice (some ⟨w1.heap.size, 0, none⟩) n n) (u64s (List.replicate n 0)) := by
  have e : (madeCells (Value.int IntKind.u64 0).cells (n * 1)).toList = u64s (List.replicate n 0) := by
    rw [Nat.mul_one]
    exact (toList_madeCells_one _ _).trans (by simp [u64s])
  rw [e] at hm
  exact (RowI.of_own hm hn).mono (fun b _ hb => Nat.le_trans hk.size hb)
theorem NewI.form {w wr : World} {rb fb n j : Nat} {vG vL : Value} (h : NewI w wr rb fb vG n j vL) : ∃ A cp, vL = .slice A j cp := by
  obtain ⟨hl, ⟨h1, h2⟩ | ⟨g, cap, cur, hv, _⟩⟩ := h.own
  · exact ⟨none, 0, by rw [h1, h2]⟩
  · exact ⟨_, _, hv⟩
set_option maxRecDepth 100000 in
set_option maxHeartbeats 1000000 in
theorem ref17_new (c : ConfS) (w : World) (ho : c.Ok) : Calls Try.prog 19 #[.int .i64 c.slots] w (FNew c w) := by
  obtain ⟨n, hn⟩ : ∃ n : Nat, c.slots = (n : Int) := ⟨c.slots.toNat, by have := ho.s1; omega⟩
  have hs1 := ho.s1
  have hs2 := ho.s2
  unfold FNew
  rw [hn]
  rw [hn] at hs1 hs2
  show Calls _ _ _ _ (fun r w' => Keep [] w w' ∧ ∃ vL vG, r = .returned (.agg #[vL, vG]) ∧ RowI w' (w.heap.size ≤ ·) 3 vL (ints (L0 (n - 5))) ∧ RowI w' (w.heap.size ≤ ·) 22 vG (u64s (List.replicate n 0)))
  clear hn ho
  have HK0 := Lib.hid ((Keep.refl [] w).alloc (.cells #[.slice none 0 0, .slice none 0 0] 43))
  have HR := Lib.hid (Blk.new w 43 #[.slice none 0 0, .slice none 0 0])
  generalize hP : (fun (r : Ending) (w' : World) => Keep [] w w' ∧ ∃ vL vG, r = .returned (.agg #[vL, vG]) ∧ RowI w' (w.heap.size ≤ ·) 3 vL (ints (L0 (n - 5))) ∧ RowI w' (w.heap.size ≤ ·) 22 vG (u64s (List.replicate n 0))) = P
  have HP := Lib.hid hP
  clear hP
  go_enter Try.func19, Try.ntmps19
  go_upto_region 1 with fail
  generalize hrb : w.heap.size = rb at HR ⊢
  have HRB := Lib.hid hrb
  clear hrb
  generalize w.alloc (.cells #[.slice none 0 0, .slice none 0 0] 43) = w1 at HK0 HR ⊢
  go_wp2_with (at_make; obtain ⟨i0, hi, hz0, hz1, hz2⟩ := info_parts info22; refine wpList_make_full _ rfl _ _ 31 rfl w1.heap.size 22 i0 (.int .u64 0) 1 Try.underlying31 hi hz0 hz1 .i64 .i64 n n n rfl rfl rfl rfl (by rw [hz2]; omega) (by unfold maxLen; omega) (Nat.le_refl _) ?_; clear hi hz0 hz1 hz2; intro w2 hown hg; have HM := Lib.hid hown; have HG := Lib.hid hg; clear hown hg)
  have HGE : Hid (RowI w2 (w.heap.size ≤ ·) 22 (.slice (some ⟨w1.heap.size, 0, none⟩) n n) (u64s (List.replicate n 0))) := made_row HK0.out (by omega) HM.out
  have HK2 := Lib.hid (HK0.out.trans (Keep.of_grown HG.out) (by simp))
  have HR2 := Lib.hid (HR.out.keep (Keep.of_grown (row := none) HG.out) (by simp))
  generalize hvg : (w1.heap.size) = gb at HGE HM ⊢
  have HFB := Lib.hid (Blk.new w2 43 #[.slice none 0 0, .slice (some ⟨gb, 0, none⟩) n n])
  have HKA := Lib.hid (HK2.out.alloc (.cells #[.slice none 0 0, .slice (some ⟨gb, 0, none⟩) n n] 43))
  have HGA := Lib.hid (HGE.out.keep0 ((Keep.refl [] w2).alloc (.cells #[.slice none 0 0, .slice (some ⟨gb, 0, none⟩) n n] 43)))
  have HRA := Lib.hid (HR2.out.alloc (.cells #[.slice none 0 0, .slice (some ⟨gb, 0, none⟩) n n] 43))
  have HFN : Hid (w.heap.size ≤ w2.heap.size) := HK2.out.size
  clear HM HG HGE HK2 HR2 HR HK0 hvg
  generalize hfb : w2.heap.size = fb at HFB HFN ⊢
  have HRF : Hid (rb ≠ fb) := by
    have h1 := HRA.out
    have h2 := HFB.out
    rw [← hfb] at h2
    show rb ≠ fb
    rintro rfl
    unfold Blk at h1 h2
    rw [hfb] at h2
    rw [h1] at h2
    injection h2 with h2
    injection h2 with h2
    simp at h2
  have HRB2 : Hid (w.heap.size ≤ rb) := Nat.le_of_eq HRB.out
  have HI0 : Hid (NewI w (w2.alloc (.cells #[.slice none 0 0, .slice (some ⟨gb, 0, none⟩) n n] 43)) rb fb (.slice (some ⟨gb, 0, none⟩) n n) n 0 (.slice none 0 0)) :=
    ⟨HKA.out, by rw [← hfb]; exact Blk.new w2 _ _, World.ownsRow_nil _ _ _ _, HGA.out, HFN.out, HRA.out, HRF.out, HRB2.out⟩
  generalize w2.alloc (.cells #[.slice none 0 0, .slice (some ⟨gb, 0, none⟩) n n] 43) = w3 at HI0 ⊢
  clear HFB HKA HGA HRA HFN hfb HRB2 HRF
  go_loopg [4] (n - 5) (fun g q wr => ∃ (j : Nat) (vL : Value), j ≤ n - 5 ∧ g = n - 5 - j ∧ q = .int .i64 (6 + j : Nat) ∧ NewI w wr rb fb (.slice (some ⟨gb, 0, none⟩) n n) n j vL)
  case atStart => exact ⟨0, _, Nat.zero_le _, rfl, rfl, HI0.out⟩
  case round =>
    obtain ⟨j, vL, hj, rfl, rfl, hni⟩ := hrel
    obtain ⟨A, cp, rfl⟩ := hni.form
    have HN := Lib.hid hni
    clear hni HI0
    have hl0 : wr.cell? ⟨fb, 0, none⟩ = some (.slice A j cp) := HN.out.hf.cell 0
    have hl1 : wr.cell? ⟨fb, 1, none⟩ = some (.slice (some ⟨gb, 0, none⟩) n n) := HN.out.hf.cell 1
    by_cases hlt : j < n - 5
    · have hz : ((6 + j : Nat) : Int) ≤ (n : Int) := by omega
      have HLE : Hid (j ≤ 300) := by show j ≤ 300; omega
      generalize he : 6 + j = e at hz ⊢
      have HE := Lib.hid he
      have hze : ((e : Nat) : Int) ≤ 250 := by omega
      clear he
      go_wp2_with (at_builtin; obtain ⟨i0, hi, hz0, hz1, hz2⟩ := info_parts infoInt; go_loud (refine wpList_append_own_at _ rfl (.tmp 14) (.tmp 16) 40 rfl w.heap.size 3 i0 (.int .i64 0) 1 8 Try.underlying40 hi hz0 hz1 hz2 rfl (by decide) (.slice A j cp) j (ints (L0 j)) rfl (own_keep HN.out.own ((Keep.refl [] _).alloc _) (by simp)) ⟨_, 0, none⟩ 1 1 [.int .i64 (e : Nat)] rfl rfl (World.news_of_block (heap_alloc_new _ _)) (by simp [Value.oneCell']) (by have := HLE.out; unfold maxLen; omega) (by have := HLE.out; omega) (by have := HN.out.hk.size; simp; omega) ?_); clear hi hz0 hz1 hz2; intro v2 w4 hown hg _ _; obtain ⟨gq, cq, rfl, _, _⟩ := World.ownsRow.form hown (by omega); have HN2 := Lib.hid (HN.out.grow (by rw [HE.out]; exact hown) hg); have hfz : Hid (Blk w4 fb 43 #[.slice A j cp, .slice (some ⟨gb, 0, none⟩) n n]) := HN.out.hf.keep (((Keep.refl _ wr).alloc _).trans (Keep.of_grown hg) (fun x hx => .inl hx)) (by simpa using HN.out.ne); have hfr := hfz.out.frozen 0; clear hown hg hl0 hl1; have hl0 : w4.cell? ⟨fb, 0, none⟩ = some (.slice A j cp) := hfz.out.cell 0)
      go_roundg (n - 5 - (j + 1))
      case measure => omega
      case rel => exact ⟨j + 1, _, by omega, rfl, by rw [← HE.out]; go_num, HN2.out⟩
    · obtain rfl : j = n - 5 := by omega
      have hz : ¬ ((6 + (n - 5) : Nat) : Int) ≤ (n : Int) := by omega
      generalize 6 + (n - 5) = e at hz ⊢
      have hfr := HN.out.hr.frozen 0
      have hfr1 := HN.out.hr.frozen 1
      have hr0 : wr.cell? ⟨rb, 0, none⟩ = some (.slice none 0 0) := HN.out.hr.cell 0
      have hr1 : wr.cell? ⟨rb, 1, none⟩ = some (.slice none 0 0) := HN.out.hr.cell 1
      go_wp2_with fail
      refine f_ret rfl (HN.out.hr.two _ _) rfl (by kernel_rfl) rfl ?_
      rw [← HP.out]
      have hk := HN.out.hk
      have hwf := HN.out.rbn
      refine ⟨(hk.set_ (p := ⟨rb, 0, none⟩) _ (.inr hwf)).set_ (p := ⟨rb, 1, none⟩) _ (.inr hwf), .slice A (n - 5) cp, .slice (some ⟨gb, 0, none⟩) n n, rfl, ?_, ?_⟩
      · exact ((RowI.of_own HN.out.own (by omega)).far HN.out.hr (by decide) 0 _).far (HN.out.hr.set_ 0 _) (by decide) 1 _
      · exact (HN.out.gen.far HN.out.hr (by decide) 0 _).far (HN.out.hr.set_ 0 _) (by decide) 1 _
end Go.Proofs.Ytlbhjahmgdghoaa
