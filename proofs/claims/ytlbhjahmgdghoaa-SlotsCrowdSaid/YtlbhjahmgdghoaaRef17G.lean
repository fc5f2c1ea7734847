/- The reference of layer 17: Give by its contract. Condition: the slot is one of the slots, its generation small. -/
import Derived.Test.YtlbhjahmgdghoaaRef17T
namespace Go.Proofs.Ytlbhjahmgdghoaa
open Go.RowKit

def GiveOut (w : World) (L G : List Nat) (r : Ending) (w' : World) : Prop :=
  Keep [] w w' ∧ ∃ vL vG, r = .returned (.agg #[vL, vG]) ∧ RowI w' (w.heap.size ≤ ·) 3 vL (ints L) ∧ RowI w' (w.heap.size ≤ ·) 22 vG (u64s G)
theorem ints_one (l : List Nat) : ∀ v, v ∈ ints l → v.oneCell' = true := by
  intro v hv
  simp only [ints, List.mem_map] at hv
  obtain ⟨x, _, rfl⟩ := hv
  rfl
set_option maxRecDepth 100000 in
set_option maxHeartbeats 1000000 in
theorem ref17_give (w : World) (ok : Nat → Prop) (vL vG : Value) (a : Nat) (L G : List Nat) (hL : RowI w ok 3 vL (ints L)) (hG : RowI w ok 22 vG (u64s G)) (h1 : 1 ≤ a) (h2 : a ≤ G.length) (h3 : G.length ≤ 300) (h4 : L.length ≤ 300) (h5 : G.getD (a - 1) 0 + 1 < 2 ^ 49) :
    Calls Try.prog 23 #[.agg #[vL, vG], .int .i64 (a : Nat)] w (GiveOut w (a :: L) (G.set (a - 1) (G.getD (a - 1) 0 + 1))) := by
  obtain ⟨b, o, cap, cs, rfl, hc, hb, hx, hok⟩ := hL
  obtain ⟨b2, o2, cap2, cs2, rfl, hc2, hb2, hx2, hok2⟩ := hG
  rw [ints_length] at hc ⊢
  rw [u64s_len] at hc2 ⊢
  have HX := Lib.hid hx
  have HX2 := Lib.hid hx2
  have HB := Lib.hid hb
  have HB2 := Lib.hid hb2
  generalize hG2 : G.set (a - 1) (G.getD (a - 1) 0 + 1) = G2
  have HG2 := Lib.hid hG2
  generalize hLa : a :: L = La
  have HLa := Lib.hid hLa
  generalize hgg : G.getD (a - 1) 0 = gg at h5
  have HGG := Lib.hid hgg
  have HH5 := Lib.hid h5
  clear hG2 hLa hgg
  have HGL : Hid (G.length ≤ 300) := h3
  have HLL : Hid (L.length ≤ 300) := h4
  clear hx hx2 hok hok2 hb hb2
  have HK1 := Lib.hid (((Keep.refl [] w).alloc (.cells #[.slice (some ⟨b, o, none⟩) L.length cap, .slice (some ⟨b2, o2, none⟩) G.length cap2] 43)).alloc (.cells #[.slice none 0 0, .slice none 0 0] 43))
  have HF := Lib.hid ((Blk.new w 43 #[.slice (some ⟨b, o, none⟩) L.length cap, .slice (some ⟨b2, o2, none⟩) G.length cap2]).alloc (.cells #[.slice none 0 0, .slice none 0 0] 43))
  have HR := Lib.hid (Blk.new (w.alloc (.cells #[.slice (some ⟨b, o, none⟩) L.length cap, .slice (some ⟨b2, o2, none⟩) G.length cap2] 43)) 43 #[.slice none 0 0, .slice none 0 0])
  have HS : Hid ((w.alloc (.cells #[.slice (some ⟨b, o, none⟩) L.length cap, .slice (some ⟨b2, o2, none⟩) G.length cap2] 43)).heap.size = w.heap.size + 1) := by simp [Hid]
  rw [HS.out] at HR
  go_enter Try.func23, Try.ntmps23
  go_upto_region 1 with fail
  generalize (w.alloc (.cells #[.slice (some ⟨b, o, none⟩) L.length cap, .slice (some ⟨b2, o2, none⟩) G.length cap2] 43)).alloc (.cells #[.slice none 0 0, .slice none 0 0] 43) = w1 at HK1 HF HR ⊢
  clear HS
  have hl0 : w1.cell? ⟨w.heap.size, 0, none⟩ = some (.slice (some ⟨b, o, none⟩) L.length cap) := HF.out.cell 0
  have hl1 : w1.cell? ⟨w.heap.size, 1, none⟩ = some (.slice (some ⟨b2, o2, none⟩) G.length cap2) := HF.out.cell 1
  have hl1 : (w1.alloc (.cells #[] 22)).cell? ⟨w.heap.size, 1, none⟩ = some (.slice (some ⟨b2, o2, none⟩) G.length cap2) := (HF.out.alloc _).cell 1
  go_upto_region 2 with (at_builtin; obtain ⟨i0, hi, hz0, hz1, hz2⟩ := info_parts info22; go_loud (refine wpList_append_own_at _ rfl (.tmp 6) (.tmp 8) 31 rfl w1.heap.size 22 i0 (.int .u64 0) 1 8 Try.underlying31 hi hz0 hz1 hz2 rfl (by decide) (.slice (some ⟨w1.heap.size, 0, none⟩) 0 0) 0 [] rfl (World.ownsRow_made w1 #[] 0 (Nat.le_refl _) (by unfold maxLen; omega) rfl) ⟨b2, o2, none⟩ G.length cap2 (u64s G) rfl (by rw [u64s_len]; omega) (RowI.news ((HB2.out.keep HK1.out (by simp)).alloc _) HX2.out) (u64s_one G) (by have := HGL.out; unfold maxLen; omega) (by have := HGL.out; omega) (by simp) ?_); clear hi hz0 hz1 hz2; intro v2 w2 hown hg _ _; rw [Nat.zero_add, List.nil_append] at hown; have HO2 := Lib.hid hown; have HKG := Lib.hid (((Keep.refl [] w1).alloc _).trans (Keep.of_grown hg) (fun x hx => by simp [Value.ownBlock] at hx; right; omega)); clear hg)
  obtain ⟨gq, cq, rfl, hgq, hcq, xt, hbq⟩ := own_u64s HO2.out (by omega)
  have HQ := Lib.hid hbq
  have HQN := Lib.hid hgq
  have HCQ := Lib.hid hcq
  have HFx := Lib.hid (HF.out.keep HKG.out (by simp))
  have HRx := Lib.hid (HR.out.keep HKG.out (by simp))
  have HKx := Lib.hid (HK1.out.trans HKG.out (by simp))
  have hs1 : w.heap.size + 2 ≤ w1.heap.size := by have := HR.out.lt; omega
  have HS1 := Lib.hid hs1
  clear hl0 hl1 hown HO2 HKG hbq hgq HF HR hs1
  obtain ⟨p, hap⟩ : ∃ p, a - 1 = p := ⟨a - 1, rfl⟩
  rw [hap] at HGG HG2
  have hl0 : w2.cell? ⟨w.heap.size, 0, none⟩ = some (.slice (some ⟨b, o, none⟩) L.length cap) := HFx.out.cell 0
  have hl1 : w2.cell? ⟨w.heap.size, 1, none⟩ = some (.slice (some ⟨b2, o2, none⟩) G.length cap2) := HFx.out.cell 1
  have hf1 := HFx.out.frozen 1
  have hfq := HQ.out.frozen p
  have hxq := word_at HQ.out p (by omega)
  rw [HGG.out] at hxq
  have hz : ((a : Nat) : Int) - 1 = (p : Int) := by omega
  have hz1 : ((p : Nat) : Int) < (G.length : Int) := by omega
  have hz2 : (0 : Int) ≤ (p : Int) := by omega
  have hz3 : ((p : Nat) : Int) ≤ 300 := by omega
  have hz4 : ((gg : Nat) : Int) ≤ 562949953421311 := by omega
  have hne : ¬ gq = w.heap.size := by have := HQN.out; have := HS1.out; omega
  have hne1 : ¬ w.heap.size = gq := fun e => hne e.symm
  go_upto_region 4 with fail
  have HQ3 : Hid (Blk ((w2.setCell ⟨gq, p, none⟩ (.int .u64 ((gg : Int) + 1))).setCell ⟨w.heap.size, 1, none⟩ (.slice (some ⟨gq, 0, none⟩) G.length cq)) gq 22 (u64s G2 ++ xt).toArray) := by
    have h := blk_word HQ.out p (gg + 1) (by omega)
    have hg2 := HG2.out
    rw [HGG.out] at hg2
    rw [hg2] at h
    exact h.far (p := ⟨w.heap.size, 1, none⟩) hne _
  have HF3 : Hid (Blk ((w2.setCell ⟨gq, p, none⟩ (.int .u64 ((gg : Int) + 1))).setCell ⟨w.heap.size, 1, none⟩ (.slice (some ⟨gq, 0, none⟩) G.length cq)) w.heap.size 43 #[.slice (some ⟨b, o, none⟩) L.length cap, .slice (some ⟨gq, 0, none⟩) G.length cq])  := (HFx.out.far (p := ⟨gq, p, none⟩) hne1 (.int .u64 ((gg : Int) + 1))).snd _
  have HR3 : Hid (Blk ((w2.setCell ⟨gq, p, none⟩ (.int .u64 ((gg : Int) + 1))).setCell ⟨w.heap.size, 1, none⟩ (.slice (some ⟨gq, 0, none⟩) G.length cq)) (w.heap.size + 1) 43 #[.slice none 0 0, .slice none 0 0]) :=
    (HRx.out.far (p := ⟨gq, p, none⟩) (by show ¬ w.heap.size + 1 = gq; have := HQN.out; have := HS1.out; omega) _).far (p := ⟨w.heap.size, 1, none⟩) (Nat.succ_ne_self _) _
  have HK3 := Lib.hid ((HKx.out.set_ (p := ⟨gq, p, none⟩) (.int .u64 ((gg : Int) + 1)) (.inr (by show w.heap.size ≤ gq; have := HQN.out; have := HS1.out; omega))).set_ (p := ⟨w.heap.size, 1, none⟩) (.slice (some ⟨gq, 0, none⟩) G.length cq) (.inr (Nat.le_refl _)))
  generalize (w2.setCell ⟨gq, p, none⟩ (.int .u64 ((gg : Int) + 1))).setCell ⟨w.heap.size, 1, none⟩ (.slice (some ⟨gq, 0, none⟩) G.length cq) = w3 at HQ3 HF3 HR3 HK3 ⊢
  have HQN2 : Hid (w.heap.size ≤ gq) := by have := HQN.out; have := HS1.out; show w.heap.size ≤ gq; omega
  clear hl0 hl1 hf1 hfq hxq hz hz1 hz2 hz3 hz4 hne hne1 HQ HQN HFx HRx HKx HS1 HK1
  have hl0 : (w3.alloc (.cells #[.int .i64 (a : Nat)] 3)).cell? ⟨w.heap.size, 0, none⟩ = some (.slice (some ⟨b, o, none⟩) L.length cap) := (HF3.out.alloc _).cell 0
  have hg2l : G2.length = G.length := by rw [← HG2.out]; simp
  have HGL2 := Lib.hid hg2l
  go_upto_region 5 with (at_builtin; obtain ⟨i0, hi, hz0, hz1, hz2⟩ := info_parts infoInt; go_loud (refine wpList_append_own_at _ rfl (.tmp 20) (.tmp 22) 40 rfl w3.heap.size 3 i0 (.int .i64 0) 1 8 Try.underlying40 hi hz0 hz1 hz2 rfl (by decide) (.slice (some ⟨w3.heap.size, 0, none⟩) 1 1) 1 [.int .i64 (a : Nat)] rfl ⟨rfl, .inr ⟨w3.heap.size, 1, #[.int .i64 (a : Nat)], rfl, Nat.le_refl _, heap_alloc_new _ _, Nat.le_refl _, by unfold maxLen; omega, rfl, rfl⟩⟩ ⟨b, o, none⟩ L.length cap (ints L) rfl (by rw [ints_length]; omega) (RowI.news ((HB.out.keep HK3.out (by simp)).alloc _) HX.out) (ints_one L) (by have := HLL.out; unfold maxLen; omega) (by have := HLL.out; omega) (by simp) ?_); clear hi hz0 hz1 hz2; intro v4 w4 hown hg _ _; obtain ⟨gr, cr, rfl, _, _⟩ := World.ownsRow.form hown (by omega); have HO4 := Lib.hid hown; have HKG := Lib.hid (((Keep.refl [] w3).alloc _).trans (Keep.of_grown hg) (fun x hx => by simp [Value.ownBlock] at hx; right; omega)); clear hg hown hl0; have hl0 : w4.cell? ⟨w.heap.size, 0, none⟩ = some (.slice (some ⟨b, o, none⟩) L.length cap) := (HF3.out.keep HKG.out (by simp)).cell 0; have hf0 := (HF3.out.keep HKG.out (by simp)).frozen 0)
  have HF4 : Hid (Blk (w4.setCell ⟨w.heap.size, 0, none⟩ (.slice (some ⟨gr, 0, none⟩) (1 + L.length) cr)) w.heap.size 43 #[.slice (some ⟨gr, 0, none⟩) (1 + L.length) cr, .slice (some ⟨gq, 0, none⟩) G.length cq]) := (HF3.out.keep HKG.out (by simp)).fst _
  have HR4 : Hid (Blk (w4.setCell ⟨w.heap.size, 0, none⟩ (.slice (some ⟨gr, 0, none⟩) (1 + L.length) cr)) (w.heap.size + 1) 43 #[.slice none 0 0, .slice none 0 0]) := (HR3.out.keep HKG.out (by simp)).far (p := ⟨w.heap.size, 0, none⟩) (Nat.succ_ne_self _) _
  have HK4 := Lib.hid ((HK3.out.trans HKG.out (by simp)).set_ (p := ⟨w.heap.size, 0, none⟩) (.slice (some ⟨gr, 0, none⟩) (1 + L.length) cr) (.inr (Nat.le_refl _)))
  have HV1 : Hid (RowI (w4.setCell ⟨w.heap.size, 0, none⟩ (.slice (some ⟨gr, 0, none⟩) (1 + L.length) cr)) (w.heap.size ≤ ·) 3 (.slice (some ⟨gr, 0, none⟩) (1 + L.length) cr) (ints La)) := by
    have e : ints La = [.int .i64 (a : Nat)] ++ ints L := by rw [← HLa.out]; rfl
    have h := (RowI.of_own HO4.out (by omega)).far (HF3.out.keep HKG.out (by simp)) (by decide) 0 (.slice (some ⟨gr, 0, none⟩) (1 + L.length) cr)
    rw [e]
    exact h.mono (fun b _ hb => Nat.le_trans HK3.out.size hb)
  have HV2 : Hid (RowI (w4.setCell ⟨w.heap.size, 0, none⟩ (.slice (some ⟨gr, 0, none⟩) (1 + L.length) cr)) (w.heap.size ≤ ·) 22 (.slice (some ⟨gq, 0, none⟩) G.length cq) (u64s G2)) := by
    have h := (HQ3.out.keep HKG.out (by simp)).far (p := ⟨w.heap.size, 0, none⟩) ((HQ3.out.keep HKG.out (by simp)).ne_ (HF3.out.keep HKG.out (by simp)) (by decide)) (.slice (some ⟨gr, 0, none⟩) (1 + L.length) cr)
    refine ⟨gq, 0, cq, _, by rw [u64s_len, HGL2.out], by rw [u64s_len, HGL2.out]; exact HCQ.out, h, fun k u hk => ?_, HQN2.out⟩
    have hk' : k < (u64s G2).length := (List.getElem?_eq_some_iff.1 hk).1
    simp only [Nat.zero_add, List.getElem?_toArray]
    rw [List.getElem?_append_left hk']
    exact hk
  generalize w4.setCell ⟨w.heap.size, 0, none⟩ (.slice (some ⟨gr, 0, none⟩) (1 + L.length) cr) = w5 at HF4 HR4 HK4 HV1 HV2 ⊢
  have hl0 : w5.cell? ⟨w.heap.size, 0, none⟩ = some (.slice (some ⟨gr, 0, none⟩) (1 + L.length) cr) := HF4.out.cell 0
  have hl1 : w5.cell? ⟨w.heap.size, 1, none⟩ = some (.slice (some ⟨gq, 0, none⟩) G.length cq) := HF4.out.cell 1
  have hf1 := HR4.out.frozen 0
  have hf2 := HR4.out.frozen 1
  have hR0 := HR4.out.cell 0
  have hR1 := HR4.out.cell 1
  have hne : ¬ w.heap.size = w.heap.size + 1 := by omega
  have hne2 : ¬ w.heap.size + 1 = w.heap.size := by omega
  go_wp2_with fail
  refine f_ret rfl (HR4.out.two _ _) rfl (by kernel_rfl) rfl ?_
  refine ⟨(HK4.out.set_ (p := ⟨w.heap.size + 1, 0, none⟩) _ (.inr (Nat.le_succ _))).set_ (p := ⟨w.heap.size + 1, 1, none⟩) _ (.inr (Nat.le_succ _)), _, _, rfl, ?_, ?_⟩
  · exact (HV1.out.far HR4.out (by decide) 0 _).far (HR4.out.set_ 0 _) (by decide) 1 _
  · exact (HV2.out.far HR4.out (by decide) 0 _).far (HR4.out.set_ 0 _) (by decide) 1 _
end Go.Proofs.Ytlbhjahmgdghoaa
