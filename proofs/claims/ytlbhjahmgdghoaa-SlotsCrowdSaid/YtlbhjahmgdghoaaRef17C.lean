/- The reference of layer 17: Chain by its contract. Conditions: the configuration may be; the words are known, as many as the plan has, each of 64 bits. -/
import Derived.Test.YtlbhjahmgdghoaaW0
namespace Go.Proofs.Ytlbhjahmgdghoaa
open Go.RowKit

def ints (l : List Nat) : List Value := l.map fun n : Nat => .int .i64 (n : Int)
def linkAt (c : ConfS) (ws : List Nat) (s : Nat) : Nat := ws.getD (ixN c s 0) 0
def chainGo (c : ConfS) (ws : List Nat) : Nat → Nat → List Nat → List Nat × Bool
  | 0, _, l => (l, false)
  | f + 1, s, l => if s = 0 then (l, true) else if c.slots.toNat < s ∨ c.slots.toNat < l.length then (l, false) else if 4095 < linkAt c ws s then (l ++ [s], false) else chainGo c ws f (linkAt c ws s) (l ++ [s])
def chainOf (c : ConfS) (ws : List Nat) : List Nat × Bool := chainGo c ws (c.slots.toNat + 2) (ws.getD 2 0 % 4096) []
structure IRow (w0 wr : World) (v : Value) (l : List Nat) : Prop where
  hk : Keep [] w0 wr
  own : wr.ownsRow w0.heap.size 3 1 v l.length (ints l)
theorem infoInt : (Try.prog.info? 3).map (fun i => (i.zero, i.size, i.bytes)) = some (some (.int .i64 0), 1, 8) := by kernel_rfl
theorem IRow.grow {w0 wr w2 : World} {v v' : Value} {l : List Nat} {s : Nat} {o : Obj} (h : IRow w0 wr v l) (hown : w2.ownsRow w0.heap.size 3 1 v' (l.length + 1) (ints l ++ [.int .i64 (s : Nat)])) (hg : (wr.alloc o).grownBy w2 v.ownBlock) : IRow w0 w2 v' (l ++ [s]) :=
  ⟨(h.hk.alloc o).trans (Keep.of_grown hg) (fun x hx => .inr (h.own.lt x (by simpa using hx)).1), by
    have e : (l ++ [s]).length = l.length + 1 := by simp
    have e2 : ints (l ++ [s]) = ints l ++ [.int .i64 (s : Nat)] := by simp [ints]
    rw [e, e2]
    exact hown⟩
theorem IRow.form {w0 wr : World} {v : Value} {l : List Nat} (h : IRow w0 wr v l) : ∃ A cp, v = .slice A l.length cp := by
  obtain ⟨hl, ⟨h1, h2⟩ | ⟨g, cap, cur, hv, _⟩⟩ := h.own
  · have hl0 : l.length = 0 := h2
    exact ⟨none, 0, by rw [h1, hl0]⟩
  · exact ⟨_, _, hv⟩
def ChainOut (g : List Nat × Bool) (w : World) (r : Ending) (w' : World) : Prop := Keep [] w w' ∧ ∃ v, r = .returned (.tuple #[v, .bool g.2]) ∧ w'.ownsRow w.heap.size 3 1 v g.1.length (ints g.1)
theorem chain_base {w w2 wr : World} {v : Value} {n : Nat} {xs : List Value} (h : wr.ownsRow w2.heap.size 3 1 v n xs) (hs : w.heap.size ≤ w2.heap.size) : wr.ownsRow w.heap.size 3 1 v n xs := by
  obtain ⟨hl, h1 | ⟨g, cap, cur, hv, hb, hr⟩⟩ := h
  · exact ⟨hl, .inl h1⟩
  · exact ⟨hl, .inr ⟨g, cap, cur, hv, Nat.le_trans hs hb, hr⟩⟩
theorem ref16_at0 (c : ConfS) (sl : Nat) (w : World) (ho : c.Ok) (h0 : 1 ≤ sl) (h1 : (sl : Int) ≤ c.slots) : Calls Try.prog 85 #[.agg c.cells, .int .i64 (sl : Nat), .int .i64 0] w fun r w' => r = .returned (.int .i64 (ixN c sl 0 : Nat)) ∧ Keep [] w w' := ref16_at c sl 0 w ho h0 h1 (by omega)

set_option maxRecDepth 100000 in
set_option maxHeartbeats 1000000 in
theorem ref17_chain (c : ConfS) (w : World) (ho : c.Ok) (ws : List Nat) (g cap : Nat) (xt : List Value) (hb : Blk w g 22 (u64s ws ++ xt).toArray) (hl : ws.length = wordsN c) (hsm : Small ws) :
    Calls Try.prog 54 #[.agg c.cells, .slice (some ⟨g, 0, none⟩) (wordsN c) cap] w (ChainOut (chainOf c ws) w) := by
  have HB := Lib.hid (Blk.new w 24 c.cells)
  have HW := Lib.hid (hb.alloc (.cells c.cells 24))
  have HK0 := Lib.hid ((Keep.refl [] w).alloc (.cells c.cells 24))
  have HO := Lib.hid ho
  have HL := Lib.hid hl
  have HSM := Lib.hid hsm
  have hge := wordsN_ge ho
  have hle := wordsN_le ho
  have KW := Lib.hid (fun w => ref05_words c w ho)
  have hcs : c.cells = #[.int .i64 c.thr, .int .i64 c.slots, .int .u64 c.stamps] := rfl
  generalize hgen : chainOf c ws = gg
  have HG := Lib.hid hgen
  clear hgen hsm hl hb ho
  rw [hcs] at HB HW HK0 KW ⊢
  go_enter Try.func54, Try.ntmps54
  go_upto_region 1 with fail
  generalize hcb : w.heap.size = cb at HB ⊢
  generalize w.alloc (.cells #[.int .i64 c.thr, .int .i64 c.slots, .int .u64 c.stamps] 24) = w1 at HB HW HK0 ⊢
  clear hcs hcb
  have hl0 : w1.cell? ⟨cb, 0, none⟩ = some (.int .i64 c.thr) := HB.out.cell 0
  have hl1 : w1.cell? ⟨cb, 1, none⟩ = some (.int .i64 c.slots) := HB.out.cell 1
  have hl2 : w1.cell? ⟨cb, 2, none⟩ = some (.int .u64 c.stamps) := HB.out.cell 2
  go_wp2_with fail
  refine (KW.out _).mono ?_
  rintro r w2 ⟨hk2, v, xs, rfl, hown⟩
  obtain ⟨gv, cv, rfl, _, _⟩ := World.ownsRow.form hown (by omega)
  have HK2 := Lib.hid hk2
  have HW2 := Lib.hid (HW.out.keep hk2 (by simp))
  have HB2 := Lib.hid (HB.out.keep hk2 (by simp))
  have hx2 := word_at HW2.out 2 (by rw [HL.out]; omega)
  have hz2 : (2 : Int) < (wordsN c : Int) := by omega
  clear hk2 hown hl0 hl1 hl2
  go_wp2_with fail
  go_loopg [6, 7] (c.slots.toNat + 2) (fun gk v q wr => ∃ (l : List Nat) (s : Nat), q = .int .i64 (s : Nat) ∧ s ≤ 4095 ∧ gk + l.length = c.slots.toNat + 2 ∧ 1 ≤ gk ∧ IRow w2 wr v l ∧ chainGo c ws gk s l = gg)
  case atStart =>
    refine ⟨[], ws.getD 2 0 % 4096, ?_, by omega, rfl, by omega, ⟨Keep.refl _ _, World.ownsRow_nil _ _ _ _⟩, HG.out⟩
    simp [List.getD_eq_getElem?_getD]
  case round =>
    obtain ⟨l, s, rfl, hs, hgk, hg1, hir, hch⟩ := hrel
    have HR := Lib.hid hir
    obtain ⟨f, rfl⟩ : ∃ f, gk = f + 1 := ⟨gk - 1, by omega⟩
    unfold chainGo at hch
    have HCH := Lib.hid hch
    have hc1 := HO.out.s1
    have hc2 := HO.out.s2
    have hl0 : wr.cell? ⟨cb, 0, none⟩ = some (.int .i64 c.thr) := (HB2.out.keep HR.out.hk (by simp)).cell 0
    have hl1 : wr.cell? ⟨cb, 1, none⟩ = some (.int .i64 c.slots) := (HB2.out.keep HR.out.hk (by simp)).cell 1
    have hl2 : wr.cell? ⟨cb, 2, none⟩ = some (.int .u64 c.stamps) := (HB2.out.keep HR.out.hk (by simp)).cell 2
    obtain ⟨A, cp, rfl⟩ := hir.form
    clear hir hch hx2
    by_cases h0 : s = 0
    · subst h0
      have hV : Hid ((l, true) = gg) := by rw [← HCH.out, if_pos rfl]; rfl
      go_wp2_with fail
      go_ret2
      refine ⟨(HK0.out.trans HK2.out (by simp)).trans HR.out.hk (by simp), .slice A l.length cp, ?_, ?_⟩
      · rw [← hV.out]; rfl
      · rw [← hV.out]; exact chain_base HR.out.own (HK0.out.trans HK2.out (by simp)).size
    have hs0 : ¬ (((s : Nat) : Int) = 0) := by omega
    have hb0 : (((s : Nat) : Int) != 0) = true := by simpa using hs0
    by_cases h1 : c.slots.toNat < s ∨ c.slots.toNat < l.length
    · have hV : Hid ((l, false) = gg) := by rw [← HCH.out, if_neg h0, if_pos h1]; rfl
      have hfin : ∀ (x : World), Hid (ChainOut gg w (.returned (.tuple #[.slice A l.length cp, .bool false])) wr) := fun _ => by
        refine ⟨(HK0.out.trans HK2.out (by simp)).trans HR.out.hk (by simp), .slice A l.length cp, ?_, ?_⟩
        · rw [← hV.out]
        · rw [← hV.out]; exact chain_base HR.out.own (HK0.out.trans HK2.out (by simp)).size
      have HF := hfin w
      clear hfin
      by_cases h2 : c.slots < ((s : Nat) : Int)
      · clear h1
        go_wp2_with fail
        go_ret2
        exact HF.out
      · have h3 : c.slots < ((l.length : Nat) : Int) := by omega
        clear h1
        go_wp2_with fail
        go_ret2
        exact HF.out
    have h2 : ¬ c.slots < ((s : Nat) : Int) := by omega
    have h3 : ¬ c.slots < ((l.length : Nat) : Int) := by omega
    have HLE : Hid (l.length ≤ 250) := by show l.length ≤ 250; omega
    have hix := ixN_lt HO.out (s := s) (by omega) (by omega) (f := 0) (by omega)
    have hixz : ((ixN c s 0 : Nat) : Int) < (wordsN c : Int) := by omega
    have hixn : (0 : Int) ≤ ((ixN c s 0 : Nat) : Int) := by omega
    have KA := Lib.hid (fun w => ref16_at0 c s w HO.out (by omega) (by omega))
    rw [show c.cells = #[.int .i64 c.thr, .int .i64 c.slots, .int .u64 c.stamps] from rfl] at KA
    have HCH2 : Hid ((if 4095 < linkAt c ws s then (l ++ [s], false) else chainGo c ws f (linkAt c ws s) (l ++ [s])) = gg) := by
      rw [← HCH.out, if_neg h0, if_neg h1]; rfl
    have HSZ := Lib.hid (And.intro hgk hg1)
    clear h1 HCH hix
    go_wp2_with (at_builtin; obtain ⟨i0, hi, hz0, hz1, hz2⟩ := info_parts infoInt; go_loud (refine wpList_append_own_at _ rfl (.tmp 35) (.tmp 37) 40 rfl w2.heap.size 3 i0 (.int .i64 0) 1 8 Try.underlying40 hi hz0 hz1 hz2 rfl (by decide) _ _ _ rfl (own_keep HR.out.own ((Keep.refl [] _).alloc _) (by simp)) ⟨_, 0, none⟩ 1 1 [.int .i64 (s : Nat)] rfl rfl (World.news_of_block (heap_alloc_new _ _)) (by simp [Value.oneCell']) (by have := HLE.out; unfold maxLen; omega) (by have := HLE.out; omega) (by have := HR.out.hk.size; simp; omega) ?_); clear hi hz0 hz1 hz2; intro v2 w3 hown hg _ _; have HR2 := Lib.hid (HR.out.grow hown hg); obtain ⟨gq, cq, rfl, _, _⟩ := World.ownsRow.form hown (by omega); clear hown hg hl0 hl1 hl2; have hl0 : w3.cell? ⟨cb, 0, none⟩ = some (.int .i64 c.thr) := (HB2.out.keep HR2.out.hk (by simp)).cell 0; have hl1 : w3.cell? ⟨cb, 1, none⟩ = some (.int .i64 c.slots) := (HB2.out.keep HR2.out.hk (by simp)).cell 1; have hl2 : w3.cell? ⟨cb, 2, none⟩ = some (.int .u64 c.stamps) := (HB2.out.keep HR2.out.hk (by simp)).cell 2)
    refine (KA.out _).mono ?_
    rintro r w4 ⟨rfl, hk4⟩
    have HR4 : Hid (IRow w2 w4 (.slice (some ⟨gq, 0, none⟩) (l.length + 1) cq) (l ++ [s])) := ⟨HR2.out.hk.trans hk4 (by simp), own_keep HR2.out.own hk4 (by simp)⟩
    have hxw := word_at (HW2.out.keep HR4.out.hk (by simp)) (ixN c s 0) (by rw [HL.out]; omega)
    rw [show ws.getD (ixN c s 0) 0 = linkAt c ws s from rfl] at hxw
    have hlk : linkAt c ws s < 2 ^ 64 := small_get HSM.out _
    have HLK := Lib.hid hlk
    clear hk4 hl0 hl1 hl2 KA hlk
    by_cases h5 : 4095 < linkAt c ws s
    · have hV : Hid ((l ++ [s], false) = gg) := by rw [← HCH2.out, if_pos h5]; rfl
      have hz5 : (4095 : Int) < ((linkAt c ws s : Nat) : Int) := by omega
      go_wp2_with fail
      go_ret2
      refine ⟨(HK0.out.trans HK2.out (by simp)).trans HR4.out.hk (by simp), .slice (some ⟨gq, 0, none⟩) (l.length + 1) cq, ?_, ?_⟩
      · rw [← hV.out]; rfl
      · rw [← hV.out]; exact chain_base HR4.out.own (HK0.out.trans HK2.out (by simp)).size
    · have hz5 : ¬ (4095 : Int) < ((linkAt c ws s : Nat) : Int) := by omega
      have hV : Hid (chainGo c ws f (linkAt c ws s) (l ++ [s]) = gg) := by rw [← HCH2.out, if_neg h5]; rfl
      go_wp2_with fail
      go_roundg f
      case measure => omega
      case rel =>
        refine ⟨l ++ [s], linkAt c ws s, rfl, by omega, ?_, ?_, HR4.out, hV.out⟩
        · have := HSZ.out
          simp
          omega
        · have := HSZ.out
          omega
end Go.Proofs.Ytlbhjahmgdghoaa
