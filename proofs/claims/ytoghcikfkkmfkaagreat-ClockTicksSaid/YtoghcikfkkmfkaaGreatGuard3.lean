/- Package guard: Drop and New by their contracts. Conditions: as in the texts ahead. -/
import Derived.Test.YtoghcikfkkmfkaaGreatGuard2
import Derived.StillTailTactics
namespace Go.Proofs.YtoghcikfkkmfkaaGreat
open Go.RowKit Go.Maps

/-- A number that counts on, as a word. -/
def inc64 (n : Nat) : Nat := (n + 1) % 2 ^ 64
def Small (l : List Nat) : Prop := ∀ g, g ∈ l → g < 2 ^ 64
def GuardS.dropS (s : GuardS) (e : Nat) : GuardS :=
  if s.leads e then { s with held := s.held.erase (slotE e), gens := s.gens.set (slotE e) (inc64 (s.gens.getD (slotE e) 0)) } else { s with slips := s.slips + 1 }
theorem Keep.of_turned {w w' : World} {b : Nat} (h : w.mapTurned w' b) : Keep [b] w w' := Keep.of_grown h.grown

/-- delete, as one step of a region that draws. -/
theorem step_delete {P : Program} {ops : Array Oper} {o : Oper} {a : Act} {w w' : World} {K : Act → World → Prop} {Q : Exit → Act → World → Prop} {E : Prop}
    (hg : o.guard = none) (m x : Operand) (t k : TypeId) (hop : o.op = Op.call { callee := Callee.builtin Builtin.delete, args := #[m, x], argTypes := #[t, k] })
    (b : Nat) (key : Value) (hm : a.eval m = .map (some b)) (hx : a.eval x = key) (hrun : (Builtin.delete_ #[t, k] o.type #[.map (some b), key]).run P w = .ok (.tuple #[]) w')
    (hK : K (a.put o.dst (.tuple #[])) w') :
    if Region.wanted o (yielded ops a.tmps) = true then Oper.wp P o a w K Q else E := by
  have hw : Region.wanted o (yielded ops a.tmps) = true := by simp [Region.wanted, hg]
  rw [if_pos hw]
  unfold Oper.wp
  simp [execOp, hop, resolve, invoke, builtin, hm, hx, hrun, Result.andThen]
  exact hK

set_option maxRecDepth 100000 in
set_option maxHeartbeats 1000000 in
theorem guard_drop (w : World) (i : GuardI) (s : GuardS) (e : Nat) (h : GuardAt w i s) (he : e < 2 ^ 64) (hsl : s.slips ≤ 4611686018427387904) (hgn : Small s.gens) :
    Calls Tryz.prog 151 #[.pointer (some ⟨i.gb, 0, none⟩), .int .u64 e] w fun r w' => r = .returned (.bool (s.leads e)) ∧ GuardAt w' i (s.dropS e) ∧ Keep [i.gb, i.hb, i.gsb] w w' := by
  have HL := guard_leads w i s e h he
  have hsl0 := h.slips0
  by_cases hl : s.leads e = true
  · have e1 : s.dropS e = { s with held := s.held.erase (slotE e), gens := s.gens.set (slotE e) (inc64 (s.gens.getD (slotE e) 0)) } := by unfold GuardS.dropS; rw [if_pos hl]
    have hin : slotE e ∈ s.held := by
      simp only [GuardS.leads, Bool.and_eq_true, decide_eq_true_eq] at hl
      exact hl.1
    rw [hl]
    have HE := Lib.hid e1
    rw [hl] at HL
    have HL' := Lib.hid HL
    clear HL
    have HS : ∀ w, Hid (Calls Tryz.prog 61 #[.int .u64 e] w fun r w' => r = .returned (.int .i64 (slotE e : Nat)) ∧ w = w') := fun w => edge_slot e w he
    have hsub := h.sub _ hin
    have hb : ((slotE e : Nat) : Int) ≤ 4095 := by have := slotE_lt e; omega
    have H := Lib.hid h
    have HI := Lib.hid hin
    have HGN := Lib.hid hgn
    clear e1 hl h hin hgn he
    go_enter Tryz.func151, Tryz.ntmps151
    go_wp2_with fail
    refine HL'.out.mono ?_
    rintro r w1 ⟨rfl, hw1⟩
    have h1 : GuardAt w1 i s := H.out.drawn hw1
    have HW1 := Lib.hid hw1
    have H1 := Lib.hid h1.drew
    have hc := h1.hg.cell
    have h1g := Lib.hid h1.hg
    have h1s := Lib.hid h1.hs
    clear hw1 h1
    obtain ⟨⟨D, hD⟩, hnd⟩ := H1.out.hh
    have HD := Lib.hid hD
    have HN := Lib.hid hnd
    have hc1 : w1.drew.cell? ⟨i.gb, 1, none⟩ = some (.map (some i.hb)) := by simpa using H1.out.hg.cell 1
    clear hD hnd
    go_wp2_with fail
    refine wp_region_still_tail 6 (by kernel_rfl) (by kernel_rfl) ?_
    simp only [List.take_succ_cons, List.take_zero, List.drop_succ_cons, List.drop_zero]
    iterate 5 still_step
    still_call ((HS _).out.mono (fun _ _ h => ⟨h.1, h.2.symm⟩))
    refine wpStill_nil ?_
    change wpList _ _ _ _ _ w1.drew
    go_wp2_with ((at_delete; refine wpList_delete_own _ rfl _ _ 120 3 rfl 22 keyed Tryz.underlying120 _ i.hb s.held.length D rfl HD.out.1 _ (kl (slotE e : Nat)) rfl (kl_key _ (by omega) (by omega)) ?_; intro w2 hown2 hturn; have HO := Lib.hid hown2; have HT := Lib.hid hturn; clear hown2 hturn; clear hc1 hc))
    have hk2 : Keep [i.hb] w1 w2 := (Keep.refl _ _).drew.trans (Keep.of_turned HT.out) (fun x hx => .inl hx)
    have H2 : Hid (HeldAt w2 i.hb (s.held.erase (slotE e))) := HD.out.del HN.out HI.out HO.out
    have hg2 := h1g.out.keep hk2 (by simpa using H1.out.ne2.symm)
    have hs2 := h1s.out.keep hk2 (by simpa using H1.out.ne3.symm)
    have hc0 : w2.cell? ⟨i.gb, 0, none⟩ = some (.slice (some ⟨i.gsb, 0, none⟩) s.gens.length i.cap) := by simpa using hg2.cell 0
    have hgc : w2.cell? ⟨i.gsb, slotE e, none⟩ = some (.int .u64 (s.gens[slotE e]'hsub.2)) := by
      rw [hs2.cell]
      simp [u64s, List.getElem?_append_left, hsub.2]
    have hgf := hs2.frozen (slotE e)
    have hne := H1.out.ne1
    have hne' := hne.symm
    have hlt1 := hsub.2
    have h0 : (0 : Int) ≤ (slotE e : Nat) := by omega
    have hlt2 : ((slotE e : Nat) : Int) < (s.gens.length : Int) := by omega
    have HK2 := Lib.hid hk2
    have HG2 := Lib.hid hg2
    have HS2 := Lib.hid hs2
    clear hk2 hg2 hs2 HT HO HD HN
    go_wp2_with fail
    refine wp_region_still_tail 10 (by kernel_rfl) (by kernel_rfl) ?_
    simp only [List.take_succ_cons, List.take_zero, List.drop_succ_cons, List.drop_zero]
    iterate 5 still_step
    still_call ((HS _).out.mono (fun _ _ h => ⟨h.1, h.2.symm⟩))
    iterate 4 still_step
    refine wpStill_nil ?_
    change wpList _ _ _ _ _ w2.drew
    go_wp2
    go_ret
    have e2 : IntKind.u64.wrap (((s.gens[slotE e]'hsub.2 : Nat) : Int) + 1) = ((inc64 (s.gens.getD (slotE e) 0) : Nat) : Int) := by
      have e3 : s.gens.getD (slotE e) 0 = s.gens[slotE e]'hsub.2 := by simp [hsub.2]
      rw [e3]
      exact wrap_u64 ((s.gens[slotE e]'hsub.2) + 1)
    refine ⟨rfl, ?_, ?_⟩
    · rw [HE.out]
      have hset := HS2.out.set_ (slotE e) (.int .u64 (inc64 (s.gens.getD (slotE e) 0) : Nat))
      refine ⟨?_, ?_, ?_, ?_, ?_, hsl0⟩
      · simpa using (HG2.out.far (p := ⟨i.gsb, slotE e, none⟩) hne _).drew
      · rw [e2]
        simpa [u64s, List.set_append, hsub.2, List.map_set] using hset.drew
      · exact (H2.out.set_ (p := ⟨i.gsb, slotE e, none⟩) H1.out.ne3 _).drew
      · simpa using H1.out.len
      · intro k hk
        have := H1.out.sub k (List.mem_of_mem_erase hk)
        simpa using this
    · exact ((((Keep.of_drawn HW1.out).trans HK2.out (fun x hx => .inl (by simp at hx; simp [hx]))).set_ _ (.inl (by simp)))).drew
  · have e1 : s.dropS e = { s with slips := s.slips + 1 } := by unfold GuardS.dropS; rw [if_neg hl]
    have hl : s.leads e = false := by simpa using hl
    rw [hl, e1]
    rw [hl] at HL
    have HL' := Lib.hid HL
    have H := Lib.hid h
    clear HL h he hgn e1
    go_enter Tryz.func151, Tryz.ntmps151
    go_wp2_with fail
    refine HL'.out.mono ?_
    rintro r w1 ⟨rfl, hw1⟩
    have h1 : GuardAt w1 i s := H.out.drawn hw1
    have hc := h1.hg.cell
    have hf := h1.hg.frozen
    have hk1 : Keep [i.gb, i.hb, i.gsb] w w1 := Keep.of_drawn hw1
    have HK1 := Lib.hid hk1
    have H1 := Lib.hid h1
    clear h1 hk1 hw1
    go_wp2
    go_ret
    exact ⟨rfl, H1.out.slip, HK1.out.set_ _ (.inl (by simp))⟩

theorem info22' : (Tryz.prog.info? 22).map (fun i => (i.zero, i.size, i.bytes)) = some (some (.int .u64 0), 1, 8) := by kernel_rfl
set_option maxRecDepth 100000 in
theorem guard_new (w : World) (n : Nat) (h1 : 1 ≤ n) (h2 : n ≤ 250) :
    Calls Tryz.prog 49 #[.int .i64 n] w fun r w' => ∃ i : GuardI, r = .returned (.pointer (some ⟨i.gb, 0, none⟩)) ∧ GuardAt w' i ⟨List.replicate (n + 1) 0, [], 0⟩ ∧ w.heap.size ≤ i.gb ∧ w.heap.size ≤ i.gsb ∧ w.heap.size ≤ i.hb ∧ Keep [] w w' := by
  have d1 : decide ((n : Int) < 1) = false := by simp; omega
  have d2 : decide ((250 : Int) < (n : Int)) = false := by simp; omega
  have hn : (n : Int) ≤ 250 := by omega
  have hmm := @run_makeMap Tryz.prog
  go_enter Tryz.func49, Tryz.ntmps49
  go_wp2_with (at_make; obtain ⟨i0, hi, hz0, hz1, hz2⟩ := info_parts info22'; refine wpList_make_full _ rfl _ _ 43 rfl w.heap.size 22 i0 (.int .u64 0) 1 Tryz.underlying43 hi hz0 hz1 .i64 .i64 (n + 1) (n + 1) (n + 1) rfl rfl (by omega) (by omega) (by rw [hz2]; omega) (by unfold maxLen; omega) (Nat.le_refl _) ?_; clear hi hz0 hz1 hz2; intro w1 hown hg; have HW := Lib.hid hown; have HG := Lib.hid hg; clear hown hg)
  go_ret
  obtain ⟨_, h1 | ⟨g, c, cur, hv, _, hh, _, _, hcs, htk⟩⟩ := HW.out
  · omega
  · injection hv with hg _ hc
    injection hg with hg
    have hg : g = w.heap.size := (congrArg Addr.block hg).symm
    subst hc
    rw [hg] at hh
    have hcur : cur = (u64s (List.replicate (n + 1) 0) ++ []).toArray := by
      have e : (madeCells (Value.int IntKind.u64 0).cells ((n + 1) * 1)).toList = List.replicate (n + 1) (.int .u64 0) := by
        rw [Nat.mul_one]
        exact toList_madeCells_one _ _
      rw [e, List.take_of_length_le (by rw [Array.length_toList, hcs]; exact Nat.le_refl _)] at htk
      simp [u64s, ← htk]
    have hk : Keep [] w w1 := Keep.of_grown HG.out
    have hb : Blk w1 w.heap.size 22 (u64s (List.replicate (n + 1) 0) ++ []).toArray := by rw [← hcur]; exact hh
    have hlt := hb.lt
    refine ⟨⟨w1.heap.size + 1, w.heap.size, w1.heap.size, n + 1, []⟩, rfl, ⟨?_, ?_, ?_, by simp; omega, fun k hk => by simp at hk, by simp⟩, ?_, ?_, ?_, ?_⟩
    · have := Blk.new (w1.alloc (.map #[] 0)) 122 #[.slice (some ⟨w.heap.size, 0, none⟩) (n + 1) (n + 1), .map (some w1.heap.size), .int .i64 0]
      simpa using this
    · exact (hb.alloc _).alloc _
    · exact (HeldAt.nil w1).alloc _
    · have := hk.size; simp; omega
    · exact Nat.le_refl _
    · exact hk.size
    · exact (hk.alloc _).alloc _
end Go.Proofs.YtoghcikfkkmfkaaGreat
