/- SlotsNone's walk. No condition. -/
import Derived.Test.YtlbhjahmgdghoaaLives17
namespace Go.Proofs.Ytlbhjahmgdghoaa
open Go.RowKit

theorem frame_call_nil (w : World) (fn : Int) (v : Value) : Calls Try.prog 15 #[.pointer none, .int .i64 fn, v] w fun r w' => r = .returned (.tuple #[]) ∧ w = w' := by
  go_enter Try.func15, Try.ntmps15
  go_wp2
  refine bodyPost_ret (results_none rfl _ _ _) rfl ?_
  exact ⟨rfl, rfl⟩
theorem top_nil (w : World) : Calls Try.prog 27 #[.pointer none] w fun r w' => r = .returned (.pointer none) ∧ w = w' := frame_top_nil w
theorem thread_nil (w : World) (t : Int) : Calls Try.prog 14 #[.pointer none, .int .i64 t] w fun r w' => r = .returned (.pointer none) ∧ w = w' := core_thread_nil w t
theorem slots_do_nil (w : World) (t : Int) : Calls Try.prog 9 #[.pointer none, .int .i64 t] w fun r w' => r = .returned (.tuple #[]) ∧ w = w' := by
  go_enter Try.func9, Try.ntmps9
  go_wp2_with fail
  refine (thread_nil _ t).mono ?_
  rintro r x ⟨rfl, rfl⟩
  go_wp2_with fail
  refine (top_nil _).mono ?_
  rintro r x ⟨rfl, rfl⟩
  go_wp2_with fail
  refine bodyPost_ret (results_none rfl _ _ _) rfl ?_
  exact ⟨rfl, rfl⟩
theorem slots_do_no {w : World} {i : MI} {s : MS} (h : MachAt w i s) (t : Int) (ht : t < 0 ∨ (s.ths.length : Int) ≤ t) : Calls Try.prog 9 #[.pointer (some ⟨i.m, 0, none⟩), .int .i64 t] w fun r w' => r = .returned (.tuple #[]) ∧ w = w' := by
  have HT := Lib.hid (m_thread_no h t ht)
  clear h ht
  go_enter Try.func9, Try.ntmps9
  go_wp2_with fail
  refine HT.out.mono ?_
  rintro r x ⟨rfl, rfl⟩
  go_wp2_with fail
  refine (top_nil _).mono ?_
  rintro r x ⟨rfl, rfl⟩
  go_wp2_with fail
  refine bodyPost_ret (results_none rfl _ _ _) rfl ?_
  exact ⟨rfl, rfl⟩
theorem slots_do_idle {w : World} {i : MI} {s : MS} (h : MachAt w i s) {k : Nat} {t : ThS} (h2 : s.ths[k]? = some t) (hp : t.frs = []) : Calls Try.prog 9 #[.pointer (some ⟨i.m, 0, none⟩), .int .i64 (k : Nat)] w fun r w' => r = .returned (.tuple #[]) ∧ w = w' := by
  obtain ⟨ti, h1⟩ := h.thAt h2
  have HT := Lib.hid (m_thread h k ti h1)
  have HT2 := Lib.hid (t_top_none h h1 h2 hp)
  clear h h1 h2 hp
  go_enter Try.func9, Try.ntmps9
  go_wp2_with fail
  refine HT.out.mono ?_
  rintro r x ⟨rfl, rfl⟩
  go_wp2_with fail
  refine HT2.out.mono ?_
  rintro r x ⟨rfl, rfl⟩
  go_wp2_with fail
  refine bodyPost_ret (results_none rfl _ _ _) rfl ?_
  exact ⟨rfl, rfl⟩
theorem m_mem {w : World} {i : MI} {s : MS} (h : MachAt w i s) : Calls Try.prog 12 #[.pointer (some ⟨i.m, 0, none⟩)] w fun r w' => r = .returned (.pointer (some ⟨i.mi.mb, 0, none⟩)) ∧ w = w' := core_mem w i.m _ _ _ _ _ _ h.mach
theorem m_words {w : World} {i : MI} {s : MS} (h : MachAt w i s) (h1 : 1 ≤ s.mem.ws.length) : Calls Try.prog 13 #[.pointer (some ⟨i.mi.mb, 0, none⟩)] w fun r w' => ∃ g c xt, r = .returned (.slice (some ⟨g, 0, none⟩) s.mem.ws.length c) ∧ Blk w' g 22 (u64s s.mem.ws ++ xt).toArray ∧ w.heap.size ≤ g ∧ Keep [] w w' := by
  refine (mem_words w i.mi s.mem h.hMem h1).mono ?_
  rintro r x ⟨v, rfl, ⟨g, c, xt, rfl, hb, _, hg⟩, hk⟩
  exact ⟨g, c, xt, rfl, hb, hg, hk⟩
theorem m_fault {w : World} {i : MI} {s : MS} (h : MachAt w i s) : Calls Try.prog 17 #[.pointer (some ⟨i.m, 0, none⟩)] w fun r w' => r = .returned (.bool (s.fault || s.mem.fault || decide (0 < s.gd.slips))) ∧ w = w' := core_fault w i.m _ _ _ _ i.mi s.mem i.gi s.gd h.mach h.hMem h.hG
def TrueOut (w : World) (r : Ending) (w' : World) : Prop := r = .returned (.bool true) ∧ Keep [] w w'
set_option maxRecDepth 100000 in
theorem none_no (c : ConfS) (t fn : Int) (w : World) (h : ¬ c.Ok) : Calls Try.prog 3 #[.agg c.cells, .int .i64 t, .int .i64 fn] w (TrueOut w) := by
  have HN := Lib.hid (fun w => core_new_no c w h)
  have HK := Lib.hid ((Keep.refl [] w).alloc (.cells c.cells 24))
  have hcs : c.cells = #[.int .i64 c.thr, .int .i64 c.slots, .int .u64 c.stamps] := rfl
  rw [hcs] at HN HK ⊢
  clear hcs h
  go_enter Try.func3, Try.ntmps3
  go_wp2_with fail
  refine (slots_do_nil _ t).mono ?_
  rintro r x ⟨rfl, rfl⟩
  go_wp2_with fail
  refine (HN.out _).mono ?_
  rintro r x ⟨rfl, hk⟩
  have HK2 := Lib.hid (HK.out.trans hk (by simp))
  clear hk
  go_wp2_with fail
  refine (lives17 _).mono ?_
  rintro r y ⟨rfl, hk⟩
  have HK3 := Lib.hid (HK2.out.trans hk (by simp))
  clear hk
  go_wp2_with fail
  go_ret
  exact ⟨rfl, HK3.out⟩

theorem start_len (c : ConfS) (gd : GuardS) (k : Nat) : (MS.start c gd k).mem.ws.length = wordsN c := words0_length c
theorem start_rest {c : ConfS} {gd : GuardS} {k : Nat} : ∀ t, t ∈ (MS.start c gd k).ths → t.frs = [] := by
  intro t ht
  have := List.eq_of_mem_replicate ht
  rw [this]
  rfl
theorem do_rest {w : World} {i : MI} {s : MS} (h : MachAt w i s) (hr : ∀ t, t ∈ s.ths → t.frs = []) (t : Int) : Calls Try.prog 9 #[.pointer (some ⟨i.m, 0, none⟩), .int .i64 t] w fun r w' => r = .returned (.tuple #[]) ∧ w = w' := by
  by_cases ht : t < 0 ∨ (s.ths.length : Int) ≤ t
  · exact slots_do_no h t ht
  · have e : t = ((t.toNat : Nat) : Int) := by omega
    rw [e]
    have hl : t.toNat < s.ths.length := by omega
    exact slots_do_idle h (List.getElem?_eq_getElem hl) (hr _ (List.getElem_mem hl))
theorem start_ths (c : ConfS) (gd : GuardS) (k : Nat) : (MS.start c gd k).ths.length = k := List.length_replicate ..
theorem word_at {w : World} {g : Nat} {l : List Nat} {xt : List Value} (h : Blk w g 22 (u64s l ++ xt).toArray) (j : Nat) (hj : j < l.length) : w.cell? ⟨g, j, none⟩ = some (.int .u64 (l.getD j 0 : Nat)) := by
  rw [h.cell]
  simp [u64s, hj, List.getElem?_append_left]
theorem m_fault_start {w : World} {i : MI} {c : ConfS} {n k : Nat} (h : MachAt w i (MS.start c (gdK c n) k)) : Calls Try.prog 17 #[.pointer (some ⟨i.m, 0, none⟩)] w fun r w' => r = .returned (.bool false) ∧ w = w' := m_fault h
theorem keep_new {w w1 x : World} {c : ConfS} {i : MI} {gd : GuardS} {k : Nat} (hk : Keep [] w w1) (hn : NewAt c w1 x i gd k) : Keep [] w x := hk.trans hn.hk (by simp)
set_option maxRecDepth 100000 in
set_option maxHeartbeats 1000000 in
theorem none_taken (c : ConfS) (t fn : Int) (w : World) (h : c.Ok) (hfn : fn = 1 ∨ fn = 2) : Calls Try.prog 3 #[.agg c.cells, .int .i64 t, .int .i64 fn] w (TrueOut w) := by
  have HN := Lib.hid (fun w => core_new c w h)
  have HB := Lib.hid (Blk.new w 24 c.cells)
  have HK := Lib.hid ((Keep.refl [] w).alloc (.cells c.cells 24))
  have HOK := Lib.hid h
  have hcs : c.cells = #[.int .i64 c.thr, .int .i64 c.slots, .int .u64 c.stamps] := rfl
  rw [hcs] at HN HK HB ⊢
  clear hcs h
  go_enter Try.func3, Try.ntmps3
  go_wp2_with fail
  generalize hcb : w.heap.size = cb at HB ⊢
  have HCB := Lib.hid hcb
  clear hcb
  generalize w.alloc (.cells #[.int .i64 c.thr, .int .i64 c.slots, .int .u64 c.stamps] 24) = w1 at HB HK ⊢
  refine (slots_do_nil w1 t).mono ?_
  rintro r x ⟨rfl, rfl⟩
  have hl0 : w1.cell? ⟨cb, 0, none⟩ = some (.int .i64 c.thr) := HB.out.cell 0
  have hl1 : w1.cell? ⟨cb, 1, none⟩ = some (.int .i64 c.slots) := HB.out.cell 1
  have hl2 : w1.cell? ⟨cb, 2, none⟩ = some (.int .u64 c.stamps) := HB.out.cell 2
  go_wp2_with fail
  refine (HN.out _).mono ?_
  rintro r x ⟨i, rfl, hn⟩
  have HA := Lib.hid hn
  have HBx := Lib.hid (HB.out.keep hn.hk (by simp))
  clear hn HN hl0 hl1 hl2 HB
  unfold ptr
  go_wp2_with fail
  refine (m_mem HA.out.hm).mono ?_
  rintro r y ⟨rfl, rfl⟩
  go_wp2_with fail
  refine (m_words HA.out.hm (by rw [start_len]; have := wordsN_ge HOK.out; omega)).mono ?_
  rintro r y ⟨g, cp, xt, rfl, hw, hgn, hk⟩
  have HW := Lib.hid hw
  have HGN := Lib.hid (hgn)
  have HM := Lib.hid (HA.out.hm.keep0 hk)
  have HKy := Lib.hid hk
  have HBy := Lib.hid (HBx.out.keep hk (by simp))
  clear hw hgn hk HBx
  go_wp2_with fail
  refine (do_rest HM.out start_rest t).mono ?_
  rintro r z ⟨rfl, rfl⟩
  have hend : ∀ z, Keep [] y z → Keep [] w z := fun z hz => ((keep_new HK.out HA.out).trans HKy.out (by simp)).trans hz (by simp)
  have HE := Lib.hid hend
  clear hend
  rcases hfn with rfl | rfl
  · go_wp2_with fail
    refine (lives17 _).mono ?_
    rintro r z ⟨rfl, hk⟩
    have HZ := Lib.hid (HE.out z hk)
    clear hk
    go_wp2_with fail
    go_ret
    exact ⟨rfl, HZ.out⟩
  · go_wp2_with fail
    refine (lives17 _).mono ?_
    rintro r z ⟨rfl, hk⟩
    have HZ := Lib.hid (HE.out z hk)
    clear hk
    go_wp2_with fail
    go_ret
    exact ⟨rfl, HZ.out⟩
set_option maxRecDepth 100000 in
set_option maxHeartbeats 1000000 in
theorem none_out (c : ConfS) (t fn : Int) (w : World) (h : c.Ok) (hf1 : fn ≠ 1) (hf2 : fn ≠ 2) (ht : t < 0 ∨ c.thr ≤ t) : Calls Try.prog 3 #[.agg c.cells, .int .i64 t, .int .i64 fn] w (TrueOut w) := by
  have hb1 : (fn == 1) = false := by simpa using hf1
  have hb2 : (fn == 2) = false := by simpa using hf2
  clear hf1 hf2
  have HN := Lib.hid (fun w => core_new c w h)
  have HB := Lib.hid (Blk.new w 24 c.cells)
  have HK := Lib.hid ((Keep.refl [] w).alloc (.cells c.cells 24))
  have HOK := Lib.hid h
  have hcs : c.cells = #[.int .i64 c.thr, .int .i64 c.slots, .int .u64 c.stamps] := rfl
  rw [hcs] at HN HK HB ⊢
  clear hcs h
  go_enter Try.func3, Try.ntmps3
  go_wp2_with fail
  generalize hcb : w.heap.size = cb at HB ⊢
  have HCB := Lib.hid hcb
  clear hcb
  generalize w.alloc (.cells #[.int .i64 c.thr, .int .i64 c.slots, .int .u64 c.stamps] 24) = w1 at HB HK ⊢
  refine (slots_do_nil w1 t).mono ?_
  rintro r x ⟨rfl, rfl⟩
  have hl0 : w1.cell? ⟨cb, 0, none⟩ = some (.int .i64 c.thr) := HB.out.cell 0
  have hl1 : w1.cell? ⟨cb, 1, none⟩ = some (.int .i64 c.slots) := HB.out.cell 1
  have hl2 : w1.cell? ⟨cb, 2, none⟩ = some (.int .u64 c.stamps) := HB.out.cell 2
  go_wp2_with fail
  refine (HN.out _).mono ?_
  rintro r x ⟨i, rfl, hn⟩
  have HA := Lib.hid hn
  have HBx := Lib.hid (HB.out.keep hn.hk (by simp))
  clear hn HN hl0 hl1 hl2 HB
  unfold ptr
  go_wp2_with fail
  refine (m_mem HA.out.hm).mono ?_
  rintro r y ⟨rfl, rfl⟩
  go_wp2_with fail
  refine (m_words HA.out.hm (by rw [start_len]; have := wordsN_ge HOK.out; omega)).mono ?_
  rintro r y ⟨g, cp, xt, rfl, hw, hgn, hk⟩
  have HW := Lib.hid hw
  have HGN := Lib.hid (hgn)
  have HM := Lib.hid (HA.out.hm.keep0 hk)
  have HKy := Lib.hid hk
  have HBy := Lib.hid (HBx.out.keep hk (by simp))
  clear hw hgn hk HBx
  go_wp2_with fail
  refine (do_rest HM.out start_rest t).mono ?_
  rintro r z ⟨rfl, rfl⟩
  go_wp2_with fail
  refine (m_thread_no HM.out t (by rw [start_ths]; have := HOK.out.t1; omega)).mono ?_
  rintro r z ⟨rfl, rfl⟩
  go_wp2_with fail
  refine (frame_call_nil _ fn _).mono ?_
  rintro r z ⟨rfl, rfl⟩
  go_wp2_with fail
  refine (do_rest HM.out start_rest t).mono ?_
  rintro r z ⟨rfl, rfl⟩
  go_wp2_with fail
  refine (m_mem HM.out).mono ?_
  rintro r z ⟨rfl, rfl⟩
  go_wp2_with fail
  refine (m_words HM.out (by rw [start_len]; have := wordsN_ge HOK.out; omega)).mono ?_
  rintro r v ⟨g2, cp2, xt2, rfl, hw2, hgn2, hk2⟩
  have HMv := Lib.hid (HM.out.keep0 hk2)
  have HWv := Lib.hid (HW.out.keep hk2 (by simp))
  have HW2 := Lib.hid hw2
  have HBv := Lib.hid (HBy.out.keep hk2 (by simp))
  have HZ0 := Lib.hid (((keep_new HK.out HA.out).trans HKy.out (by simp)).trans hk2 (by simp))
  have htt : ¬ (0 ≤ t ∧ t < c.thr) := by omega
  have HTT := Lib.hid ht
  clear hw2 hgn2 hk2 HA HKy HM HW HBy HGN HK ht htt
  rw [show (MS.start c (gdK c 5) c.thr.toNat).mem.ws = words0 c from rfl] at HWv HW2 ⊢
  have hlen := words0_length c
  have hle := wordsN_le HOK.out
  generalize words0 c = ws at HWv HW2 hlen ⊢
  generalize wordsN c = N at hlen hle
  have HLN := Lib.hid hlen
  rw [hlen]
  clear hlen
  go_wp2_with fail
  go_loopg [11] N (fun gg q wr => ∃ j : Nat, j ≤ N ∧ gg = N - j ∧ q = .int .i64 (j : Nat) ∧ Drawn v wr)
  case atStart => exact ⟨0, Nat.zero_le _, rfl, rfl, Drawn.refl _⟩
  case round =>
    obtain ⟨j, hj, rfl, rfl, hdr⟩ := hrel
    have HDR := Lib.hid hdr
    clear hdr
    by_cases hlt : j < N
    · have hz : ((j : Nat) : Int) < (N : Int) := by omega
      have hx1 := word_at (HWv.out.keep (Keep.of_drawn (S := []) HDR.out) (by simp)) j (by rw [HLN.out]; exact hlt)
      have hx2 := word_at (HW2.out.keep (Keep.of_drawn (S := []) HDR.out) (by simp)) j (by rw [HLN.out]; exact hlt)
      have hz0 : (0 : Int) ≤ ((j : Nat) : Int) := by omega
      go_wp2_with fail
      go_quiet (fail)
      go_wp2_with fail
      go_roundg (N - (j + 1))
      case measure => omega
      case rel => exact ⟨j + 1, by omega, rfl, by go_num, HDR.out.trans (Drawn.n _ _)⟩
    · obtain rfl : j = N := by omega
      have HMr := Lib.hid (HMv.out.drawn HDR.out)
      have hl0 : wr.cell? ⟨cb, 0, none⟩ = some (.int .i64 c.thr) := (HBv.out.keep (Keep.of_drawn (S := []) HDR.out) (by simp)).cell 0
      have HT := Lib.hid (m_thread_no HMr.out t (by rw [start_ths]; have := HOK.out.t1; have := HTT.out; omega))
      have HF := Lib.hid (m_fault_start HMr.out)
      have HZ1 := Lib.hid (HZ0.out.trans (Keep.of_drawn (S := []) HDR.out) (by simp))
      have htt := HTT.out
      by_cases h0 : 0 ≤ t
      · have h1 : ¬ t < c.thr := by omega
        go_wp2_with fail
        refine HT.out.mono ?_
        rintro r z ⟨rfl, rfl⟩
        go_wp2_with fail
        refine (frame_depth_nil _).mono ?_
        rintro r z ⟨rfl, rfl⟩
        go_wp2_with fail
        refine HF.out.mono ?_
        rintro r z ⟨rfl, rfl⟩
        go_wp2_with fail
        refine (lives17 _).mono ?_
        rintro r z ⟨rfl, hk⟩
        have HZ := Lib.hid (HZ1.out.trans hk (by simp))
        clear hk
        go_wp2_with fail
        go_ret
        exact ⟨rfl, HZ.out⟩
      · go_wp2_with fail
        refine HT.out.mono ?_
        rintro r z ⟨rfl, rfl⟩
        go_wp2_with fail
        refine (frame_depth_nil _).mono ?_
        rintro r z ⟨rfl, rfl⟩
        go_wp2_with fail
        refine HF.out.mono ?_
        rintro r z ⟨rfl, rfl⟩
        go_wp2_with fail
        refine (lives17 _).mono ?_
        rintro r z ⟨rfl, hk⟩
        have HZ := Lib.hid (HZ1.out.trans hk (by simp))
        clear hk
        go_wp2_with fail
        go_ret
        exact ⟨rfl, HZ.out⟩

/-- A machine at first, of which one thread is within a routine. -/
def called (c : ConfS) (k : Nat) (fn : Int) : MS := { MS.start c (gdK c 5) c.thr.toNat with ths := (List.replicate c.thr.toNat ThS.zero).set k (ThS.zero.pushed fn []) }
theorem call_start {c : ConfS} {k : Nat} {fn : Int} (h : k < c.thr.toNat) : (MS.start c (gdK c 5) c.thr.toNat).call k fn [] = called c k fn := by
  have h1 : (MS.start c (gdK c 5) c.thr.toNat).ths[k]? = some ThS.zero := by
    show (List.replicate c.thr.toNat ThS.zero)[k]? = some ThS.zero
    rw [List.getElem?_replicate, if_pos h]
  unfold MS.call
  rw [h1]
  rfl
theorem called_at {c : ConfS} {k : Nat} {fn : Int} (h : k < c.thr.toNat) : (called c k fn).ths[k]? = some (ThS.zero.pushed fn []) := by
  show ((List.replicate c.thr.toNat ThS.zero).set k _)[k]? = _
  exact List.getElem?_set_self (by simpa using h)
theorem called_th {c : ConfS} {k : Nat} {fn : Int} (h : k < c.thr.toNat) : (called c k fn).ths[k]? = some (ThS.zero.pushed fn []) := called_at h
theorem called_top (c : ConfS) (k : Nat) (fn : Int) : ((called c k fn).part (ThS.zero.pushed fn [])).th.top = FrS.made fn [] := rfl
theorem called_fn (c : ConfS) (k : Nat) (fn : Int) : ((called c k fn).part (ThS.zero.pushed fn [])).th.top.fn = fn := rfl
theorem called_len (c : ConfS) (k : Nat) (fn : Int) : (called c k fn).mem.ws.length = wordsN c := words0_length c
theorem made_reg (fn : Int) (j : Nat) : (FrS.made fn []).reg j = 0 := by
  show ((List.replicate 24 0)[j]?).getD 0 = 0
  rw [List.getElem?_replicate]
  split <;> rfl
theorem called_ok (c : ConfS) (k : Nat) (fn : Int) : SlotsOk ((called c k fn).part (ThS.zero.pushed fn [])) := by
  refine ⟨⟨?_, ?_, fun j => ?_, ?_⟩, ?_⟩
  · show (0 : Int) ≤ _
    decide
  · show 0 < 1
    decide
  · rw [called_top, made_reg]
    decide
  · show (0 : Int) ≤ _
    decide
  · intro g hg
    have := List.eq_of_mem_replicate (show g ∈ List.replicate (c.slots.toNat + 1) 0 from hg)
    rw [this]
    decide
theorem m_fault_called {w : World} {i : MI} {c : ConfS} {k : Nat} {fn : Int} (h : MachAt w i (called c k fn)) : Calls Try.prog 17 #[.pointer (some ⟨i.m, 0, none⟩)] w fun r w' => r = .returned (.bool false) ∧ w = w' := m_fault h
theorem join_part {s : MS} {k : Nat} {t : ThS} (h : s.ths[k]? = some t) : s.join k (s.part t) = s := by
  have e : s.ths.set k t = s.ths := by
    apply List.ext_getElem?
    intro j
    by_cases hj : j = k
    · subst hj
      rw [List.getElem?_set_self (List.getElem?_eq_some_iff.1 h).1, h]
    · rw [List.getElem?_set_ne (fun e => hj e.symm)]
  show { s with ths := s.ths.set k t } = s
  rw [e]
theorem do_other {w : World} {i : MI} {s : MS} (h : MachAt w i s) {k : Nat} {t : ThS} (h2 : s.ths[k]? = some t) (hp : 0 < t.frs.length) (hok : SlotsOk (s.part t)) (h3 : (s.part t).th.top.fn ≠ 1) (h4 : (s.part t).th.top.fn ≠ 2) :
    Calls Try.prog 9 #[.pointer (some ⟨i.m, 0, none⟩), .int .i64 (k : Nat)] w fun r w' => r = .returned (.tuple #[]) ∧ ∃ i', MachAt w' i' s ∧ Goes w w' i i' := by
  obtain ⟨ti, h1⟩ := h.thAt h2
  refine (slots_do w i s h k ti t h1 h2 hp hok).mono ?_
  rintro r x ⟨rfl, ti', hto⟩
  have e : (s.part t).slots = s.part t := by unfold PS.slots; rw [if_neg h3, if_neg h4]
  rw [e] at hto
  obtain ⟨h5, h6⟩ := h.join h1 h2 hto
  rw [join_part h2] at h5
  exact ⟨rfl, _, h5, h6⟩
set_option maxRecDepth 100000 in
set_option maxHeartbeats 1000000 in
theorem none_in (c : ConfS) (k : Nat) (fn : Int) (w : World) (h : c.Ok) (hf1 : fn ≠ 1) (hf2 : fn ≠ 2) (ht : k < c.thr.toNat) : Calls Try.prog 3 #[.agg c.cells, .int .i64 (k : Nat), .int .i64 fn] w (TrueOut w) := by
  have hb1 : (fn == 1) = false := by simpa using hf1
  have hb2 : (fn == 2) = false := by simpa using hf2
  have HF1 := Lib.hid hf1
  have HF2 := Lib.hid hf2
  have HLT := Lib.hid ht
  clear hf1 hf2
  have HN := Lib.hid (fun w => core_new c w h)
  have HB := Lib.hid (Blk.new w 24 c.cells)
  have HK := Lib.hid ((Keep.refl [] w).alloc (.cells c.cells 24))
  have HOK := Lib.hid h
  have hcs : c.cells = #[.int .i64 c.thr, .int .i64 c.slots, .int .u64 c.stamps] := rfl
  rw [hcs] at HN HK HB ⊢
  clear hcs h
  go_enter Try.func3, Try.ntmps3
  go_wp2_with fail
  generalize hcb : w.heap.size = cb at HB ⊢
  have HCB := Lib.hid hcb
  clear hcb
  generalize w.alloc (.cells #[.int .i64 c.thr, .int .i64 c.slots, .int .u64 c.stamps] 24) = w1 at HB HK ⊢
  refine (slots_do_nil w1 k).mono ?_
  rintro r x ⟨rfl, rfl⟩
  have HB1 := Lib.hid HB.out
  have hl0 : w1.cell? ⟨cb, 0, none⟩ = some (.int .i64 c.thr) := HB.out.cell 0
  have hl1 : w1.cell? ⟨cb, 1, none⟩ = some (.int .i64 c.slots) := HB.out.cell 1
  have hl2 : w1.cell? ⟨cb, 2, none⟩ = some (.int .u64 c.stamps) := HB.out.cell 2
  go_wp2_with fail
  refine (HN.out _).mono ?_
  rintro r x ⟨i, rfl, hn⟩
  have HA := Lib.hid hn
  have HBx := Lib.hid (HB.out.keep hn.hk (by simp))
  clear hn HN hl0 hl1 hl2 HB
  unfold ptr
  go_wp2_with fail
  refine (m_mem HA.out.hm).mono ?_
  rintro r y ⟨rfl, rfl⟩
  go_wp2_with fail
  refine (m_words HA.out.hm (by rw [start_len]; have := wordsN_ge HOK.out; omega)).mono ?_
  rintro r y ⟨g, cp, xt, rfl, hw, hgn, hk⟩
  have HW := Lib.hid hw
  have HGN := Lib.hid (hgn)
  have HM := Lib.hid (HA.out.hm.keep0 hk)
  have HKy := Lib.hid hk
  have HBy := Lib.hid (HBx.out.keep hk (by simp))
  clear hw hgn hk HBx
  go_wp2_with fail
  refine (do_rest HM.out start_rest k).mono ?_
  rintro r z ⟨rfl, rfl⟩
  have HTH : Hid ((MS.start c (gdK c 5) c.thr.toNat).ths[k]? = some ThS.zero) := by
    show (List.replicate c.thr.toNat ThS.zero)[k]? = some ThS.zero
    rw [List.getElem?_replicate, if_pos ht]
  obtain ⟨ti, hti⟩ := HM.out.thAt HTH.out
  have HTI := Lib.hid hti
  clear hti
  go_wp2_with fail
  refine (m_thread HM.out k ti HTI.out).mono ?_
  rintro r z ⟨rfl, rfl⟩
  go_wp2_with fail
  refine (m_call HM.out HTI.out HTH.out (by decide) fn _ [] (.inl ⟨rfl, rfl⟩) (by simp)).mono ?_
  rintro r z ⟨rfl, i1, hm1, hg1⟩
  rw [call_start ht] at hm1
  have HM1 := Lib.hid hm1
  have HG1 := Lib.hid hg1
  have KO := do_other hm1 (called_at ht) (by simp [ThS.pushed, ThS.zero]) (called_ok c k fn) (by rw [called_fn]; exact HF1.out) (by rw [called_fn]; exact HF2.out)
  rw [hg1.m] at KO
  clear hm1 hg1
  go_wp2_with fail
  refine KO.mono ?_
  clear KO
  rintro r z3 ⟨rfl, i3, hm3, hg3⟩
  have HM3 := Lib.hid hm3
  have HG3 := Lib.hid (HG1.out.trans hg3)
  have hm' : i3.m = i.m := HG3.out.m
  have KM := m_mem hm3
  rw [hm'] at KM
  clear hm3 hg3
  go_wp2_with fail
  refine KM.mono ?_
  clear KM
  rintro r z ⟨rfl, rfl⟩
  go_wp2_with fail
  refine (m_words HM3.out (by rw [called_len]; have := wordsN_ge HOK.out; omega)).mono ?_
  rintro r v ⟨g2, cp2, xt2, rfl, hw2, hgn2, hk2⟩
  have HMv := Lib.hid (HM3.out.keep0 hk2)
  have HM' := Lib.hid hm'
  obtain ⟨ti3, hti3, htb3⟩ := HG3.out.tb HTI.out
  have hKeep : Keep i.foot y v := HG3.out.keep.trans hk2 (by simp)
  have hgf : g ∉ i.foot := fun hx => by
    have := HA.out.hm.foot_lt g hx
    have := HGN.out
    omega
  have hcf : cb ∉ i.foot := fun hx => by
    have h1 := HA.out.new cb hx
    have h2 := HB1.out.lt
    omega
  have HWv := Lib.hid (HW.out.keep hKeep hgf)
  have HW2 := Lib.hid hw2
  have HBv := Lib.hid (HBy.out.keep hKeep hcf)
  have HZ0 : Hid (Keep [] w v) := (((keep_new HK.out HA.out).trans HKy.out (by simp)).trans hKeep (fun x hx => .inr (Nat.le_trans HK.out.size (HA.out.new x hx))))
  have htt : ((k : Nat) : Int) < c.thr := by omega
  have HTI3 := Lib.hid hti3
  have HTB3 := Lib.hid htb3
  clear hw2 hgn2 hk2 HA HKy HM HW HBy HGN HK ht hKeep hgf hcf hm' hti3 htb3 HM1 HM3 HG1 HG3 HTH
  rw [show (MS.start c (gdK c 5) c.thr.toNat).mem.ws = words0 c from rfl] at HWv ⊢
  rw [show (called c k fn).mem.ws = words0 c from rfl] at HW2 ⊢
  have hlen := words0_length c
  have hle := wordsN_le HOK.out
  generalize words0 c = ws at HWv HW2 hlen ⊢
  generalize wordsN c = N at hlen hle
  have HLN := Lib.hid hlen
  rw [hlen]
  clear hlen
  go_wp2_with fail
  go_loopg [11] N (fun gg q wr => ∃ j : Nat, j ≤ N ∧ gg = N - j ∧ q = .int .i64 (j : Nat) ∧ Drawn v wr)
  case atStart => exact ⟨0, Nat.zero_le _, rfl, rfl, Drawn.refl _⟩
  case round =>
    obtain ⟨j, hj, rfl, rfl, hdr⟩ := hrel
    have HDR := Lib.hid hdr
    clear hdr
    by_cases hlt : j < N
    · have hz : ((j : Nat) : Int) < (N : Int) := by omega
      have hx1 := word_at (HWv.out.keep (Keep.of_drawn (S := []) HDR.out) (by simp)) j (by rw [HLN.out]; exact hlt)
      have hx2 := word_at (HW2.out.keep (Keep.of_drawn (S := []) HDR.out) (by simp)) j (by rw [HLN.out]; exact hlt)
      have hz0 : (0 : Int) ≤ ((j : Nat) : Int) := by omega
      go_wp2_with fail
      go_quiet (fail)
      go_wp2_with fail
      go_roundg (N - (j + 1))
      case measure => omega
      case rel => exact ⟨j + 1, by omega, rfl, by go_num, HDR.out.trans (Drawn.n _ _)⟩
    · obtain rfl : j = N := by omega
      have HMr := Lib.hid (HMv.out.drawn HDR.out)
      have hl0 : wr.cell? ⟨cb, 0, none⟩ = some (.int .i64 c.thr) := (HBv.out.keep (Keep.of_drawn (S := []) HDR.out) (by simp)).cell 0
      have KT := m_thread HMr.out k ti3 HTI3.out
      rw [HM'.out, HTB3.out] at KT
      have HT := Lib.hid KT
      have KD := m_depth HMr.out HTI3.out (called_th HLT.out)
      rw [HTB3.out] at KD
      have HD := Lib.hid KD
      have KF := m_fault_called HMr.out
      rw [HM'.out] at KF
      have HF := Lib.hid KF
      have HZ1 := Lib.hid (HZ0.out.trans (Keep.of_drawn (S := []) HDR.out) (by simp))
      clear KT KD KF
      have hk0 : (0 : Int) ≤ ((k : Nat) : Int) := by omega
      go_wp2_with fail
      refine HT.out.mono ?_
      rintro r z ⟨rfl, rfl⟩
      go_wp2_with fail
      refine HD.out.mono ?_
      rintro r z ⟨rfl, rfl⟩
      go_wp2_with fail
      refine HF.out.mono ?_
      rintro r z ⟨rfl, rfl⟩
      go_wp2_with fail
      refine (lives17 _).mono ?_
      rintro r z ⟨rfl, hk⟩
      have HZ := Lib.hid (HZ1.out.trans hk (by simp))
      clear hk
      go_wp2_with fail
      go_ret
      exact ⟨rfl, HZ.out⟩
theorem slotsNone (c : ConfS) (t fn : Int) (w : World) : Calls Try.prog 3 #[.agg c.cells, .int .i64 t, .int .i64 fn] w (TrueOut w) := by
  by_cases h : c.Ok
  · by_cases h1 : fn = 1
    · exact none_taken c t fn w h (.inl h1)
    by_cases h2 : fn = 2
    · exact none_taken c t fn w h (.inr h2)
    by_cases ht : t < 0 ∨ c.thr ≤ t
    · exact none_out c t fn w h h1 h2 ht
    · have e : t = ((t.toNat : Nat) : Int) := by omega
      rw [e]
      exact none_in c t.toNat fn w h h1 h2 (by omega)
  · exact none_no c t fn w h
end Go.Proofs.Ytlbhjahmgdghoaa
