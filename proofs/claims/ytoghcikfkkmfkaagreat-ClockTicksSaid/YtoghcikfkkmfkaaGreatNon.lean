/- A machine at rest, threads that are not there: plain steps of many laws. Conditions: the machine in memory. -/
import Derived.Test.YtoghcikfkkmfkaaGreatLiv
namespace Go.Proofs.YtoghcikfkkmfkaaGreat
open Go.RowKit

theorem frame_call_nil (w : World) (fn : Int) (v : Value) : Calls Tryz.prog 15 #[.pointer none, .int .i64 fn, v] w fun r w' => r = .returned (.tuple #[]) ∧ w = w' := by
  go_enter Tryz.func15, Tryz.ntmps15
  go_wp2
  refine bodyPost_ret (results_none rfl _ _ _) rfl ?_
  exact ⟨rfl, rfl⟩
theorem top_nil (w : World) : Calls Tryz.prog 16 #[.pointer none] w fun r w' => r = .returned (.pointer none) ∧ w = w' := frame_top_nil w
theorem thread_nil (w : World) (t : Int) : Calls Tryz.prog 11 #[.pointer none, .int .i64 t] w fun r w' => r = .returned (.pointer none) ∧ w = w' := core_thread_nil w t
theorem slots_do_nil (w : World) (t : Int) : Calls Tryz.prog 103 #[.pointer none, .int .i64 t] w fun r w' => r = .returned (.tuple #[]) ∧ w = w' := by
  go_enter Tryz.func103, Tryz.ntmps103
  go_wp2_with fail
  refine (thread_nil _ t).mono ?_
  rintro r x ⟨rfl, rfl⟩
  go_wp2_with fail
  refine (top_nil _).mono ?_
  rintro r x ⟨rfl, rfl⟩
  go_wp2_with fail
  refine bodyPost_ret (results_none rfl _ _ _) rfl ?_
  exact ⟨rfl, rfl⟩
theorem slots_do_no {w : World} {i : MI} {s : MS} (h : MachAt w i s) (t : Int) (ht : t < 0 ∨ (s.ths.length : Int) ≤ t) : Calls Tryz.prog 103 #[.pointer (some ⟨i.m, 0, none⟩), .int .i64 t] w fun r w' => r = .returned (.tuple #[]) ∧ w = w' := by
  have HT := Lib.hid (m_thread_no h t ht)
  clear h ht
  go_enter Tryz.func103, Tryz.ntmps103
  go_wp2_with fail
  refine HT.out.mono ?_
  rintro r x ⟨rfl, rfl⟩
  go_wp2_with fail
  refine (top_nil _).mono ?_
  rintro r x ⟨rfl, rfl⟩
  go_wp2_with fail
  refine bodyPost_ret (results_none rfl _ _ _) rfl ?_
  exact ⟨rfl, rfl⟩
theorem slots_do_idle {w : World} {i : MI} {s : MS} (h : MachAt w i s) {k : Nat} {t : ThS} (h2 : s.ths[k]? = some t) (hp : t.frs = []) : Calls Tryz.prog 103 #[.pointer (some ⟨i.m, 0, none⟩), .int .i64 (k : Nat)] w fun r w' => r = .returned (.tuple #[]) ∧ w = w' := by
  obtain ⟨ti, h1⟩ := h.thAt h2
  have HT := Lib.hid (m_thread h k ti h1)
  have HT2 := Lib.hid (t_top_none h h1 h2 hp)
  clear h h1 h2 hp
  go_enter Tryz.func103, Tryz.ntmps103
  go_wp2_with fail
  refine HT.out.mono ?_
  rintro r x ⟨rfl, rfl⟩
  go_wp2_with fail
  refine HT2.out.mono ?_
  rintro r x ⟨rfl, rfl⟩
  go_wp2_with fail
  refine bodyPost_ret (results_none rfl _ _ _) rfl ?_
  exact ⟨rfl, rfl⟩
theorem m_mem {w : World} {i : MI} {s : MS} (h : MachAt w i s) : Calls Tryz.prog 12 #[.pointer (some ⟨i.m, 0, none⟩)] w fun r w' => r = .returned (.pointer (some ⟨i.mi.mb, 0, none⟩)) ∧ w = w' := core_mem w i.m _ _ _ _ _ _ h.mach
theorem m_words {w : World} {i : MI} {s : MS} (h : MachAt w i s) (h1 : 1 ≤ s.mem.ws.length) : Calls Tryz.prog 31 #[.pointer (some ⟨i.mi.mb, 0, none⟩)] w fun r w' => ∃ g c xt, r = .returned (.slice (some ⟨g, 0, none⟩) s.mem.ws.length c) ∧ Blk w' g 22 (u64s s.mem.ws ++ xt).toArray ∧ w.heap.size ≤ g ∧ Keep [] w w' := by
  refine (mem_words w i.mi s.mem h.hMem h1).mono ?_
  rintro r x ⟨v, rfl, ⟨g, c, xt, rfl, hb, _, hg⟩, hk⟩
  exact ⟨g, c, xt, rfl, hb, hg, hk⟩
theorem m_fault {w : World} {i : MI} {s : MS} (h : MachAt w i s) : Calls Tryz.prog 21 #[.pointer (some ⟨i.m, 0, none⟩)] w fun r w' => r = .returned (.bool (s.fault || s.mem.fault || decide (0 < s.gd.slips))) ∧ w = w' := core_fault w i.m _ _ _ _ i.mi s.mem i.gi s.gd h.mach h.hMem h.hG
def TrueOut (w : World) (r : Ending) (w' : World) : Prop := r = .returned (.bool true) ∧ Keep [] w w'
theorem start_len (c : ConfS) (gd : GuardS) (k : Nat) : (MS.start c gd k).mem.ws.length = wordsN c := words0_length c
theorem start_rest {c : ConfS} {gd : GuardS} {k : Nat} : ∀ t, t ∈ (MS.start c gd k).ths → t.frs = [] := by
  intro t ht
  have := List.eq_of_mem_replicate ht
  rw [this]
  rfl
theorem do_rest {w : World} {i : MI} {s : MS} (h : MachAt w i s) (hr : ∀ t, t ∈ s.ths → t.frs = []) (t : Int) : Calls Tryz.prog 103 #[.pointer (some ⟨i.m, 0, none⟩), .int .i64 t] w fun r w' => r = .returned (.tuple #[]) ∧ w = w' := by
  by_cases ht : t < 0 ∨ (s.ths.length : Int) ≤ t
  · exact slots_do_no h t ht
  · have e : t = ((t.toNat : Nat) : Int) := by omega
    rw [e]
    have hl : t.toNat < s.ths.length := by omega
    exact slots_do_idle h (List.getElem?_eq_getElem hl) (hr _ (List.getElem_mem hl))
theorem start_ths (c : ConfS) (gd : GuardS) (k : Nat) : (MS.start c gd k).ths.length = k := List.length_replicate ..
theorem word_at {w : World} {g : Nat} {l : List Nat} {xt : List Value} (h : Blk w g 22 (u64s l ++ xt).toArray) (j : Nat) (hj : j < l.length) : w.cell? ⟨g, j, none⟩ = some (.int .u64 (l.getD j 0 : Nat)) := by
  rw [h.cell]
  simp [u64s, hj, List.getElem?_append_left]
theorem m_fault_start {w : World} {i : MI} {c : ConfS} {n k : Nat} (h : MachAt w i (MS.start c (gdK c n) k)) : Calls Tryz.prog 21 #[.pointer (some ⟨i.m, 0, none⟩)] w fun r w' => r = .returned (.bool false) ∧ w = w' := m_fault h
theorem keep_new {w w1 x : World} {c : ConfS} {i : MI} {gd : GuardS} {k : Nat} (hk : Keep [] w w1) (hn : NewAt c w1 x i gd k) : Keep [] w x := hk.trans hn.hk (by simp)
/-- A machine at first, of which one thread is within a routine. -/
def called (c : ConfS) (k : Nat) (fn : Int) : MS := { MS.start c (gdK c 5) c.thr.toNat with ths := (List.replicate c.thr.toNat ThS.zero).set k (ThS.zero.pushed fn []) }
theorem call_start {c : ConfS} {k : Nat} {fn : Int} (h : k < c.thr.toNat) : (MS.start c (gdK c 5) c.thr.toNat).call k fn [] = called c k fn := by
  have h1 : (MS.start c (gdK c 5) c.thr.toNat).ths[k]? = some ThS.zero := by
    show (List.replicate c.thr.toNat ThS.zero)[k]? = some ThS.zero
    rw [List.getElem?_replicate, if_pos h]
  unfold MS.call
  rw [h1]
  rfl
theorem called_at {c : ConfS} {k : Nat} {fn : Int} (h : k < c.thr.toNat) : (called c k fn).ths[k]? = some (ThS.zero.pushed fn []) := by
  show ((List.replicate c.thr.toNat ThS.zero).set k _)[k]? = _
  exact List.getElem?_set_self (by simpa using h)
theorem called_th {c : ConfS} {k : Nat} {fn : Int} (h : k < c.thr.toNat) : (called c k fn).ths[k]? = some (ThS.zero.pushed fn []) := called_at h
theorem called_top (c : ConfS) (k : Nat) (fn : Int) : ((called c k fn).part (ThS.zero.pushed fn [])).th.top = FrS.made fn [] := rfl
theorem called_fn (c : ConfS) (k : Nat) (fn : Int) : ((called c k fn).part (ThS.zero.pushed fn [])).th.top.fn = fn := rfl
theorem called_len (c : ConfS) (k : Nat) (fn : Int) : (called c k fn).mem.ws.length = wordsN c := words0_length c
theorem made_reg (fn : Int) (j : Nat) : (FrS.made fn []).reg j = 0 := by
  show ((List.replicate 24 0)[j]?).getD 0 = 0
  rw [List.getElem?_replicate]
  split <;> rfl
theorem called_ok (c : ConfS) (k : Nat) (fn : Int) : SlotsOk ((called c k fn).part (ThS.zero.pushed fn [])) := by
  refine ⟨⟨?_, ?_, fun j => ?_, ?_⟩, ?_⟩
  · show (0 : Int) ≤ _
    decide
  · show 0 < 1
    decide
  · rw [called_top, made_reg]
    decide
  · show (0 : Int) ≤ _
    decide
  · intro g hg
    have := List.eq_of_mem_replicate (show g ∈ List.replicate (c.slots.toNat + 1) 0 from hg)
    rw [this]
    decide
theorem m_fault_called {w : World} {i : MI} {c : ConfS} {k : Nat} {fn : Int} (h : MachAt w i (called c k fn)) : Calls Tryz.prog 21 #[.pointer (some ⟨i.m, 0, none⟩)] w fun r w' => r = .returned (.bool false) ∧ w = w' := m_fault h
theorem join_part {s : MS} {k : Nat} {t : ThS} (h : s.ths[k]? = some t) : s.join k (s.part t) = s := by
  have e : s.ths.set k t = s.ths := by
    apply List.ext_getElem?
    intro j
    by_cases hj : j = k
    · subst hj
      rw [List.getElem?_set_self (List.getElem?_eq_some_iff.1 h).1, h]
    · rw [List.getElem?_set_ne (fun e => hj e.symm)]
  show { s with ths := s.ths.set k t } = s
  rw [e]
theorem do_other {w : World} {i : MI} {s : MS} (h : MachAt w i s) {k : Nat} {t : ThS} (h2 : s.ths[k]? = some t) (hp : 0 < t.frs.length) (hok : SlotsOk (s.part t)) (h3 : (s.part t).th.top.fn ≠ 1) (h4 : (s.part t).th.top.fn ≠ 2) :
    Calls Tryz.prog 103 #[.pointer (some ⟨i.m, 0, none⟩), .int .i64 (k : Nat)] w fun r w' => r = .returned (.tuple #[]) ∧ ∃ i', MachAt w' i' s ∧ Goes w w' i i' := by
  obtain ⟨ti, h1⟩ := h.thAt h2
  refine (slots_do w i s h k ti t h1 h2 hp hok).mono ?_
  rintro r x ⟨rfl, ti', hto⟩
  have e : (s.part t).slots = s.part t := by unfold PS.slots; rw [if_neg h3, if_neg h4]
  rw [e] at hto
  obtain ⟨h5, h6⟩ := h.join h1 h2 hto
  rw [join_part h2] at h5
  exact ⟨rfl, _, h5, h6⟩
end Go.Proofs.YtoghcikfkkmfkaaGreat
