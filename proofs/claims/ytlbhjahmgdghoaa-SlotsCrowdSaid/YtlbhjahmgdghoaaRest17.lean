/- A machine at rest, and the laws' Alone of Take and Give upon it. Conditions: few deeds were done. The machine that New makes is at rest. Condition: the configuration may be. -/
import Derived.Test.YtlbhjahmgdghoaaChain17
namespace Go.Proofs.Ytlbhjahmgdghoaa
open Go.RowKit

structure AtRest (c : ConfS) (s : MS) (L G had : List Nat) (n : Nat) : Prop where
  ok : c.Ok
  conf : s.conf = c
  thl : s.ths.length = c.thr.toNat
  idle : ∀ t, t ∈ s.ths → t.frs = []
  free : Free c s.mem.ws s.gd L G
  f1 : s.fault = false
  f2 : s.mem.fault = false
  a0 : 0 ≤ s.mem.acc
  a1 : s.mem.acc ≤ 4 * n
  s0 : 0 ≤ s.steps
  s1 : s.steps ≤ 4 * n
  gen : ∀ g, g ∈ G → g ≤ n
  hadI : ∀ e, e ∈ had → ∃ a, a ∈ s.gd.held ∧ e = mkE a (G.getD (a - 1) 0)
  hadN : (had.map slotE).Nodup
def OnePS (s : MS) (c : ConfS) (t : ThS) (fn : Int) (l : List Nat) : PS := onePS c s.mem.ws s.mem.acc s.gd t.ret t.ses t.row t.stk s.steps (FrS.made fn l)
theorem one_of {c : ConfS} {s : MS} {L G had : List Nat} {n : Nat} (h : AtRest c s L G had n) {t : ThS} (ht : t ∈ s.ths) (fn : Int) (l : List Nat) : ({ (s.part t) with th := t.pushed fn l } : PS) = OnePS s c t fn l := by
  have h1 := h.conf
  have h2 := h.f1
  have h3 := h.f2
  have h4 := h.idle t ht
  obtain ⟨conf, ⟨ws, acc, mf⟩, gd, ths, st, f⟩ := s
  obtain ⟨ret, ses, frs, row, stk⟩ := t
  simp only at h1 h2 h3 h4
  subst h1 h2 h3 h4
  rfl
/-- What a thread's run to its end makes of a machine at rest. -/
theorem rest_run {c : ConfS} {s : MS} {L G had : List Nat} {n : Nat} (h : AtRest c s L G had n) {k : Nat} {t : ThS} (ht : s.ths[k]? = some t) {fn : Int} {l : List Nat} {m : Nat} {q : PS} (he : EndsP m (OnePS s c t fn l) q) (hm : m ≤ 10) :
    RunsAt k 0 SlotsOk PS.slots (s.call k fn l) ∧ aloneGo PS.slots k 0 10 0 (s.call k fn l) = (s.join k q, m, true) := by
  have e := one_of h (List.mem_of_getElem? ht) fn l
  refine ⟨runsAt_call ht (f := m) (by rw [e]; exact he.1), ?_⟩
  rw [aloneGo_call ht, e]
  have := he.2 (10 - m) 0
  rw [Nat.sub_add_cancel hm, Nat.zero_add] at this
  rw [this]
/-- A machine at rest, a thread's return behind it. -/
theorem rest_next {c : ConfS} {s : MS} {L G had L' G' had' : List Nat} {n k : Nat} {t : ThS} {ws : List Nat} {acc st : Int} {gd : GuardS} {ret : List Nat} (h : AtRest c s L G had n) (ht : s.ths[k]? = some t) (hf : Free c ws gd L' G') (ha0 : 0 ≤ acc) (ha1 : acc ≤ s.mem.acc + 4) (hs0 : 0 ≤ st) (hs1 : st ≤ s.steps + 4)
    (hg : ∀ g, g ∈ G' → g ≤ n + 1) (hI : ∀ e, e ∈ had' → ∃ a, a ∈ gd.held ∧ e = mkE a (G'.getD (a - 1) 0)) (hN : (had'.map slotE).Nodup) :
    AtRest c (s.join k (donePS c ws acc gd ret t.ses t.row t.stk st)) L' G' had' (n + 1) ∧ (s.join k (donePS c ws acc gd ret t.ses t.row t.stk st)).ths[k]? = some ⟨ret, t.ses, [], t.row, t.stk⟩ := by
  have hk := (List.getElem?_eq_some_iff.1 ht).1
  have h1 := h.a1
  have h2 := h.s1
  refine ⟨⟨h.ok, rfl, ?_, ?_, hf, rfl, rfl, ha0, ?_, hs0, ?_, hg, hI, hN⟩, part_join hk⟩
  · show (s.ths.set k _).length = _
    rw [List.length_set]
    exact h.thl
  · intro t' ht'
    rcases List.mem_or_eq_of_mem_set (show t' ∈ s.ths.set k _ from ht') with h3 | h3
    · exact h.idle t' h3
    · rw [h3]
      rfl
  · show acc ≤ _
    omega
  · show st ≤ _
    omega
section
variable {c : ConfS} {s : MS} {L G had : List Nat} {n k : Nat} {t : ThS}
theorem rest_take {a : Nat} (h : AtRest c s (a :: L) G had n) (ht : s.ths[k]? = some t) (hn : n ≤ 1000) :
    ∃ s', RunsAt k 0 SlotsOk PS.slots (s.call k 1 []) ∧ aloneGo PS.slots k 0 10 0 (s.call k 1 []) = (s', 4, true) ∧ AtRest c s' L G (had ++ [mkE a (G.getD (a - 1) 0)]) (n + 1) ∧ ∃ t', s'.ths[k]? = some t' ∧ t'.ret.getD 0 0 = mkE a (G.getD (a - 1) 0) := by
  have h1 := h.a1
  have h2 := h.s1
  have he := ends_take (acc := s.mem.acc) (ret := t.ret) (ses := t.ses) (row := t.row) (stk := t.stk) (st := s.steps) h.free h.ok (by omega) h.s0 (by omega)
  obtain ⟨h3, h4⟩ := rest_run h ht (fn := 1) (l := []) he (by omega)
  obtain ⟨hf, hfe⟩ := h.free.takes h.ok
  have hra := h.free.rng a (by simp)
  have hs2 := h.ok.s2
  have hah : a ∉ s.gd.held := fun hm => ((h.free.part a hra.1 hra.2).1 hm) (by simp)
  have hh : (s.gd.takeS a).held = a :: s.gd.held := by rw [hfe]
  have ha0 := h.a0
  have hs0 := h.s0
  obtain ⟨h5, h6⟩ := rest_next (ret := padTo 12 [mkE a (G.getD (a - 1) 0)]) (acc := s.mem.acc + 1 + 1 + 1 + 1) (st := s.steps + 1 + 1 + 1 + 1) (had' := had ++ [mkE a (G.getD (a - 1) 0)]) h ht hf (by omega) (by omega) (by omega) (by omega) (fun g hg => Nat.le_succ_of_le (h.gen g hg)) (fun e he => by
    rw [hh]
    rcases List.mem_append.1 he with he | he
    · obtain ⟨b, hb, e2⟩ := h.hadI e he
      exact ⟨b, by simp [hb], e2⟩
    · exact ⟨a, by simp, List.mem_singleton.1 he⟩) (by
    rw [List.map_append, List.nodup_append]
    refine ⟨h.hadN, by simp, fun x hx y hy e => ?_⟩
    obtain ⟨e1, he1, rfl⟩ := List.mem_map.1 hx
    obtain ⟨b, hb, rfl⟩ := h.hadI e1 he1
    simp only [List.map_cons, List.map_nil, List.mem_singleton] at hy
    have hrb := h.free.hrng b hb
    rw [slotE_mkE (by omega)] at e
    rw [hy, slotE_mkE (by omega)] at e
    exact hah (e ▸ hb))
  exact ⟨_, h3, h4, h5, _, h6, by simp [padTo]⟩
theorem rest_take0 (h : AtRest c s [] G had n) (ht : s.ths[k]? = some t) (hn : n ≤ 1000) :
    ∃ s', RunsAt k 0 SlotsOk PS.slots (s.call k 1 []) ∧ aloneGo PS.slots k 0 10 0 (s.call k 1 []) = (s', 2, true) ∧ AtRest c s' [] G had (n + 1) ∧ ∃ t', s'.ths[k]? = some t' ∧ t'.ret.getD 0 0 = 0 := by
  have h1 := h.a1
  have h2 := h.s1
  have he := ends_take0 (acc := s.mem.acc) (ret := t.ret) (ses := t.ses) (row := t.row) (stk := t.stk) (st := s.steps) h.free h.ok (by omega) h.s0 (by omega)
  obtain ⟨h3, h4⟩ := rest_run h ht (fn := 1) (l := []) he (by omega)
  have ha0 := h.a0
  have hs0 := h.s0
  obtain ⟨h5, h6⟩ := rest_next (ret := padTo 12 [0]) (acc := s.mem.acc + 1) (st := s.steps + 1 + 1) (had' := had) h ht h.free (by omega) (by omega) (by omega) (by omega) (fun g hg => Nat.le_succ_of_le (h.gen g hg)) h.hadI h.hadN
  exact ⟨_, h3, h4, h5, _, h6, by simp [padTo]⟩
theorem rest_give {j e : Nat} (h : AtRest c s L G had n) (ht : s.ths[k]? = some t) (hn : n ≤ 1000) (hj : had[j]? = some e) :
    1 ≤ slotE e ∧ slotE e ≤ G.length ∧ G.getD (slotE e - 1) 0 ≤ n ∧ ∃ s', RunsAt k 0 SlotsOk PS.slots (s.call k 2 [e]) ∧ aloneGo PS.slots k 0 10 0 (s.call k 2 [e]) = (s', 4, true) ∧ AtRest c s' (slotE e :: L) (G.set (slotE e - 1) (G.getD (slotE e - 1) 0 + 1)) (had.take j ++ had.drop (j + 1)) (n + 1) := by
  obtain ⟨a, ha, rfl⟩ := h.hadI e (List.mem_of_getElem? hj)
  have hra := h.free.hrng a ha
  have hs2 := h.ok.s2
  have hgl := h.free.glen
  have hlt : a < 4096 := by omega
  rw [slotE_mkE hlt]
  have hgn : G.getD (a - 1) 0 ≤ n := by
    rw [List.getD_eq_getElem?_getD]
    cases hx : G[a - 1]? with
    | none => simp
    | some x => exact h.gen x (List.mem_of_getElem? hx)
  refine ⟨hra.1, by omega, hgn, ?_⟩
  generalize hg : G.getD (a - 1) 0 = g at *
  have h1 := h.a1
  have h2 := h.s1
  have he := ends_give (acc := s.mem.acc) (ret := t.ret) (ses := t.ses) (row := t.row) (stk := t.stk) (st := s.steps) h.free h.ok ha hg (by omega) (by omega) h.s0 (by omega)
  obtain ⟨h3, h4⟩ := rest_run h ht (fn := 2) (l := [mkE a g]) he (by omega)
  obtain ⟨hf, hfe⟩ := h.free.gives h.ok ha hg (by omega)
  have hh : (s.gd.dropS (mkE a g)).held = s.gd.held.erase a := by rw [hfe]
  have ha0 := h.a0
  have hs0 := h.s0
  have hsp : had = had.take j ++ mkE a g :: had.drop (j + 1) := by
    have hjl := (List.getElem?_eq_some_iff.1 hj)
    obtain ⟨hj1, hj2⟩ := hjl
    rw [← hj2]
    rw [← List.drop_eq_getElem_cons hj1, List.take_append_drop]
  have hnd := h.hadN
  rw [hsp, List.map_append, List.map_cons, List.nodup_append, List.nodup_cons, slotE_mkE hlt] at hnd
  have hsub : ∀ x, x ∈ had.take j ++ had.drop (j + 1) → x ∈ had ∧ slotE x ≠ a := fun x hx => by
    rcases List.mem_append.1 hx with hx | hx
    · exact ⟨List.mem_of_mem_take hx, fun e => hnd.2.2 (slotE x) (List.mem_map.2 ⟨x, hx, rfl⟩) a (by simp) e⟩
    · exact ⟨List.mem_of_mem_drop hx, fun e => hnd.2.1.1 (List.mem_map.2 ⟨x, hx, e⟩)⟩
  obtain ⟨h5, h6⟩ := rest_next (ret := padTo 12 []) (acc := s.mem.acc + 1 + 1 + 1 + 1) (st := s.steps + 1 + 1 + 1 + 1) (had' := had.take j ++ had.drop (j + 1)) h ht hf (by omega) (by omega) (by omega) (by omega) (fun x hx => (List.mem_or_eq_of_mem_set hx).elim (fun hx => Nat.le_succ_of_le (h.gen x hx)) (fun e => by omega)) (fun x hx => by
    rw [hh]
    obtain ⟨hx1, hx2⟩ := hsub x hx
    obtain ⟨b, hb, rfl⟩ := h.hadI x hx1
    have hrb := h.free.hrng b hb
    rw [slotE_mkE (by omega)] at hx2
    refine ⟨b, (List.mem_erase_of_ne hx2).2 hb, ?_⟩
    rw [getD_set_ne (by omega)]) (by
    rw [List.map_append, List.nodup_append]
    exact ⟨hnd.1, hnd.2.1.2, fun x hx y hy => hnd.2.2 x hx y (List.mem_cons_of_mem _ hy)⟩)
  exact ⟨_, h3, h4, h5⟩
end
theorem links_range {c : ConfS} {ws : List Nat} {m : Nat} (h : ∀ j, j ≤ m → ws.getD (ixN c (6 + j) 0) 0 = if j < m then 7 + j else 0) : ∀ (d j : Nat), j + d = m + 1 → Links c ws (if j ≤ m then 6 + j else 0) ((List.range' j d).map (6 + ·))
  | 0, j, hj => by
    rw [if_neg (by omega)]
    rfl
  | d + 1, j, hj => by
    rw [if_pos (by omega), List.range'_succ, List.map_cons]
    refine ⟨rfl, ?_⟩
    rw [h j (by omega)]
    have := links_range h d (j + 1) (by omega)
    by_cases e : j < m
    · rw [if_pos e]
      rw [if_pos (by omega)] at this
      rw [show 7 + j = 6 + (j + 1) by omega]
      exact this
    · rw [if_neg e]
      rw [if_neg (by omega)] at this
      exact this
theorem held_start (c : ConfS) : (gdK c 5).held = [5, 4, 3, 2, 1] := by
  show ((List.range 5).map (· + 1)).reverse = _
  decide
theorem start_rest17 {c : ConfS} (ho : c.Ok) : AtRest c (MS.start c (gdK c 5) c.thr.toNat) (L0 (c.slots.toNat - 5)) (List.replicate c.slots.toNat 0) [] 0 := by
  have hs1 := ho.s1
  have hs2 := ho.s2
  have hw0 : ∀ p, (∀ n, 1 ≤ n → p ≠ ixN c n 2 ∧ p ≠ ixN c n 4 ∧ p ≠ ixN c n 5) → (∀ j, p ≠ ixN c (6 + j) 0) → (words0 c).getD p 0 = ((((List.replicate (wordsN c) 0).set 0 1).set 1 3).set 2 (headN 6 0)).getD p 0 := fun p h1 h2 => by
    unfold words0
    rw [linkW_ne h2, treeW_ne h1]
  have hge := wordsN_ge ho
  have h2 : slotE ((words0 c).getD 2 0) = 6 := by
    rw [hw0 2 (fun n _ => ⟨ixN_two c n 2, ixN_two c n 4, ixN_two c n 5⟩) (fun j => ixN_two c _ 0), getD_set_eq (by simp; omega), slotE_head (by decide)]
  have hlk : ∀ j, j ≤ c.slots.toNat - 6 → (words0 c).getD (ixN c (6 + j) 0) 0 = if j < c.slots.toNat - 6 then 7 + j else 0 := fun j hj => by
    unfold words0
    rw [linkW_at ho (by rw [treeW_length]; simp) (c.slots.toNat - 6) j (by omega), treeW_ne (fun n hn => by unfold ixN; omega), base_far (by unfold ixN; omega)]
  refine ⟨ho, rfl, List.length_replicate .., start_rest, ⟨words0_length c, ?_, List.length_replicate .., rfl, fun s h1 h2 => ?_, fun g hg => ?_, ?_, ?_, fun s hs => ?_, ?_, fun s hs => ?_, fun s h1 h2 => ?_, rfl⟩, rfl, rfl, by show (0 : Int) ≤ 0; decide, by show (0 : Int) ≤ _; omega, by show (0 : Int) ≤ 0; decide, by show (0 : Int) ≤ _; omega, fun g hg => ?_, fun e he => (by cases he), List.nodup_nil⟩
  · exact linkW_small (treeW_small (base_small _ _)) _ (by omega)
  · show (words0 c).getD (ixN c s 1) 0 = _
    rw [hw0 _ (fun n hn => by unfold ixN; omega) (fun j => by unfold ixN; omega), base_far (by unfold ixN; omega), List.getD_eq_getElem?_getD, List.getElem?_replicate]
    split <;> rfl
  · rw [List.eq_of_mem_replicate hg]
    decide
  · show Links c (words0 c) (slotE ((words0 c).getD 2 0)) _
    rw [h2]
    have := links_range hlk (c.slots.toNat - 5) 0 (by omega)
    rw [if_pos (by omega)] at this
    unfold L0
    rw [List.range_eq_range']
    exact this
  · exact List.pairwise_map.2 (List.Pairwise.imp (fun {a b} (hab : a ≠ b) => by show 6 + a ≠ 6 + b; omega) List.nodup_range)
  · obtain ⟨k, hk, rfl⟩ := List.mem_map.1 hs
    have := List.mem_range.1 hk
    omega
  · rw [show (MS.start c (gdK c 5) c.thr.toNat).gd.held = [5, 4, 3, 2, 1] from held_start c]
    decide
  · rw [show (MS.start c (gdK c 5) c.thr.toNat).gd.held = [5, 4, 3, 2, 1] from held_start c] at hs
    simp only [List.mem_cons, List.not_mem_nil, or_false] at hs
    omega
  · rw [show (MS.start c (gdK c 5) c.thr.toNat).gd.held = [5, 4, 3, 2, 1] from held_start c]
    simp only [List.mem_cons, List.not_mem_nil, or_false]
    have e : s ∈ L0 (c.slots.toNat - 5) ↔ 6 ≤ s := by
      unfold L0
      rw [List.mem_map]
      constructor
      · rintro ⟨k, _, rfl⟩
        omega
      · intro h
        exact ⟨s - 6, List.mem_range.2 (by omega), by omega⟩
    rw [e]
    omega
  · rw [List.eq_of_mem_replicate hg]
    exact Nat.le_refl 0
end Go.Proofs.Ytlbhjahmgdghoaa
