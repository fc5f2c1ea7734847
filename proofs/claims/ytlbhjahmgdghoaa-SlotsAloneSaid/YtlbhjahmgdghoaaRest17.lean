/- A machine at rest, and the laws' Alone of Take and Give upon it. Conditions: few deeds were done. -/
import Derived.Test.YtlbhjahmgdghoaaWhole17
namespace Go.Proofs.Ytlbhjahmgdghoaa
open Go.RowKit

structure AtRest (c : ConfS) (s : MS) (L G had : List Nat) (n : Nat) : Prop where
  ok : c.Ok
  conf : s.conf = c
  thl : s.ths.length = c.thr.toNat
  idle : ∀ t, t ∈ s.ths → t.frs = []
  free : Free c s.mem.ws s.gd L G
  f1 : s.fault = false
  f2 : s.mem.fault = false
  a0 : 0 ≤ s.mem.acc
  a1 : s.mem.acc ≤ 4 * n
  s0 : 0 ≤ s.steps
  s1 : s.steps ≤ 4 * n
  gen : ∀ g, g ∈ G → g ≤ n
  hadI : ∀ e, e ∈ had → ∃ a, a ∈ s.gd.held ∧ e = mkE a (G.getD (a - 1) 0)
  hadN : (had.map slotE).Nodup
def OnePS (s : MS) (c : ConfS) (t : ThS) (fn : Int) (l : List Nat) : PS := onePS c s.mem.ws s.mem.acc s.gd t.ret t.ses t.row t.stk s.steps (FrS.made fn l)
theorem one_of {c : ConfS} {s : MS} {L G had : List Nat} {n : Nat} (h : AtRest c s L G had n) {t : ThS} (ht : t ∈ s.ths) (fn : Int) (l : List Nat) : ({ (s.part t) with th := t.pushed fn l } : PS) = OnePS s c t fn l := by
  have h1 := h.conf
  have h2 := h.f1
  have h3 := h.f2
  have h4 := h.idle t ht
  obtain ⟨conf, ⟨ws, acc, mf⟩, gd, ths, st, f⟩ := s
  obtain ⟨ret, ses, frs, row, stk⟩ := t
  simp only at h1 h2 h3 h4
  subst h1 h2 h3 h4
  rfl
/-- What a thread's run to its end makes of a machine at rest. -/
theorem rest_run {c : ConfS} {s : MS} {L G had : List Nat} {n : Nat} (h : AtRest c s L G had n) {k : Nat} {t : ThS} (ht : s.ths[k]? = some t) {fn : Int} {l : List Nat} {m : Nat} {q : PS} (he : EndsP m (OnePS s c t fn l) q) (hm : m ≤ 10) :
    RunsAt k 0 SlotsOk PS.slots (s.call k fn l) ∧ aloneGo PS.slots k 0 10 0 (s.call k fn l) = (s.join k q, m, true) := by
  have e := one_of h (List.mem_of_getElem? ht) fn l
  refine ⟨runsAt_call ht (f := m) (by rw [e]; exact he.1), ?_⟩
  rw [aloneGo_call ht, e]
  have := he.2 (10 - m) 0
  rw [Nat.sub_add_cancel hm, Nat.zero_add] at this
  rw [this]
/-- A machine at rest, a thread's return behind it. -/
theorem rest_next {c : ConfS} {s : MS} {L G had L' G' had' : List Nat} {n k : Nat} {t : ThS} {ws : List Nat} {acc st : Int} {gd : GuardS} {ret : List Nat} (h : AtRest c s L G had n) (ht : s.ths[k]? = some t) (hf : Free c ws gd L' G') (ha0 : 0 ≤ acc) (ha1 : acc ≤ s.mem.acc + 4) (hs0 : 0 ≤ st) (hs1 : st ≤ s.steps + 4)
    (hg : ∀ g, g ∈ G' → g ≤ n + 1) (hI : ∀ e, e ∈ had' → ∃ a, a ∈ gd.held ∧ e = mkE a (G'.getD (a - 1) 0)) (hN : (had'.map slotE).Nodup) :
    AtRest c (s.join k (donePS c ws acc gd ret t.ses t.row t.stk st)) L' G' had' (n + 1) ∧ (s.join k (donePS c ws acc gd ret t.ses t.row t.stk st)).ths[k]? = some ⟨ret, t.ses, [], t.row, t.stk⟩ := by
  have hk := (List.getElem?_eq_some_iff.1 ht).1
  have h1 := h.a1
  have h2 := h.s1
  refine ⟨⟨h.ok, rfl, ?_, ?_, hf, rfl, rfl, ha0, ?_, hs0, ?_, hg, hI, hN⟩, part_join hk⟩
  · show (s.ths.set k _).length = _
    rw [List.length_set]
    exact h.thl
  · intro t' ht'
    rcases List.mem_or_eq_of_mem_set (show t' ∈ s.ths.set k _ from ht') with h3 | h3
    · exact h.idle t' h3
    · rw [h3]
      rfl
  · show acc ≤ _
    omega
  · show st ≤ _
    omega
section
variable {c : ConfS} {s : MS} {L G had : List Nat} {n k : Nat} {t : ThS}
theorem rest_take {a : Nat} (h : AtRest c s (a :: L) G had n) (ht : s.ths[k]? = some t) (hn : n ≤ 1000) :
    ∃ s', RunsAt k 0 SlotsOk PS.slots (s.call k 1 []) ∧ aloneGo PS.slots k 0 10 0 (s.call k 1 []) = (s', 4, true) ∧ AtRest c s' L G (had ++ [mkE a (G.getD (a - 1) 0)]) (n + 1) ∧ ∃ t', s'.ths[k]? = some t' ∧ t'.ret.getD 0 0 = mkE a (G.getD (a - 1) 0) := by
  have h1 := h.a1
  have h2 := h.s1
  have he := ends_take (acc := s.mem.acc) (ret := t.ret) (ses := t.ses) (row := t.row) (stk := t.stk) (st := s.steps) h.free h.ok (by omega) h.s0 (by omega)
  obtain ⟨h3, h4⟩ := rest_run h ht (fn := 1) (l := []) he (by omega)
  obtain ⟨hf, hfe⟩ := h.free.takes h.ok
  have hra := h.free.rng a (by simp)
  have hs2 := h.ok.s2
  have hah : a ∉ s.gd.held := fun hm => ((h.free.part a hra.1 hra.2).1 hm) (by simp)
  have hh : (s.gd.takeS a).held = a :: s.gd.held := by rw [hfe]
  have ha0 := h.a0
  have hs0 := h.s0
  obtain ⟨h5, h6⟩ := rest_next (ret := padTo 12 [mkE a (G.getD (a - 1) 0)]) (acc := s.mem.acc + 1 + 1 + 1 + 1) (st := s.steps + 1 + 1 + 1 + 1) (had' := had ++ [mkE a (G.getD (a - 1) 0)]) h ht hf (by omega) (by omega) (by omega) (by omega) (fun g hg => Nat.le_succ_of_le (h.gen g hg)) (fun e he => by
    rw [hh]
    rcases List.mem_append.1 he with he | he
    · obtain ⟨b, hb, e2⟩ := h.hadI e he
      exact ⟨b, by simp [hb], e2⟩
    · exact ⟨a, by simp, List.mem_singleton.1 he⟩) (by
    rw [List.map_append, List.nodup_append]
    refine ⟨h.hadN, by simp, fun x hx y hy e => ?_⟩
    obtain ⟨e1, he1, rfl⟩ := List.mem_map.1 hx
    obtain ⟨b, hb, rfl⟩ := h.hadI e1 he1
    simp only [List.map_cons, List.map_nil, List.mem_singleton] at hy
    have hrb := h.free.hrng b hb
    rw [slotE_mkE (by omega)] at e
    rw [hy, slotE_mkE (by omega)] at e
    exact hah (e ▸ hb))
  exact ⟨_, h3, h4, h5, _, h6, by simp [padTo]⟩
theorem rest_take0 (h : AtRest c s [] G had n) (ht : s.ths[k]? = some t) (hn : n ≤ 1000) :
    ∃ s', RunsAt k 0 SlotsOk PS.slots (s.call k 1 []) ∧ aloneGo PS.slots k 0 10 0 (s.call k 1 []) = (s', 2, true) ∧ AtRest c s' [] G had (n + 1) ∧ ∃ t', s'.ths[k]? = some t' ∧ t'.ret.getD 0 0 = 0 := by
  have h1 := h.a1
  have h2 := h.s1
  have he := ends_take0 (acc := s.mem.acc) (ret := t.ret) (ses := t.ses) (row := t.row) (stk := t.stk) (st := s.steps) h.free h.ok (by omega) h.s0 (by omega)
  obtain ⟨h3, h4⟩ := rest_run h ht (fn := 1) (l := []) he (by omega)
  have ha0 := h.a0
  have hs0 := h.s0
  obtain ⟨h5, h6⟩ := rest_next (ret := padTo 12 [0]) (acc := s.mem.acc + 1) (st := s.steps + 1 + 1) (had' := had) h ht h.free (by omega) (by omega) (by omega) (by omega) (fun g hg => Nat.le_succ_of_le (h.gen g hg)) h.hadI h.hadN
  exact ⟨_, h3, h4, h5, _, h6, by simp [padTo]⟩
theorem rest_give {j e : Nat} (h : AtRest c s L G had n) (ht : s.ths[k]? = some t) (hn : n ≤ 1000) (hj : had[j]? = some e) :
    1 ≤ slotE e ∧ slotE e ≤ G.length ∧ G.getD (slotE e - 1) 0 ≤ n ∧ ∃ s', RunsAt k 0 SlotsOk PS.slots (s.call k 2 [e]) ∧ aloneGo PS.slots k 0 10 0 (s.call k 2 [e]) = (s', 4, true) ∧ AtRest c s' (slotE e :: L) (G.set (slotE e - 1) (G.getD (slotE e - 1) 0 + 1)) (had.take j ++ had.drop (j + 1)) (n + 1) := by
  obtain ⟨a, ha, rfl⟩ := h.hadI e (List.mem_of_getElem? hj)
  have hra := h.free.hrng a ha
  have hs2 := h.ok.s2
  have hgl := h.free.glen
  have hlt : a < 4096 := by omega
  rw [slotE_mkE hlt]
  have hgn : G.getD (a - 1) 0 ≤ n := by
    rw [List.getD_eq_getElem?_getD]
    cases hx : G[a - 1]? with
    | none => simp
    | some x => exact h.gen x (List.mem_of_getElem? hx)
  refine ⟨hra.1, by omega, hgn, ?_⟩
  generalize hg : G.getD (a - 1) 0 = g at *
  have h1 := h.a1
  have h2 := h.s1
  have he := ends_give (acc := s.mem.acc) (ret := t.ret) (ses := t.ses) (row := t.row) (stk := t.stk) (st := s.steps) h.free h.ok ha hg (by omega) (by omega) h.s0 (by omega)
  obtain ⟨h3, h4⟩ := rest_run h ht (fn := 2) (l := [mkE a g]) he (by omega)
  obtain ⟨hf, hfe⟩ := h.free.gives h.ok ha hg (by omega)
  have hh : (s.gd.dropS (mkE a g)).held = s.gd.held.erase a := by rw [hfe]
  have ha0 := h.a0
  have hs0 := h.s0
  have hsp : had = had.take j ++ mkE a g :: had.drop (j + 1) := by
    have hjl := (List.getElem?_eq_some_iff.1 hj)
    obtain ⟨hj1, hj2⟩ := hjl
    rw [← hj2]
    rw [← List.drop_eq_getElem_cons hj1, List.take_append_drop]
  have hnd := h.hadN
  rw [hsp, List.map_append, List.map_cons, List.nodup_append, List.nodup_cons, slotE_mkE hlt] at hnd
  have hsub : ∀ x, x ∈ had.take j ++ had.drop (j + 1) → x ∈ had ∧ slotE x ≠ a := fun x hx => by
    rcases List.mem_append.1 hx with hx | hx
    · exact ⟨List.mem_of_mem_take hx, fun e => hnd.2.2 (slotE x) (List.mem_map.2 ⟨x, hx, rfl⟩) a (by simp) e⟩
    · exact ⟨List.mem_of_mem_drop hx, fun e => hnd.2.1.1 (List.mem_map.2 ⟨x, hx, e⟩)⟩
  obtain ⟨h5, h6⟩ := rest_next (ret := padTo 12 []) (acc := s.mem.acc + 1 + 1 + 1 + 1) (st := s.steps + 1 + 1 + 1 + 1) (had' := had.take j ++ had.drop (j + 1)) h ht hf (by omega) (by omega) (by omega) (by omega) (fun x hx => (List.mem_or_eq_of_mem_set hx).elim (fun hx => Nat.le_succ_of_le (h.gen x hx)) (fun e => by omega)) (fun x hx => by
    rw [hh]
    obtain ⟨hx1, hx2⟩ := hsub x hx
    obtain ⟨b, hb, rfl⟩ := h.hadI x hx1
    have hrb := h.free.hrng b hb
    rw [slotE_mkE (by omega)] at hx2
    refine ⟨b, (List.mem_erase_of_ne hx2).2 hb, ?_⟩
    rw [getD_set_ne (by omega)]) (by
    rw [List.map_append, List.nodup_append]
    exact ⟨hnd.1, hnd.2.1.2, fun x hx y hy => hnd.2.2 x hx y (List.mem_cons_of_mem _ hy)⟩)
  exact ⟨_, h3, h4, h5⟩
end
end Go.Proofs.Ytlbhjahmgdghoaa
