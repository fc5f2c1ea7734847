/- The routines that examples call, alone: plain steps. Conditions: the machine in memory. -/
import Derived.Test.YtoghcikfkkmfkaaGreatRuns
namespace Go.Proofs.YtoghcikfkkmfkaaGreat
open Go.RowKit

theorem lives_take {w : World} {i : MI} {s : MS} (h : MachAt w i s) (hl : s.ths.map (fun t => t.frs.length) = [0]) (hd : drivesB 0 0 PS.slots 9 (s.call 0 1 []) = true) :
    Calls Tryz.prog 32 #[.pointer (some ⟨i.m, 0, none⟩), .int .i64 0, .func (.func 103) #[] #[], .int .i64 50, .int .i64 1, .slice none 0 0] w (AloneOut w i (aloneGo PS.slots 0 0 50 0 (s.call 0 1 []))) := by
  cases hs : s.ths with
  | nil => rw [hs] at hl; cases hl
  | cons t l =>
    rw [hs] at hl
    simp only [List.map_cons, List.cons.injEq] at hl
    have h2 : s.ths[0]? = some t := by rw [hs]; rfl
    have := alone17 slots_do enter_slots (fun s => ∃ f, drivesB 0 t.frs.length PS.slots f s = true) w i s h 0 t h2 (by omega) 50 (by omega) 1 (.slice none 0 0) [] (.inl ⟨rfl, rfl⟩) (by simp) ⟨9, by rw [hl.1]; exact hd⟩ (drives_of 0 t.frs.length PS.slots)
    rw [hl.1] at this
    exact this
theorem ret0 {w : World} {i : MI} {s : MS} {ti : ThI} {d v : Nat} (h : MachAt w i s) (hk : i.tis[0]? = some ti) (hl : s.ths.map (fun t => (t.frs.length, t.ret.getD 0 0)) = [(d, v)]) : w.cell? ⟨ti.tb, 0, none⟩ = some (.int .u64 (v : Nat)) := by
  cases hs : s.ths with
  | nil => rw [hs] at hl; cases hl
  | cons t l =>
    rw [hs] at hl
    simp only [List.map_cons, List.cons.injEq, Prod.mk.injEq] at hl
    have h2 : s.ths[0]? = some t := by rw [hs]; rfl
    have ht := h.th 0 ti t hk h2
    rw [ht.ht.cell]
    have := ht.rl
    have e : t.ret.getD 0 0 = v := hl.1.2
    cases hr : t.ret with
    | nil => rw [hr] at this; cases this
    | cons a b =>
      rw [hr] at e
      simp at e
      simp [thCells, u64s, hr, e]
theorem len_of {s : MS} {d v : Nat} (hl : s.ths.map (fun t => (t.frs.length, t.ret.getD 0 0)) = [(d, v)]) : s.ths.map (fun t => t.frs.length) = [d] := by
  have := congrArg (List.map Prod.fst) hl
  simpa using this
def LivesOut (w : World) (r : Ending) (w' : World) : Prop := r = .returned (.bool true) ∧ Keep [] w w'
theorem live_keep {w w1 w2 : World} {i i2 : MI} (hn : ∀ x, x ∈ i.foot → w.heap.size ≤ x) (hk : Keep [] w w1) (hg : Goes w1 w2 i i2) : Keep [] w w2 := hk.trans hg.keep (fun x hx => .inr (hn x hx))
end Go.Proofs.YtoghcikfkkmfkaaGreat
