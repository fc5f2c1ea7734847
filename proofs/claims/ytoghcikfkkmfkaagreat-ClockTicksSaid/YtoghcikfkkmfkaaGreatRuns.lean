/- A run of a thread alone, reckoned: a checker whose word gives 'Drives'. Plain lemmas. -/
import Derived.Test.YtoghcikfkkmfkaaGreatAlone
import Derived.Test.YtoghcikfkkmfkaaGreatNew2
namespace Go.Proofs.YtoghcikfkkmfkaaGreat
open Go.RowKit

def okB (q : PS) : Bool :=
  decide (q.mem.acc ≤ 4611686018427387904) && decide (0 < q.th.frs.length) && q.th.top.r.all (fun x => decide (x < 2 ^ 64)) && decide (q.gd.slips ≤ 4611686018427387904) && q.gd.gens.all (fun x => decide (x < 2 ^ 64))
def roomB (s : MS) (q : PS) : Bool :=
  decide (0 ≤ s.steps) && decide (s.steps ≤ 4611686018427387904) && decide (s.mem.acc ≤ 4611686018427387904) && decide (q.mem.acc ≤ 4611686018427387999) && decide (q.steps = s.steps)
def checkB (k n : Nat) (step : PS → PS) (s : MS) : Bool := match s.ths[k]? with
  | some t => decide (n < t.frs.length) && okB (s.part t) && roomB s (step (s.part t))
  | none => false
def drivesB (k n : Nat) (step : PS → PS) : Nat → MS → Bool
  | 0, _ => false
  | f + 1, s => checkB k n step s && (decide ((s.run1 k step).depth k ≤ n) || drivesB k n step f (s.run1 k step))
theorem okB_ok {q : PS} (h : okB q = true) : SlotsOk q := by
  unfold okB at h
  simp only [Bool.and_eq_true, decide_eq_true_eq, List.all_eq_true] at h
  obtain ⟨⟨⟨⟨h1, h2⟩, h3⟩, h4⟩, h6⟩ := h
  refine ⟨⟨h1, h2, fun k => ?_, h4⟩, h6⟩
  unfold FrS.reg
  rw [List.getD_eq_getElem?_getD]
  cases hx : q.th.top.r[k]? with
  | none => simp
  | some x => exact h3 x (List.mem_of_getElem? hx)
theorem roomB_ok {s : MS} {q : PS} (h : roomB s q = true) : Room s q := by
  unfold roomB at h
  simp only [Bool.and_eq_true, decide_eq_true_eq] at h
  exact ⟨h.1.1.1.1, h.1.1.1.2, h.1.1.2, h.1.2, h.2⟩
theorem drives_of (k n : Nat) (step : PS → PS) : Drives (fun s => ∃ f, drivesB k n step f s = true) k n SlotsOk step := by
  intro s ⟨f, hf⟩
  cases f with
  | zero => cases hf
  | succ f =>
    unfold drivesB at hf
    rw [Bool.and_eq_true] at hf
    obtain ⟨h1, h2⟩ := hf
    unfold checkB at h1
    cases ht : s.ths[k]? with
    | none => rw [ht] at h1; cases h1
    | some t =>
      rw [ht] at h1
      simp only [Bool.and_eq_true, decide_eq_true_eq] at h1
      refine ⟨t, rfl, h1.1.1, okB_ok h1.1.2, roomB_ok h1.2, fun hn => ⟨f, ?_⟩⟩
      rw [run1_of ht, depth_of (ran_at ht)] at h2
      simp only [Bool.or_eq_true, decide_eq_true_eq] at h2
      rcases h2 with h2 | h2
      · omega
      · exact h2
/-- The chapter's example. -/
def liveC : ConfS := ⟨1, 7, 5⟩
def live0 : MS := MS.start liveC (gdK liveC 5) 1
def livesTake (s : MS) : MS := (aloneGo PS.slots 0 0 50 0 (s.call 0 1 [])).1
def live1 : MS := livesTake live0
def live2 : MS := livesTake live1
def live3 : MS := livesTake live2
theorem liveOk : liveC.Ok := ⟨by decide, by decide, by decide, by decide, by decide, by decide⟩
theorem live_d1 : drivesB 0 0 PS.slots 9 (live0.call 0 1 []) = true := by decide +kernel
theorem live_d2 : drivesB 0 0 PS.slots 9 (live1.call 0 1 []) = true := by decide +kernel
theorem live_d3 : drivesB 0 0 PS.slots 9 (live2.call 0 1 []) = true := by decide +kernel
theorem live_e1 : (aloneGo PS.slots 0 0 50 0 (live0.call 0 1 [])).2 = (4, true) := by decide +kernel
theorem live_e2 : (aloneGo PS.slots 0 0 50 0 (live1.call 0 1 [])).2 = (4, true) := by decide +kernel
theorem live_e3 : (aloneGo PS.slots 0 0 50 0 (live2.call 0 1 [])).2 = (2, true) := by decide +kernel
theorem live_t0 : live0.ths.map (fun t => t.frs.length) = [0] := by decide +kernel
theorem live_t1 : live1.ths.map (fun t => (t.frs.length, t.ret.getD 0 0)) = [(0, 6)] := by decide +kernel
theorem live_t2 : live2.ths.map (fun t => (t.frs.length, t.ret.getD 0 0)) = [(0, 7)] := by decide +kernel
theorem live_t3 : live3.ths.map (fun t => (t.frs.length, t.ret.getD 0 0)) = [(0, 0)] := by decide +kernel
end Go.Proofs.YtoghcikfkkmfkaaGreat
