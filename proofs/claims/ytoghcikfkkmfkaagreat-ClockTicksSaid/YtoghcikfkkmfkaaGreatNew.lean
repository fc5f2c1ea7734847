/- Package core: New by its contract. No condition: the configuration that may not be is refused. -/
import Derived.Test.YtoghcikfkkmfkaaGreatMach
import Derived.Deep.RegionWith
import Derived.Deep.DeepCutAuto
namespace Go.Proofs.YtoghcikfkkmfkaaGreat
open Go.RowKit

def MS.start (c : ConfS) (gd : GuardS) (k : Nat) : MS := ⟨c, ⟨words0 c, 0, false⟩, gd, List.replicate k ThS.zero, 0, false⟩
/-- A machine that is being made: all its blocks are new. -/
structure NewAt (c : ConfS) (w wr : World) (i : MI) (gd : GuardS) (k : Nat) : Prop where
  hm : MachAt wr i (MS.start c gd k)
  new : ∀ x, x ∈ i.foot → w.heap.size ≤ x
  np : w.heap.size ≤ i.p
  hk : Keep [] w wr
theorem NewAt.start {c : ConfS} {w w5 : World} {p : Nat} {mi : MemI} {gi : GuardI} {gd : GuardS} (hp : PlanAt w5 p c) (ho : c.Ok) (hm : MemAt w5 mi ⟨words0 c, 0, false⟩) (hg : GuardAt w5 gi gd) (hwg : mi.wb ≠ gi.gsb)
    (hk : Keep [] w w5) (h1 : w.heap.size ≤ mi.mb) (h2 : w.heap.size ≤ mi.wb) (h3 : w.heap.size ≤ gi.gb) (h4 : w.heap.size ≤ gi.gsb) (h5 : w.heap.size ≤ gi.hb) (h6 : w.heap.size ≤ p) :
    NewAt c w (w5.alloc (.cells (machCells (ptr p) (ptr mi.mb) (ptr gi.gb) (.slice none 0 0) 0 false) 108)) ⟨w5.heap.size, p, mi, gi, .slice none 0 0, []⟩ gd 0 := by
  refine ⟨⟨Blk.new _ _ _, hp.alloc _, ho, hm.alloc _, hg.alloc _, ?_, rfl, by simp, by simp, by simp, hwg, by simp⟩, ?_, h6, hk.alloc _⟩
  · exact World.ownsRow_nil _ _ _ _
  · intro x hx
    have := hk.size
    rcases MI.mem_foot.1 hx with rfl | rfl | rfl | rfl | rfl | rfl | hx | ⟨ti, hm, hx⟩ <;> first | assumption | (simp at hm) | skip
    cases hx
theorem core_new_no (c : ConfS) (w : World) (h : ¬ c.Ok) : Calls Tryz.prog 10 #[.agg c.cells] w fun r w' => r = .returned (.tuple #[.pointer none, .int .i64 1]) ∧ Keep [] w w' := by
  have HN := Lib.hid (fun w => plan_new_no c w h)
  obtain ⟨t, s, q⟩ := c
  simp only [ConfS.cells] at HN ⊢
  clear h
  go_enter Tryz.func10, Tryz.ntmps10
  go_wp2_with fail
  refine (HN.out _).mono ?_
  rintro r w' ⟨rfl, hk⟩
  have HK := Lib.hid hk
  clear hk
  go_wp2
  go_ret2
  exact ⟨rfl, ((Keep.refl [] w).alloc _).trans HK.out (by simp)⟩
end Go.Proofs.YtoghcikfkkmfkaaGreat
