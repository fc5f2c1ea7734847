/- Package core: its getters, tree and words by their contracts. Conditions: the machine's block is known, or the receiver is nil; the configuration may be. -/
import Derived.Test.YtoghcikfkkmfkaaGreatPart
import Derived.Test.YtoghcikfkkmfkaaGreatEdge
import Derived.Test.YtoghcikfkkmfkaaGreatMem3
namespace Go.Proofs.YtoghcikfkkmfkaaGreat
open Go.RowKit

def machCells (vp vm vg vt : Value) (n : Int) (f : Bool) : Array Value := #[vp, vm, vg, vt, .int .i64 n, .bool f]
section
variable (w : World) (m : Nat) (vp vm vg vt : Value) (n : Int) (f : Bool)
theorem core_mem (h : Blk w m 108 (machCells vp vm vg vt n f)) : Calls Tryz.prog 12 #[ptr m] w fun r w' => r = .returned vm ∧ w = w' := by
  have hc := h.cell
  unfold machCells at hc
  unfold ptr
  clear h
  go_enter Tryz.func12, Tryz.ntmps12
  go_wp2
  go_ret
  exact ⟨rfl, rfl⟩
theorem core_guard (h : Blk w m 108 (machCells vp vm vg vt n f)) : Calls Tryz.prog 19 #[ptr m] w fun r w' => r = .returned vg ∧ w = w' := by
  have hc := h.cell
  unfold machCells at hc
  unfold ptr
  clear h
  go_enter Tryz.func19, Tryz.ntmps19
  go_wp2
  go_ret
  exact ⟨rfl, rfl⟩
theorem core_plan (h : Blk w m 108 (machCells vp vm vg vt n f)) : Calls Tryz.prog 44 #[ptr m] w fun r w' => r = .returned vp ∧ w = w' := by
  have hc := h.cell
  unfold machCells at hc
  unfold ptr
  clear h
  go_enter Tryz.func44, Tryz.ntmps44
  go_wp2
  go_ret
  exact ⟨rfl, rfl⟩
theorem core_threads {A : Option Addr} {l cap : Nat} (h : Blk w m 108 (machCells vp vm vg (.slice A l cap) n f)) : Calls Tryz.prog 131 #[ptr m] w fun r w' => r = .returned (.int .i64 l) ∧ w = w' := by
  have hc := h.cell
  unfold machCells at hc
  unfold ptr
  clear h
  go_enter Tryz.func131, Tryz.ntmps131
  go_wp2
  go_ret
  exact ⟨rfl, rfl⟩
theorem core_thread_nil (t : Int) : Calls Tryz.prog 11 #[.pointer none, .int .i64 t] w fun r w' => r = .returned (.pointer none) ∧ w = w' := by
  go_enter Tryz.func11, Tryz.ntmps11
  go_wp2
  go_ret
  exact ⟨rfl, rfl⟩
theorem core_thread_no {A : Option Addr} {l cap : Nat} (t : Int) (h : Blk w m 108 (machCells vp vm vg (.slice A l cap) n f)) (ht : t < 0 ∨ (l : Int) ≤ t) : Calls Tryz.prog 11 #[ptr m, .int .i64 t] w fun r w' => r = .returned (.pointer none) ∧ w = w' := by
  have hc := h.cell
  unfold machCells at hc
  unfold ptr
  clear h
  by_cases h0 : t < 0
  · clear ht
    go_enter Tryz.func11, Tryz.ntmps11
    go_wp2
    go_ret
    exact ⟨rfl, rfl⟩
  · have h1 : (l : Int) ≤ t := by omega
    clear ht
    go_enter Tryz.func11, Tryz.ntmps11
    go_wp2
    go_ret
    exact ⟨rfl, rfl⟩
theorem core_thread {g l cap : Nat} (t : Nat) (v : Value) (h : Blk w m 108 (machCells vp vm vg (.slice (some ⟨g, 0, none⟩) l cap) n f)) (ht : t < l) (hv : w.cell? ⟨g, t, none⟩ = some v) : Calls Tryz.prog 11 #[ptr m, .int .i64 t] w fun r w' => r = .returned v ∧ w = w' := by
  have hc := h.cell
  unfold machCells at hc
  unfold ptr
  clear h
  go_enter Tryz.func11, Tryz.ntmps11
  go_wp2
  go_ret
  exact ⟨rfl, rfl⟩
theorem core_fault_nil : Calls Tryz.prog 21 #[.pointer none] w fun r w' => r = .returned (.bool false) ∧ w = w' := by
  go_enter Tryz.func21, Tryz.ntmps21
  go_wp2
  go_ret
  exact ⟨rfl, rfl⟩
end
theorem core_fault (w : World) (m : Nat) (vp vt : Value) (n : Int) (f : Bool) (mi : MemI) (ms : MemS) (gi : GuardI) (gs : GuardS) (hM : Blk w m 108 (machCells vp (ptr mi.mb) (ptr gi.gb) vt n f)) (h1 : MemAt w mi ms) (h2 : GuardAt w gi gs) :
    Calls Tryz.prog 21 #[ptr m] w fun r w' => r = .returned (.bool (f || ms.fault || decide (0 < gs.slips))) ∧ w = w' := by
  have hc := hM.cell
  unfold machCells at hc
  have K1 := Lib.hid (mem_fault w mi ms h1)
  have K2 := Lib.hid (guard_slips w gi gs h2)
  clear hM h1 h2
  unfold ptr at *
  cases hf : f with
  | true =>
    subst hf
    go_enter Tryz.func21, Tryz.ntmps21
    go_wp2
    go_ret
    exact ⟨by simp, rfl⟩
  | false =>
    subst hf
    cases hm : ms.fault with
    | true =>
      rw [hm] at K1
      go_enter Tryz.func21, Tryz.ntmps21
      go_wp2_with fail
      refine K1.out.mono ?_
      rintro e w' ⟨rfl, rfl⟩
      go_wp2
      go_ret
      exact ⟨by simp, rfl⟩
    | false =>
      rw [hm] at K1
      go_enter Tryz.func21, Tryz.ntmps21
      go_wp2_with fail
      refine K1.out.mono ?_
      rintro e w' ⟨rfl, rfl⟩
      go_wp2_with fail
      refine K2.out.mono ?_
      rintro e w' ⟨rfl, rfl⟩
      go_wp2
      go_ret
      exact ⟨by simp, rfl⟩
end Go.Proofs.YtoghcikfkkmfkaaGreat
