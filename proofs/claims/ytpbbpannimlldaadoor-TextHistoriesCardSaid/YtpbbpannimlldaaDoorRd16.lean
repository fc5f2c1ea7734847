/- The closure that ReadHistory defers, by its contracts. No condition. -/
import Derived.Test.YtpbbpannimlldaaDoorRd5
namespace Go.Proofs.YtpbbpannimlldaaDoor
open Go.RowKit

theorem catch_his_idle (eb lb : Nat) (x : Value) (w : World) (hc : w.cell? ⟨eb, 0, none⟩ = some x) (hz : w.frozen? ⟨eb, 0, none⟩ = false) :
    CallsD Tryd.prog 31 #[.pointer (some ⟨eb, 0, none⟩), .pointer (some ⟨lb, 0, none⟩)] .returning w fun e u' w' => e = .returned (.tuple #[]) ∧ u' = .returning ∧ w' = w.setCell ⟨eb, 0, none⟩ (.int .i64 0) := by
  have KF := text_failed_nil w
  have hc2 : (w.setCell ⟨eb, 0, none⟩ (.int .i64 0)).cell? ⟨eb, 0, none⟩ = some (.int .i64 0) := World.cell?_setCell_same _ _ _ hc
  refine callsD_of_wpS Tryd.func31 rfl fun c₀ cs hu => ?_
  apply wpS_seq
  apply wpS_region
  simp [wpOpsS, go_sem, recoverD, hu, Tryd.ntmps31, Exit.thenS]
  refine KF.mono ?_
  rintro r y ⟨rfl, rfl⟩
  simp [wpOpsS, go_sem, hc, hz]
  apply wpS_seq
  apply wpS_region
  simp [wpOpsS, go_sem, hc2, hu, Exit.thenS]
  refine wpS_cond (t := false) (by simp [Act.eval, Array.replicate]) ?_
  simp only [Bool.false_eq_true, if_false]
  refine wpS_of_wp (wp_skip ?_)
  cases c₀
  simp_all [bodyPostS, results, Tryd.results31]
theorem catch_his_pan (eb lb : Nat) (x y : Value) (k : Int) (older : List PanicEntry) (w : World) (he : Blk w eb 27 #[x]) (hb : Blk w lb 39 #[y]) (hk : k ≠ 0) :
    CallsD Tryd.prog 31 #[.pointer (some ⟨eb, 0, none⟩), .pointer (some ⟨lb, 0, none⟩)] (.panicking ({ v := .iface 27 (.int .i64 k), recovered := false } :: older)) w fun e u' w' => e = .returned (.tuple #[]) ∧ u' = .panicking ({ v := .iface 27 (.int .i64 k), recovered := true } :: older) ∧ Keep [eb, lb] w w' ∧ Blk w' eb 27 #[.int .i64 k] ∧ Blk w' lb 39 #[.slice none 0 0] := by
  have KF := text_failed_err k w
  have hne : lb ≠ eb := hb.ne_ he (by decide)
  have hc : w.cell? ⟨eb, 0, none⟩ = some x := he.cell 0
  have hz := he.frozen 0
  have hc2 : (w.setCell ⟨eb, 0, none⟩ (.int .i64 k)).cell? ⟨eb, 0, none⟩ = some (.int .i64 k) := World.cell?_setCell_same _ _ _ hc
  have hb1 := hb.far (p := ⟨eb, 0, none⟩) hne (.int .i64 k)
  have he1 := he.set_ 0 (.int .i64 k)
  have hk1 : Keep [eb, lb] w (w.setCell ⟨eb, 0, none⟩ (.int .i64 k)) := (Keep.refl _ _).set_ _ (.inl (by simp))
  refine callsD_of_wpS Tryd.func31 rfl fun c₀ cs hu => ?_
  apply wpS_seq
  apply wpS_region
  simp [wpOpsS, go_sem, recoverD, hu, Tryd.ntmps31, Exit.thenS]
  refine KF.mono ?_
  rintro r y ⟨rfl, rfl⟩
  simp [go_sem, hc, hz]
  apply wpS_seq
  apply wpS_region
  simp [wpOpsS, go_sem, hc2, Exit.thenS]
  refine wpS_cond (t := true) (by simp [Act.eval, Array.replicate, hk]) ?_
  simp only [if_true]
  generalize w.setCell ⟨eb, 0, none⟩ (.int .i64 k) = w1 at *
  have hr0 : w1.cell? ⟨lb, 0, none⟩ = some _ := hb1.cell 0
  have hf0 := hb1.frozen 0
  apply wpS_region
  simp [wpOpsS, go_sem, hr0, hf0, bodyPostS, results, Tryd.results31]
  exact ⟨hk1.set_ (p := ⟨lb, 0, none⟩) _ (.inl (by simp)), he1.far (p := ⟨lb, 0, none⟩) (Ne.symm hne) _, hb1.set_ 0 _⟩
end Go.Proofs.YtpbbpannimlldaaDoor
