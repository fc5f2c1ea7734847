/- strconv.FormatUint at base 10 by its contract, over the library's contracts of its parts. Condition: the library's table of powers of ten is as it was laid. -/
import Derived.Test.YtpbbpannimlldaaDoorShf
import Derived.Test.YtpbbpannimlldaaDoorOwn
import Derived.Lib.AppendIntMem
import Derived.Lib.LaidTab
namespace Go.Proofs.YtpbbpannimlldaaDoor
open Go.RowKit Go.Sort

def TabOk (w : World) : Prop := Lib.TabIs Tryd.prog w "internal/strconv.uint64pow10" .u64 Lib.pow10Tab
theorem TabOk.keep {w w' : World} (h : TabOk w) (hk : Keep [] w w') : TabOk w' := by
  unfold TabOk Lib.TabIs World.var? at *
  cases hg : Tryd.prog.globalNamed "internal/strconv.uint64pow10" with
  | none => simp [hg] at h
  | some g =>
    simp only [hg, Option.bind_some] at h ⊢
    have hlt : g < w.heap.size := by
      rcases Nat.lt_or_ge g w.heap.size with h' | h'
      · exact h'
      · rw [Array.getElem?_eq_none h'] at h; simp at h
    rw [hk.block g hlt (by simp)]
    exact h
theorem keep_grow (w : World) (k : Nat) (os : Array Obj) : Keep [] w (grow (w.drewN k) os) := Keep.of_below (Lib.below_grow w.heap.size w (Nat.le_refl _) k os)
def TextOut (l : List UInt8) (w : World) (r : Ending) (w' : World) : Prop := r = .returned (.string ⟨l.toArray⟩) ∧ Keep [] w w'
end Go.Proofs.YtpbbpannimlldaaDoor
