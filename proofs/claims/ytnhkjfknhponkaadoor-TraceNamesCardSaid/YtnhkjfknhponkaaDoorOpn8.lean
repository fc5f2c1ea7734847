/- A configuration, a change, a string that come in; the library's table where the laid list says so. Plain lemmas on reading data. -/
import Derived.Test.YtnhkjfknhponkaaDoorOpn2
import Derived.Test.YtnhkjfknhponkaaDoorNm6
import Derived.Test.YtnhkjfknhponkaaDoorRows
import Derived.Lib.LaidTab
import Derived.Stop.LaidErr
import Derived.LaidMore
import Derived.ChangeMaps5
import Derived.Lib.SmallJoins
namespace Go.Proofs.YtnhkjfknhponkaaDoor
namespace Opn
open Go.ChangeShapes Go.WideShapes Go.ChangeAt Go.Deep Go.RowKit Go.Joins

section
variable {H : Type} {enc : TypeId × Value → H} {W : World}
set_option maxRecDepth 100000 in
theorem conf_of {r : Reach} {b0 : Nat} {v : Value} {d : DataW H} {p : List MemPlace} (hv : Value.okWide Tryd.prog W r b0 32 v) (h : DataW.Trod enc Tryd.prog W 0 (fun _ => true) true 32 v d p) : ∃ c : ConfS, v = .agg c.cells := by
  obtain ⟨w0, w1, w2, y0, y1, y2, n, rfl, _, _, t0, t1, t2⟩ := open_agg3 Tryd.underlying32 (by kernel_rfl) (by kernel_rfl) hv h
  obtain ⟨m0, e0, _, _⟩ := DataW.trod_int Tryd.underlying3 t0
  obtain ⟨m1, e1, _, _⟩ := DataW.trod_int Tryd.underlying3 t1
  obtain ⟨m2, e2, _, _⟩ := DataW.trod_int Tryd.underlying25 t2
  simp only [List.cons.injEq, and_true] at e0 e1 e2
  subst e0 e1 e2
  exact ⟨⟨m0, m1, m2⟩, rfl⟩
theorem u64_of {fuel : Nat} {base : Nat} {spare : Nat → Bool} {held : Bool} {cs : List Value} {x : DataW H × List MemPlace} (h : DataW.trod enc Tryd.prog W base spare held fuel 25 cs = some x) : ∃ n : Nat, cs = [.int .u64 (n : Int)] ∧ n < 18446744073709551616 := by
  obtain ⟨m, rfl, _, hw⟩ := DataW.trod_int Tryd.underlying25 h
  simp [Lit.wf] at hw
  have h0 : 0 ≤ m := by have := hw.1; rwa [show IntKind.u64.min = 0 by decide] at this
  have h1 : m ≤ 18446744073709551615 := by have := hw.2; rwa [show IntKind.u64.max = 18446744073709551615 by decide] at this
  exact ⟨m.toNat, by rw [Int.toNat_of_nonneg h0], by omega⟩
set_option maxRecDepth 100000 in
theorem change_of {r : Reach} {b0 : Nat} {v : Value} {d : DataW H} {p : List MemPlace} (hv : Value.okWide Tryd.prog W r b0 27 v) (h : DataW.Trod enc Tryd.prog W 0 (fun _ => true) true 27 v d p) : ∃ x : ChS, v = chV x ∧ x.was < 18446744073709551616 ∧ x.now < 18446744073709551616 := by
  obtain ⟨w0, w1, w2, y0, y1, y2, n, rfl, _, _, t0, t1, t2⟩ := open_agg3 Tryd.underlying27 (by kernel_rfl) (by kernel_rfl) hv h
  obtain ⟨m0, e0, _, _⟩ := DataW.trod_int Tryd.underlying3 t0
  obtain ⟨m1, e1, h1⟩ := u64_of t1
  obtain ⟨m2, e2, h2⟩ := u64_of t2
  simp only [List.cons.injEq, and_true] at e0 e1 e2
  subst e0 e1 e2
  exact ⟨⟨m0, m1, m2⟩, rfl, h1, h2⟩
set_option maxRecDepth 100000 in
theorem str_of {r : Reach} {b0 : Nat} {v : Value} {d : DataW H} {p : List MemPlace} (hv : Value.okWide Tryd.prog W r b0 9 v) (h : DataW.Trod enc Tryd.prog W 0 (fun _ => true) true 9 v d p) : ∃ l : List UInt8, v = .string ⟨l.toArray⟩ := by
  obtain ⟨s, rfl, _, _, _⟩ := Go.ChangeMaps.open_string Tryd.underlying9 hv h
  exact ⟨s.data.toList, by cases s; simp⟩
end
/-- The laid list's third row is the library's table. -/
theorem tab_of {W : World} (h : laidMetH Tryd.prog [("math/bits.deBruijn32tab", Rows.laid_math_bits_deBruijn32tab), ("math/bits.deBruijn64tab", Rows.laid_math_bits_deBruijn64tab), ("internal/strconv.uint64pow10", Rows.laid_internal_strconv_uint64pow10)] W) : TabOk W := by
  rw [MakeChecks.laidMetH_plain _ _ _ (by kernel_rfl)] at h
  have h2 := h.tail.tail
  exact Lib.tabIs_of_head (g := 0) (t := 114) (e := 25) (n := 20) (by kernel_rfl) (by kernel_rfl) (by kernel_rfl) (by kernel_rfl) (by kernel_rfl) (by kernel_rfl) (zs := Lib.pow10Tab) (k := .u64) h2
end Opn
end Go.Proofs.YtnhkjfknhponkaaDoor
