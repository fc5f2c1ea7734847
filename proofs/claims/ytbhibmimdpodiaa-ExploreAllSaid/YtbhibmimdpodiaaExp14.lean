/- Three ints that come in: what they are; and ExploreAll's walks joined. Plain lemmas. -/
import Derived.Test.YtbhibmimdpodiaaExp13
import Derived.Test.YtbhibmimdpodiaaOpn3
namespace Go.Proofs.Ytbhibmimdpodiaa.Opn
open Go.ChangeShapes Go.WideShapes Go.Deep Go.RowKit

section
variable {H : Type} {enc : TypeId × Value → H} {W : World} {base : Nat} {spare : Nat → Bool} {held : Bool}
set_option maxRecDepth 100000 in
theorem three_of {r : Reach} {b0 : Nat} {v : Value} {d : DataW H} {p : List MemPlace} (hv : Value.okWide Try.prog W r b0 28 v) (h : DataW.Trod enc Try.prog W base spare held 28 v d p) : ∃ n0 n1 n2 : Int, v = .agg #[.int .i64 n0, .int .i64 n1, .int .i64 n2] := by
  obtain ⟨cs, rfl, hcs⟩ := okWide_arr Try.underlying28 hv
  obtain ⟨m, h⟩ := h
  have h' : DataW.trod enc Try.prog W base spare held m 28 cs.toList = some (d, p) := by simpa [Value.cells] using h
  obtain ⟨xs, k, _, _, hl, hxl, hg⟩ := DataW.trod_array Try.underlying28 h'
  have hl' : cs.toList.length = 3 := hl.trans (by kernel_rfl)
  have hc0 : Try.prog.cellsOf 3 = 1 := by kernel_rfl
  have hx : ∀ i, i < 3 → ∃ y, DataW.trod enc Try.prog W base spare held k 3 ((cs.toList.drop i).take 1) = some y := fun i hi => by
    have h1 := hg i hi
    rw [hc0, Nat.mul_one] at h1
    exact ⟨_, h1.trans (List.getElem?_eq_getElem (by omega))⟩
  obtain ⟨_, t0⟩ := hx 0 (by omega)
  obtain ⟨_, t1⟩ := hx 1 (by omega)
  obtain ⟨_, t2⟩ := hx 2 (by omega)
  obtain ⟨n0, e0, _, _⟩ := DataW.trod_int Try.underlying3 t0
  obtain ⟨n1, e1, _, _⟩ := DataW.trod_int Try.underlying3 t1
  obtain ⟨n2, e2, _, _⟩ := DataW.trod_int Try.underlying3 t2
  obtain ⟨l⟩ := cs
  match l, hl' with
  | [c0, c1, c2], _ =>
    simp at e0 e1 e2
    subst e0 e1 e2
    exact ⟨n0, n1, n2, rfl⟩
end
end Go.Proofs.Ytbhibmimdpodiaa.Opn
namespace Go.Proofs.Ytbhibmimdpodiaa
open Go.RowKit
theorem exploreAll_any (w : World) (t m k n till : Int) : Calls Try.prog 5 #[.agg #[.int .i64 t, .int .i64 m, .int .i64 k], .int .i64 n, .int .i64 till] w fun r w' => r = .returned (.bool true) ∧ Keep [] w w' := by
  by_cases h : RightP t m k
  · obtain ⟨h1, h2, h3, h4, h5, h6⟩ := h
    obtain ⟨T, rfl⟩ : ∃ T : Nat, t = (T : Int) := ⟨t.toNat, by omega⟩
    obtain ⟨M, rfl⟩ : ∃ M : Nat, m = (M : Int) := ⟨m.toNat, by omega⟩
    obtain ⟨K, rfl⟩ : ∃ K : Nat, k = (K : Int) := ⟨k.toNat, by omega⟩
    exact exploreAll_yes T M K n till w (by omega) (by omega) (by omega) (by omega) (by omega)
  · exact exploreAll_no t m k n till w h
end Go.Proofs.Ytbhibmimdpodiaa
