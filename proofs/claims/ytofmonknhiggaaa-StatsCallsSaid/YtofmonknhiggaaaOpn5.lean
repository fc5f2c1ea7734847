/- Sums, and two numbers, that come in: what they are. Plain lemmas on reading data. -/
import Derived.Test.YtofmonknhiggaaaOpn2
import Derived.Test.YtofmonknhiggaaaSt7
namespace Go.Proofs.Ytofmonknhiggaaa.Opn
open Go.ChangeShapes Go.WideShapes Go.Deep Go.RowKit

section
variable {H : Type} {enc : TypeId × Value → H} {W : World} {base : Nat} {spare : Nat → Bool} {held : Bool}
theorem okWide_arr {P : Program} {r : Reach} {b0 n : Nat} {t e : TypeId} {v : Value} (ht : P.underlying t = some (.array n e)) (h : Value.okWide P W r b0 t v) : ∃ cs, v = .agg cs ∧ cs.size = P.cellsOf t := by
  simp only [Value.okWide, ht] at h
  obtain ⟨cs, h1, h2, _⟩ := h
  exact ⟨cs, h1, h2⟩
theorem one_at {cs : List Value} {k : Nat} {v : Value} (h : (cs.drop k).take 1 = [v]) : cs[k]? = some v := by
  have := congrArg (fun l => l[0]?) h
  simp only [List.getElem?_take_of_lt (by decide : 0 < 1), List.getElem?_drop, Nat.add_zero] at this
  exact this
theorem arr_ints {t : TypeId} {n fuel : Nat} {cs : List Value} {x : DataW H × List MemPlace} (ht : Try.prog.underlying t = some (.array n 3)) (h : DataW.trod enc Try.prog W base spare held fuel t cs = some x) : ∀ i, i < n → ∃ m : Int, cs[i]? = some (.int .i64 m) := by
  obtain ⟨xs, k, _, _, hl, hxl, hg⟩ := DataW.trod_array ht h
  have hc0 : Try.prog.cellsOf 3 = 1 := by kernel_rfl
  intro i hi
  have h1 := hg i hi
  rw [hc0, Nat.mul_one] at h1
  obtain ⟨m, e, _, _⟩ := DataW.trod_int Try.underlying3 (h1.trans (List.getElem?_eq_getElem (by omega)))
  exact ⟨m, one_at e⟩
theorem sub_at {cs : List Value} {o n i : Nat} {v : Value} (hi : i < n) (h : ((cs.drop o).take n)[i]? = some v) : cs[o + i]? = some v := by
  rw [List.getElem?_take_of_lt hi, List.getElem?_drop] at h
  exact h
theorem ints_list {cs : List Value} (h : ∀ i, i < cs.length → ∃ m : Int, cs[i]? = some (.int .i64 m)) : ∃ xs : List Int, cs = sumC xs := by
  refine ⟨cs.map fun v => match v with | .int _ m => m | _ => 0, ?_⟩
  apply List.ext_getElem?
  intro i
  unfold sumC
  rw [List.getElem?_map, List.getElem?_map]
  by_cases hi : i < cs.length
  · obtain ⟨m, hm⟩ := h i hi
    rw [hm]
    rfl
  · rw [List.getElem?_eq_none (by omega)]
    rfl
theorem sum_of {r : Reach} {b0 : Nat} {v : Value} {d : DataW H} {p : List MemPlace} (hv : Value.okWide Try.prog W r b0 29 v) (h : DataW.Trod enc Try.prog W base spare held 29 v d p) : ∃ xs : List Int, v = .agg (sumC xs).toArray ∧ xs.length = 42 := by
  obtain ⟨cs, rfl, hcs⟩ := okWide_struct Try.underlying29 hv
  obtain ⟨m, h⟩ := h
  have h' : DataW.trod enc Try.prog W base spare held m 29 cs.toList = some (d, p) := by simpa [Value.cells] using h
  have hl : cs.toList.length = 42 := (trod_len Try.underlying29 h').trans (by kernel_rfl)
  obtain ⟨_, _, t0⟩ := trod_at (ty := 25) (o := 0) (k := 15) Try.underlying29 h' 0 _ rfl rfl rfl (by kernel_rfl)
  obtain ⟨_, _, t1⟩ := trod_at (ty := 25) (o := 15) (k := 15) Try.underlying29 h' 1 _ rfl rfl rfl (by kernel_rfl)
  obtain ⟨_, _, t2⟩ := trod_at (ty := 26) (o := 30) (k := 9) Try.underlying29 h' 2 _ rfl rfl rfl (by kernel_rfl)
  obtain ⟨_, _, t3⟩ := trod_at (ty := 3) (o := 39) (k := 1) Try.underlying29 h' 3 _ rfl rfl rfl (by kernel_rfl)
  obtain ⟨_, _, t4⟩ := trod_at (ty := 3) (o := 40) (k := 1) Try.underlying29 h' 4 _ rfl rfl rfl (by kernel_rfl)
  obtain ⟨_, _, t5⟩ := trod_at (ty := 3) (o := 41) (k := 1) Try.underlying29 h' 5 _ rfl rfl rfl (by kernel_rfl)
  have a0 := arr_ints Try.underlying25 t0
  have a1 := arr_ints Try.underlying25 t1
  have a2 := arr_ints Try.underlying26 t2
  obtain ⟨n3, e3, _, _⟩ := DataW.trod_int Try.underlying3 t3
  obtain ⟨n4, e4, _, _⟩ := DataW.trod_int Try.underlying3 t4
  obtain ⟨n5, e5, _, _⟩ := DataW.trod_int Try.underlying3 t5
  obtain ⟨xs, hxs⟩ := ints_list (cs := cs.toList) (fun i hi => by
    rw [hl] at hi
    by_cases h15 : i < 15
    · obtain ⟨m, hm⟩ := a0 i h15
      exact ⟨m, by have := sub_at h15 hm; rwa [Nat.zero_add] at this⟩
    by_cases h30 : i < 30
    · obtain ⟨m, hm⟩ := a1 (i - 15) (by omega)
      exact ⟨m, by have := sub_at (by omega) hm; rwa [show 15 + (i - 15) = i by omega] at this⟩
    by_cases h39 : i < 39
    · obtain ⟨m, hm⟩ := a2 (i - 30) (by omega)
      exact ⟨m, by have := sub_at (by omega) hm; rwa [show 30 + (i - 30) = i by omega] at this⟩
    have : i = 39 ∨ i = 40 ∨ i = 41 := by omega
    rcases this with rfl | rfl | rfl
    · exact ⟨n3, one_at e3⟩
    · exact ⟨n4, one_at e4⟩
    · exact ⟨n5, one_at e5⟩)
  refine ⟨xs, ?_, ?_⟩
  · rw [← hxs]
  · rw [hxs, sumC_len] at hl
    exact hl
theorem two_of {r : Reach} {b0 : Nat} {v : Value} {d : DataW H} {p : List MemPlace} (hv : Value.okWide Try.prog W r b0 32 v) (h : DataW.Trod enc Try.prog W base spare held 32 v d p) : ∃ n0 n1 : Int, v = .agg #[.int .i64 n0, .int .i64 n1] := by
  obtain ⟨cs, rfl, hcs⟩ := okWide_arr Try.underlying32 hv
  obtain ⟨m, h⟩ := h
  have h' : DataW.trod enc Try.prog W base spare held m 32 cs.toList = some (d, p) := by simpa [Value.cells] using h
  have hl : cs.toList.length = 2 := by rw [Array.length_toList, hcs]; kernel_rfl
  have a0 := arr_ints Try.underlying32 h'
  obtain ⟨n0, e0⟩ := a0 0 (by decide)
  obtain ⟨n1, e1⟩ := a0 1 (by decide)
  obtain ⟨l⟩ := cs
  match l, hl with
  | [c0, c1], _ =>
    simp at e0 e1
    subst e0 e1
    exact ⟨n0, n1, rfl⟩
end
end Go.Proofs.Ytofmonknhiggaaa.Opn
