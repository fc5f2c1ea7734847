/- Words and changes that come in: what they are. Plain lemmas on reading data. -/
import Derived.Test.YtnhkjfknhponkaaDoorOpn2
import Derived.Test.YtnhkjfknhponkaaDoorTrP
namespace Go.Proofs.YtnhkjfknhponkaaDoor
namespace Opn
open Go.ChangeShapes Go.WideShapes Go.Deep Go.RowKit

theorem flat_u64 (l : List Nat) : (l.flatMap fun n : Nat => [Value.int .u64 (n : Int)]) = u64L l := by
  unfold u64L
  induction l with
  | nil => rfl
  | cons x l ih => rw [List.flatMap_cons, ih]; rfl
theorem chL_at : ∀ (l : List ChS) (k j : Nat) (c : ChS), l[k]? = some c → j < 3 → (l.flatMap ChS.cells)[k * 3 + j]? = c.cells[j]?
  | [], k, j, e, h, _ => by simp at h
  | x :: l, 0, j, e, h, hj => by
    obtain rfl : x = e := by simpa using h
    show (x.cells ++ l.flatMap ChS.cells)[0 * 3 + j]? = _
    rw [List.getElem?_append_left (by show _ < 3; omega), Nat.zero_mul, Nat.zero_add]
  | x :: l, k + 1, j, e, h, hj => by
    show (x.cells ++ l.flatMap ChS.cells)[(k + 1) * 3 + j]? = _
    rw [List.getElem?_append_right (by show 3 ≤ _; omega), show (k + 1) * 3 + j - x.cells.length = k * 3 + j by show _ - 3 = _; omega]
    exact chL_at l k j e (by simpa using h) hj
section
variable {H : Type} {enc : TypeId × Value → H} {W : World} {base : Nat} {spare : Nat → Bool} {held : Bool}
theorem word_of {fuel : Nat} {cs : List Value} {x : DataW H × List MemPlace} (h : DataW.trod enc Tryd.prog W base spare held fuel 25 cs = some x) : ∃ n : Nat, cs = [.int .u64 (n : Int)] := by
  obtain ⟨m, rfl, _, hw⟩ := DataW.trod_int Tryd.underlying25 h
  simp [Lit.wf] at hw
  have h0 : 0 ≤ m := by have := hw.1; rwa [show IntKind.u64.min = 0 by decide] at this
  exact ⟨m.toNat, by rw [Int.toNat_of_nonneg h0]⟩
theorem ch_of {fuel : Nat} {cs : List Value} {x : DataW H × List MemPlace} (h : DataW.trod enc Tryd.prog W base spare held fuel 27 cs = some x) : ∃ c : ChS, cs = c.cells := by
  have hl : cs.length = 3 := (trod_len Tryd.underlying27 h).trans (by kernel_rfl)
  obtain ⟨_, _, t0⟩ := trod_at (ty := 3) (o := 0) (k := 1) Tryd.underlying27 h 0 _ rfl rfl rfl (by kernel_rfl)
  obtain ⟨_, _, t1⟩ := trod_at (ty := 25) (o := 1) (k := 1) Tryd.underlying27 h 1 _ rfl rfl rfl (by kernel_rfl)
  obtain ⟨_, _, t2⟩ := trod_at (ty := 25) (o := 2) (k := 1) Tryd.underlying27 h 2 _ rfl rfl rfl (by kernel_rfl)
  obtain ⟨n0, e0, _, _⟩ := DataW.trod_int Tryd.underlying3 t0
  obtain ⟨n1, e1⟩ := word_of t1
  obtain ⟨n2, e2⟩ := word_of t2
  match cs, hl with
  | [c0, c1, c2], _ =>
    simp at e0 e1 e2
    subst e0 e1 e2
    exact ⟨⟨n0, n1, n2⟩, rfl⟩
set_option maxRecDepth 100000 in
theorem words_of {r : Reach} {b0 : Nat} {v : Value} {d : DataW H} {p : List MemPlace} (hv : Value.okWide Tryd.prog W r b0 22 v) (h : DataW.Trod enc Tryd.prog W base spare held 22 v d p) : ∃ (A : Option Addr) (cap : Nat) (l : List Nat), v = .slice A l.length cap ∧ U64At W anyBl A l := by
  obtain ⟨A, n, cap, rfl⟩ := okWide_slice Tryd.underlying22 hv
  obtain ⟨m, h⟩ := h
  obtain ⟨A', cap', l, h1, _, _, h4⟩ := open_elems (size := 1) (fun n : Nat => [Value.int .u64 (n : Int)]) (fun _ => rfl) (by decide) Tryd.underlying22 (by kernel_rfl) (fun n cs y hy => word_of hy) (show DataW.trod enc Tryd.prog W base spare held m 22 [.slice A n cap] = _ by simpa [Value.cells] using h)
  refine ⟨A', cap', l, h1, fun h0 => ?_⟩
  obtain ⟨b, o, g1, g2, g3⟩ := h4 h0
  refine ⟨b, o, g1, g2, trivial, fun k hk => g3 k _ ?_⟩
  rw [flat_u64, u64L_get l hk]
set_option maxRecDepth 100000 in
theorem changes_of {r : Reach} {b0 : Nat} {v : Value} {d : DataW H} {p : List MemPlace} (hv : Value.okWide Tryd.prog W r b0 23 v) (h : DataW.Trod enc Tryd.prog W base spare held 23 v d p) : ∃ (A : Option Addr) (cap : Nat) (l : List ChS), v = .slice A l.length cap ∧ ChAt W A l := by
  obtain ⟨A, n, cap, rfl⟩ := okWide_slice Tryd.underlying23 hv
  obtain ⟨m, h⟩ := h
  obtain ⟨A', cap', l, h1, _, _, h4⟩ := open_elems (size := 3) ChS.cells (fun _ => rfl) (by decide) Tryd.underlying23 (by kernel_rfl) (fun n cs y hy => ch_of hy) (show DataW.trod enc Tryd.prog W base spare held m 23 [.slice A n cap] = _ by simpa [Value.cells] using h)
  refine ⟨A', cap', l, h1, fun h0 => ?_⟩
  obtain ⟨b, o, g1, g2, g3⟩ := h4 h0
  refine ⟨b, o, g1, g2, fun k hk => ?_⟩
  have hg : l[k]? = some (l.getD k ChS.zero) := by rw [List.getD_eq_getElem?_getD, List.getElem?_eq_getElem hk]; rfl
  have hc : ∀ j, j < 3 → W.cell? ⟨b, o + k * 3 + j, none⟩ = (l.getD k ChS.zero).cells[j]? := fun j hj => by
    have e := chL_at l k j _ hg hj
    have hl : ((l.getD k ChS.zero).cells[j]?) = some ((l.getD k ChS.zero).cells[j]'(by show j < 3; omega)) := List.getElem?_eq_getElem _
    rw [hl] at e ⊢
    rw [Nat.add_assoc]
    exact g3 _ _ e
  exact ⟨hc 0 (by omega), hc 1 (by omega), hc 2 (by omega)⟩
end
end Opn
end Go.Proofs.YtnhkjfknhponkaaDoor
