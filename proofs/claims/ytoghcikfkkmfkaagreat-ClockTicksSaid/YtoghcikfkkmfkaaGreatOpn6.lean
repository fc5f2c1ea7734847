/- A configuration and a row of numbers that come in: what they are. Plain lemmas on reading data. -/
import Derived.Test.YtoghcikfkkmfkaaGreatW0
import Derived.WalkKit
import Derived.ProofKit
import Derived.OpenShut
import Derived.ShutString
import Derived.ChangeOld
import Derived.Below
import Derived.SizedLaws
import Derived.Lib.SmallJoins
import Derived.Deep.Slices
namespace Go.Proofs.YtoghcikfkkmfkaaGreat.Opn6
open Go.ChangeShapes Go.WideShapes Go.ChangeAt Go.RowKit Go.Deep Go.Joins

theorem list_of_each {α : Type} {P : Nat → α → Prop} (d : α) : ∀ n : Nat, (∀ i, i < n → ∃ x, P i x) → ∃ xs : List α, xs.length = n ∧ ∀ i, i < n → P i (xs.getD i d)
  | 0, _ => ⟨[], rfl, fun i h => absurd h (Nat.not_lt_zero i)⟩
  | n + 1, h => by
    obtain ⟨xs, hl, hp⟩ := list_of_each d n (fun i hi => h i (by omega))
    obtain ⟨x, hx⟩ := h n (by omega)
    refine ⟨xs ++ [x], by simp [hl], fun i hi => ?_⟩
    by_cases hi' : i < n
    · have := hp i hi'
      rw [List.getD_eq_getElem?_getD] at this ⊢
      rw [List.getElem?_append_left (by omega)]
      exact this
    · obtain rfl : i = n := by omega
      rw [List.getD_eq_getElem?_getD, List.getElem?_append_right (by omega), hl, Nat.sub_self]
      exact hx
theorem reads {H : Type} {enc : TypeId × Value → H} {W : World} {a : Option Addr} {len cap : Nat} {d : DataW H} {p : List MemPlace}
    (h : DataW.Trod enc Tryz.prog W 0 (fun _ => true) true 93 (.slice a len cap) d p) : ∃ ls : List Int, ls.length = len ∧ IntsAt W a ls ∧ ∀ k, k < ls.length → -9223372036854775808 ≤ ls.getD k 0 ∧ ls.getD k 0 ≤ 9223372036854775807 := by
  obtain ⟨fuel, hf⟩ := h
  rcases open_slice Tryz.underlying93 hf with ⟨hcs, _⟩ | ⟨x, l, c, m, n, D, Pl, hcs, _, hl, hm, hmm, _, hi⟩
  · simp [Value.cells] at hcs
    obtain ⟨rfl, rfl, rfl⟩ := hcs
    exact ⟨[], rfl, fun h => absurd h (Nat.lt_irrefl 0), fun k hk => absurd hk (Nat.not_lt_zero k)⟩
  · simp [Value.cells] at hcs
    obtain ⟨rfl, rfl, rfl⟩ := hcs
    simp only [if_true] at hmm
    subst hmm
    obtain ⟨ls, hxl, hx⟩ := list_of_each (P := fun i (y : Int) => W.cell? (x.add i) = some (.int .i64 y) ∧ -9223372036854775808 ≤ y ∧ y ≤ 9223372036854775807) 0 len (fun i hilt => by
      obtain ⟨cs', hc, ht⟩ := hi i (by omega)
      rw [show Tryz.prog.cellsOf 3 = 1 by kernel_rfl, Nat.mul_one] at hc
      obtain ⟨_, hcl, hat⟩ := World.cells?_some hc
      obtain ⟨y, rfl, _, hw⟩ := DataW.trod_int Tryz.underlying3 ht
      refine ⟨y, by simpa [Addr.add] using hat 0 (by omega), ?_⟩
      simp [Lit.wf] at hw
      exact ⟨by have := hw.1; rwa [show IntKind.i64.min = -9223372036854775808 by decide] at this, hw.2⟩)
    refine ⟨ls, hxl, fun hp => ?_, fun k hk => (hx k (by omega)).2⟩
    have h0 := (hx 0 (by omega)).1
    have hsp : x.spot = none ∧ x.block < W.heap.size := by
      rw [show x.add 0 = x by simp [Addr.add]] at h0
      unfold World.cell? at h0
      cases hb : W.heap[x.block]? with
      | none => rw [hb] at h0; cases h0
      | some ob =>
        refine ⟨?_, (Array.getElem?_eq_some_iff.1 hb).1⟩
        rw [hb] at h0
        cases hs : x.spot with
        | none => rfl
        | some z =>
          rw [hs] at h0
          cases ob <;> simp at h0
    obtain ⟨b, o, sp⟩ := x
    obtain ⟨h1, h2⟩ := hsp
    simp only at h1
    subst h1
    refine ⟨b, o, rfl, h2, fun k hk => ?_⟩
    have := (hx k (by omega)).1
    rw [show (⟨b, o, none⟩ : Addr).add k = ⟨b, o + k, none⟩ by
      unfold Addr.add
      split
      · subst_vars; rfl
      · rfl] at this
    exact this
set_option maxRecDepth 100000 in
theorem conf_of {H : Type} {enc : TypeId × Value → H} {W : World} {r : Reach} {b0 : Nat} {v : Value} {d : DataW H} {p : List MemPlace} (hv : Value.okWide Tryz.prog W r b0 24 v) (h : DataW.Trod enc Tryz.prog W 0 (fun _ => true) true 24 v d p) : ∃ c : ConfS, v = .agg c.cells := by
  obtain ⟨w0, w1, w2, y0, y1, y2, n, rfl, _, _, t0, t1, t2⟩ := open_agg3 Tryz.underlying24 (by kernel_rfl) (by kernel_rfl) hv h
  obtain ⟨m0, e0, _, _⟩ := DataW.trod_int Tryz.underlying3 t0
  obtain ⟨m1, e1, _, _⟩ := DataW.trod_int Tryz.underlying3 t1
  obtain ⟨m2, e2, _, _⟩ := DataW.trod_int Tryz.underlying22 t2
  simp only [List.cons.injEq, and_true] at e0 e1 e2
  subst e0 e1 e2
  exact ⟨⟨m0, m1, m2⟩, rfl⟩
set_option maxRecDepth 100000 in
/-- A row of numbers. -/
theorem ints_of {H : Type} {enc : TypeId × Value → H} {W : World} {r : Reach} {b0 : Nat} {v : Value} {d : DataW H} {p : List MemPlace} (hv : Value.okWide Tryz.prog W r b0 93 v) (h : DataW.Trod enc Tryz.prog W 0 (fun _ => true) true 93 v d p) : ∃ (A : Option Addr) (cap : Nat) (ls : List Int), v = .slice A ls.length cap ∧ IntsAt W A ls := by
  obtain ⟨a, len, cap, rfl⟩ := okWide_slice Tryz.underlying93 hv
  obtain ⟨ls, rfl, h1, _⟩ := reads h
  exact ⟨a, cap, ls, rfl, h1⟩
end Go.Proofs.YtoghcikfkkmfkaaGreat.Opn6
