/- Elements where an address says. Plain lemmas: the first part of St1, of St6 (never import both). -/
import Derived.Test.YtpbbpannimlldaaDoorOwn
namespace Go.Proofs.YtpbbpannimlldaaDoor
open Go.RowKit

theorem flat_at {α : Type} (f : α → List Value) (size : Nat) (hf : ∀ a, (f a).length = size) : ∀ (l : List α) (k j : Nat) (u : Value) (d : α), k < l.length → (f (l.getD k d))[j]? = some u → (l.flatMap f)[k * size + j]? = some u
  | [], k, j, u, d, h, _ => by simp at h
  | x :: l, 0, j, u, d, _, h => by
    replace h : (f x)[j]? = some u := h
    have hj := (List.getElem?_eq_some_iff.1 h).1
    rw [Nat.zero_mul, Nat.zero_add, List.flatMap_cons, List.getElem?_append_left hj]
    exact h
  | x :: l, k + 1, j, u, d, hk, h => by
    rw [List.flatMap_cons, List.getElem?_append_right (by rw [hf, Nat.add_mul]; omega), hf, show (k + 1) * size + j - size = k * size + j by rw [Nat.add_mul]; omega]
    exact flat_at f size hf l k j u d (by simpa using hk) (by simpa using h)
/-- Elements lie where an address says. -/
def ElAt {α : Type} (f : α → List Value) (w : World) (A : Option Addr) (l : List α) : Prop := 0 < l.length → ∃ b o, A = some ⟨b, o, none⟩ ∧ b < w.heap.size ∧ ∀ j u, (l.flatMap f)[j]? = some u → w.cell? ⟨b, o + j, none⟩ = some u
theorem ElAt.keep {α : Type} {f : α → List Value} {w w' : World} {A : Option Addr} {l : List α} (h : ElAt f w A l) (hk : Keep [] w w') : ElAt f w' A l := fun h0 => by
  obtain ⟨b, o, h1, h2, h3⟩ := h h0
  exact ⟨b, o, h1, Nat.lt_of_lt_of_le h2 hk.size, fun j u hu => (hk.cell h2 (by simp)).trans (h3 j u hu)⟩
theorem flat_len {α : Type} (f : α → List Value) (size : Nat) (hf : ∀ a, (f a).length = size) : ∀ l : List α, (l.flatMap f).length = l.length * size
  | [] => by simp
  | x :: l => by rw [List.flatMap_cons, List.length_append, hf, flat_len f size hf l, List.length_cons, Nat.add_mul]; omega
theorem ElAt.of_own {α : Type} {f : α → List Value} {w : World} {base size n cap : Nat} {t : TypeId} {A : Option Addr} {l : List α} (h : w.ownsRow base t size (.slice A n cap) n (l.flatMap f)) (hn : n = l.length) : ElAt f w A l := fun h0 => by
  obtain ⟨g, c, hv, hb, hlt⟩ := h.form (by omega)
  have hA : A = some ⟨g, 0, none⟩ := by injection hv
  subst hA
  refine ⟨g, 0, rfl, hlt, fun j u hj => ?_⟩
  have := h.cells (g := g) rfl j u hj
  rw [Addr_add_zero] at this
  rw [Nat.zero_add]
  exact this
theorem ex_load_mid {P : Program} {ρ : Operand → Value} {o : Oper} {w : World} {ty : TypeId} {x : Operand} {b off : Nat} {cs : List Value} {d : TypeDesc} (ho : o.op = .load ty x) (hx : ρ x = .pointer (some ⟨b, off, none⟩)) (hc : w.rangeAt b off cs)
    (hu : P.underlying ty = some d) (hd : d.isRow = true) (hi : (P.info? ty).map (·.size) = some cs.length) : (execOp ρ o).run P w = .ok (.value (.agg cs.toArray)) w := by
  unfold execOp
  simp only [ho, hx, Instr.loadAt, Instr.sureAddr, Sem.run_bind, Sem.run_pure, Result.andThen_ok, run_loadVar_mid w b off ty cs d hc hu hd hi]
theorem rangeAt_keep {w w' : World} {b o : Nat} {cs : List Value} {S : List Nat} (h : w.rangeAt b o cs) (hb : b < w.heap.size) (hn : b ∉ S) (hk : Keep S w w') : w'.rangeAt b o cs := fun j v hv => (hk.cell hb hn).trans (h j v hv)
theorem Blk.range {w : World} {b t : Nat} {cs : List Value} (h : Blk w b t cs.toArray) : w.rangeAt b 0 cs := fun j v hv => by
  rw [Nat.zero_add, h.cell, List.getElem?_toArray]
  exact hv
theorem ElAt.range {α : Type} {f : α → List Value} (size : Nat) (hf : ∀ a, (f a).length = size) {w : World} {A : Option Addr} {l : List α} (h : ElAt f w A l) (d : α) {k : Nat} (hk : k < l.length) : ∃ b o, A = some ⟨b, o, none⟩ ∧ b < w.heap.size ∧ w.rangeAt b (o + k * size) (f (l.getD k d)) := by
  obtain ⟨b, o, h1, h2, h3⟩ := h (by omega)
  exact ⟨b, o, h1, h2, fun j v hv => by rw [Nat.add_assoc]; exact h3 _ _ (flat_at f size hf l k j v d hk hv)⟩
theorem catL (a b : List UInt8) : (⟨a.toArray⟩ : ByteArray) ++ (⟨b.toArray⟩ : ByteArray) = ⟨(a ++ b).toArray⟩ := by
  apply ByteArray.ext
  simp
end Go.Proofs.YtpbbpannimlldaaDoor
