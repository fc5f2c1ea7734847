/- Plain lemmas by which a law's arguments are opened: structs within structs, field by field. -/
import Derived.Test.YtpbbpannimlldaaDoorProg
import Derived.Deep.Slices
import Derived.Deep.Fields
import Derived.ChangeSame
import Derived.WalkKit
import Derived.SizedLaws
import Derived.OpenShut
namespace Go.Proofs.YtpbbpannimlldaaDoor.Opn
open Go.ChangeShapes Go.WideShapes Go.Deep Go.RowKit

section
variable {H : Type} {enc : TypeId × Value → H} {P : Program} {w : World} {base : Nat} {spare : Nat → Bool} {held : Bool}
/-- A field of a struct, read out of its cells. -/
theorem trod_fld {t : TypeId} {fs : Array Field} {fuel : Nat} {cs : List Value} {x : DataW H × List MemPlace} (ht : P.underlying t = some (.struct fs)) (h : DataW.trod enc P w base spare held fuel t cs = some x) (i : Nat) (f : Field) (hf : fs[i]? = some f) :
    ∃ (n : Nat) (y : DataW H × List MemPlace), DataW.trod enc P w base spare held n f.type ((cs.drop f.offset).take (P.cellsOf f.type)) = some y := by
  obtain ⟨xs, n, _, _, _, hl, hg⟩ := DataW.trod_struct ht h
  have h1 := hg i f hf
  have hi : i < xs.length := by rw [hl]; exact (Array.getElem?_eq_some_iff.1 hf).1
  exact ⟨n, _, h1.trans (List.getElem?_eq_getElem hi)⟩
theorem trod_at {t ty : TypeId} {fs : Array Field} {fuel o k : Nat} {cs : List Value} {x : DataW H × List MemPlace} (ht : P.underlying t = some (.struct fs)) (h : DataW.trod enc P w base spare held fuel t cs = some x) (i : Nat) (f : Field) (hf : fs[i]? = some f) (h1 : f.type = ty) (h2 : f.offset = o) (h3 : P.cellsOf ty = k) :
    ∃ (n : Nat) (y : DataW H × List MemPlace), DataW.trod enc P w base spare held n ty ((cs.drop o).take k) = some y := by
  subst h1 h2 h3
  exact trod_fld ht h i f hf
theorem trod_len {t : TypeId} {fs : Array Field} {fuel : Nat} {cs : List Value} {x : DataW H × List MemPlace} (ht : P.underlying t = some (.struct fs)) (h : DataW.trod enc P w base spare held fuel t cs = some x) : cs.length = P.cellsOf t := by
  obtain ⟨xs, n, _, _, hl, _⟩ := DataW.trod_struct ht h
  exact hl
/-- A slice of any elements, one whose reading says what its cells are. -/
theorem open_elems {t e : TypeId} {fuel size : Nat} {v : Value} {x : DataW H × List MemPlace} {α : Type} (cells : α → List Value) (hcl : ∀ a, (cells a).length = size) (hs : 0 < size) (ht : P.underlying t = some (.slice e)) (hC : P.cellsOf e = size)
    (hel : ∀ (n : Nat) (cs : List Value) (y : DataW H × List MemPlace), DataW.trod enc P w base spare held n e cs = some y → ∃ a, cs = cells a)
    (h : DataW.trod enc P w base spare held fuel t [v] = some x) :
    ∃ (A : Option Addr) (cap : Nat) (l : List α), v = .slice A l.length cap ∧ l.length ≤ cap ∧ cap ≤ maxLen ∧ (0 < l.length → ∃ b o, A = some ⟨b, o, none⟩ ∧ b < w.heap.size ∧ ∀ j u, (l.flatMap cells)[j]? = some u → w.cell? ⟨b, o + j, none⟩ = some u) := by
  rcases open_slice ht h with ⟨h0, _⟩ | ⟨a, len, cap, m, n, D, Pl, hcs, _, hl, hm, hmm, _, hi⟩
  · refine ⟨none, 0, [], ?_, Nat.le_refl _, Nat.zero_le _, fun h => absurd h (Nat.lt_irrefl 0)⟩
    simpa using h0
  · have hv : v = .slice (some a) len cap := by simpa using hcs
    have hlm : len ≤ m := by rw [hmm]; split <;> omega
    have hx : ∀ k : Nat, k ≤ len → ∃ l : List α, l.length = k ∧ ∀ j u, (l.flatMap cells)[j]? = some u → w.cell? (a.add j) = some u := by
      intro k
      induction k with
      | zero => exact fun _ => ⟨[], rfl, fun j u hj => by simp at hj⟩
      | succ k ih =>
        intro hk
        obtain ⟨l, hll, hlc⟩ := ih (by omega)
        obtain ⟨cs', hc, htr⟩ := hi k (by omega)
        obtain ⟨z, hz⟩ := hel _ _ _ htr
        obtain ⟨_, hcl', hat⟩ := World.cells?_some hc
        rw [hC] at hcl' hat hc
        refine ⟨l ++ [z], by simp [hll], fun j u hj => ?_⟩
        have hfl : (l.flatMap cells).length = k * size := by
          rw [← hll]
          clear hlc hll hj
          induction l with
          | nil => simp
          | cons y l ih2 => simp [hcl, ih2, Nat.add_mul]; omega
        rw [List.flatMap_append] at hj
        by_cases hjl : j < k * size
        · rw [List.getElem?_append_left (by omega)] at hj
          exact hlc j u hj
        · rw [List.getElem?_append_right (by omega), hfl] at hj
          simp only [List.flatMap_cons, List.flatMap_nil, List.append_nil] at hj
          rw [← hz] at hj
          have hjs : j - k * size < size := by
            have := (List.getElem?_eq_some_iff.1 hj).1
            omega
          have := hat (j - k * size) hjs
          rw [Go.Deep.add_add, show k * size + (j - k * size) = j by omega] at this
          rw [this, hj]
    obtain ⟨l, hll, hlc⟩ := hx len (Nat.le_refl _)
    refine ⟨some a, cap, l, by rw [hll]; exact hv, by omega, hm, fun h0 => ?_⟩
    have hn : 0 < (l.flatMap cells).length := by
      cases l with
      | nil => simp at h0
      | cons y l => simp [hcl]; omega
    have h1 := hlc 0 _ (List.getElem?_eq_getElem hn)
    have hsp : a.spot = none ∧ a.block < w.heap.size := by
      rw [show a.add 0 = a by simp [Addr.add]] at h1
      unfold World.cell? at h1
      cases hb : w.heap[a.block]? with
      | none => rw [hb] at h1; cases h1
      | some ob =>
        refine ⟨?_, (Array.getElem?_eq_some_iff.1 hb).1⟩
        rw [hb] at h1
        cases hs : a.spot with
        | none => rfl
        | some z =>
          rw [hs] at h1
          cases ob <;> simp at h1
    obtain ⟨b, o, sp⟩ := a
    obtain ⟨g1, g2⟩ := hsp
    simp only at g1
    subst g1
    refine ⟨b, o, rfl, g2, fun j u hj => ?_⟩
    have := hlc j u hj
    have e : (⟨b, o, none⟩ : Addr).add j = ⟨b, o + j, none⟩ := by
      unfold Addr.add
      split
      · subst_vars; rfl
      · rfl
    rw [e] at this
    exact this
end
end Go.Proofs.YtpbbpannimlldaaDoor.Opn
