/- EpochCrowd: what the law itself keeps: who is about, who is inside, and what was. Plain lemmas over the words of memory. -/
import Derived.Test.YtlbhjahmgdghoaaEcP2
import Derived.Test.YtlbhjahmgdghoaaEnds
namespace Go.Proofs.Ytlbhjahmgdghoaa
open Go.RowKit

structure MachC (w0 : World) (m0 : Nat) (wr : World) (i : MI) (s : MS) : Prop where
  hm : MachAt wr i s
  im : i.m = m0
  hk : Keep [] w0 wr
  new : ∀ x, x ∈ i.foot → w0.heap.size ≤ x
section
variable {w0 wr w2 : World} {m0 : Nat} {i i2 : MI} {s s2 : MS}
theorem MachC.go (h : MachC w0 m0 wr i s) (hm : MachAt w2 i2 s2) (hg : Goes wr w2 i i2) : MachC w0 m0 w2 i2 s2 :=
  ⟨hm, hg.m.trans h.im, h.hk.trans hg.keep (fun x hx => .inr (h.new x hx)), fun x hx => (hg.foot x hx).elim (h.new x) (fun e => Nat.le_trans h.hk.size e)⟩
theorem MachC.keep0 (h : MachC w0 m0 wr i s) (hk : Keep [] wr w2) : MachC w0 m0 w2 i s := ⟨h.hm.keep0 hk, h.im, h.hk.trans hk (by simp), h.new⟩
theorem MachC.other {b : Nat} (h : MachC w0 m0 wr i s) (hn : b ∉ i.foot) (hp : i.p ≠ b) (h0 : w0.heap.size ≤ b) (j : Nat) (v : Value) : MachC w0 m0 (wr.setCell ⟨b, j, none⟩ v) i s := by
  have hk : Keep [b] wr (wr.setCell ⟨b, j, none⟩ v) := (Keep.refl _ _).set_ _ (.inl (by simp))
  exact ⟨h.hm.keep hk (fun x hx hm => hn (by rw [← List.mem_singleton.1 hm]; exact hx)) (by simpa using hp), h.im, h.hk.trans hk (fun x hx => by rw [List.mem_singleton.1 hx]; exact .inr h0), h.new⟩
theorem start_mc {c : ConfS} {w w1 : World} {n : Nat} {g : GuardS} (hk : Keep [] w w1) (h : NewAt c w1 wr i g n) : MachC w i.m wr i (MS.start c g n) :=
  ⟨h.hm, rfl, hk.trans h.hk (by simp), fun x hx => Nat.le_trans hk.size (h.new x hx)⟩
end
def abCells (ab : List (Bool × Nat)) : List Value := ab.flatMap fun g => [.bool g.1, .int .u64 (g.2 : Nat)]
def boolsL (l : List Bool) : List Value := l.map fun b => .bool b
theorem abCells_len (ab : List (Bool × Nat)) : (abCells ab).length = ab.length * 2 := by
  induction ab with
  | nil => rfl
  | cons a l ih =>
    show ([Value.bool a.1, .int .u64 (a.2 : Nat)] ++ abCells l).length = _
    rw [List.length_append, ih]
    simp
    omega
theorem abCells_get : ∀ (ab : List (Bool × Nat)) (k : Nat) (xt : List Value), k < ab.length → (abCells ab ++ xt)[k * 2]? = some (.bool (abG ab k).1) ∧ (abCells ab ++ xt)[k * 2 + 1]? = some (.int .u64 ((abG ab k).2 : Nat))
  | [], k, _, h => by simp at h
  | a :: l, 0, xt, _ => ⟨rfl, rfl⟩
  | a :: l, k + 1, xt, h => by
    have ih := abCells_get l k xt (by simpa using h)
    have e : (k + 1) * 2 = k * 2 + 1 + 1 := by omega
    rw [e]
    exact ih
theorem abCells_set : ∀ (ab : List (Bool × Nat)) (k : Nat) (xt : List Value) (b : Bool) (g : Nat), k < ab.length → ((abCells ab ++ xt).set (k * 2) (.bool b)).set (k * 2 + 1) (.int .u64 (g : Nat)) = abCells (ab.set k (b, g)) ++ xt
  | [], k, _, _, _, h => by simp at h
  | a :: l, 0, xt, b, g, _ => rfl
  | a :: l, k + 1, xt, b, g, h => by
    have ih := abCells_set l k xt b g (by simpa using h)
    have e : (k + 1) * 2 = k * 2 + 1 + 1 := by omega
    rw [e]
    show Value.bool a.1 :: Value.int .u64 (a.2 : Nat) :: (((abCells l ++ xt).set (k * 2) (.bool b)).set (k * 2 + 1) (.int .u64 (g : Nat))) = _
    rw [ih]
    rfl
theorem blk_about {w : World} {b : Nat} {ab : List (Bool × Nat)} {xt : List Value} (h : Blk w b 93 (abCells ab ++ xt).toArray) (k : Nat) (x : Bool) (g : Nat) (hk : k < ab.length) :
    Blk ((w.setCell ⟨b, k * 2, none⟩ (.bool x)).setCell ⟨b, k * 2 + 1, none⟩ (.int .u64 (g : Nat))) b 93 (abCells (ab.set k (x, g)) ++ xt).toArray := by
  have := (h.set_ (k * 2) (.bool x)).set_ (k * 2 + 1) (.int .u64 (g : Nat))
  rw [← abCells_set ab k xt x g hk]
  simpa using this
theorem boolsL_get {l : List Bool} {k : Nat} {xt : List Value} (h : k < l.length) : (boolsL l ++ xt)[k]? = some (.bool (l.getD k false)) := by
  rw [List.getElem?_append_left (by simpa [boolsL] using h)]
  unfold boolsL
  rw [List.getElem?_map, List.getElem?_eq_getElem h, List.getD_eq_getElem?_getD, List.getElem?_eq_getElem h]
  rfl
theorem blk_bool {w : World} {b : Nat} {l : List Bool} {xt : List Value} (h : Blk w b 4 (boolsL l ++ xt).toArray) (k : Nat) (x : Bool) (hk : k < l.length) : Blk (w.setCell ⟨b, k, none⟩ (.bool x)) b 4 (boolsL (l.set k x) ++ xt).toArray := by
  have := h.set_ k (.bool x)
  have e : (boolsL (l.set k x) ++ xt) = (boolsL l ++ xt).set k (.bool x) := by
    rw [List.set_append_left _ _ (by simpa [boolsL] using hk)]
    simp [boolsL, List.map_set]
  rw [e]
  simpa using this
structure MemC (wr w0 : World) (i : MI) (fb bb nb : Nat) (e : Nat) (act : List Nat) (ab : List (Bool × Nat)) (ins : List Bool) : Prop where
  hf : ∃ vA, Blk wr fb 83 #[.int .u64 (e : Nat), vA] ∧ RowI wr (· ∉ i.foot) 22 vA (u64s act)
  fbf : fb ∉ i.foot
  fbn : w0.heap.size ≤ fb
  ha : ∃ xt, Blk wr bb 93 (abCells ab ++ xt).toArray
  bbf : bb ∉ i.foot
  bbn : w0.heap.size ≤ bb
  hi : ∃ xt, Blk wr nb 4 (boolsL ins ++ xt).toArray
  nbf : nb ∉ i.foot
  nbn : w0.heap.size ≤ nb
section
variable {w0 wr w2 : World} {m0 e k fb bb nb : Nat} {i i2 : MI} {s s2 : MS} {act : List Nat} {ab : List (Bool × Nat)} {ins : List Bool}
theorem RowI.far0 {v : Value} {xs : List Value} {b j : Nat} {t : TypeId} {cs : Array Value} {u : Value} (h : RowI wr (· ∉ i.foot) 22 v xs) (hb : Blk wr b t cs) (hne : 22 ≠ t) : RowI (wr.setCell ⟨b, j, none⟩ u) (· ∉ i.foot) 22 v xs := h.far hb hne j u
theorem MemC.go (h : MemC wr w0 i fb bb nb e act ab ins) (hg : Goes wr w2 i i2) : MemC w2 w0 i2 fb bb nb e act ab ins := by
  obtain ⟨vA, h1, b, o, cap, cs, q1, q2, q3, q4, q5⟩ := h.hf
  obtain ⟨xt, h3⟩ := h.ha
  obtain ⟨xu, h4⟩ := h.hi
  exact ⟨⟨vA, h1.keep hg.keep h.fbf, b, o, cap, cs, q1, q2, q3.keep hg.keep q5, q4, farE hg q3.lt q5⟩, farE hg h1.lt h.fbf, h.fbn, ⟨xt, h3.keep hg.keep h.bbf⟩, farE hg h3.lt h.bbf, h.bbn, ⟨xu, h4.keep hg.keep h.nbf⟩, farE hg h4.lt h.nbf, h.nbn⟩
theorem MemC.keep0 (h : MemC wr w0 i fb bb nb e act ab ins) (hk : Keep [] wr w2) : MemC w2 w0 i fb bb nb e act ab ins := by
  obtain ⟨vA, h1, h2⟩ := h.hf
  obtain ⟨xt, h3⟩ := h.ha
  obtain ⟨xu, h4⟩ := h.hi
  exact ⟨⟨vA, h1.keep hk (by simp), h2.keep0 hk⟩, h.fbf, h.fbn, ⟨xt, h3.keep hk (by simp)⟩, h.bbf, h.bbn, ⟨xu, h4.keep hk (by simp)⟩, h.nbf, h.nbn⟩
theorem MemC.ab0 (h : MemC wr w0 i fb bb nb e act ab ins) (hk : k < ab.length) : wr.cell? ⟨bb, k * 2, none⟩ = some (.bool (abG ab k).1) := by
  obtain ⟨xt, h3⟩ := h.ha
  rw [h3.cell, List.getElem?_toArray]
  exact (abCells_get ab k xt hk).1
theorem MemC.ab1 (h : MemC wr w0 i fb bb nb e act ab ins) (hk : k < ab.length) : wr.cell? ⟨bb, k * 2 + 1, none⟩ = some (.int .u64 ((abG ab k).2 : Nat)) := by
  obtain ⟨xt, h3⟩ := h.ha
  rw [h3.cell, List.getElem?_toArray]
  exact (abCells_get ab k xt hk).2
theorem MemC.abf (h : MemC wr w0 i fb bb nb e act ab ins) (j : Nat) : wr.frozen? ⟨bb, j, none⟩ = false := by
  obtain ⟨xt, h3⟩ := h.ha
  exact h3.frozen j
theorem MemC.in0 (h : MemC wr w0 i fb bb nb e act ab ins) (hk : k < ins.length) : wr.cell? ⟨nb, k, none⟩ = some (.bool (ins.getD k false)) := by
  obtain ⟨xt, h3⟩ := h.hi
  rw [h3.cell, List.getElem?_toArray]
  exact boolsL_get hk
theorem MemC.inf_ (h : MemC wr w0 i fb bb nb e act ab ins) (j : Nat) : wr.frozen? ⟨nb, j, none⟩ = false := by
  obtain ⟨xt, h3⟩ := h.hi
  exact h3.frozen j
theorem MemC.was (h : MemC wr w0 i fb bb nb e act ab ins) : ∃ vA, wr.cell? ⟨fb, 0, none⟩ = some (.int .u64 (e : Nat)) ∧ wr.cell? ⟨fb, 1, none⟩ = some vA ∧ RowI wr (· ∉ i.foot) 22 vA (u64s act) ∧ wr.frozen? ⟨fb, 0, none⟩ = false ∧ wr.frozen? ⟨fb, 1, none⟩ = false := by
  obtain ⟨vA, h1, h2⟩ := h.hf
  exact ⟨vA, h1.cell 0, h1.cell 1, h2, h1.frozen 0, h1.frozen 1⟩
theorem MemC.putAb {x : Bool} {g : Nat} (h : MemC wr w0 i fb bb nb e act ab ins) (hk : k < ab.length) : MemC ((wr.setCell ⟨bb, k * 2, none⟩ (.bool x)).setCell ⟨bb, k * 2 + 1, none⟩ (.int .u64 (g : Nat))) w0 i fb bb nb e act (ab.set k (x, g)) ins := by
  obtain ⟨vA, h1, h2⟩ := h.hf
  obtain ⟨xt, h3⟩ := h.ha
  obtain ⟨xu, h4⟩ := h.hi
  have hn1 := h1.ne_ h3 (by decide)
  have hn4 := h4.ne_ h3 (by decide)
  refine ⟨⟨vA, (h1.far (p := ⟨bb, k * 2, none⟩) hn1 _).far (p := ⟨bb, k * 2 + 1, none⟩) hn1 _, (h2.far0 (j := k * 2) h3 (by decide)).far0 (h3.set_ (k * 2) _) (by decide)⟩, h.fbf, h.fbn, ⟨xt, blk_about h3 k x g hk⟩, h.bbf, h.bbn, ⟨xu, (h4.far (p := ⟨bb, k * 2, none⟩) hn4 _).far (p := ⟨bb, k * 2 + 1, none⟩) hn4 _⟩, h.nbf, h.nbn⟩
theorem MemC.putIn {x : Bool} (h : MemC wr w0 i fb bb nb e act ab ins) (hk : k < ins.length) : MemC (wr.setCell ⟨nb, k, none⟩ (.bool x)) w0 i fb bb nb e act ab (ins.set k x) := by
  obtain ⟨vA, h1, h2⟩ := h.hf
  obtain ⟨xt, h3⟩ := h.ha
  obtain ⟨xu, h4⟩ := h.hi
  have hn1 := h1.ne_ h4 (by decide)
  have hn3 := h3.ne_ h4 (by decide)
  exact ⟨⟨vA, h1.far (p := ⟨nb, k, none⟩) hn1 _, h2.far0 h4 (by decide)⟩, h.fbf, h.fbn, ⟨xt, h3.far (p := ⟨nb, k, none⟩) hn3 _⟩, h.bbf, h.bbn, ⟨xu, blk_bool h4 k x hk⟩, h.nbf, h.nbn⟩
theorem MemC.putF {e' : Nat} {act' : List Nat} {vA : Value} (h : MemC wr w0 i fb bb nb e act ab ins) (hr : RowI wr (· ∉ i.foot) 22 vA (u64s act')) : MemC ((wr.setCell ⟨fb, 0, none⟩ (.int .u64 (e' : Nat))).setCell ⟨fb, 1, none⟩ vA) w0 i fb bb nb e' act' ab ins := by
  obtain ⟨vB, h1, h2⟩ := h.hf
  obtain ⟨xt, h3⟩ := h.ha
  obtain ⟨xu, h4⟩ := h.hi
  have hn3 := h3.ne_ h1 (by decide)
  have hn4 := h4.ne_ h1 (by decide)
  exact ⟨⟨vA, h1.two _ _, (hr.far0 (j := 0) h1 (by decide)).far0 (h1.set_ 0 _) (by decide)⟩, h.fbf, h.fbn, ⟨xt, (h3.far (p := ⟨fb, 0, none⟩) hn3 _).far (p := ⟨fb, 1, none⟩) hn3 _⟩, h.bbf, h.bbn, ⟨xu, (h4.far (p := ⟨fb, 0, none⟩) hn4 _).far (p := ⟨fb, 1, none⟩) hn4 _⟩, h.nbf, h.nbn⟩
theorem MachC.otherA (h : MachC w0 m0 wr i s) (hm : MemC wr w0 i fb bb nb e act ab ins) (x : Value) (y : Value) : MachC w0 m0 ((wr.setCell ⟨bb, k * 2, none⟩ x).setCell ⟨bb, k * 2 + 1, none⟩ y) i s := by
  obtain ⟨xt, h3⟩ := hm.ha
  have h1 := h.other hm.bbf (Blk.ne_ h.hm.hP h3 (by decide)) hm.bbn (k * 2) x
  exact h1.other hm.bbf (Blk.ne_ h.hm.hP h3 (by decide)) hm.bbn _ _
theorem MachC.otherI (h : MachC w0 m0 wr i s) (hm : MemC wr w0 i fb bb nb e act ab ins) (x : Value) : MachC w0 m0 (wr.setCell ⟨nb, k, none⟩ x) i s := by
  obtain ⟨xt, h3⟩ := hm.hi
  exact h.other hm.nbf (Blk.ne_ h.hm.hP h3 (by decide)) hm.nbn _ _
theorem MachC.otherF (h : MachC w0 m0 wr i s) (hm : MemC wr w0 i fb bb nb e act ab ins) (x y : Value) : MachC w0 m0 ((wr.setCell ⟨fb, 0, none⟩ x).setCell ⟨fb, 1, none⟩ y) i s := by
  obtain ⟨vA, h3, _⟩ := hm.hf
  have h1 := h.other hm.fbf (Blk.ne_ h.hm.hP h3 (by decide)) hm.fbn 0 x
  exact h1.other hm.fbf (Blk.ne_ h.hm.hP h3 (by decide)) hm.fbn _ _
end
end Go.Proofs.Ytlbhjahmgdghoaa
