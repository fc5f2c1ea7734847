/- What any crowd's law keeps beside its machine: blocks of other types stay as they are. Plain lemmas over the words of memory. -/
import Derived.Test.YtoghcikfkkmfkaaGreatEnd0
import Derived.Test.YtoghcikfkkmfkaaGreatW0
namespace Go.Proofs.YtoghcikfkkmfkaaGreat
open Go.RowKit

def machTypes : List Nat := 108 :: 140 :: 122 :: 36 :: thTypes
section
variable {w w' : World} {i i' : MI} {s : MS}
theorem MachAt.foot_ne (h : MachAt w i s) {b t : Nat} {cs : Array Value} (hb : Blk w b t cs) (ht : t ∉ machTypes) : b ∉ i.foot := by
  simp only [machTypes, List.mem_cons, not_or] at ht
  obtain ⟨h1, h2, h3, h4, h5⟩ := ht
  have h5' : t ∉ thTypes := h5
  intro hx
  rcases MI.mem_foot.1 hx with rfl | rfl | rfl | rfl | rfl | rfl | hx | ⟨ti, hm, hx⟩
  · exact hb.ne_ h.hM h1 rfl
  · exact hb.ne_ h.hMem.hm h2 rfl
  · exact hb.ne_ h.hMem.hw (fun e => h5' (e ▸ by decide)) rfl
  · exact hb.ne_ h.hG.hg h3 rfl
  · exact hb.ne_ h.hG.hs (fun e => h5' (e ▸ by decide)) rfl
  · exact h.hG.hh.neBlk hb rfl
  · obtain ⟨cs', hb'⟩ := own_blk h.hrow hx
    exact hb.ne_ hb' h4 rfl
  · obtain ⟨t', ht'⟩ := h.get hm
    exact ht'.foot_ne hb h5' hx
theorem MachAt.own_foot (h : MachAt w i s) {base e size n : Nat} {v : Value} {xs : List Value} (ho : w.ownsRow base e size v n xs) (ht : e ∉ machTypes) : ∀ g, v.ownBlock = some g → g ∉ i.foot := fun g hg => by
  obtain ⟨cs, hb⟩ := own_blk ho hg
  exact h.foot_ne hb ht
theorem MachAt.goBlk (h : MachAt w i s) (hg : Goes w w' i i') {b t : Nat} {cs : Array Value} (hb : Blk w b t cs) (ht : t ∉ machTypes) : Blk w' b t cs := hb.keep hg.keep (h.foot_ne hb ht)
theorem MachAt.goOwn (h : MachAt w i s) (hg : Goes w w' i i') {base e size n : Nat} {v : Value} {xs : List Value} (ho : w.ownsRow base e size v n xs) (ht : e ∉ machTypes) : w'.ownsRow base e size v n xs := own_keep ho hg.keep (h.own_foot ho ht)
end
structure MachC (w0 : World) (m0 : Nat) (wr : World) (i : MI) (s : MS) : Prop where
  hm : MachAt wr i s
  im : i.m = m0
  hk : Keep [] w0 wr
  new : ∀ x, x ∈ i.foot → w0.heap.size ≤ x
section
variable {w0 wr w2 : World} {m0 : Nat} {i i2 : MI} {s s2 : MS}
theorem MachC.go (h : MachC w0 m0 wr i s) (hm : MachAt w2 i2 s2) (hg : Goes wr w2 i i2) : MachC w0 m0 w2 i2 s2 :=
  ⟨hm, hg.m.trans h.im, h.hk.trans hg.keep (fun x hx => .inr (h.new x hx)), fun x hx => (hg.foot x hx).elim (h.new x) (fun e => Nat.le_trans h.hk.size e)⟩
theorem MachC.keep0 (h : MachC w0 m0 wr i s) (hk : Keep [] wr w2) : MachC w0 m0 w2 i s := ⟨h.hm.keep0 hk, h.im, h.hk.trans hk (by simp), h.new⟩
/-- Blocks of other types, that were made since, turn. -/
theorem MachC.turn {S : List Nat} (h : MachC w0 m0 wr i s) (hk : Keep S wr w2) (hS : ∀ b, b ∈ S → w0.heap.size ≤ b ∧ b ∉ i.foot ∧ b ≠ i.p) : MachC w0 m0 w2 i s :=
  ⟨h.hm.keep hk (fun x hx hm => (hS x hm).2.1 hx) (fun hm => (hS _ hm).2.2 rfl), h.im, h.hk.trans hk (fun x hx => .inr (hS x hx).1), h.new⟩
theorem MachC.other {b : Nat} (h : MachC w0 m0 wr i s) (hn : b ∉ i.foot) (hp : i.p ≠ b) (h0 : w0.heap.size ≤ b) (j : Nat) (v : Value) : MachC w0 m0 (wr.setCell ⟨b, j, none⟩ v) i s :=
  h.turn ((Keep.refl [b] _).set_ _ (.inl (by simp))) (fun x hx => by rw [List.mem_singleton.1 hx]; exact ⟨h0, hn, hp.symm⟩)
theorem MachC.set_ {b t : Nat} {cs : Array Value} (h : MachC w0 m0 wr i s) (hb : Blk wr b t cs) (ht : t ∉ machTypes) (hp : t ≠ 148) (h0 : w0.heap.size ≤ b) (j : Nat) (v : Value) : MachC w0 m0 (wr.setCell ⟨b, j, none⟩ v) i s :=
  h.other (h.hm.foot_ne hb ht) (Blk.ne_ h.hm.hP hb hp.symm) h0 j v
theorem start_mc {c : ConfS} {w w1 : World} {n : Nat} {g : GuardS} (hk : Keep [] w w1) (h : NewAt c w1 wr i g n) : MachC w i.m wr i (MS.start c g n) :=
  ⟨h.hm, rfl, hk.trans h.hk (by simp), fun x hx => Nat.le_trans hk.size (h.new x hx)⟩
end
def boolsL (l : List Bool) : List Value := l.map fun b => .bool b
theorem boolsL_get {l : List Bool} {k : Nat} {xt : List Value} (h : k < l.length) : (boolsL l ++ xt)[k]? = some (.bool (l.getD k false)) := by
  rw [List.getElem?_append_left (by simpa [boolsL] using h)]
  unfold boolsL
  rw [List.getElem?_map, List.getElem?_eq_getElem h, List.getD_eq_getElem?_getD, List.getElem?_eq_getElem h]
  rfl
theorem blk_bool {w : World} {b : Nat} {l : List Bool} {xt : List Value} (h : Blk w b 4 (boolsL l ++ xt).toArray) (k : Nat) (x : Bool) (hk : k < l.length) : Blk (w.setCell ⟨b, k, none⟩ (.bool x)) b 4 (boolsL (l.set k x) ++ xt).toArray := by
  have := h.set_ k (.bool x)
  have e : (boolsL (l.set k x) ++ xt) = (boolsL l ++ xt).set k (.bool x) := by
    rw [List.set_append_left _ _ (by simpa [boolsL] using hk)]
    simp [boolsL, List.map_set]
  rw [e]
  simpa using this
theorem info4 : (Tryz.prog.info? 4).map (fun i => (i.zero, i.size, i.bytes)) = some (some (.bool false), 1, 1) := by kernel_rfl
theorem own_blkX {w : World} {b n size : Nat} {t : TypeId} {xs : List Value} (h : w.ownsRow b t size (.slice (some ⟨b, 0, none⟩) n n) n xs) (hn : 0 < n) : ∃ xt, Blk w b t (xs ++ xt).toArray := by
  obtain ⟨hl, ⟨_, h0⟩ | ⟨g, cap, cur, hv, hb, hr, hc, _, _, ht⟩⟩ := h
  · omega
  · injection hv with hv
    injection hv with hv
    have : b = g := congrArg Addr.block hv
    subst this
    refine ⟨cur.toList.drop (n * size), ?_⟩
    rw [← ht, List.take_append_drop]
    exact hr
theorem made_bool {w : World} {b n : Nat} (h1 : 1 ≤ n) (h6 : n ≤ 6) (hm : w.ownsRow b 4 1 (.slice (some ⟨b, 0, none⟩) n n) n (madeCells (Value.bool false).cells (n * 1)).toList) : ∃ xt, Blk w b 4 (boolsL (List.replicate n false) ++ xt).toArray := by
  have e : (madeCells (Value.bool false).cells (n * 1)).toList = boolsL (List.replicate n false) := by
    have : n = 1 ∨ n = 2 ∨ n = 3 ∨ n = 4 ∨ n = 5 ∨ n = 6 := by omega
    rcases this with rfl | rfl | rfl | rfl | rfl | rfl <;> simp [madeCells, Value.cells, boolsL, List.replicate, List.range_succ]
  rw [e] at hm
  exact own_blkX hm (by omega)
/-- The row of deeds that came in, two numbers each. -/
def PairsAt (w : World) (A : Option Addr) (ds : List (Int × Int)) : Prop := 0 < ds.length → ∃ b o, A = some ⟨b, o, none⟩ ∧ b < w.heap.size ∧ ∀ k, k < ds.length → w.cell? ⟨b, o + k * 2, none⟩ = some (.int .i64 (ds.getD k (0, 0)).1) ∧ w.cell? ⟨b, o + k * 2 + 1, none⟩ = some (.int .i64 (ds.getD k (0, 0)).2)
end Go.Proofs.YtoghcikfkkmfkaaGreat
