/- TraceReplays: what changes make of words; rows that a call has made and writes into. Plain lemmas. -/
import Derived.Test.YtpbbpannimlldaaDoorOwn
namespace Go.Proofs.YtpbbpannimlldaaDoor
open Go.RowKit

structure ChS where
  p : Int
  was : Nat
  now : Nat
def ChS.zero : ChS := ⟨0, 0, 0⟩
def ChS.cells (c : ChS) : List Value := [.int .i64 c.p, .int .u64 (c.was : Nat), .int .u64 (c.now : Nat)]
/-- What one change makes of words. -/
def stepR (ws : List Nat) (c : ChS) : List Nat := if 0 ≤ c.p ∧ c.p < ws.length ∧ ws.getD c.p.toNat 0 = c.was then ws.set c.p.toNat c.now else ws
def replayR (ws : List Nat) (l : List ChS) : List Nat := l.foldl stepR ws
theorem stepR_length (ws : List Nat) (c : ChS) : (stepR ws c).length = ws.length := by
  unfold stepR
  split <;> simp
theorem replayR_length (l : List ChS) : ∀ ws : List Nat, (replayR ws l).length = ws.length := by
  induction l with
  | nil => intro ws; rfl
  | cons c r ih => intro ws; show (replayR (stepR ws c) r).length = _; rw [ih, stepR_length]
theorem replayR_snoc (ws : List Nat) (l : List ChS) (c : ChS) : replayR ws (l ++ [c]) = stepR (replayR ws l) c := by
  unfold replayR
  rw [List.foldl_append]
  rfl
theorem take_snoc {α : Type} (l : List α) (d : α) {k : Nat} (h : k < l.length) : l.take (k + 1) = l.take k ++ [l.getD k d] := by
  rw [List.take_succ_eq_append_getElem h, List.getD_eq_getElem?_getD, List.getElem?_eq_getElem h]
  rfl
theorem replayR_next (ws : List Nat) (l : List ChS) {k : Nat} (h : k < l.length) : replayR ws (l.take (k + 1)) = stepR (replayR ws (l.take k)) (l.getD k ChS.zero) := by
  rw [take_snoc l ChS.zero h, replayR_snoc]
/-- The law's inner loop: a change, as far as places below k were looked at. -/
def stepTo (ws : List Nat) (c : ChS) (k : Nat) : List Nat := if c.p < (k : Int) then stepR ws c else ws
theorem stepTo_length (ws : List Nat) (c : ChS) (k : Nat) : (stepTo ws c k).length = ws.length := by
  unfold stepTo
  split
  · exact stepR_length ws c
  · rfl
theorem stepTo_zero (ws : List Nat) (c : ChS) : stepTo ws c 0 = ws := by
  unfold stepTo
  split
  · unfold stepR
    rw [if_neg (by omega)]
  · rfl
theorem stepTo_all (ws : List Nat) (c : ChS) {k : Nat} (h : ws.length ≤ k) : stepTo ws c k = stepR ws c := by
  unfold stepTo
  split
  · rfl
  · unfold stepR
    rw [if_neg (by omega)]
theorem stepTo_miss (ws : List Nat) (c : ChS) {k : Nat} (h : ¬ (k : Int) = c.p) : stepTo ws c (k + 1) = stepTo ws c k := by
  unfold stepTo
  by_cases h1 : c.p < (k : Int)
  · rw [if_pos (by omega), if_pos h1]
  · rw [if_neg (by omega), if_neg h1]
theorem stepTo_at (ws : List Nat) (c : ChS) {k : Nat} (h : (k : Int) = c.p) : stepTo ws c k = ws := by
  unfold stepTo
  rw [if_neg (by omega)]
theorem stepTo_hit (ws : List Nat) (c : ChS) {k : Nat} (h : (k : Int) = c.p) (hk : k < ws.length) (hw : ws.getD k 0 = c.was) : stepTo ws c (k + 1) = ws.set k c.now := by
  unfold stepTo stepR
  have e : c.p.toNat = k := by omega
  rw [if_pos (by omega), e, if_pos ⟨by omega, by omega, hw⟩]
theorem stepTo_no (ws : List Nat) (c : ChS) {k : Nat} (h : (k : Int) = c.p) (hw : ¬ ws.getD k 0 = c.was) : stepTo ws c (k + 1) = ws := by
  unfold stepTo stepR
  have e : c.p.toNat = k := by omega
  rw [if_pos (by omega), e, if_neg (by rintro ⟨_, _, h3⟩; exact hw h3)]

def u64L (l : List Nat) : List Value := l.map fun n : Nat => .int .u64 (n : Int)
theorem u64L_length (l : List Nat) : (u64L l).length = l.length := by simp [u64L]
theorem u64L_get (l : List Nat) {k : Nat} (h : k < l.length) : (u64L l)[k]? = some (.int .u64 (l.getD k 0 : Nat)) := by
  unfold u64L
  rw [List.getElem?_map, List.getD_eq_getElem?_getD, List.getElem?_eq_getElem h]
  rfl
theorem u64L_set (l : List Nat) (k v : Nat) : (u64L l).set k (.int .u64 (v : Nat)) = u64L (l.set k v) := by
  unfold u64L
  rw [List.map_set]

section
variable {w w' : World} {S : List Nat}
/-- A row of single cells that is held, written into. -/
theorem own_put {base n k : Nat} {e : TypeId} {g cap : Nat} {xs : List Value} (h : w.ownsRow base e 1 (.slice (some ⟨g, 0, none⟩) n cap) n xs) (u : Value) :
    (w.setCell ⟨g, k, none⟩ u).ownsRow base e 1 (.slice (some ⟨g, 0, none⟩) n cap) n (xs.set k u) := by
  obtain ⟨hl, ⟨h1, _⟩ | ⟨g', cap', cur, hv, hb, hr, hc, hm, hs, ht⟩⟩ := h
  · cases h1
  · injection hv with h1 h2 h3
    injection h1 with h1
    injection h1 with h1
    subst h1 h3
    refine ⟨by simp [hl], .inr ⟨g, cap, cur.setIfInBounds k u, rfl, hb, ?_, hc, hm, by simp [hs], ?_⟩⟩
    · exact Blk.set_ (w := w) (g := g) (t := e) (cs := cur) hr k u
    · rw [← ht]
      simp only [Array.toList_setIfInBounds, List.take_set]
theorem own_cell {base n k : Nat} {e : TypeId} {g cap : Nat} {xs : List Value} (h : w.ownsRow base e 1 (.slice (some ⟨g, 0, none⟩) n cap) n xs) (hk : k < n) : w.cell? ⟨g, k, none⟩ = xs[k]? := by
  have hl : k < xs.length := by have := h.1; omega
  rw [List.getElem?_eq_getElem hl]
  have h1 := h.cells (g := g) rfl k xs[k] (List.getElem?_eq_getElem hl)
  rw [Addr_add_zero] at h1
  exact h1
theorem own_thaw {base n : Nat} {e : TypeId} {g cap : Nat} {xs : List Value} (h : w.ownsRow base e 1 (.slice (some ⟨g, 0, none⟩) n cap) n xs) (k : Nat) : w.frozen? ⟨g, k, none⟩ = false := by
  obtain ⟨cs, hb⟩ := own_blk h (g := g) rfl
  exact hb.frozen k
theorem own_some {base n : Nat} {e : TypeId} {v : Value} {xs : List Value} (h : w.ownsRow base e 1 v n xs) (hn : 0 < n) : ∃ g cap, v = .slice (some ⟨g, 0, none⟩) n cap ∧ g < w.heap.size ∧ base ≤ g := by
  obtain ⟨_, ⟨h1, _⟩ | ⟨g, cap, cur, hv, hb, hr, hc, hm, hs, ht⟩⟩ := h
  · omega
  · exact ⟨g, cap, hv, (Array.getElem?_eq_some_iff.1 hr).1, hb⟩
end

/-- Words lie where an address says, in a block that is one of ok. -/
def U64At (w : World) (ok : Nat → Prop) (A : Option Addr) (l : List Nat) : Prop :=
  0 < l.length → ∃ b o, A = some ⟨b, o, none⟩ ∧ b < w.heap.size ∧ ok b ∧ ∀ k, k < l.length → w.cell? ⟨b, o + k, none⟩ = some (.int .u64 (l.getD k 0 : Nat))
def chL (l : List ChS) : List Value := l.flatMap ChS.cells
/-- Changes lie where an address says. -/
def ChAt (w : World) (A : Option Addr) (l : List ChS) : Prop :=
  0 < l.length → ∃ b o, A = some ⟨b, o, none⟩ ∧ b < w.heap.size ∧ ∀ k, k < l.length → w.cell? ⟨b, o + k * 3, none⟩ = some (.int .i64 (l.getD k ChS.zero).p) ∧ w.cell? ⟨b, o + k * 3 + 1, none⟩ = some (.int .u64 ((l.getD k ChS.zero).was : Nat)) ∧ w.cell? ⟨b, o + k * 3 + 2, none⟩ = some (.int .u64 ((l.getD k ChS.zero).now : Nat))
def anyBl : Nat → Prop := fun _ => True
section
variable {w w' : World} {ok ok' : Nat → Prop} {A : Option Addr} {l : List Nat} {ls : List ChS} {S : List Nat}
theorem U64At.keep (h : U64At w ok A l) (hk : Keep S w w') (hs : ∀ b, ok b → b ∉ S) : U64At w' ok A l := fun h0 => by
  obtain ⟨b, o, h1, h2, h3, h4⟩ := h h0
  exact ⟨b, o, h1, Nat.lt_of_lt_of_le h2 hk.size, h3, fun j hj => by rw [hk.cell h2 (hs b h3)]; exact h4 j hj⟩
theorem U64At.keep0 (h : U64At w ok A l) (hk : Keep [] w w') : U64At w' ok A l := h.keep hk (by simp)
theorem U64At.mono (h : U64At w ok A l) (hk : ∀ b, b < w.heap.size → ok b → ok' b) : U64At w ok' A l := fun h0 => by
  obtain ⟨b, o, h1, h2, h3, h4⟩ := h h0
  exact ⟨b, o, h1, h2, hk b h2 h3, h4⟩
theorem U64At.at_ (h : U64At w ok A l) {k : Nat} (hk : k < l.length) : ∃ b o, A = some ⟨b, o, none⟩ ∧ b < w.heap.size ∧ ok b ∧ w.cell? ⟨b, o + k, none⟩ = some (.int .u64 (l.getD k 0 : Nat)) := by
  obtain ⟨b, o, h1, h2, h3, h4⟩ := h (by omega)
  exact ⟨b, o, h1, h2, h3, h4 k hk⟩
theorem U64At.of_own {base n cap : Nat} {e : TypeId} (h : w.ownsRow base e 1 (.slice A n cap) l.length (u64L l)) : U64At w (base ≤ ·) A l := fun h0 => by
  obtain ⟨g, c, hv, hlt, hb⟩ := own_some h h0
  injection hv with hA hn hc
  subst hA hn hc
  refine ⟨g, 0, rfl, hlt, hb, fun j hj => ?_⟩
  rw [Nat.zero_add, own_cell h hj, u64L_get l hj]
theorem U64At.reads (h : U64At w ok A l) : Reads w w.heap.size 1 A l.length (u64L l) := ⟨by rw [u64L_length, Nat.mul_one], fun h0 => by
  obtain ⟨b, o, h1, h2, _, h4⟩ := h h0
  refine ⟨_, h1, h2, fun j u hj => ?_⟩
  have hjl : j < l.length := by
    have := (List.getElem?_eq_some_iff.1 hj).1
    rw [u64L_length] at this
    exact this
  rw [u64L_get l hjl] at hj
  injection hj with hj
  rw [Addr_add_off, ← hj]
  exact h4 j hjl⟩
theorem u64L_one (l : List Nat) : ∀ u ∈ u64L l, u.oneCell' = true := by
  intro u hu
  simp only [u64L, List.mem_map] at hu
  obtain ⟨n, _, rfl⟩ := hu
  rfl
theorem ChAt.keep0 (h : ChAt w A ls) (hk : Keep [] w w') : ChAt w' A ls := fun h0 => by
  obtain ⟨b, o, h1, h2, h4⟩ := h h0
  refine ⟨b, o, h1, Nat.lt_of_lt_of_le h2 hk.size, fun j hj => ?_⟩
  rw [hk.cell h2 (by simp), hk.cell h2 (by simp), hk.cell h2 (by simp)]
  exact h4 j hj
theorem ChAt.at_ (h : ChAt w A ls) {k : Nat} (hk : k < ls.length) : ∃ b o, A = some ⟨b, o, none⟩ ∧ b < w.heap.size ∧ w.cell? ⟨b, o + k * 3, none⟩ = some (.int .i64 (ls.getD k ChS.zero).p) ∧ w.cell? ⟨b, o + k * 3 + 1, none⟩ = some (.int .u64 ((ls.getD k ChS.zero).was : Nat)) ∧ w.cell? ⟨b, o + k * 3 + 2, none⟩ = some (.int .u64 ((ls.getD k ChS.zero).now : Nat)) := by
  obtain ⟨b, o, h1, h2, h4⟩ := h (by omega)
  exact ⟨b, o, h1, h2, h4 k hk⟩
end
theorem infoU : (Tryd.prog.info? 110).map (fun i => (i.zero, i.size, i.bytes)) = some (some (.int .u64 0), 1, 8) := by kernel_rfl
theorem info_partsT {x : Option TypeInfo} {z : Value} {n m : Nat} (h : x.map (fun i => (i.zero, i.size, i.bytes)) = some (some z, n, m)) : ∃ i, x = some i ∧ i.zero = some z ∧ i.size = n ∧ i.bytes = m := by
  cases x with
  | none => cases h
  | some i =>
    simp only [Option.map_some, Option.some.injEq, Prod.mk.injEq] at h
    exact ⟨i, rfl, h.1, h.2.1, h.2.2⟩
end Go.Proofs.YtpbbpannimlldaaDoor
