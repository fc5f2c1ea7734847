/- Histories in memory; in, Ahead by their contracts. Conditions: none. -/
import Derived.Test.YtofmonknhiggaaaStQ
import Derived.Test.YtofmonknhiggaaaOwn
namespace Go.Proofs.Ytofmonknhiggaaa
open Go.RowKit

def evC (e : EvS) : List Value := [.int .i64 e.thr, .bool e.back, .int .i64 e.op, .int .i64 e.key, .int .i64 e.val, .int .i64 e.hi, .int .i64 e.lim, .int .i64 e.kind, .int .i64 e.akey, .int .i64 e.aval, .int .i64 e.an, .slice e.pA e.pn e.pc]
def opC (o : OpS) : List Value := [.int .i64 o.thr, .int .i64 o.op, .int .i64 o.key, .int .i64 o.val, .int .i64 o.hi, .int .i64 o.lim, .int .i64 o.kind, .int .i64 o.akey, .int .i64 o.aval, .int .i64 o.an, .slice o.pA o.pn o.pc, .int .i64 o.frm, .int .i64 o.to]
theorem flat_at {α : Type} (f : α → List Value) (size : Nat) (hf : ∀ a, (f a).length = size) : ∀ (l : List α) (k j : Nat) (u : Value) (d : α), k < l.length → (f (l.getD k d))[j]? = some u → (l.flatMap f)[k * size + j]? = some u
  | [], k, j, u, d, h, _ => by simp at h
  | x :: l, 0, j, u, d, _, h => by
    replace h : (f x)[j]? = some u := h
    have hj := (List.getElem?_eq_some_iff.1 h).1
    rw [Nat.zero_mul, Nat.zero_add, List.flatMap_cons, List.getElem?_append_left hj]
    exact h
  | x :: l, k + 1, j, u, d, hk, h => by
    rw [List.flatMap_cons, List.getElem?_append_right (by rw [hf, Nat.add_mul]; omega), hf, show (k + 1) * size + j - size = k * size + j by rw [Nat.add_mul]; omega]
    exact flat_at f size hf l k j u d (by simpa using hk) (by simpa using h)
/-- Elements lie where an address says. -/
def ElAt {α : Type} (f : α → List Value) (w : World) (A : Option Addr) (l : List α) : Prop := 0 < l.length → ∃ b o, A = some ⟨b, o, none⟩ ∧ b < w.heap.size ∧ ∀ j u, (l.flatMap f)[j]? = some u → w.cell? ⟨b, o + j, none⟩ = some u
theorem ElAt.keep {α : Type} {f : α → List Value} {w w' : World} {A : Option Addr} {l : List α} (h : ElAt f w A l) (hk : Keep [] w w') : ElAt f w' A l := fun h0 => by
  obtain ⟨b, o, h1, h2, h3⟩ := h h0
  exact ⟨b, o, h1, Nat.lt_of_lt_of_le h2 hk.size, fun j u hu => (hk.cell h2 (by simp)).trans (h3 j u hu)⟩
theorem flat_len {α : Type} (f : α → List Value) (size : Nat) (hf : ∀ a, (f a).length = size) : ∀ l : List α, (l.flatMap f).length = l.length * size
  | [] => by simp
  | x :: l => by rw [List.flatMap_cons, List.length_append, hf, flat_len f size hf l, List.length_cons, Nat.add_mul]; omega
theorem ElAt.of_own {α : Type} {f : α → List Value} {w : World} {base size n cap : Nat} {t : TypeId} {A : Option Addr} {l : List α} (h : w.ownsRow base t size (.slice A n cap) n (l.flatMap f)) (hn : n = l.length) : ElAt f w A l := fun h0 => by
  obtain ⟨g, c, hv, hb, hlt⟩ := h.form (by omega)
  have hA : A = some ⟨g, 0, none⟩ := by injection hv
  subst hA
  refine ⟨g, 0, rfl, hlt, fun j u hj => ?_⟩
  have := h.cells (g := g) rfl j u hj
  rw [Addr_add_zero] at this
  rw [Nat.zero_add]
  exact this
theorem ElAt.at_ev {w : World} {A : Option Addr} {l : List EvS} (h : ElAt evC w A l) {k : Nat} (hk : k < l.length) : ∃ b o, A = some ⟨b, o, none⟩ ∧ b < w.heap.size ∧ w.cell? ⟨b, o + k * 12, none⟩ = some (.int .i64 (l.getD k ev0).thr) ∧ w.cell? ⟨b, o + k * 12 + 1, none⟩ = some (.bool (l.getD k ev0).back) ∧ w.cell? ⟨b, o + k * 12 + 2, none⟩ = some (.int .i64 (l.getD k ev0).op) ∧ w.cell? ⟨b, o + k * 12 + 3, none⟩ = some (.int .i64 (l.getD k ev0).key) ∧ w.cell? ⟨b, o + k * 12 + 4, none⟩ = some (.int .i64 (l.getD k ev0).val) ∧ w.cell? ⟨b, o + k * 12 + 5, none⟩ = some (.int .i64 (l.getD k ev0).hi) ∧ w.cell? ⟨b, o + k * 12 + 6, none⟩ = some (.int .i64 (l.getD k ev0).lim) ∧ w.cell? ⟨b, o + k * 12 + 7, none⟩ = some (.int .i64 (l.getD k ev0).kind) ∧ w.cell? ⟨b, o + k * 12 + 8, none⟩ = some (.int .i64 (l.getD k ev0).akey) ∧ w.cell? ⟨b, o + k * 12 + 9, none⟩ = some (.int .i64 (l.getD k ev0).aval) ∧ w.cell? ⟨b, o + k * 12 + 10, none⟩ = some (.int .i64 (l.getD k ev0).an) ∧ w.cell? ⟨b, o + k * 12 + 11, none⟩ = some (.slice (l.getD k ev0).pA (l.getD k ev0).pn (l.getD k ev0).pc) := by
  obtain ⟨b, o, h1, h2, h3⟩ := h (by omega)
  have hc : ∀ j u, (evC (l.getD k ev0))[j]? = some u → w.cell? ⟨b, o + k * 12 + j, none⟩ = some u := fun j u hu => by
    rw [Nat.add_assoc]
    exact h3 _ _ (flat_at evC 12 (fun _ => rfl) l k j u ev0 hk hu)
  exact ⟨b, o, h1, h2, hc 0 _ rfl, hc 1 _ rfl, hc 2 _ rfl, hc 3 _ rfl, hc 4 _ rfl, hc 5 _ rfl, hc 6 _ rfl, hc 7 _ rfl, hc 8 _ rfl, hc 9 _ rfl, hc 10 _ rfl, hc 11 _ rfl⟩
theorem ElAt.at_op {w : World} {A : Option Addr} {l : List OpS} (h : ElAt opC w A l) {k : Nat} (hk : k < l.length) : ∃ b o, A = some ⟨b, o, none⟩ ∧ b < w.heap.size ∧ w.cell? ⟨b, o + k * 13, none⟩ = some (.int .i64 (l.getD k op0).thr) ∧ w.cell? ⟨b, o + k * 13 + 1, none⟩ = some (.int .i64 (l.getD k op0).op) ∧ w.cell? ⟨b, o + k * 13 + 2, none⟩ = some (.int .i64 (l.getD k op0).key) ∧ w.cell? ⟨b, o + k * 13 + 3, none⟩ = some (.int .i64 (l.getD k op0).val) ∧ w.cell? ⟨b, o + k * 13 + 4, none⟩ = some (.int .i64 (l.getD k op0).hi) ∧ w.cell? ⟨b, o + k * 13 + 5, none⟩ = some (.int .i64 (l.getD k op0).lim) ∧ w.cell? ⟨b, o + k * 13 + 6, none⟩ = some (.int .i64 (l.getD k op0).kind) ∧ w.cell? ⟨b, o + k * 13 + 7, none⟩ = some (.int .i64 (l.getD k op0).akey) ∧ w.cell? ⟨b, o + k * 13 + 8, none⟩ = some (.int .i64 (l.getD k op0).aval) ∧ w.cell? ⟨b, o + k * 13 + 9, none⟩ = some (.int .i64 (l.getD k op0).an) ∧ w.cell? ⟨b, o + k * 13 + 10, none⟩ = some (.slice (l.getD k op0).pA (l.getD k op0).pn (l.getD k op0).pc) ∧ w.cell? ⟨b, o + k * 13 + 11, none⟩ = some (.int .i64 (l.getD k op0).frm) ∧ w.cell? ⟨b, o + k * 13 + 12, none⟩ = some (.int .i64 (l.getD k op0).to) := by
  obtain ⟨b, o, h1, h2, h3⟩ := h (by omega)
  have hc : ∀ j u, (opC (l.getD k op0))[j]? = some u → w.cell? ⟨b, o + k * 13 + j, none⟩ = some u := fun j u hu => by
    rw [Nat.add_assoc]
    exact h3 _ _ (flat_at opC 13 (fun _ => rfl) l k j u op0 hk hu)
  exact ⟨b, o, h1, h2, hc 0 _ rfl, hc 1 _ rfl, hc 2 _ rfl, hc 3 _ rfl, hc 4 _ rfl, hc 5 _ rfl, hc 6 _ rfl, hc 7 _ rfl, hc 8 _ rfl, hc 9 _ rfl, hc 10 _ rfl, hc 11 _ rfl, hc 12 _ rfl⟩

theorem st_in (n m : Int) (w : World) : Calls Try.prog 21 #[.int .i64 n, .int .i64 m] w fun r w' => r = .returned (.bool (decide (0 ≤ n) && decide (n < m))) ∧ w = w' := by
  by_cases h0 : 0 ≤ n
  · go_enter Try.func21, Try.ntmps21
    go_wp2
    go_ret
    exact ⟨by rw [decide_eq_true h0]; rfl, rfl⟩
  · go_enter Try.func21, Try.ntmps21
    go_wp2
    go_ret
    exact ⟨by rw [decide_eq_false (by omega)]; rfl, rfl⟩
def opV (o : OpS) : Value := .agg #[.int .i64 o.thr, .int .i64 o.op, .int .i64 o.key, .int .i64 o.val, .int .i64 o.hi, .int .i64 o.lim, .int .i64 o.kind, .int .i64 o.akey, .int .i64 o.aval, .int .i64 o.an, .slice o.pA o.pn o.pc, .int .i64 o.frm, .int .i64 o.to]
set_option maxHeartbeats 400000 in
theorem hist_ahead (a b : OpS) (w : World) : Calls Try.prog 23 #[opV a, opV b] w fun r w' => r = .returned (.bool (aheadP a b)) ∧ Keep [] w w' := by
  have HB := Lib.hid ((Blk.new (w.alloc (.cells (opC a).toArray 41)) 41 (opC b).toArray))
  have HA := Lib.hid ((Blk.new w 41 (opC a).toArray).alloc (.cells (opC b).toArray 41))
  have HK := Lib.hid (((Keep.refl [] w).alloc (.cells (opC a).toArray 41)).alloc (.cells (opC b).toArray 41))
  unfold opC at HA HB HK
  simp only [World.size_alloc] at HB
  have hw : aheadP a b = (decide (0 ≤ a.to) && decide (a.to < b.frm)) := rfl
  rw [hw]
  by_cases h0 : 0 ≤ a.to
  · go_enter Try.func23, Try.ntmps23
    unfold opV
    go_upto_region 1 with fail
    generalize (w.alloc _).alloc _ = w2 at HA HB HK ⊢
    generalize w.heap.size + 1 = bb at HB ⊢
    generalize w.heap.size = ab at HA ⊢
    have ha := HA.out.cell 12
    have hb := HB.out.cell 11
    go_wp2
    go_ret
    exact ⟨by rw [decide_eq_true h0]; rfl, HK.out⟩
  · go_enter Try.func23, Try.ntmps23
    unfold opV
    go_upto_region 1 with fail
    generalize (w.alloc _).alloc _ = w2 at HA HB HK ⊢
    generalize w.heap.size + 1 = bb at HB ⊢
    generalize w.heap.size = ab at HA ⊢
    have ha := HA.out.cell 12
    have hb := HB.out.cell 11
    go_wp2
    go_ret
    exact ⟨by rw [decide_eq_false (by omega)]; rfl, HK.out⟩
set_option maxHeartbeats 400000 in
theorem ref12_ahead (a b : OpS) (w : World) : Calls Try.prog 17 #[opV a, opV b] w fun r w' => r = .returned (.bool (aheadP a b)) ∧ Keep [] w w' := by
  have HB := Lib.hid ((Blk.new (w.alloc (.cells (opC a).toArray 41)) 41 (opC b).toArray))
  have HA := Lib.hid ((Blk.new w 41 (opC a).toArray).alloc (.cells (opC b).toArray 41))
  have HK := Lib.hid (((Keep.refl [] w).alloc (.cells (opC a).toArray 41)).alloc (.cells (opC b).toArray 41))
  unfold opC at HA HB HK
  simp only [World.size_alloc] at HB
  have hw : aheadP a b = (decide (0 ≤ a.to) && decide (a.to < b.frm)) := rfl
  rw [hw]
  by_cases h0 : 0 ≤ a.to
  · go_enter Try.func17, Try.ntmps17
    unfold opV
    go_upto_region 1 with fail
    generalize (w.alloc _).alloc _ = w2 at HA HB HK ⊢
    generalize w.heap.size + 1 = bb at HB ⊢
    generalize w.heap.size = ab at HA ⊢
    have ha := HA.out.cell 12
    have hb := HB.out.cell 11
    go_wp2
    go_ret
    exact ⟨by rw [decide_eq_true h0]; rfl, HK.out⟩
  · go_enter Try.func17, Try.ntmps17
    unfold opV
    go_upto_region 1 with fail
    generalize (w.alloc _).alloc _ = w2 at HA HB HK ⊢
    generalize w.heap.size + 1 = bb at HB ⊢
    generalize w.heap.size = ab at HA ⊢
    have ha := HA.out.cell 12
    have hb := HB.out.cell 11
    go_wp2
    go_ret
    exact ⟨by rw [decide_eq_false (by omega)]; rfl, HK.out⟩
end Go.Proofs.Ytofmonknhiggaaa
