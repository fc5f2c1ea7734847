/- Entries of scripts in memory; slices.Clone and slices.Delete of entries by their contracts. Conditions: at most 1000 entries; what is cut out lies within. -/
import Derived.Test.YtbhibmimdpodiaaShrP
import Derived.Test.YtbhibmimdpodiaaOwn
namespace Go.Proofs.Ytbhibmimdpodiaa
open Go.RowKit

def EntS.cells (e : EntS) : List Value := [.int .i64 e.thr, .bool e.beg, .int .i64 e.op, .int .i64 e.key, .int .i64 e.val, .int .i64 e.hi, .int .i64 e.lim]
def entL (l : List EntS) : List Value := l.flatMap EntS.cells
def ent0 : EntS := ⟨0, false, 0, 0, 0, 0, 0⟩
theorem entL_len : ∀ l : List EntS, (entL l).length = l.length * 7
  | [] => rfl
  | e :: l => by
    have := entL_len l
    show (e.cells ++ entL l).length = _
    rw [List.length_append, this, List.length_cons]
    show 7 + l.length * 7 = _
    omega
theorem entL_app (a b : List EntS) : entL (a ++ b) = entL a ++ entL b := by simp [entL]
theorem entL_at : ∀ (l : List EntS) (k j : Nat) (e : EntS), l[k]? = some e → j < 7 → (entL l)[k * 7 + j]? = e.cells[j]?
  | [], k, j, e, h, _ => by simp at h
  | x :: l, 0, j, e, h, hj => by
    obtain rfl : x = e := by simpa using h
    show (x.cells ++ entL l)[0 * 7 + j]? = _
    rw [List.getElem?_append_left (by show _ < 7; omega), Nat.zero_mul, Nat.zero_add]
  | x :: l, k + 1, j, e, h, hj => by
    show (x.cells ++ entL l)[(k + 1) * 7 + j]? = _
    rw [List.getElem?_append_right (by show 7 ≤ _; omega), show (k + 1) * 7 + j - x.cells.length = k * 7 + j by show _ - 7 = _; omega]
    exact entL_at l k j e (by simpa using h) hj
theorem entL_one (l : List EntS) : ∀ u ∈ entL l, u.oneCell' = true := by
  intro u hu
  simp only [entL, List.mem_flatMap] at hu
  obtain ⟨e, _, he⟩ := hu
  simp only [EntS.cells, List.mem_cons, List.not_mem_nil, or_false] at he
  rcases he with rfl | rfl | rfl | rfl | rfl | rfl | rfl <;> rfl
theorem infoEnt : (Try.prog.info? 43).map (fun i => (i.zero, i.size, i.bytes)) = some (some (.agg #[.int .i64 0, .bool false, .int .i64 0, .int .i64 0, .int .i64 0, .int .i64 0, .int .i64 0]), 7, 56) := by kernel_rfl
theorem zeroEnt (w : World) : (zeroValue 43).run Try.prog w = .ok (.agg #[.int .i64 0, .bool false, .int .i64 0, .int .i64 0, .int .i64 0, .int .i64 0, .int .i64 0]) w := by kernel_rfl

def anyB : Nat → Prop := fun _ => True
/-- Entries lie where an address says, in a block that is one of ok. -/
def EntAt (w : World) (ok : Nat → Prop) (A : Option Addr) (l : List EntS) : Prop :=
  0 < l.length → ∃ b o, A = some ⟨b, o, none⟩ ∧ b < w.heap.size ∧ ok b ∧ ∀ j u, (entL l)[j]? = some u → w.cell? ⟨b, o + j, none⟩ = some u
section
variable {w w' : World} {ok ok' : Nat → Prop} {A : Option Addr} {l : List EntS} {S : List Nat}
theorem EntAt.keep (h : EntAt w ok A l) (hk : Keep S w w') (hs : ∀ b, ok b → b ∉ S) : EntAt w' ok A l := fun h0 => by
  obtain ⟨b, o, h1, h2, h3, h4⟩ := h h0
  exact ⟨b, o, h1, Nat.lt_of_lt_of_le h2 hk.size, h3, fun j u hj => by rw [hk.cell h2 (hs b h3)]; exact h4 j u hj⟩
theorem EntAt.mono (h : EntAt w ok A l) (hk : ∀ b, b < w.heap.size → ok b → ok' b) : EntAt w ok' A l := fun h0 => by
  obtain ⟨b, o, h1, h2, h3, h4⟩ := h h0
  exact ⟨b, o, h1, h2, hk b h2 h3, h4⟩
theorem EntAt.keep0 (h : EntAt w ok A l) (hk : Keep [] w w') : EntAt w' ok A l := h.keep hk (by simp)
theorem EntAt.at_ (h : EntAt w ok A l) {k : Nat} (hk : k < l.length) : ∃ b o, A = some ⟨b, o, none⟩ ∧ b < w.heap.size ∧ ok b ∧ w.cell? ⟨b, o + k * 7, none⟩ = some (.int .i64 (l.getD k ent0).thr) ∧ w.cell? ⟨b, o + k * 7 + 1, none⟩ = some (.bool (l.getD k ent0).beg) ∧ w.cell? ⟨b, o + k * 7 + 2, none⟩ = some (.int .i64 (l.getD k ent0).op) ∧ w.cell? ⟨b, o + k * 7 + 3, none⟩ = some (.int .i64 (l.getD k ent0).key) ∧ w.cell? ⟨b, o + k * 7 + 4, none⟩ = some (.int .i64 (l.getD k ent0).val) ∧ w.cell? ⟨b, o + k * 7 + 5, none⟩ = some (.int .i64 (l.getD k ent0).hi) ∧ w.cell? ⟨b, o + k * 7 + 6, none⟩ = some (.int .i64 (l.getD k ent0).lim) := by
  obtain ⟨b, o, h1, h2, h3, h4⟩ := h (by omega)
  have hg : l[k]? = some (l.getD k ent0) := by rw [List.getD_eq_getElem?_getD, List.getElem?_eq_getElem hk]; rfl
  have hc : ∀ j, j < 7 → w.cell? ⟨b, o + k * 7 + j, none⟩ = (l.getD k ent0).cells[j]? := fun j hj => by
    have e := entL_at l k j _ hg hj
    have hl : ((l.getD k ent0).cells[j]?) = some ((l.getD k ent0).cells[j]'(by show j < 7; omega)) := List.getElem?_eq_getElem _
    rw [hl] at e ⊢
    rw [Nat.add_assoc]
    exact h4 _ _ e
  exact ⟨b, o, h1, h2, h3, hc 0 (by omega), hc 1 (by omega), hc 2 (by omega), hc 3 (by omega), hc 4 (by omega), hc 5 (by omega), hc 6 (by omega)⟩
theorem EntAt.of_own {base n cap : Nat} (h : w.ownsRow base 43 7 (.slice A n cap) l.length (entL l)) : EntAt w (base ≤ ·) A l := fun h0 => by
  obtain ⟨g, c, hv, hb, hlt⟩ := h.form h0
  have hA : A = some ⟨g, 0, none⟩ := by injection hv
  subst hA
  refine ⟨g, 0, rfl, hlt, hb, fun j u hj => ?_⟩
  have := h.cells (g := g) rfl j u hj
  rw [Addr_add_zero] at this
  rw [Nat.zero_add]
  exact this
theorem EntAt.reads (h : EntAt w ok A l) : Reads w w.heap.size 7 A l.length (entL l) := ⟨entL_len l, fun h0 => by
  obtain ⟨b, o, h1, h2, _, h4⟩ := h h0
  exact ⟨_, h1, h2, fun j u hj => by rw [Addr_add_off]; exact h4 j u hj⟩⟩
theorem EntAt.nil (w : World) (ok : Nat → Prop) (A : Option Addr) : EntAt w ok A [] := fun h => by simp at h
end
/-- What is told: new memory, entries in it. -/
def EntOut (w : World) (l : List EntS) (r : Ending) (w' : World) : Prop := Keep [] w w' ∧ ∃ v, r = .returned v ∧ w'.ownsRow w.heap.size 43 7 v l.length (entL l)

set_option maxHeartbeats 1000000 in
theorem clone_ents (w : World) (A : Option Addr) (l : List EntS) (cap : Nat) (ok : Nat → Prop) (h : EntAt w ok A l) (hl : l.length ≤ 1000) :
    Calls Try.prog 40 #[.slice A l.length cap] w (EntOut w l) := by
  have HL := Lib.hid hl
  have HB := Lib.hid h
  clear h hl
  have q := fun (w : World) (a : Option Addr) (n c n' c' : Nat) => Lib.run_eql_slice_nil (P := Try.prog) w _ _ a n c n' c' Try.underlying25
  rcases A with _ | a
  · have hz : l.length = 0 := by
      rcases Nat.eq_zero_or_pos l.length with h | h
      · exact h
      · obtain ⟨b, o, h1, _⟩ := HB.out h
        cases h1
    obtain rfl : l = [] := List.eq_nil_of_length_eq_zero hz
    go_enter Try.func40, Try.ntmps40
    go_wp2
    go_ret
    exact ⟨Keep.refl _ _, _, rfl, rfl, .inl ⟨rfl, rfl⟩⟩
  · have hsrc : Hid (∀ j u, (entL l)[j]? = some u → (w.alloc (.cells #[] 43)).cell? (a.add j) = some u) := by
      intro j u hj
      have hp : 0 < l.length := by
        rcases Nat.eq_zero_or_pos l.length with h | h
        · rw [List.eq_nil_of_length_eq_zero h] at hj
          simp [entL] at hj
        · exact h
      obtain ⟨b, o, h1, h2, _, h4⟩ := HB.out hp
      obtain rfl : a = ⟨b, o, none⟩ := by injection h1
      rw [Addr_add_off]
      exact Lib.cell?_alloc_some _ (h4 j u hj)
    clear HB
    go_enter Try.func40, Try.ntmps40
    go_wp2_with (at_builtin; obtain ⟨i0, hi, hz0, hz1, hz2⟩ := info_parts infoEnt; refine wpList_append_own _ rfl _ _ 25 rfl w.heap.size 43 i0 (.agg #[.int .i64 0, .bool false, .int .i64 0, .int .i64 0, .int .i64 0, .int .i64 0, .int .i64 0]) 7 56 Try.underlying25 hi hz0 hz1 hz2 rfl (by decide) (.slice (some ⟨w.heap.size, 0, none⟩) 0 0) 0 [] rfl (World.ownsRow_made w #[] 0 (Nat.le_refl _) (by unfold maxLen; omega) rfl) a l.length cap (entL l) rfl ?c1 ?c2 ?c3 ?c4 ?c5 ?c6 ?_; (case c1 => exact entL_len l); (case c2 => exact hsrc.out); (case c3 => exact entL_one l); (case c4 => have := HL.out; unfold maxLen; omega); (case c5 => have := HL.out; omega); (case c6 => simp); clear hi hz0 hz1 hz2; intro v' w1 hown hg _; have HW := Lib.hid hown; have HG := Lib.hid hg; clear hown hg)
    go_ret
    refine ⟨((Keep.refl [] w).alloc _).trans (Keep.of_grown HG.out) ?_, _, rfl, by have := HW.out; simpa using this⟩
    intro x hx
    have : x = w.heap.size := by simpa [Value.ownBlock] using hx
    exact .inr (by omega)

/-- Entries cut out of a row of the call's own. -/
def CutOut (w : World) (base : Nat) (v : Value) (l : List EntS) (r : Ending) (w' : World) : Prop := Keep v.ownBlock.toList w w' ∧ ∃ v', r = .returned v' ∧ w'.ownsRow base 43 7 v' l.length (entL l)
theorem cut_done {w : World} {base g cap i j : Nat} {l : List EntS} {cur : Array Value} (zs : List Value) (hb : base ≤ g) (hh : Blk w g 43 cur) (hc : l.length ≤ cap) (hcm : cap ≤ maxLen) (hcs : cur.size = cap * 7) (ht : cur.toList.take (l.length * 7) = entL l) (hij : i ≤ j) (hj : j ≤ l.length) (hz : zs.length = (j - i) * 7) (w2 : World) (hw2 : w2 = (w.setCells g (i * 7) (entL (l.drop j))).setCells g ((i + (l.length - j)) * 7) zs) :
    Keep [g] w w2 ∧ w2.ownsRow base 43 7 (.slice (some ⟨g, 0, none⟩) (i + (l.length - j)) cap) (woL l i (j - i)).length (entL (woL l i (j - i))) := by
  subst hw2
  have hwl : woL l i (j - i) = l.take i ++ l.drop j := by unfold woL; rw [show i + (j - i) = j by omega]
  have hlen : (woL l i (j - i)).length = i + (l.length - j) := by rw [hwl]; simp; omega
  have e1 : cur = (entL (l.take i) ++ (entL ((l.drop i).take (l.length - j)) ++ (entL ((l.drop i).drop (l.length - j)) ++ cur.toList.drop (l.length * 7)))).toArray := by
    apply Array.ext'
    show cur.toList = entL (l.take i) ++ (entL ((l.drop i).take (l.length - j)) ++ (entL ((l.drop i).drop (l.length - j)) ++ cur.toList.drop (l.length * 7)))
    rw [← List.append_assoc, ← List.append_assoc, ← entL_app, ← entL_app]
    have : (l.take i ++ (l.drop i).take (l.length - j)) ++ (l.drop i).drop (l.length - j) = l := by rw [List.append_assoc, List.take_append_drop, List.take_append_drop]
    rw [this, ← ht, List.take_append_drop]
  have ht1 : (entL (l.take i)).length = i * 7 := by rw [entL_len, List.length_take]; congr 1; omega
  have h1 : Blk (w.setCells g (i * 7) (entL (l.drop j))) g 43 (entL (l.take i) ++ (entL (l.drop j) ++ (entL ((l.drop i).drop (l.length - j)) ++ cur.toList.drop (l.length * 7)))).toArray := by
    rw [e1] at hh
    have := Blk.setCells (entL (l.drop j)) _ _ _ w hh (by rw [entL_len, entL_len]; simp; omega)
    rw [ht1] at this
    exact (by simpa using this)
  have h2 : Blk ((w.setCells g (i * 7) (entL (l.drop j))).setCells g ((i + (l.length - j)) * 7) zs) g 43 (entL (l.take i ++ l.drop j) ++ (zs ++ cur.toList.drop (l.length * 7))).toArray := by
    have e : (entL (l.take i) ++ (entL (l.drop j) ++ (entL ((l.drop i).drop (l.length - j)) ++ cur.toList.drop (l.length * 7)))).toArray = (entL (l.take i ++ l.drop j) ++ (entL ((l.drop i).drop (l.length - j)) ++ cur.toList.drop (l.length * 7))).toArray := by
      rw [entL_app, List.append_assoc]
    rw [e] at h1
    have := Blk.setCells zs _ _ _ _ h1 (by rw [entL_len, hz]; simp; omega)
    have e3 : (entL (l.take i ++ l.drop j)).length = (i + (l.length - j)) * 7 := by rw [entL_len]; congr 1; simp; omega
    rw [e3] at this
    exact this
  refine ⟨Keep.setCells (.inl (by simp)) _ _ _ (Keep.setCells (.inl (by simp)) _ _ _ (Keep.refl _ _)), entL_len _, .inr ⟨g, cap, _, by rw [hlen], hb, h2, by omega, hcm, ?_, ?_⟩⟩
  · have hd : cur.toList.length = cap * 7 := by simpa using hcs
    have hx : (entL (l.take i ++ l.drop j)).length = (i + (l.length - j)) * 7 := by rw [entL_len]; congr 1; simp; omega
    simp [hx, hz, hcs]
    omega
  · rw [hlen, hwl]
    have hx : (entL (l.take i ++ l.drop j)).length = (i + (l.length - j)) * 7 := by rw [entL_len]; congr 1; simp; omega
    show ((entL (l.take i ++ l.drop j) ++ (zs ++ cur.toList.drop (l.length * 7)))).take _ = _
    rw [← hx, List.take_left']
    rfl
end Go.Proofs.Ytbhibmimdpodiaa
