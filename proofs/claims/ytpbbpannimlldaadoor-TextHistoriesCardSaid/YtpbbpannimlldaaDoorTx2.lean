/- A call, written: fields, text.Call by their contracts. Condition: the library's table is as it was laid; numbers are int64. -/
import Derived.Test.YtpbbpannimlldaaDoorTx1
import Derived.Test.YtpbbpannimlldaaDoorTrP
namespace Go.Proofs.YtpbbpannimlldaaDoor
open Go.RowKit

def strL (l : List (List UInt8)) : List Value := l.map fun s => .string ⟨s.toArray⟩
theorem strL_length (l : List (List UInt8)) : (strL l).length = l.length := by simp [strL]
theorem infoS : (Tryd.prog.info? 9).map (fun i => (i.zero, i.size, i.bytes)) = some (some (.string ⟨#[]⟩), 1, 16) := by kernel_rfl
/-- Join of a row that the call has made. -/
theorem join_own (w : World) (base cap : Nat) (A : Option Addr) (ls : List (List UInt8)) (h : w.ownsRow base 9 1 (.slice A ls.length cap) ls.length (strL ls)) (h0 : 0 < ls.length) (hn : ls.length ≤ 5000) (hl : (Lib.join ls [32]).length ≤ 400000) :
    Calls Tryd.prog 40 #[.slice A ls.length cap, .string { data := #[32] }] w (TextOut (Lib.join ls [32]) w) := by
  obtain ⟨g, c, hv, hlt, _⟩ := own_some h h0
  injection hv with hA _ hc
  subst hA hc
  have hcap := own_cap h
  have hxs : (ls.map fun l => (⟨l.toArray⟩ : ByteArray)).map (·.data.toList) = ls := by
    rw [List.map_map]
    conv => rhs; rw [← List.map_id ls]
    exact List.map_congr_left fun l _ => by simp
  have K := Tryd.strings_Join g 0 cap (ls.map fun l => (⟨l.toArray⟩ : ByteArray)) ⟨#[32]⟩ w (fun j x hj => by
    rw [List.getElem?_map] at hj
    have hjl : j < ls.length := by
      rcases Nat.lt_or_ge j ls.length with h1 | h1
      · exact h1
      · rw [List.getElem?_eq_none h1] at hj
        cases hj
    rw [Nat.zero_add, own_cell h hjl]
    unfold strL
    rw [List.getElem?_map]
    rw [List.getElem?_eq_getElem hjl] at hj ⊢
    simp only [Option.map_some, Option.some.injEq] at hj ⊢
    rw [← hj]) hlt (by rw [List.length_map]; omega) (by rw [List.length_map]; exact hcap.1) (by rw [hxs]; show (Lib.join ls [32]).length ≤ _; omega)
  rw [List.length_map, hxs] at K
  refine K.mono ?_
  rintro r x ⟨rfl, hk⟩
  exact ⟨rfl, Keep.of_below hk⟩
def FieldsOut (c : CallX) (cb : Nat) (w : World) (r : Ending) (w' : World) : Prop := Keep [] w w' ∧ ∃ A cap, r = .returned (.slice A (idxC c.op).length cap) ∧ (0 < (idxC c.op).length → ∃ g cs, A = some ⟨g, 0, none⟩ ∧ Blk w' g 85 cs ∧ ∀ k, k < (idxC c.op).length → cs[k]? = some (.pointer (some ⟨cb, (idxC c.op).getD k 0, none⟩)))
theorem fields_two {c : CallX} {cb g a b : Nat} {w w' : World} (hi : idxC c.op = [a, b]) (hk : Keep [] w w') (hb : Blk w' g 85 #[.pointer (some ⟨cb, a, none⟩), .pointer (some ⟨cb, b, none⟩)]) : FieldsOut c cb w (.returned (.slice (some ⟨g, 0, none⟩) 2 2)) w' := by
  refine ⟨hk, some ⟨g, 0, none⟩, 2, by rw [hi]; rfl, fun _ => ⟨g, _, rfl, hb, fun k hk => ?_⟩⟩
  rw [hi] at hk ⊢
  have hc : k = 0 ∨ k = 1 := by simp at hk; omega
  rcases hc with rfl | rfl
  · rfl
  · rfl
theorem fields_one {c : CallX} {cb g a : Nat} {w w' : World} (hi : idxC c.op = [a]) (hk : Keep [] w w') (hb : Blk w' g 85 #[.pointer (some ⟨cb, a, none⟩)]) : FieldsOut c cb w (.returned (.slice (some ⟨g, 0, none⟩) 1 1)) w' := by
  refine ⟨hk, some ⟨g, 0, none⟩, 1, by rw [hi]; rfl, fun _ => ⟨g, _, rfl, hb, fun k hk => ?_⟩⟩
  rw [hi] at hk ⊢
  obtain rfl : k = 0 := by simp at hk; omega
  rfl
set_option maxHeartbeats 2000000 in
theorem text_fields (c : CallX) (cb : Nat) (w : World) (hb : Blk w cb 26 c.cells) : Calls Tryd.prog 42 #[.pointer (some ⟨cb, 0, none⟩)] w (FieldsOut c cb w) := by
  obtain ⟨op, key, val, hi, lim⟩ := c
  have hc : w.cell? ⟨cb, 0, none⟩ = some (.int .i64 op) := hb.cell 0
  clear hb
  by_cases h0 : op = 0
  · subst h0
    go_enter Tryd.func42, Tryd.ntmps42
    go_upto_region 3 with fail
    go_region
    go_wp2
    go_ret
    exact fields_two rfl (((Keep.refl [] w).alloc _).drew) (Blk.new w _ _)
  by_cases h1 : op = 1
  · subst h1
    go_enter Tryd.func42, Tryd.ntmps42
    go_wp2
    go_ret
    exact fields_one rfl ((Keep.refl [] w).alloc _) (Blk.new w _ _)
  by_cases h2 : op = 2
  · subst h2
    go_enter Tryd.func42, Tryd.ntmps42
    go_wp2
    go_ret
    exact fields_one rfl ((Keep.refl [] w).alloc _) (Blk.new w _ _)
  by_cases h7 : op = 7
  · subst h7
    go_enter Tryd.func42, Tryd.ntmps42
    go_wp2
    go_ret
    exact fields_one rfl ((Keep.refl [] w).alloc _) (Blk.new w _ _)
  by_cases h8 : op = 8
  · subst h8
    go_enter Tryd.func42, Tryd.ntmps42
    go_wp2
    go_ret
    exact fields_one rfl ((Keep.refl [] w).alloc _) (Blk.new w _ _)
  by_cases h11 : op = 11
  · subst h11
    go_enter Tryd.func42, Tryd.ntmps42
    go_wp2
    go_ret
    exact fields_one rfl ((Keep.refl [] w).alloc _) (Blk.new w _ _)
  by_cases h3 : op = 3
  · subst h3
    go_enter Tryd.func42, Tryd.ntmps42
    go_upto_region 13 with fail
    go_region
    go_wp2
    go_ret
    exact fields_two rfl (((Keep.refl [] w).alloc _).drew) (Blk.new w _ _)
  by_cases h4 : op = 4
  · subst h4
    go_enter Tryd.func42, Tryd.ntmps42
    go_upto_region 13 with fail
    go_region
    go_wp2
    go_ret
    exact fields_two rfl (((Keep.refl [] w).alloc _).drew) (Blk.new w _ _)
  by_cases h9 : op = 9
  · subst h9
    go_enter Tryd.func42, Tryd.ntmps42
    go_upto_region 13 with fail
    go_region
    go_wp2
    go_ret
    exact fields_two rfl (((Keep.refl [] w).alloc _).drew) (Blk.new w _ _)
  have e0 : (op == 0) = false := by rw [beq_eq_false_iff_ne]; exact h0
  have e1 : (op == 1) = false := by rw [beq_eq_false_iff_ne]; exact h1
  have e2 : (op == 2) = false := by rw [beq_eq_false_iff_ne]; exact h2
  have e7 : (op == 7) = false := by rw [beq_eq_false_iff_ne]; exact h7
  have e8 : (op == 8) = false := by rw [beq_eq_false_iff_ne]; exact h8
  have e11 : (op == 11) = false := by rw [beq_eq_false_iff_ne]; exact h11
  have e3 : (op == 3) = false := by rw [beq_eq_false_iff_ne]; exact h3
  have e4 : (op == 4) = false := by rw [beq_eq_false_iff_ne]; exact h4
  have e9 : (op == 9) = false := by rw [beq_eq_false_iff_ne]; exact h9
  have hidx : idxC op = [] := by
    unfold idxC
    rw [if_neg h0, if_neg (by omega), if_neg (by omega)]
  clear h0 h1 h2 h7 h8 h11 h3 h4 h9
  go_enter Tryd.func42, Tryd.ntmps42
  go_wp2
  go_ret
  exact ⟨Keep.refl _ _, none, 0, by rw [show (CallX.mk op key val hi lim).op = op from rfl, hidx] <;> rfl, fun h => by rw [show (CallX.mk op key val hi lim).op = op from rfl, hidx] at h; exact absurd h (Nat.lt_irrefl 0)⟩
end Go.Proofs.YtpbbpannimlldaaDoor
