/- Which numbers a call has, by the reference; the reference's way of writing, the library's way: plain lemmas, has by its contract. No condition. -/
import Derived.Test.YtpbbpannimlldaaDoorTx4
namespace Go.Proofs.YtpbbpannimlldaaDoor
open Go.RowKit

def hasL (op : Int) : Bool × Bool × Bool × Bool := if op = 0 then (true, true, false, false) else if op = 1 ∨ op = 2 ∨ op = 7 ∨ op = 8 ∨ op = 11 then (true, false, false, false) else if op = 3 then (true, false, true, true) else if op = 4 ∨ op = 9 then (true, false, true, false) else (false, false, false, false)
def hasC (op : Int) : Array Value := #[.bool (hasL op).1, .bool (hasL op).2.1, .bool (hasL op).2.2.1, .bool (hasL op).2.2.2]
theorem has_done {op : Int} {w w2 : World} {tmps : Array Value} {b : Bool × Bool × Bool × Bool} (g : Nat) (hp : tmps.getD 2 undef = .pointer (some ⟨g, 0, none⟩)) (hb : Blk w2 g 57 #[.bool b.1, .bool b.2.1, .bool b.2.2.1, .bool b.2.2.2]) (he : hasL op = b) (hk : Keep [] w w2) : bodyPost Tryd.prog Tryd.f25 (fun r w' => r = .returned (.agg (hasC op)) ∧ Keep [] w w') .ret ⟨tmps, []⟩ w2 :=
  bodyPost_ret (results_cell_row (p := 2) (ty := 57) (d := .array 4 4) rfl _ _ g _ _ _ hp hb (by kernel_rfl) rfl (by kernel_rfl)) rfl ⟨by rw [← he]; rfl, hk⟩
set_option maxHeartbeats 2000000 in
theorem ref35_has (op : Int) (w : World) : Calls Tryd.prog 25 #[.int .i64 op] w fun r w' => r = .returned (.agg (hasC op)) ∧ Keep [] w w' := by
  by_cases h0 : op = 0
  · subst h0
    go_enter Tryd.func25, Tryd.ntmps25
    go_wp2_with fail
    exact has_done w.heap.size rfl (Blk.new w _ _) rfl ((Keep.refl _ _).alloc _)
  by_cases h1 : op = 1
  · subst h1
    go_enter Tryd.func25, Tryd.ntmps25
    go_wp2_with fail
    exact has_done w.heap.size rfl (Blk.new w _ _) rfl ((Keep.refl _ _).alloc _)
  by_cases h2 : op = 2
  · subst h2
    go_enter Tryd.func25, Tryd.ntmps25
    go_wp2_with fail
    exact has_done w.heap.size rfl (Blk.new w _ _) rfl ((Keep.refl _ _).alloc _)
  by_cases h7 : op = 7
  · subst h7
    go_enter Tryd.func25, Tryd.ntmps25
    go_wp2_with fail
    exact has_done w.heap.size rfl (Blk.new w _ _) rfl ((Keep.refl _ _).alloc _)
  by_cases h8 : op = 8
  · subst h8
    go_enter Tryd.func25, Tryd.ntmps25
    go_wp2_with fail
    exact has_done w.heap.size rfl (Blk.new w _ _) rfl ((Keep.refl _ _).alloc _)
  by_cases h11 : op = 11
  · subst h11
    go_enter Tryd.func25, Tryd.ntmps25
    go_wp2_with fail
    exact has_done w.heap.size rfl (Blk.new w _ _) rfl ((Keep.refl _ _).alloc _)
  by_cases h3 : op = 3
  · subst h3
    go_enter Tryd.func25, Tryd.ntmps25
    go_wp2_with fail
    exact has_done w.heap.size rfl (Blk.new w _ _) rfl ((Keep.refl _ _).alloc _)
  by_cases h4 : op = 4
  · subst h4
    go_enter Tryd.func25, Tryd.ntmps25
    go_wp2_with fail
    exact has_done w.heap.size rfl (Blk.new w _ _) rfl ((Keep.refl _ _).alloc _)
  by_cases h9 : op = 9
  · subst h9
    go_enter Tryd.func25, Tryd.ntmps25
    go_wp2_with fail
    exact has_done w.heap.size rfl (Blk.new w _ _) rfl ((Keep.refl _ _).alloc _)
  have e0 : (op == 0) = false := by rw [beq_eq_false_iff_ne]; exact h0
  have e1 : (op == 1) = false := by rw [beq_eq_false_iff_ne]; exact h1
  have e2 : (op == 2) = false := by rw [beq_eq_false_iff_ne]; exact h2
  have e7 : (op == 7) = false := by rw [beq_eq_false_iff_ne]; exact h7
  have e8 : (op == 8) = false := by rw [beq_eq_false_iff_ne]; exact h8
  have e11 : (op == 11) = false := by rw [beq_eq_false_iff_ne]; exact h11
  have e3 : (op == 3) = false := by rw [beq_eq_false_iff_ne]; exact h3
  have e4 : (op == 4) = false := by rw [beq_eq_false_iff_ne]; exact h4
  have e9 : (op == 9) = false := by rw [beq_eq_false_iff_ne]; exact h9
  have HE : hasL op = (false, false, false, false) := by
    unfold hasL
    rw [if_neg h0, if_neg (by omega), if_neg h3, if_neg (by omega)]
  clear h0 h1 h2 h7 h8 h11 h3 h4 h9
  go_enter Tryd.func25, Tryd.ntmps25
  go_wp2_with fail
  exact has_done w.heap.size rfl (Blk.new w _ _) HE ((Keep.refl _ _).alloc _)
def partB (l : List (Bool × Int)) : List UInt8 := l.flatMap fun p => if p.1 then 32 :: Lib.itoa p.2 else []
def CallX.four (c : CallX) : List (Bool × Int) := [((hasL c.op).1, c.key), ((hasL c.op).2.1, c.val), ((hasL c.op).2.2.1, c.hi), ((hasL c.op).2.2.2, c.lim)]
/-- The reference's way, the library's way. -/
theorem four_eq (c : CallX) : partB c.four = numsB c.nums := by
  obtain ⟨op, key, val, hi, lim⟩ := c
  unfold CallX.four CallX.nums hasL idxC
  by_cases h0 : op = 0
  · subst h0; simp [partB, numsB, CallX.at_]
  by_cases h1 : op = 1 ∨ op = 2 ∨ op = 7 ∨ op = 8 ∨ op = 11
  · have h3 : op ≠ 3 := by omega
    simp only [if_neg h0, if_pos h1, if_neg h3]
    simp [partB, numsB, CallX.at_]
  by_cases h3 : op = 3
  · subst h3; simp [partB, numsB, CallX.at_]
  by_cases h4 : op = 4 ∨ op = 9
  · have h5 : op = 3 ∨ op = 4 ∨ op = 9 := by omega
    simp only [if_neg h0, if_neg h1, if_neg h3, if_pos h4, if_pos h5]
    simp [partB, numsB, CallX.at_]
  · have h5 : ¬ (op = 3 ∨ op = 4 ∨ op = 9) := by omega
    simp only [if_neg h0, if_neg h1, if_neg h3, if_neg h4, if_neg h5]
    simp [partB, numsB]
theorem partB_take {l : List (Bool × Int)} {k : Nat} (h : k < l.length) : partB (l.take (k + 1)) = partB (l.take k) ++ (if (l.getD k (false, 0)).1 then 32 :: Lib.itoa (l.getD k (false, 0)).2 else []) := by
  unfold partB
  rw [take_snoc l (false, 0) h, List.flatMap_append]
  simp
theorem partB_len : ∀ l : List (Bool × Int), (∀ p ∈ l, I64 p.2) → (partB l).length ≤ 22 * l.length
  | [], _ => by simp [partB]
  | p :: l, h => by
    have h1 := itoa_len (h p (by simp))
    have h2 := partB_len l (fun m hm => h m (by simp [hm]))
    unfold partB at *
    rw [List.flatMap_cons, List.length_append, List.length_cons]
    split
    · rw [List.length_cons]; omega
    · rw [List.length_nil]; omega
theorem pairsB_take {l : List (Int × Int)} {k : Nat} (h : k < l.length) : pairsB (l.take (k + 1)) = pairsB (l.take k) ++ 32 :: pairB (l.getD k (0, 0)) := by
  unfold pairsB
  rw [take_snoc l (0, 0) h, List.flatMap_append]
  simp
theorem ansZ_eq (a : AnsX) : ansZ a = kindB a.kind ++ (if a.kind = 1 then numsB [a.key, a.val] else if a.kind = 2 then numsB [a.n] else if a.kind = 3 then pairsB a.ps else []) := by
  unfold ansZ
  by_cases h : kindB a.kind = []
  · rw [if_pos h, h]
    by_cases h1 : 0 ≤ a.kind ∧ a.kind ≤ 8
    · obtain ⟨k, hk⟩ : ∃ k : Nat, a.kind = (k : Int) := ⟨a.kind.toNat, by omega⟩
      rw [hk] at h
      exact absurd h (kindB_some (by omega)).2
    · rw [if_neg (by omega), if_neg (by omega), if_neg (by omega)]
      rfl
  · rw [if_neg h]
end Go.Proofs.YtpbbpannimlldaaDoor
