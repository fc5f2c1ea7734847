/- Package mem: Load, Store, Cas by their contracts, over a memory that is known whole. -/
import Derived.Test.YtoghcikfkkmfkaaGreatMem
namespace Go.Proofs.YtoghcikfkkmfkaaGreat
open Go.RowKit

section
variable {w w' : World} {i : MemI} {s : MemS} {S : List Nat}
theorem MemAt.keep (h : MemAt w i s) (hk : Keep S w w') (h1 : i.mb ∉ S) (h2 : i.wb ∉ S) : MemAt w' i s := ⟨h.hm.keep hk h1, h.hw.keep hk h2, h.len, h.acc0⟩
theorem MemAt.alloc (h : MemAt w i s) (o : Obj) : MemAt (w.alloc o) i s := ⟨h.hm.alloc o, h.hw.alloc o, h.len, h.acc0⟩
theorem MemAt.drew (h : MemAt w i s) : MemAt w.drew i s := ⟨h.hm, h.hw, h.len, h.acc0⟩
theorem MemAt.drewN (h : MemAt w i s) (n : Nat) : MemAt (w.drewN n) i s := ⟨h.hm, h.hw, h.len, h.acc0⟩
theorem MemAt.drawn (h : MemAt w i s) (hd : Drawn w w') : MemAt w' i s := by obtain ⟨n, rfl⟩ := hd; exact h.drewN n
theorem MemAt.ne (h : MemAt w i s) : i.mb ≠ i.wb := h.hm.ne_ h.hw (by decide)
theorem MemAt.word (h : MemAt w i s) (k : Nat) (hk : k < s.ws.length) : w.cell? ⟨i.wb, k, none⟩ = some (.int .u64 (s.ws[k])) := by
  rw [h.hw.cell]
  simp [u64s, List.getElem?_append_left, hk]
theorem MemAt.put (h : MemAt w i s) (k : Nat) (hk : k < s.ws.length) (v : Nat) : MemAt (w.setCell ⟨i.wb, k, none⟩ (.int .u64 v)) i { s with ws := s.ws.set k v } := by
  refine ⟨?_, ?_, by simpa using h.len, h.acc0⟩
  · simpa using h.hm.far (p := ⟨i.wb, k, none⟩) h.ne _
  · have := h.hw.set_ k (.int .u64 v)
    simpa [u64s, List.set_append, hk, List.map_set] using this
end

def MemS.rd (s : MemS) (a : Int) : Nat := if inR s.ws.length [a] then s.ws.getD a.toNat 0 else 0
def MemS.put (s : MemS) (a : Int) (v : Nat) : MemS := { s with ws := s.ws.set a.toNat v }
def MemS.stored (s : MemS) (a : Int) (v : Nat) : MemS := if inR s.ws.length [a] then (s.touch true).put a v else s.touch false
theorem inR_one {n : Nat} {a : Int} : inR n [a] = (decide (0 ≤ a) && decide (a < n)) := by simp [inR]

theorem load_fn (x : Int) (w : World) : Calls Tryz.prog 54 #[.int .u64 x] w fun e w' => e = .returned (.int .u64 x) ∧ w = w' := by
  go_enter Tryz.func54, Tryz.ntmps54
  go_wp2
  go_ret
  exact ⟨rfl, rfl⟩
theorem store_fn (x v : Int) (nb : Nat) (w : World) (h : w.cell? ⟨nb, 0, none⟩ = some (.int .u64 v)) : Calls Tryz.prog 125 #[.int .u64 x, .pointer (some ⟨nb, 0, none⟩)] w fun e w' => e = .returned (.int .u64 v) ∧ w = w' := by
  go_enter Tryz.func125, Tryz.ntmps125
  go_wp2
  go_ret
  exact ⟨rfl, rfl⟩

/-- A place that is none: nothing but the count and the fault. -/
theorem turn_no (w : World) (i : MemI) (s : MemS) (h : MemAt w i s) (hacc : s.acc ≤ 4611686018427387904) (a : Int) (f : Value) (hin : inR s.ws.length [a] = false) :
    Calls Tryz.prog 53 #[.pointer (some ⟨i.mb, 0, none⟩), .int .i64 a, f] w fun e w' => e = .returned (.int .u64 0) ∧ MemAt w' i (s.touch false) ∧ Keep [i.mb] w w' := by
  have hat := mem_at (w.alloc (.cells #[.int .i64 a] 3)) i s (h.alloc _) hacc w.heap.size [a] (Blk.new _ _ _) (by simp)
  rw [hin] at hat
  have hlt := h.hm.lt
  clear h
  have HA := Lib.hid hat
  clear hat hin
  go_enter Tryz.func53, Tryz.ntmps53
  go_wp2_with fail
  refine HA.out.mono ?_
  rintro e w1 ⟨rfl, h1, hk⟩
  go_wp2
  go_ret
  exact ⟨rfl, h1, (Keep.refl _ w).alloc _ |>.trans hk (fun x hx => .inl hx)⟩

set_option maxHeartbeats 400000 in
theorem turn_load (w : World) (i : MemI) (s : MemS) (h : MemAt w i s) (hacc : s.acc ≤ 4611686018427387904) (k : Nat) (hk : k < s.ws.length) :
    Calls Tryz.prog 53 #[.pointer (some ⟨i.mb, 0, none⟩), .int .i64 k, .func (.func 54) #[] #[]] w fun e w' => e = .returned (.int .u64 s.ws[k]) ∧ MemAt w' i (s.touch true) ∧ Keep [i.mb, i.wb] w w' := by
  have hin : inR s.ws.length [(k : Int)] = true := by simp [inR, hk]
  have hat := mem_at (w.alloc (.cells #[.int .i64 k] 3)) i s (h.alloc _) hacc w.heap.size [(k : Int)] (Blk.new _ _ _) (by simp)
  rw [hin] at hat
  have hlen := h.len
  clear h
  have HA := Lib.hid hat
  clear hat hin
  go_enter Tryz.func53, Tryz.ntmps53
  go_wp2_with fail
  refine HA.out.mono ?_
  rintro e w1 ⟨rfl, h1, hk1⟩
  have hc := h1.hm.cell
  have hwd := h1.word k hk
  have hwf := h1.hw.frozen
  have hput := h1.drew.put k hk s.ws[k]
  have hne := h1.ne
  have hne' := hne.symm
  have H1 := Lib.hid h1
  clear h1
  simp only [MemS.touch] at hc hwd
  go_wp2_with fail
  go_region_held3 (fun w' => w'.cell? ⟨i.mb, 0, none⟩ = some (.slice (some ⟨i.wb, 0, none⟩) s.ws.length i.cap)) (go_keep) (first | (go_at_call 54; refine (load_fn _ _).mono ?_; rintro e w' ⟨rfl, rfl⟩))
  go_wp2
  go_ret
  refine ⟨rfl, ?_, ((((Keep.refl [i.mb, i.wb] w).alloc _).trans hk1 (fun x hx => .inl (by simp at hx; simp [hx]))).set_ _ (.inl (by simp))).drew⟩
  have := (H1.out.put k hk s.ws[k]).drew
  simpa [MemS.touch] using this

set_option maxHeartbeats 400000 in
theorem turn_store (w : World) (i : MemI) (s : MemS) (h : MemAt w i s) (hacc : s.acc ≤ 4611686018427387904) (k : Nat) (hk : k < s.ws.length) (nb : Nat) (v : Nat) (hn : Blk w nb 22 #[.int .u64 v]) (_hnw : nb ≠ i.wb) :
    Calls Tryz.prog 53 #[.pointer (some ⟨i.mb, 0, none⟩), .int .i64 k, .func (.func 125) #[] #[.pointer (some ⟨nb, 0, none⟩)]] w fun e w' => e = .returned (.int .u64 s.ws[k]) ∧ MemAt w' i ((s.touch true).put k v) ∧ Keep [i.mb, i.wb] w w' := by
  have hin : inR s.ws.length [(k : Int)] = true := by simp [inR, hk]
  have hat := mem_at (w.alloc (.cells #[.int .i64 k] 3)) i s (h.alloc _) hacc w.heap.size [(k : Int)] (Blk.new _ _ _) (by simp)
  rw [hin] at hat
  have hnm : nb ≠ i.mb := hn.ne_ h.hm (by decide)
  clear h
  have HA := Lib.hid hat
  clear hat hin
  have HN := Lib.hid hn
  clear hn
  go_enter Tryz.func53, Tryz.ntmps53
  go_wp2_with fail
  refine HA.out.mono ?_
  rintro e w1 ⟨rfl, h1, hk1⟩
  have hn1 := ((HN.out.alloc (.cells #[.int .i64 k] 3)).keep hk1 (by simpa using hnm)).cell 0
  have hc := h1.hm.cell
  have hwd := h1.word k hk
  have hwf := h1.hw.frozen
  have hne := h1.ne
  have hne' := hne.symm
  have H1 := Lib.hid h1
  clear h1
  simp only [MemS.touch] at hc hwd
  go_wp2_with fail
  go_region_held3 (fun w' => w'.cell? ⟨i.mb, 0, none⟩ = some (.slice (some ⟨i.wb, 0, none⟩) s.ws.length i.cap)) (go_keep) (first | (go_at_call 125; refine (store_fn _ v nb _ ?_).mono ?_; (simp [*]); rintro e w' ⟨rfl, rfl⟩))
  go_wp2
  go_ret
  refine ⟨rfl, ?_, ((((Keep.refl [i.mb, i.wb] w).alloc _).trans hk1 (fun x hx => .inl (by simp at hx; simp [hx]))).set_ _ (.inl (by simp))).drew⟩
  exact (H1.out.put k hk v).drew

/-- Load: the word; 0 where there is none. -/
theorem mem_load (w : World) (i : MemI) (s : MemS) (h : MemAt w i s) (hacc : s.acc ≤ 4611686018427387904) (a : Int) :
    Calls Tryz.prog 13 #[.pointer (some ⟨i.mb, 0, none⟩), .int .i64 a] w fun e w' => e = .returned (.int .u64 (s.rd a)) ∧ MemAt w' i (s.touch (inR s.ws.length [a])) ∧ Keep [i.mb, i.wb] w w' := by
  have ht : Calls Tryz.prog 53 #[.pointer (some ⟨i.mb, 0, none⟩), .int .i64 a, .func (.func 54) #[] #[]] w fun e w' => e = .returned (.int .u64 (s.rd a)) ∧ MemAt w' i (s.touch (inR s.ws.length [a])) ∧ Keep [i.mb, i.wb] w w' := by
    by_cases hin : inR s.ws.length [a] = true
    · obtain ⟨h0, h1⟩ : 0 ≤ a ∧ a < s.ws.length := by simpa [inR] using hin
      obtain ⟨k, rfl⟩ := Int.eq_ofNat_of_zero_le h0
      have hk : k < s.ws.length := by omega
      refine (turn_load w i s h hacc k hk).mono ?_
      rintro e w' ⟨rfl, hm, hkp⟩
      rw [hin]
      exact ⟨by simp [MemS.rd, hin, hk], hm, hkp⟩
    · have hin : inR s.ws.length [a] = false := by simpa using hin
      refine (turn_no w i s h hacc a _ hin).mono ?_
      rintro e w' ⟨rfl, hm, hkp⟩
      rw [hin]
      exact ⟨by simp [MemS.rd, hin], hm, hkp.mono (by simp)⟩
  clear h
  have HT := Lib.hid ht
  clear ht
  go_enter Tryz.func13, Tryz.ntmps13
  go_wp2_with fail
  refine HT.out.mono ?_
  rintro e w1 ⟨rfl, h1, hk1⟩
  go_wp2
  go_ret
  exact ⟨rfl, h1, hk1⟩

/-- Store. -/
theorem mem_store (w : World) (i : MemI) (s : MemS) (h : MemAt w i s) (hacc : s.acc ≤ 4611686018427387904) (a : Int) (v : Nat) :
    Calls Tryz.prog 96 #[.pointer (some ⟨i.mb, 0, none⟩), .int .i64 a, .int .u64 v] w fun e w' => e = .returned (.tuple #[]) ∧ MemAt w' i (s.stored a v) ∧ Keep [i.mb, i.wb] w w' := by
  have hwlt := h.hw.lt
  have ht : Calls Tryz.prog 53 #[.pointer (some ⟨i.mb, 0, none⟩), .int .i64 a, .func (.func 125) #[] #[.pointer (some ⟨w.heap.size, 0, none⟩)]] (w.alloc (.cells #[.int .u64 v] 22)) fun e w' => (∃ n, e = .returned (.int .u64 n)) ∧ MemAt w' i (s.stored a v) ∧ Keep [i.mb, i.wb] (w.alloc (.cells #[.int .u64 v] 22)) w' := by
    by_cases hin : inR s.ws.length [a] = true
    · obtain ⟨h0, h1⟩ : 0 ≤ a ∧ a < s.ws.length := by simpa [inR] using hin
      obtain ⟨k, rfl⟩ := Int.eq_ofNat_of_zero_le h0
      have hk : k < s.ws.length := by omega
      refine (turn_store _ i s (h.alloc _) hacc k hk w.heap.size v (Blk.new _ _ _) (by omega)).mono ?_
      rintro e w' ⟨rfl, hm, hkp⟩
      exact ⟨⟨_, rfl⟩, by rw [MemS.stored, if_pos hin]; exact hm, hkp⟩
    · have hin : inR s.ws.length [a] = false := by simpa using hin
      refine (turn_no _ i s (h.alloc _) hacc a _ hin).mono ?_
      rintro e w' ⟨rfl, hm, hkp⟩
      exact ⟨⟨_, rfl⟩, by rw [MemS.stored, hin]; exact hm, hkp.mono (by simp)⟩
  clear h
  have HT := Lib.hid ht
  clear ht
  go_enter Tryz.func96, Tryz.ntmps96
  go_wp2_with fail
  refine HT.out.mono ?_
  rintro e w1 ⟨⟨n, rfl⟩, h1, hk1⟩
  go_wp2
  go_end0
  exact ⟨rfl, h1, ((Keep.refl _ w).alloc _).trans hk1 (fun x hx => .inl hx)⟩
end Go.Proofs.YtoghcikfkkmfkaaGreat
