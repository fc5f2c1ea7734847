/- Package mem: Cas, Words, Of, and slices.Clone of words, by their contracts. -/
import Derived.Test.YtoghcikfkkmfkaaGreatMem2
import Derived.Laws.AppendOwn
import Derived.OwnWalk
namespace Go.Proofs.YtoghcikfkkmfkaaGreat
open Go.RowKit

def MemS.casB (s : MemS) (a : Int) (old : Nat) : Bool := inR s.ws.length [a] && s.rd a == old
def MemS.casS (s : MemS) (a : Int) (old next : Nat) : MemS := if s.casB a old then (s.touch true).put a next else s.touch (inR s.ws.length [a])

set_option maxHeartbeats 400000 in
theorem mem_cas (w : World) (i : MemI) (s : MemS) (h : MemAt w i s) (hacc : s.acc ≤ 4611686018427387904) (a : Int) (old next : Nat) :
    Calls Tryz.prog 119 #[.pointer (some ⟨i.mb, 0, none⟩), .int .i64 a, .int .u64 old, .int .u64 next] w fun e w' => e = .returned (.bool (s.casB a old)) ∧ MemAt w' i (s.casS a old next) ∧ Keep [i.mb, i.wb] w w' := by
  have hat := mem_at (w.alloc (.cells #[.int .i64 a] 3)) i s (h.alloc _) hacc w.heap.size [a] (Blk.new _ _ _) (by simp)
  clear h
  by_cases hin : inR s.ws.length [a] = true
  · obtain ⟨h0, h1⟩ : 0 ≤ a ∧ a < s.ws.length := by simpa [inR] using hin
    obtain ⟨k, rfl⟩ := Int.eq_ofNat_of_zero_le h0
    have hk : k < s.ws.length := by omega
    have hrd : s.rd k = s.ws[k] := by simp [MemS.rd, hin, hk]
    rw [hin] at hat
    have HA := Lib.hid hat
    clear hat
    by_cases he : s.ws[k] = old
    · have hB : s.casB k old = true := by simp [MemS.casB, hin, hrd, he]
      have hS : s.casS k old next = (s.touch true).put k next := by simp [MemS.casS, hB]
      rw [hB, hS]
      clear hB hS hin hrd
      have HE := Lib.hid he
      have hb : (s.ws[k] != old) = false := by simp [he]
      clear he
      go_enter Tryz.func119, Tryz.ntmps119
      go_wp2_with fail
      refine HA.out.mono ?_
      rintro e w1 ⟨rfl, h1, hk1⟩
      have hc := h1.hm.cell
      have hwd := h1.word k hk
      have hwf := h1.hw.frozen
      have H1 := Lib.hid h1
      clear h1
      simp only [MemS.touch] at hc hwd
      go_wp2
      go_ret
      exact ⟨rfl, H1.out.put k hk next, (((Keep.refl [i.mb, i.wb] w).alloc _).trans hk1 (fun x hx => .inl (by simp at hx; simp [hx]))).set_ _ (.inl (by simp))⟩
    · have hB : s.casB k old = false := by simp [MemS.casB, hrd, he]
      have hS : s.casS k old next = s.touch true := by simp [MemS.casS, hB, hin]
      rw [hB, hS]
      clear hB hS hin hrd
      have hb : (s.ws[k] != old) = true := by simp [he]
      clear he
      go_enter Tryz.func119, Tryz.ntmps119
      go_wp2_with fail
      refine HA.out.mono ?_
      rintro e w1 ⟨rfl, h1, hk1⟩
      have hc := h1.hm.cell
      have hwd := h1.word k hk
      have H1 := Lib.hid h1
      clear h1
      simp only [MemS.touch] at hc hwd
      go_wp2
      go_ret
      exact ⟨rfl, H1.out, ((Keep.refl [i.mb, i.wb] w).alloc _).trans hk1 (fun x hx => .inl (by simp at hx; simp [hx]))⟩
  · have hin : inR s.ws.length [a] = false := by simpa using hin
    have hB : s.casB a old = false := by simp [MemS.casB, hin]
    have hS : s.casS a old next = s.touch false := by simp [MemS.casS, hB, hin]
    rw [hB, hS]
    rw [hin] at hat
    have HA := Lib.hid hat
    clear hat hB hS hin
    go_enter Tryz.func119, Tryz.ntmps119
    go_wp2_with fail
    refine HA.out.mono ?_
    rintro e w1 ⟨rfl, h1, hk1⟩
    have H1 := Lib.hid h1
    clear h1
    go_wp2
    go_ret
    exact ⟨rfl, H1.out, ((Keep.refl [i.mb, i.wb] w).alloc _).trans hk1 (fun x hx => .inl (by simp at hx; simp [hx]))⟩

/-- A slice value that reads as the cells xs (one cell each), nil where there are none or not. -/
def Sl (w : World) (t : TypeId) (A : Option Addr) (n : Nat) (xs : List Value) : Prop :=
  xs.length = n ∧ (0 < n → ∃ b o cs, A = some ⟨b, o, none⟩ ∧ Blk w b t cs ∧ ∀ k v, xs[k]? = some v → cs[o + k]? = some v)

theorem info22 : (Tryz.prog.info? 22).map (fun i => (i.zero, i.size, i.bytes)) = some (some (.int .u64 0), 1, 8) := by kernel_rfl

theorem Addr_add_zero (b j : Nat) : (⟨b, 0, none⟩ : Addr).add j = ⟨b, j, none⟩ := by
  unfold Addr.add
  split
  · subst_vars; rfl
  · simp
theorem Keep.of_grown {w w' : World} {row : Option Nat} (h : w.grownBy w' row) : Keep row.toList w w' :=
  ⟨h.os, h.tape, h.output, h.size, fun k hk hn => h.block k hk (fun e => hn (by rw [← e]; simp))⟩

set_option maxHeartbeats 400000 in
theorem clone_words (w : World) (b n cap : Nat) (cs : Array Value) (hb : Blk w b 22 cs) (hn : n ≤ cs.size) (hn1 : 1 ≤ n) (hn2 : n ≤ 4096) (hone : ∀ v, v ∈ cs.toList.take n → v.oneCell' = true) :
    Calls Tryz.prog 75 #[.slice (some ⟨b, 0, none⟩) n cap] w fun e w' => ∃ g c xt, e = .returned (.slice (some ⟨g, 0, none⟩) n c) ∧ Blk w' g 22 (cs.toList.take n ++ xt).toArray ∧ n ≤ c ∧ w.heap.size ≤ g ∧ Keep [] w w' := by
  have HO := Lib.hid hone
  clear hone
  have HB := Lib.hid hb
  have HN := Lib.hid hn
  have HL := Lib.hid hn2
  clear hb hn hn2
  have q := fun (w : World) (a : Option Addr) (n c n' c' : Nat) => Lib.run_eql_slice_nil (P := Tryz.prog) w _ _ a n c n' c' Tryz.underlying43
  go_enter Tryz.func75, Tryz.ntmps75
  go_wp2_with (at_builtin; obtain ⟨i0, hi, hz0, hz1, hz2⟩ := info_parts info22; refine wpList_append_own _ rfl _ _ 43 rfl w.heap.size 22 i0 (.int .u64 0) 1 8 Tryz.underlying43 hi hz0 hz1 hz2 rfl (by decide) (.slice (some ⟨w.heap.size, 0, none⟩) 0 0) 0 [] rfl (World.ownsRow_made w #[] 0 (Nat.le_refl _) (by unfold maxLen; omega) rfl) ⟨b, 0, none⟩ n cap (cs.toList.take n) rfl ?c1 ?c2 ?c3 ?c4 ?c5 ?c6 ?_; (case c1 => have := HN.out; simp; omega); (case c2 => intro j u hu; rw [Addr_add_zero, (HB.out.alloc _).cell]; rw [List.getElem?_take] at hu; split at hu; (simpa using hu); (cases hu)); (case c3 => exact HO.out); (case c4 => have := HL.out; unfold maxLen; omega); (case c5 => have := HL.out; omega); (case c6 => simp); clear hi hz0 hz1 hz2; intro v' w1 hown hg _; have HW := Lib.hid hown; have HG := Lib.hid hg; clear hown hg)
  go_ret
  obtain ⟨_, h1 | ⟨g, c, cur, hv, hgb, hh, hle, hcm, hcs, htk⟩⟩ := HW.out
  · omega
  · refine ⟨g, c, cur.toList.drop n, ?_, ?_, by omega, hgb, ?_⟩
    · simp only [Nat.zero_add] at hv
      show Ending.returned v' = _
      rw [hv]
    · have : cur = (cs.toList.take n ++ cur.toList.drop n).toArray := by
        simp only [Nat.zero_add, Nat.mul_one, List.nil_append] at htk
        rw [← htk, List.take_append_drop]
      rw [← this]
      exact hh
    · exact ((Keep.refl [] w).alloc _).trans (Keep.of_grown HG.out) (fun x hx => by right; simp [Value.ownBlock] at hx; omega)

/-- A fresh slice of words, its spare places besides. -/
def Fresh (w w' : World) (t : TypeId) (n : Nat) (xs : List Value) (v : Value) : Prop :=
  ∃ g c xt, v = .slice (some ⟨g, 0, none⟩) n c ∧ Blk w' g t (xs ++ xt).toArray ∧ n ≤ c ∧ w.heap.size ≤ g

theorem u64s_one (l : List Nat) : ∀ v, v ∈ u64s l → v.oneCell' = true := by
  intro v hv
  simp only [u64s, List.mem_map] at hv
  obtain ⟨x, _, rfl⟩ := hv
  rfl

theorem mem_words (w : World) (i : MemI) (s : MemS) (h : MemAt w i s) (h1 : 1 ≤ s.ws.length) :
    Calls Tryz.prog 31 #[.pointer (some ⟨i.mb, 0, none⟩)] w fun e w' => ∃ v, e = .returned v ∧ Fresh w w' 22 s.ws.length (u64s s.ws) v ∧ Keep [] w w' := by
  have hcl := clone_words w i.wb s.ws.length i.cap _ h.hw (by simp [u64s]) h1 h.len (by simpa [u64s, List.take_append_of_le_length] using u64s_one s.ws)
  have hc := h.hm.cell
  have HC := Lib.hid hcl
  clear hcl h
  go_enter Tryz.func31, Tryz.ntmps31
  go_wp2_with fail
  refine HC.out.mono ?_
  rintro e w1 ⟨g, c, xt, rfl, hb, hle, hg, hk⟩
  go_wp2
  go_ret
  exact ⟨_, rfl, ⟨g, c, xt, rfl, by simpa [u64s, List.take_append_of_le_length] using hb, hle, hg⟩, hk⟩

theorem mem_of (w : World) (b n cap : Nat) (ws : List Nat) (xt : List Value) (hb : Blk w b 22 (u64s ws ++ xt).toArray) (hn : ws.length = n) (h1 : 1 ≤ n) (h2 : n ≤ 4096) :
    Calls Tryz.prog 47 #[.slice (some ⟨b, 0, none⟩) n cap] w fun e w' => ∃ i : MemI, e = .returned (.pointer (some ⟨i.mb, 0, none⟩)) ∧ MemAt w' i ⟨ws, 0, false⟩ ∧ w.heap.size ≤ i.mb ∧ w.heap.size ≤ i.wb ∧ Keep [] w w' := by
  subst hn
  have hcl := clone_words w b ws.length cap _ hb (by simp [u64s]) h1 h2 (by simpa [u64s, List.take_append_of_le_length] using u64s_one ws)
  have h1' : ¬ ((ws.length : Int) < 1) := by omega
  have h2' : ¬ ((4096 : Int) < (ws.length : Int)) := by omega
  have d1 : decide ((ws.length : Int) < 1) = false := by simpa using h1'
  have d2 : decide ((4096 : Int) < (ws.length : Int)) = false := by simpa using h2'
  have HC := Lib.hid hcl
  have H2 := Lib.hid h2
  clear hcl hb h2 h1' h2'
  go_enter Tryz.func47, Tryz.ntmps47
  go_wp2_with fail
  refine HC.out.mono ?_
  rintro e w1 ⟨g, c, xt, rfl, hb, hle, hg, hk⟩
  have HB := Lib.hid hb
  clear hb
  go_wp2
  go_ret
  refine ⟨⟨w1.heap.size, g, c, xt⟩, rfl, ⟨Blk.new _ _ _, ?_, H2.out, by simp⟩, hk.size, hg, hk.alloc _⟩
  have := HB.out.alloc (.cells #[.slice (some ⟨g, 0, none⟩) ws.length c, .int .i64 0, .bool false] 140)
  simpa [u64s, List.take_append_of_le_length] using this
end Go.Proofs.YtoghcikfkkmfkaaGreat
