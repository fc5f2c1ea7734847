/- Package guard: its functions by their contracts, over a guard that is known whole. Conditions: the guard is known (GuardAt), its count of slips is far from the end of int. -/
import Derived.Test.YtoghcikfkkmfkaaGreatEdge
import Derived.Test.YtoghcikfkkmfkaaGreatMem3
import Derived.Maps.Own
import Derived.Maps.OwnOps
import Derived.Maps.OwnSet
import Derived.Maps.Views
import Derived.Carry
namespace Go.Proofs.YtoghcikfkkmfkaaGreat
open Go.RowKit Go.Maps

theorem keyed : Keyed Tryz.prog 3 := int_keyed Tryz.underlying3
theorem zeroU (w : World) : (zeroValue 22).run Tryz.prog w = .ok (.int .u64 0) w := by kernel_rfl
abbrev kl (s : Int) : Lit := .int .i64 s
theorem kl_wf (s : Int) (h0 : -9223372036854775808 ≤ s) (h1 : s ≤ 9223372036854775807) : (kl s).wf = true := WalkArith.wf_i64 ⟨h0, h1⟩
theorem kl_key (s : Int) (h0 : -9223372036854775808 ≤ s) (h1 : s ≤ 9223372036854775807) : keyOf Tryz.prog 3 (.int .i64 s) = some (kl s) := keyOf_int_mk Tryz.underlying3 (kl_wf s h0 h1)

/-- The map of what is held: just the slots of L, each with 1. -/
def HeldD (w : World) (hb : Nat) (L : List Nat) (D : DataW Unit) : Prop :=
  w.ownsMap Tryz.prog 3 (plainElem Tryz.prog 22) hb L.length D ∧ Maps.size D = L.length ∧ (∀ s : Int, Maps.has D (kl s) = decide (∃ n ∈ L, s = (n : Int))) ∧
    ∀ s : Int, (∃ n ∈ L, s = (n : Int)) → D.atKey (kl s) (.lit (.int .u64 0)) = .lit (.int .u64 1)
structure HeldAt (w : World) (hb : Nat) (L : List Nat) : Prop where
  ex : ∃ D : DataW Unit, HeldD w hb L D
  nd : L.Nodup

section
variable {w w' : World} {hb : Nat} {L : List Nat} {S : List Nat}
theorem HeldAt.lt (h : HeldAt w hb L) : hb < w.heap.size := by obtain ⟨⟨D, h1, _⟩, _⟩ := h; exact h1.lt
theorem HeldAt.same (h : HeldAt w hb L) (hs : w'.heap[hb]? = w.heap[hb]?) : HeldAt w' hb L := by
  obtain ⟨⟨D, ⟨es, c, h1, h2⟩, h3⟩, h4⟩ := h
  exact ⟨⟨D, ⟨es, c, hs.trans h1, h2⟩, h3⟩, h4⟩
theorem HeldAt.keep (h : HeldAt w hb L) (hk : Keep S w w') (hn : hb ∉ S) : HeldAt w' hb L := h.same (hk.block hb h.lt hn)
theorem HeldAt.alloc (h : HeldAt w hb L) (o : Obj) : HeldAt (w.alloc o) hb L := h.same (Below.heap_alloc w o hb h.lt)
theorem HeldAt.drewN (h : HeldAt w hb L) (n : Nat) : HeldAt (w.drewN n) hb L := h.same rfl
theorem HeldAt.drew (h : HeldAt w hb L) : HeldAt w.drew hb L := h.same rfl
theorem HeldAt.set_ (h : HeldAt w hb L) {p : Addr} (hp : hb ≠ p.block) (u : Value) : HeldAt (w.setCell p u) hb L := h.same (Below.heap_setCell w p u hb hp)
theorem HeldAt.neBlk {g t : Nat} {cs : Array Value} (h : HeldAt w hb L) (hg : Blk w g t cs) : hb ≠ g := by
  rintro rfl
  obtain ⟨⟨D, ⟨es, c, h1, h2⟩, h3⟩, h4⟩ := h
  unfold Blk at hg
  rw [h1] at hg
  cases hg
theorem HeldAt.look (h : HeldAt w hb L) (s : Int) (h0 : -9223372036854775808 ≤ s) (h1 : s ≤ 9223372036854775807) :
    (Instr.lookup 120 (.map (some hb)) (.int .i64 s) false).run Tryz.prog w = .ok (.int .u64 (if ∃ n ∈ L, s = (n : Int) then 1 else 0)) w := by
  obtain ⟨⟨D, ho, hz, hh, ha⟩, _⟩ := h
  obtain ⟨c, hrun, hat, _⟩ := ho.lookup_int keyed Tryz.underlying120 Tryz.underlying22 (zeroU w) (kl_key s h0 h1)
  rw [hrun]
  by_cases hs : ∃ n ∈ L, s = (n : Int)
  · rw [ha s hs] at hat
    simp only [DataW.lit.injEq, Lit.int.injEq, true_and] at hat
    rw [if_pos hs, ← hat]
  · have hf : Maps.has D (kl s) = false := by rw [hh]; simpa using hs
    rw [atKey_of_not_has hf] at hat
    simp only [DataW.lit.injEq, Lit.int.injEq, true_and] at hat
    rw [if_neg hs, ← hat]
theorem HeldAt.nil (w : World) : HeldAt (w.alloc (.map #[] 0)) w.heap.size [] :=
  ⟨⟨.map [], World.ownsMap_made _ _ _ _, rfl, fun s => by simp [Maps.has], fun s ⟨n, hn, _⟩ => by simp at hn⟩, List.nodup_nil⟩
theorem tight {D : DataW Unit} {n : Nat} {R : Value → Option (DataW Unit × List MemPlace)} (h : w.ownsMap Tryz.prog 3 R hb n D) : w.ownsMap Tryz.prog 3 R hb (Maps.size D) D := by
  obtain ⟨es, clock, hb, F, _, rfl⟩ := h
  exact ⟨es, clock, hb, F, by simp [Maps.size, length_sorted], rfl⟩
/-- One more is held. -/
theorem HeldD.put {s n : Nat} {D : DataW Unit} (h : HeldD w hb L D) (hnd : L.Nodup) (hs : s ∉ L)
    (ho : w'.ownsMap Tryz.prog 3 (plainElem Tryz.prog 22) hb n (D.put (kl s) (.lit (.int .u64 1)))) : HeldAt w' hb (s :: L) := by
  obtain ⟨h1, hz, hh, ha⟩ := h
  have hT := h1.tidy keyed
  have hf : Maps.has D (kl s) = false := by
    rw [hh]
    simp only [decide_eq_false_iff_not]
    rintro ⟨n, hn, e⟩
    have : n = s := by omega
    exact hs (this ▸ hn)
  have hsz : Maps.size (D.put (kl s) (.lit (.int .u64 1))) = (s :: L).length := by rw [size_put hT, hf]; simp [hz]
  have hkey : WideAt.IsKeyLit (kl (s : Int)) := trivial
  refine ⟨⟨_, hsz ▸ tight ho, hsz, fun t => ?_, fun t ht => ?_⟩, List.nodup_cons.2 ⟨hs, hnd⟩⟩
  · by_cases e : t = s
    · subst e
      rw [has_put_same hT.isMap hkey]
      simp
    · rw [has_put_other (fun e2 => e (by injection e2)), hh]
      simp [e]
  · by_cases e : t = s
    · subst e
      exact atKey_put_same hT.isMap hkey _ _
    · rw [atKey_put_other (fun e2 => e (by injection e2))]
      obtain ⟨n, hn, rfl⟩ := ht
      refine ha _ ⟨n, ?_, rfl⟩
      rcases List.mem_cons.1 hn with rfl | hn
      · exact absurd rfl e
      · exact hn
/-- One is not held any more. -/
theorem HeldD.del {s n : Nat} {D : DataW Unit} (h : HeldD w hb L D) (hnd : L.Nodup) (hs : s ∈ L)
    (ho : w'.ownsMap Tryz.prog 3 (plainElem Tryz.prog 22) hb n (D.del (kl s))) : HeldAt w' hb (L.erase s) := by
  obtain ⟨h1, hz, hh, ha⟩ := h
  have hT := h1.tidy keyed
  have hf : Maps.has D (kl s) = true := by rw [hh]; simpa using ⟨s, hs, rfl⟩
  have hsz : Maps.size (D.del (kl s)) = (L.erase s).length := by
    have := size_del (k := kl (s : Int)) hT
    rw [hf] at this
    rw [List.length_erase_of_mem hs]
    simp at this
    omega
  refine ⟨⟨_, hsz ▸ tight ho, hsz, fun t => ?_, fun t ht => ?_⟩, hnd.erase _⟩
  · by_cases e : t = s
    · subst e
      rw [has_del_same]
      simp only [Bool.false_eq, decide_eq_false_iff_not]
      rintro ⟨n, hn, e⟩
      have : n = s := by omega
      subst this
      exact (hnd.mem_erase_iff.1 hn).1 rfl
    · rw [has_del_other (fun e2 => e (by injection e2)), hh]
      congr 1
      apply propext
      constructor
      · rintro ⟨n, hn, rfl⟩
        exact ⟨n, hnd.mem_erase_iff.2 ⟨fun e2 => e (by rw [e2]), hn⟩, rfl⟩
      · rintro ⟨n, hn, rfl⟩
        exact ⟨n, List.mem_of_mem_erase hn, rfl⟩
  · obtain ⟨n, hn, rfl⟩ := ht
    have hn2 := hnd.mem_erase_iff.1 hn
    rw [atKey_del_other (fun e2 => hn2.1 (by injection e2 with _ e3; omega))]
    exact ha _ ⟨n, hn2.2, rfl⟩
end
end Go.Proofs.YtoghcikfkkmfkaaGreat
