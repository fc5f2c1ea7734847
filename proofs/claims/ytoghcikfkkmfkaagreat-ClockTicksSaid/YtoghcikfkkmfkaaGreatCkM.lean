/- ClockTicks: what the law keeps beside its machine. Plain lemmas over the words of memory. -/
import Derived.Test.YtoghcikfkkmfkaaGreatCkC
import Derived.Test.YtoghcikfkkmfkaaGreatCk3
namespace Go.Proofs.YtoghcikfkkmfkaaGreat
open Go.RowKit

structure AllK (w0 : World) (m0 : Nat) (wr : World) (i : MI) (s : MS) (cb : Nat) (c : ConfS) (v : Value) (L : List Nat) : Prop where
  hm : MachC w0 m0 wr i s
  hb : Blk wr cb 24 c.cells
  ho : wr.ownsRow w0.heap.size 22 1 v L.length (u64s L)
  hf : ∀ g, v.ownBlock = some g → g ∉ i.foot
section
variable {w0 wr w1 w2 : World} {m0 cb : Nat} {i i2 : MI} {s s2 : MS} {c : ConfS} {v v' : Value} {L : List Nat} {x : Nat}
theorem AllK.keep0 (h : AllK w0 m0 wr i s cb c v L) (hk : Keep [] wr w2) : AllK w0 m0 w2 i s cb c v L :=
  ⟨h.hm.keep0 hk, h.hb.keep hk (by simp), own_keep h.ho hk (by simp), h.hf⟩
theorem AllK.go (h : AllK w0 m0 wr i s cb c v L) (hm : MachAt w2 i2 s2) (hg : Goes wr w2 i i2) : AllK w0 m0 w2 i2 s2 cb c v L :=
  ⟨h.hm.go hm hg, h.hm.hm.goBlk hg h.hb (by decide), own_keep h.ho hg.keep h.hf, fun g hv => (fun hx => (hg.foot g hx).elim (h.hf g hv) (fun e => by have := own_lt h.ho hv; omega))⟩
theorem AllK.c0 (h : AllK w0 m0 wr i s cb c v L) : wr.cell? ⟨cb, 0, none⟩ = some (.int .i64 c.thr) := h.hb.cell 0
theorem AllK.c2 (h : AllK w0 m0 wr i s cb c v L) : wr.cell? ⟨cb, 2, none⟩ = some (.int .u64 c.stamps) := h.hb.cell 2
theorem AllK.add (h : AllK w0 m0 wr i s cb c v L) (hk : Keep [] wr w1) (hg : w1.grownBy w2 v.ownBlock) (hown : w2.ownsRow w0.heap.size 22 1 v' (L.length + 1) (u64s L ++ [.int .u64 (x : Nat)])) (hat : v'.ownBlock = v.ownBlock ∨ v'.ownBlock = some w1.heap.size) : AllK w0 m0 w2 i s cb c v' (L ++ [x]) := by
  have h1 := h.keep0 hk
  have hk2 : Keep v.ownBlock.toList w1 w2 := Keep.of_grown hg
  have hin : ∀ b, b ∈ v.ownBlock.toList → v.ownBlock = some b := fun b hb => by simpa using hb
  have hmc : MachC w0 m0 w2 i s := h1.hm.turn hk2 (fun b hb => ⟨(h1.ho.lt b (hin b hb)).1, h.hf b (hin b hb), fun e => own_ne h1.ho h1.hm.hm.hP (by decide) (by rw [hin b hb, e])⟩)
  refine ⟨hmc, h1.hb.keep hk2 (fun hm => own_ne h1.ho h1.hb (by decide) (hin _ hm)), ?_, fun g hv => ?_⟩
  · have e1 : (L ++ [x]).length = L.length + 1 := by simp
    have e2 : u64s (L ++ [x]) = u64s L ++ [.int .u64 (x : Nat)] := by simp [u64s]
    rw [e1, e2]
    exact hown
  · rcases hat with h2 | h2
    · rw [h2] at hv
      exact h.hf g hv
    · rw [h2] at hv
      injection hv with hv
      intro hm
      have := h1.hm.hm.foot_lt g hm
      omega
end
/-- The picks that came in. -/
def PicksAt (w : World) (A : Option Addr) (ps : List Int) : Prop := 0 < ps.length → ∃ b o, A = some ⟨b, o, none⟩ ∧ b < w.heap.size ∧ ∀ k, k < ps.length → w.cell? ⟨b, o + k, none⟩ = some (.int .i64 (ps.getD k 0))
theorem PicksAt.at_ {w : World} {A : Option Addr} {ps : List Int} (h : PicksAt w A ps) {k : Nat} (hl : k < ps.length) : ∃ b o, A = some ⟨b, o, none⟩ ∧ b < w.heap.size ∧ ∀ W, Keep [] w W → W.cell? ⟨b, o + k, none⟩ = some (.int .i64 (ps.getD k 0)) := by
  obtain ⟨b, o, h1, h2, h3⟩ := h (by omega)
  exact ⟨b, o, h1, h2, fun W hW => (hW.cell h2 (by simp)).trans (h3 k hl)⟩
theorem own_frm {w : World} {base n size : Nat} {t : TypeId} {v : Value} {xs : List Value} (h : w.ownsRow base t size v n xs) : ∃ A cap, v = .slice A n cap := by
  obtain ⟨hl, ⟨h1, h0⟩ | ⟨g, cap, cur, hv, hb, hr, hc, _⟩⟩ := h
  · exact ⟨none, 0, by rw [h1, h0]⟩
  · exact ⟨_, cap, hv⟩
/-- The second loop's thread, on its way alone. -/
inductive FinK (c : ConfS) (K K2 : Nat) (th : ThS) (q : Nat) : Prop
  | run (f : FrS) : th.frs = [f] → K2 = K → q + rankT K th ≤ 3 → FinK c K K2 th q
  | none : th.frs = [] → K2 = K → th.ret.getD 0 0 = 0 → c.stamps ≤ (K : Int) → q ≤ 3 → FinK c K K2 th q
  | told : th.frs = [] → K2 = K + 1 → th.ret.getD 0 0 = K → q ≤ 3 → FinK c K K2 th q
theorem rankT_pos {K : Nat} {th : ThS} {f : FrS} (h : th.frs = [f]) : 1 ≤ rankT K th := by
  unfold rankT
  rw [h]
  show 1 ≤ rankF K f
  unfold rankF
  split
  · omega
  · split <;> omega
theorem info22k : (Tryz.prog.info? 22).map (fun i => (i.zero, i.size, i.bytes)) = some (some (.int .u64 0), 1, 8) := by kernel_rfl
end Go.Proofs.YtoghcikfkkmfkaaGreat
