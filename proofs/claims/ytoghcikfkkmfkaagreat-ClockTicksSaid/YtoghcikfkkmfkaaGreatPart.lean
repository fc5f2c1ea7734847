/- A machine as one of its threads sees it: what its steps work on, and how each piece may change. Plain lemmas over the words of memory. -/
import Derived.Test.YtoghcikfkkmfkaaGreatFrame2
import Derived.Test.YtoghcikfkkmfkaaGreatGuard3
import Derived.Test.YtoghcikfkkmfkaaGreatPlan
namespace Go.Proofs.YtoghcikfkkmfkaaGreat
open Go.RowKit

structure PI where
  m : Nat
  p : Nat
  mi : MemI
  gi : GuardI
  tv : Value
  ti : ThI
structure PS where
  conf : ConfS
  mem : MemS
  gd : GuardS
  th : ThS
  steps : Int
  fault : Bool
def mCells (i : PI) (s : PS) : Array Value := #[ptr i.p, ptr i.mi.mb, ptr i.gi.gb, i.tv, .int .i64 s.steps, .bool s.fault]
structure PAt (w : World) (i : PI) (s : PS) : Prop where
  hM : Blk w i.m 108 (mCells i s)
  hP : PlanAt w i.p s.conf
  ok : s.conf.Ok
  hMem : MemAt w i.mi s.mem
  hG : GuardAt w i.gi s.gd
  hTh : ThAt w i.ti s.th
  wbf : i.mi.wb ∉ i.ti.foot
  gsf : i.gi.gsb ∉ i.ti.foot
  wg : i.mi.wb ≠ i.gi.gsb
/-- The blocks that a step may change. -/
def PI.foot (i : PI) : List Nat := i.m :: i.mi.mb :: i.mi.wb :: i.gi.gb :: i.gi.gsb :: i.gi.hb :: i.ti.foot
def thTypes : List Nat := [59, 48, 49, 83, 22]

section
variable {w w' : World} {i : PI} {s : PS} {S : List Nat}
theorem ThAt.foot_blk {i : ThI} {s : ThS} (h : ThAt w i s) : ∀ x, x ∈ i.foot → ∃ t cs, Blk w x t cs ∧ t ∈ thTypes := by
  intro x hx
  simp only [ThI.foot, List.mem_cons, List.mem_append, Option.mem_toList] at hx
  rcases hx with rfl | hx | hx | hx | hx
  · exact ⟨_, _, h.ht, by decide⟩
  · obtain ⟨k, hk, rfl⟩ := List.getElem_of_mem hx
    exact ⟨_, _, (h.frame k (by rw [← h.fbl]; exact hk)).1, by decide⟩
  · obtain ⟨cs, hb⟩ := own_blk h.hf hx
    exact ⟨_, _, hb, by decide⟩
  · obtain ⟨cs, hb⟩ := own_blk h.hrow hx
    exact ⟨_, _, hb, by decide⟩
  · obtain ⟨cs, hb⟩ := own_blk h.hstk hx
    exact ⟨_, _, hb, by decide⟩
theorem ThAt.foot_ne {i : ThI} {s : ThS} (h : ThAt w i s) {b t : Nat} {cs : Array Value} (hb : Blk w b t cs) (ht : t ∉ thTypes) : b ∉ i.foot := by
  intro hx
  obtain ⟨t', cs', hb', ht'⟩ := h.foot_blk b hx
  exact hb'.ne_ hb (fun e => ht (e ▸ ht')) rfl
theorem ThAt.foot_held {i : ThI} {s : ThS} (h : ThAt w i s) {b : Nat} {L : List Nat} (hb : HeldAt w b L) : b ∉ i.foot := by
  intro hx
  obtain ⟨t', cs', hb', ht'⟩ := h.foot_blk b hx
  exact hb.neBlk hb' rfl
/-- A block of another type is none of a step's. -/
theorem PAt.foot_ne (h : PAt w i s) {b t : Nat} {cs : Array Value} (hb : Blk w b t cs) (ht : t ∉ 108 :: 140 :: 122 :: thTypes) : b ∉ i.foot := by
  simp only [List.mem_cons, not_or] at ht
  obtain ⟨h1, h2, h3, h4⟩ := ht
  simp only [PI.foot, List.mem_cons, not_or]
  refine ⟨hb.ne_ h.hM h1, hb.ne_ h.hMem.hm h2, hb.ne_ h.hMem.hw (fun e => h4 (e ▸ by decide)), hb.ne_ h.hG.hg h3, hb.ne_ h.hG.hs (fun e => h4 (e ▸ by decide)), (h.hG.hh.neBlk hb).symm, h.hTh.foot_ne hb h4⟩
theorem PAt.foot_lt (h : PAt w i s) : ∀ x, x ∈ i.foot → x < w.heap.size := by
  intro x hx
  simp only [PI.foot, List.mem_cons] at hx
  rcases hx with rfl | rfl | rfl | rfl | rfl | rfl | hx
  · exact h.hM.lt
  · exact h.hMem.hm.lt
  · exact h.hMem.hw.lt
  · exact h.hG.hg.lt
  · exact h.hG.hs.lt
  · exact h.hG.hh.lt
  · exact h.hTh.foot_lt x hx
theorem PAt.keep (h : PAt w i s) (hk : Keep S w w') (hn : ∀ x, x ∈ i.foot → x ∉ S) (hp : i.p ∉ S) : PAt w' i s :=
  ⟨h.hM.keep hk (hn _ (by simp [PI.foot])), h.hP.keep hk hp, h.ok, h.hMem.keep hk (hn _ (by simp [PI.foot])) (hn _ (by simp [PI.foot])),
    h.hG.keep hk (hn _ (by simp [PI.foot])) (hn _ (by simp [PI.foot])) (hn _ (by simp [PI.foot])), h.hTh.keep hk (fun x hx => hn x (by simp [PI.foot, hx])), h.wbf, h.gsf, h.wg⟩
theorem PAt.keep0 (h : PAt w i s) (hk : Keep [] w w') : PAt w' i s := h.keep hk (by simp) (by simp)
theorem PAt.alloc (h : PAt w i s) (o : Obj) : PAt (w.alloc o) i s := h.keep0 ((Keep.refl _ _).alloc o)
theorem PAt.drawn (h : PAt w i s) (hd : Drawn w w') : PAt w' i s := h.keep0 (Keep.of_drawn hd)
/-- The memory turns. -/
theorem PAt.mem (h : PAt w i s) {m' : MemS} (hm : MemAt w' i.mi m') (hk : Keep [i.mi.mb, i.mi.wb] w w') : PAt w' i { s with mem := m' } := by
  have hmb : ∀ {b t : Nat} {cs : Array Value}, Blk w b t cs → t ≠ 140 → t ≠ 22 → b ∉ [i.mi.mb, i.mi.wb] := fun hb h1 h2 => by
    simp only [List.mem_cons, List.not_mem_nil, or_false, not_or]
    exact ⟨hb.ne_ h.hMem.hm h1, hb.ne_ h.hMem.hw h2⟩
  refine ⟨h.hM.keep hk (hmb h.hM (by decide) (by decide)), h.hP.keep hk (hmb h.hP (by decide) (by decide)), h.ok, hm, h.hG.keep hk (hmb h.hG.hg (by decide) (by decide)) ?_ ?_, h.hTh.keep hk ?_, h.wbf, h.gsf, h.wg⟩
  · simp only [List.mem_cons, List.not_mem_nil, or_false, not_or]
    exact ⟨h.hG.hs.ne_ h.hMem.hm (by decide), h.wg.symm⟩
  · simp only [List.mem_cons, List.not_mem_nil, or_false, not_or]
    exact ⟨h.hG.hh.neBlk h.hMem.hm, h.hG.hh.neBlk h.hMem.hw⟩
  · intro x hx
    simp only [List.mem_cons, List.not_mem_nil, or_false, not_or]
    exact ⟨fun e => h.hTh.foot_ne h.hMem.hm (by decide) (e ▸ hx), fun e => h.wbf (e ▸ hx)⟩
/-- The guard turns. -/
theorem PAt.guard (h : PAt w i s) {g' : GuardS} (hg : GuardAt w' i.gi g') (hk : Keep [i.gi.gb, i.gi.hb, i.gi.gsb] w w') : PAt w' i { s with gd := g' } := by
  have hmb : ∀ {b t : Nat} {cs : Array Value}, Blk w b t cs → t ≠ 122 → t ≠ 22 → b ∉ [i.gi.gb, i.gi.hb, i.gi.gsb] := fun hb h1 h2 => by
    simp only [List.mem_cons, List.not_mem_nil, or_false, not_or]
    exact ⟨hb.ne_ h.hG.hg h1, (h.hG.hh.neBlk hb).symm, hb.ne_ h.hG.hs h2⟩
  refine ⟨h.hM.keep hk (hmb h.hM (by decide) (by decide)), h.hP.keep hk (hmb h.hP (by decide) (by decide)), h.ok, h.hMem.keep hk (hmb h.hMem.hm (by decide) (by decide)) ?_, hg, h.hTh.keep hk ?_, h.wbf, h.gsf, h.wg⟩
  · simp only [List.mem_cons, List.not_mem_nil, or_false, not_or]
    exact ⟨h.hMem.hw.ne_ h.hG.hg (by decide), (h.hG.hh.neBlk h.hMem.hw).symm, h.wg⟩
  · intro x hx
    simp only [List.mem_cons, List.not_mem_nil, or_false, not_or]
    exact ⟨fun e => h.hTh.foot_ne h.hG.hg (by decide) (e ▸ hx), fun e => h.hTh.foot_held h.hG.hh (e ▸ hx), fun e => h.gsf (e ▸ hx)⟩
/-- The thread turns. -/
theorem PAt.thread (h : PAt w i s) {ti' : ThI} {t' : ThS} (ht : ThAt w' ti' t') (hk : Keep i.ti.foot w w') (hf : ∀ x, x ∈ ti'.foot → x ∈ i.ti.foot ∨ w.heap.size ≤ x) : PAt w' { i with ti := ti' } { s with th := t' } := by
  refine ⟨h.hM.keep hk (h.hTh.foot_ne h.hM (by decide)), h.hP.keep hk (h.hTh.foot_ne h.hP (by decide)), h.ok, h.hMem.keep hk (h.hTh.foot_ne h.hMem.hm (by decide)) h.wbf, h.hG.keep hk (h.hTh.foot_ne h.hG.hg (by decide)) h.gsf (h.hTh.foot_held h.hG.hh), ht, ?_, ?_, h.wg⟩
  · intro hx
    rcases hf _ hx with hx | hx
    · exact h.wbf hx
    · exact absurd h.hMem.hw.lt (Nat.not_lt.2 hx)
  · intro hx
    rcases hf _ hx with hx | hx
    · exact h.gsf hx
    · exact absurd h.hG.hs.lt (Nat.not_lt.2 hx)
end

/-- The top frame's block, and the frame. -/
def ThI.topB (i : ThI) : Nat := i.fbs.getD (i.fbs.length - 1) 0
def ThS.top (s : ThS) : FrS := s.frs.getD (s.frs.length - 1) ⟨0, 0, []⟩
def ThS.setTop (s : ThS) (f : FrS) : ThS := { s with frs := s.frs.set (s.frs.length - 1) f }
section
variable {w w' : World} {i : ThI} {s : ThS}
theorem ThAt.top_at (h : ThAt w i s) (hp : 0 < s.frs.length) : FrAt w i.topB s.top := by
  have h1 := h.fbl
  refine h.fr (s.frs.length - 1) _ _ ?_ ?_
  · rw [ThI.topB, h1]
    simp [show s.frs.length - 1 < i.fbs.length by omega]
  · rw [ThS.top]
    simp [show s.frs.length - 1 < s.frs.length by omega]
theorem ThAt.topB_mem (h : ThAt w i s) (hp : 0 < s.frs.length) : i.topB ∈ i.foot := by
  have h1 := h.fbl
  have : i.topB ∈ i.fbs := by
    rw [ThI.topB]
    simp [show i.fbs.length - 1 < i.fbs.length by omega]
  simp [ThI.foot, this]
theorem ThAt.set_top (h : ThAt w i s) (hp : 0 < s.frs.length) {f : FrS} (hf : FrAt w' i.topB f) (hk : Keep [i.topB] w w') : ThAt w' i (s.setTop f) := by
  have h1 := h.fbl
  have ht := h.top_at hp
  have hne : ∀ {b t : Nat} {cs : Array Value}, Blk w b t cs → t ≠ 48 → b ∉ [i.topB] := fun hb h2 => by simpa using hb.ne_ ht.1 h2
  have hown : ∀ {e : TypeId} {size n : Nat} {v : Value} {xs : List Value}, w.ownsRow 0 e size v n xs → e ≠ 48 → w'.ownsRow 0 e size v n xs := fun ho h2 => own_keep ho hk (fun g hg => by
    obtain ⟨cs, hb⟩ := own_blk ho hg
    exact hne hb h2)
  refine ⟨h.ht.keep hk (hne h.ht (by decide)), h.rl, ?_, ?_, h.nd, hown h.hrow (by decide), hown h.hstk (by decide)⟩
  · have := hown h.hf (by decide)
    simpa [ThS.setTop] using this
  · intro k b g hb hg
    simp only [ThS.setTop] at hg
    by_cases hk2 : k = s.frs.length - 1
    · subst hk2
      rw [List.getElem?_set_self (by omega)] at hg
      cases hg
      have hbt : b = i.topB := by
        have hb2 : i.fbs.getD (s.frs.length - 1) 0 = b := by rw [List.getD_eq_getElem?_getD, hb]; rfl
        unfold ThI.topB
        rw [h.fbl]
        exact hb2.symm
      rw [hbt]
      exact hf
    · rw [List.getElem?_set_ne (by omega)] at hg
      refine (h.fr k b g hb hg).keep hk ?_
      simp only [List.mem_singleton]
      intro e
      apply hk2
      have hkl : k < i.fbs.length := (List.getElem?_eq_some_iff.1 hb).1
      have hl2 : s.frs.length - 1 < i.fbs.length := by rw [h1]; omega
      have e2 : i.fbs[k] = i.fbs[s.frs.length - 1] := by
        have e3 : i.topB = i.fbs[s.frs.length - 1] := by
          unfold ThI.topB
          rw [h.fbl, List.getD_eq_getElem?_getD, List.getElem?_eq_getElem hl2]
          rfl
        rw [(List.getElem?_eq_some_iff.1 hb).2, e, e3]
      rcases Nat.lt_trichotomy k (s.frs.length - 1) with h3 | h3 | h3
      · exact absurd e2 (List.pairwise_iff_getElem.1 h.nd k _ hkl hl2 h3)
      · exact h3
      · exact absurd e2.symm (List.pairwise_iff_getElem.1 h.nd _ k hl2 hkl h3)
theorem ThS.setTop_len (s : ThS) (f : FrS) : (s.setTop f).frs.length = s.frs.length := by simp [ThS.setTop]
theorem ThS.top_setTop (s : ThS) (f : FrS) (hp : 0 < s.frs.length) : (s.setTop f).top = f := by
  simp [ThS.setTop, ThS.top, show s.frs.length - 1 < s.frs.length by omega]
/-- A frame's cells: its registers begin at 2. -/
theorem FrAt.c0 {b : Nat} {f : FrS} (h : FrAt w b f) : w.cell? ⟨b, 0, none⟩ = some (.int .i64 f.fn) := by rw [h.1.cell]; rfl
theorem FrAt.c1 {b : Nat} {f : FrS} (h : FrAt w b f) : w.cell? ⟨b, 1, none⟩ = some (.int .i64 f.pc) := by rw [h.1.cell]; rfl
def FrS.reg (f : FrS) (k : Nat) : Nat := f.r.getD k 0
theorem FrAt.reg {b : Nat} {f : FrS} (h : FrAt w b f) (k : Nat) (hk : k < 24) : w.cell? ⟨b, 2 + k, none⟩ = some (.int .u64 (f.reg k : Nat)) := by
  rw [h.1.cell]
  have hl := h.2
  rw [show 2 + k = k + 1 + 1 by omega]
  simp [FrS.cells, u64s, FrS.reg, hl, hk]
theorem FrAt.setReg {b : Nat} {f : FrS} (h : FrAt w b f) (k : Nat) (v : Nat) : FrAt (w.setCell ⟨b, 2 + k, none⟩ (.int .u64 (v : Nat))) b { f with r := f.r.set k v } := by
  refine ⟨?_, by simpa using h.2⟩
  have := h.1.set_ (2 + k) (.int .u64 (v : Nat))
  rw [show 2 + k = k + 1 + 1 by omega] at this ⊢
  simpa [FrS.cells, u64s, List.map_set] using this
theorem FrAt.setPc {b : Nat} {f : FrS} (h : FrAt w b f) (v : Int) : FrAt (w.setCell ⟨b, 1, none⟩ (.int .i64 v)) b { f with pc := v } := by
  refine ⟨?_, h.2⟩
  have := h.1.set_ 1 (.int .i64 v)
  simpa [FrS.cells] using this
theorem FrAt.drew {b : Nat} {f : FrS} (h : FrAt w b f) : FrAt w.drew b f := h
theorem FrAt.alloc {b : Nat} {f : FrS} (h : FrAt w b f) (o : Obj) : FrAt (w.alloc o) b f := ⟨h.1.alloc o, h.2⟩
end
/-- The top frame turns. -/
theorem PAt.top {w w' : World} {i : PI} {s : PS} (h : PAt w i s) (hp : 0 < s.th.frs.length) {f : FrS} (hf : FrAt w' i.ti.topB f) (hk : Keep [i.ti.topB] w w') : PAt w' i { s with th := s.th.setTop f } := by
  have h1 := h.hTh.set_top hp hf hk
  have := h.thread h1 (hk.mono (by simpa using h.hTh.topB_mem hp)) (fun x hx => .inl hx)
  exact this
end Go.Proofs.YtoghcikfkkmfkaaGreat
