/- A whole machine in memory: its plan, memory, guard and threads, each in blocks of its own. Plain lemmas over the words of memory. -/
import Derived.Test.YtoghcikfkkmfkaaGreatCore3
namespace Go.Proofs.YtoghcikfkkmfkaaGreat
open Go.RowKit

structure MI where
  m : Nat
  p : Nat
  mi : MemI
  gi : GuardI
  tv : Value
  tis : List ThI
structure MS where
  conf : ConfS
  mem : MemS
  gd : GuardS
  ths : List ThS
  steps : Int
  fault : Bool
def MI.row (i : MI) : List Value := i.tis.map fun t => ptr t.tb
structure MachAt (w : World) (i : MI) (s : MS) : Prop where
  hM : Blk w i.m 108 (machCells (ptr i.p) (ptr i.mi.mb) (ptr i.gi.gb) i.tv s.steps s.fault)
  hP : PlanAt w i.p s.conf
  ok : s.conf.Ok
  hMem : MemAt w i.mi s.mem
  hG : GuardAt w i.gi s.gd
  hrow : w.ownsRow 0 36 1 i.tv s.ths.length i.row
  tl : i.tis.length = s.ths.length
  th : ∀ (k : Nat) (ti : ThI) (t : ThS), i.tis[k]? = some ti → s.ths[k]? = some t → ThAt w ti t
  wbf : ∀ ti, ti ∈ i.tis → i.mi.wb ∉ ti.foot
  gsf : ∀ ti, ti ∈ i.tis → i.gi.gsb ∉ ti.foot
  wg : i.mi.wb ≠ i.gi.gsb
  apart : ∀ (k l : Nat) (a b : ThI), i.tis[k]? = some a → i.tis[l]? = some b → k ≠ l → ∀ x, x ∈ a.foot → x ∉ b.foot
/-- All blocks of a machine but the plan's. -/
def MI.foot (i : MI) : List Nat := i.m :: i.mi.mb :: i.mi.wb :: i.gi.gb :: i.gi.gsb :: i.gi.hb :: (i.tv.ownBlock.toList ++ i.tis.flatMap ThI.foot)
section
variable {w w' : World} {i : MI} {s : MS} {S : List Nat}
theorem MI.mem_foot {x : Nat} {i : MI} : x ∈ i.foot ↔ x = i.m ∨ x = i.mi.mb ∨ x = i.mi.wb ∨ x = i.gi.gb ∨ x = i.gi.gsb ∨ x = i.gi.hb ∨ i.tv.ownBlock = some x ∨ ∃ ti, ti ∈ i.tis ∧ x ∈ ti.foot := by
  simp [MI.foot, Option.mem_toList]
theorem MachAt.get (h : MachAt w i s) {ti : ThI} (hm : ti ∈ i.tis) : ∃ t, ThAt w ti t := by
  obtain ⟨k, hk, rfl⟩ := List.getElem_of_mem hm
  exact ⟨_, h.th k _ (s.ths[k]'(by rw [← h.tl]; exact hk)) (List.getElem?_eq_getElem hk) (List.getElem?_eq_getElem _)⟩
theorem MachAt.foot_lt (h : MachAt w i s) : ∀ x, x ∈ i.foot → x < w.heap.size := by
  intro x hx
  rcases MI.mem_foot.1 hx with rfl | rfl | rfl | rfl | rfl | rfl | hx | ⟨ti, hm, hx⟩
  · exact h.hM.lt
  · exact h.hMem.hm.lt
  · exact h.hMem.hw.lt
  · exact h.hG.hg.lt
  · exact h.hG.hs.lt
  · exact h.hG.hh.lt
  · exact own_lt h.hrow hx
  · obtain ⟨t, ht⟩ := h.get hm
    exact ht.foot_lt x hx
theorem MachAt.keep (h : MachAt w i s) (hk : Keep S w w') (hn : ∀ x, x ∈ i.foot → x ∉ S) (hp : i.p ∉ S) : MachAt w' i s :=
  ⟨h.hM.keep hk (hn _ (by simp [MI.foot])), h.hP.keep hk hp, h.ok, h.hMem.keep hk (hn _ (by simp [MI.foot])) (hn _ (by simp [MI.foot])),
    h.hG.keep hk (hn _ (by simp [MI.foot])) (hn _ (by simp [MI.foot])) (hn _ (by simp [MI.foot])), own_keep h.hrow hk (fun g hg => hn _ (MI.mem_foot.2 (by simp [hg]))), h.tl,
    fun k ti t h1 h2 => (h.th k ti t h1 h2).keep hk (fun x hx => hn x (MI.mem_foot.2 (.inr (.inr (.inr (.inr (.inr (.inr (.inr ⟨ti, List.mem_of_getElem? h1, hx⟩))))))))), h.wbf, h.gsf, h.wg, h.apart⟩
theorem MachAt.keep0 (h : MachAt w i s) (hk : Keep [] w w') : MachAt w' i s := h.keep hk (by simp) (by simp)
theorem MachAt.alloc (h : MachAt w i s) (o : Obj) : MachAt (w.alloc o) i s := h.keep0 ((Keep.refl _ _).alloc o)
theorem MachAt.drew (h : MachAt w i s) : MachAt w.drew i s := h.keep0 (Keep.refl _ _).drew
theorem MachAt.drawn (h : MachAt w i s) (hd : Drawn w w') : MachAt w' i s := h.keep0 (Keep.of_drawn hd)
theorem MachAt.c3 (h : MachAt w i s) : w.cell? ⟨i.m, 3, none⟩ = some i.tv := by rw [h.hM.cell]; rfl
/-- A block of a type that no block of threads has is none of a thread's. -/
theorem MachAt.thNe (h : MachAt w i s) {ti : ThI} (hm : ti ∈ i.tis) {b t : Nat} {cs : Array Value} (hb : Blk w b t cs) (ht : t ∉ thTypes) : b ∉ ti.foot := by
  obtain ⟨t', h'⟩ := h.get hm
  exact h'.foot_ne hb ht
/-- A thread more. -/
theorem MachAt.grow {w1 w2 : World} {v' : Value} {o : Obj} (h : MachAt w i s) (hk1 : Keep [] w w1) (hT : ThAt w1 (ThI.fresh w.heap.size) ThS.zero)
    (hown : w2.ownsRow 0 36 1 v' (s.ths.length + 1) (i.row ++ [ptr w.heap.size])) (hg : (w1.alloc o).grownBy w2 i.tv.ownBlock)
    (hat : v'.ownBlock = i.tv.ownBlock ∨ v'.ownBlock = some (w1.alloc o).heap.size) :
    MachAt (w2.setCell ⟨i.m, 3, none⟩ v') { i with tv := v', tis := i.tis ++ [ThI.fresh w.heap.size] } { s with ths := s.ths ++ [ThS.zero] } ∧ Keep (i.m :: i.tv.ownBlock.toList) w (w2.setCell ⟨i.m, 3, none⟩ v') ∧ (v'.ownBlock = i.tv.ownBlock ∨ ∀ g, v'.ownBlock = some g → w.heap.size ≤ g) := by
  have hk2 : Keep i.tv.ownBlock.toList w w2 := ((hk1.mono (by simp)).alloc o).trans (Keep.of_grown hg) (fun x hx => .inl hx)
  have hk12 : Keep i.tv.ownBlock.toList w1 w2 := ((Keep.refl _ w1).alloc o).trans (Keep.of_grown hg) (fun x hx => .inl hx)
  have hk : Keep (i.m :: i.tv.ownBlock.toList) w (w2.setCell ⟨i.m, 3, none⟩ v') := (hk2.mono (fun x hx => List.mem_cons_of_mem _ hx)).set_ _ (.inl (by simp))
  have hk1' : Keep (i.m :: i.tv.ownBlock.toList) w1 (w2.setCell ⟨i.m, 3, none⟩ v') := (hk12.mono (fun x hx => List.mem_cons_of_mem _ hx)).set_ _ (.inl (by simp))
  have hnr : ∀ {b t : Nat} {cs : Array Value}, Blk w b t cs → t ≠ 108 → t ≠ 36 → b ∉ i.m :: i.tv.ownBlock.toList := fun hb h1 h2 hm => by
    rcases List.mem_cons.1 hm with e | hm
    · exact hb.ne_ h.hM h1 e
    · exact own_ne h.hrow hb (Ne.symm h2) (by simpa using hm)
  have hmn : i.tv.ownBlock ≠ some i.m := own_ne h.hrow h.hM (by decide)
  have hm2 : Blk w2 i.m 108 (machCells (ptr i.p) (ptr i.mi.mb) (ptr i.gi.gb) i.tv s.steps s.fault) := h.hM.keep hk2 (by simpa using hmn)
  have hthn : ∀ {ti : ThI} {t : ThS}, ThAt w ti t → ∀ x, x ∈ ti.foot → x ∉ i.m :: i.tv.ownBlock.toList := fun ht x hx => by
    obtain ⟨t', cs', hb', ht'⟩ := ht.foot_blk x hx
    refine hnr hb' ?_ ?_
    · rintro rfl; revert ht'; decide
    · rintro rfl; revert ht'; decide
  refine ⟨⟨?_, h.hP.keep hk (hnr h.hP (by decide) (by decide)), h.ok, h.hMem.keep hk (hnr h.hMem.hm (by decide) (by decide)) (hnr h.hMem.hw (by decide) (by decide)), h.hG.keep hk (hnr h.hG.hg (by decide) (by decide)) (hnr h.hG.hs (by decide) (by decide)) ?_, ?_, ?_, ?_, ?_, ?_, h.wg, ?_⟩, hk, ?_⟩
  · have := hm2.set_ 3 v'
    exact this
  · intro hm
    rcases List.mem_cons.1 hm with e | hm
    · exact h.hG.hh.neBlk h.hM e
    · obtain ⟨cs, hb⟩ := own_blk h.hrow (g := i.gi.hb) (by simpa using hm)
      exact h.hG.hh.neBlk hb rfl
  · have e : (s.ths ++ [ThS.zero]).length = s.ths.length + 1 := by simp
    have e2 : ({ i with tv := v', tis := i.tis ++ [ThI.fresh w.heap.size] } : MI).row = i.row ++ [ptr w.heap.size] := by simp [MI.row, ThI.fresh]
    rw [e2]
    show World.ownsRow _ 0 _ 1 v' (s.ths ++ [ThS.zero]).length _
    rw [e]
    exact own_same hown (fun g hgg => Below.heap_setCell _ _ _ _ (fun e => own_ne hown hm2 (by decide) (by rw [hgg, e])))
  · simp [h.tl]
  · intro k ti t h1 h2
    by_cases hk' : k < s.ths.length
    · simp only at h1 h2
      rw [List.getElem?_append_left (by rw [h.tl]; exact hk')] at h1
      rw [List.getElem?_append_left hk'] at h2
      exact (h.th k ti t h1 h2).keep hk (hthn (h.th k ti t h1 h2))
    · simp only at h1 h2
      rw [List.getElem?_append_right (by rw [h.tl]; omega), h.tl] at h1
      rw [List.getElem?_append_right (by omega)] at h2
      have h0 : k - s.ths.length = 0 := by
        rcases Nat.eq_zero_or_pos (k - s.ths.length) with h | h
        · exact h
        · rw [List.getElem?_eq_none (by simp; omega)] at h2; cases h2
      rw [h0] at h1 h2
      simp at h1 h2
      subst h1 h2
      refine hT.keep hk1' (fun x hx => ?_)
      have hx' : x = w.heap.size := by simpa [ThI.foot, ThI.fresh, Value.ownBlock] using hx
      subst hx'
      intro hm
      rcases List.mem_cons.1 hm with e | hm
      · have := h.hM.lt; omega
      · have := own_lt h.hrow (g := w.heap.size) (by simpa using hm); omega
  · intro ti hm
    simp only [List.mem_append, List.mem_singleton] at hm
    rcases hm with hm | rfl
    · exact h.wbf ti hm
    · have hlt := h.hMem.hw.lt
      simp only [ThI.foot, ThI.fresh, Value.ownBlock]
      simp
      omega
  · intro ti hm
    simp only [List.mem_append, List.mem_singleton] at hm
    rcases hm with hm | rfl
    · exact h.gsf ti hm
    · have hlt := h.hG.hs.lt
      simp only [ThI.foot, ThI.fresh, Value.ownBlock]
      simp
      omega
  · have hold : ∀ a, a ∈ i.tis → ∀ x, x ∈ a.foot → x < w.heap.size := fun a ha x hx => by
      obtain ⟨t, ht⟩ := h.get ha
      exact ht.foot_lt x hx
    have hnew : ∀ x, x ∈ (ThI.fresh w.heap.size).foot → x = w.heap.size := fun x hx => by simpa [ThI.foot, ThI.fresh, Value.ownBlock] using hx
    intro k l a b ha hb hkl x hx hx'
    simp only at ha hb
    by_cases h1 : k < i.tis.length <;> by_cases h2 : l < i.tis.length
    · rw [List.getElem?_append_left h1] at ha
      rw [List.getElem?_append_left h2] at hb
      exact h.apart k l a b ha hb hkl x hx hx'
    · rw [List.getElem?_append_left h1] at ha
      have := hold a (List.mem_of_getElem? ha) x hx
      rw [List.getElem?_append_right (by omega)] at hb
      have hbm := List.mem_of_getElem? hb
      simp only [List.mem_singleton] at hbm
      subst hbm
      have := hnew x hx'
      omega
    · rw [List.getElem?_append_left h2] at hb
      have := hold b (List.mem_of_getElem? hb) x hx'
      rw [List.getElem?_append_right (by omega)] at ha
      have hbm := List.mem_of_getElem? ha
      simp only [List.mem_singleton] at hbm
      subst hbm
      have := hnew x hx
      omega
    · have h3 := (List.getElem?_eq_some_iff.1 ha).1
      have h4 := (List.getElem?_eq_some_iff.1 hb).1
      simp at h3 h4
      omega
  · rcases hat with e | e
    · exact .inl e
    · right
      intro g hgg
      rw [e] at hgg
      cases hgg
      have := hk1.size
      have e2 : (w1.alloc o).heap.size = w1.heap.size + 1 := by simp
      omega
end
end Go.Proofs.YtoghcikfkkmfkaaGreat
