/- How a step leaves a machine as one of its threads sees it; a machine taken apart and put together. Plain lemmas over the words of memory. -/
import Derived.Test.YtoghcikfkkmfkaaGreatMach
namespace Go.Proofs.YtoghcikfkkmfkaaGreat
open Go.RowKit

structure Stay (w w' : World) (i : PI) (s' : PS) : Prop where
  at_ : PAt w' i s'
  keep : Keep i.foot w w'
structure PTo (w w' : World) (i : PI) (ti' : ThI) (s' : PS) : Prop where
  at_ : PAt w' { i with ti := ti' } s'
  tb : ti'.tb = i.ti.tb
  foot : ∀ x, x ∈ ti'.foot → x ∈ i.ti.foot ∨ w.heap.size ≤ x
  keep : Keep i.foot w w'
section
variable {w w' w2 : World} {i : PI} {s s' s2 : PS}
theorem PI.memF {x : Nat} {i : PI} : x ∈ i.foot ↔ x = i.m ∨ x = i.mi.mb ∨ x = i.mi.wb ∨ x = i.gi.gb ∨ x = i.gi.gsb ∨ x = i.gi.hb ∨ x ∈ i.ti.foot := by simp [PI.foot]
/-- A block that is none of a step's stays. -/
theorem Stay.blk {b t : Nat} {cs : Array Value} (h : Stay w w' i s') (hw : PAt w i s) (hb : Blk w b t cs) (ht : t ∉ 108 :: 140 :: 122 :: thTypes) : Blk w' b t cs := hb.keep h.keep (hw.foot_ne hb ht)
theorem Stay.refl (h : PAt w i s) : Stay w w i s := ⟨h, Keep.refl _ _⟩
theorem Stay.trans (h : Stay w w' i s) (k : Stay w' w2 i s2) : Stay w w2 i s2 := ⟨k.at_, h.keep.trans k.keep (fun _ hx => .inl hx)⟩
theorem Stay.drawn (h : Stay w w' i s) (hd : Drawn w' w2) : Stay w w2 i s := ⟨h.at_.drawn hd, h.keep.trans (Keep.of_drawn (S := []) hd) (by simp)⟩
theorem Stay.drew (h : Stay w w' i s) : Stay w w'.drew i s := h.drawn (Drawn.one _)
theorem Stay.keep0 (h : Stay w w' i s) (hk : Keep [] w' w2) : Stay w w2 i s := ⟨h.at_.keep0 hk, h.keep.trans hk (by simp)⟩
theorem Stay.alloc (h : Stay w w' i s) (o : Obj) : Stay w (w'.alloc o) i s := h.keep0 ((Keep.refl _ _).alloc o)
theorem Stay.mem (h : Stay w w' i s) {m' : MemS} (hm : MemAt w2 i.mi m') (hk : Keep [i.mi.mb, i.mi.wb] w' w2) : Stay w w2 i { s with mem := m' } :=
  ⟨h.at_.mem hm hk, h.keep.trans hk (fun x hx => .inl (by simp only [List.mem_cons, List.not_mem_nil, or_false] at hx; rcases hx with rfl | rfl <;> simp [PI.foot]))⟩
theorem Stay.guard (h : Stay w w' i s) {g' : GuardS} (hg : GuardAt w2 i.gi g') (hk : Keep [i.gi.gb, i.gi.hb, i.gi.gsb] w' w2) : Stay w w2 i { s with gd := g' } :=
  ⟨h.at_.guard hg hk, h.keep.trans hk (fun x hx => .inl (by simp only [List.mem_cons, List.not_mem_nil, or_false] at hx; rcases hx with rfl | rfl | rfl <;> simp [PI.foot]))⟩
theorem Stay.top (h : Stay w w' i s) (hp : 0 < s.th.frs.length) {f : FrS} (hf : FrAt w2 i.ti.topB f) (hk : Keep [i.ti.topB] w' w2) : Stay w w2 i { s with th := s.th.setTop f } :=
  ⟨h.at_.top hp hf hk, h.keep.trans hk (fun x hx => .inl (by
    simp only [List.mem_singleton] at hx
    subst hx
    exact PI.memF.2 (.inr (.inr (.inr (.inr (.inr (.inr (h.at_.hTh.topB_mem hp)))))))))⟩
theorem PAt.drew (h : PAt w i s) : PAt w.drew i s := h.drawn (Drawn.one _)
theorem PAt.frame (h : PAt w i s) (hp : 0 < s.th.frs.length) : FrAt w i.ti.topB s.th.top := h.hTh.top_at hp
/-- A register of the top frame is written. -/
theorem Stay.setReg (h : Stay w w' i s) (hp : 0 < s.th.frs.length) (k v : Nat) : Stay w (w'.setCell ⟨i.ti.topB, 2 + k, none⟩ (.int .u64 (v : Nat))) i { s with th := s.th.setTop { s.th.top with r := s.th.top.r.set k v } } :=
  h.top hp ((h.at_.frame hp).setReg k v) ((Keep.refl _ _).set_ _ (.inl (by simp)))
theorem Stay.setPc (h : Stay w w' i s) (hp : 0 < s.th.frs.length) (v : Int) : Stay w (w'.setCell ⟨i.ti.topB, 1, none⟩ (.int .i64 v)) i { s with th := s.th.setTop { s.th.top with pc := v } } :=
  h.top hp ((h.at_.frame hp).setPc v) ((Keep.refl _ _).set_ _ (.inl (by simp)))
theorem Stay.to (h : Stay w w' i s) : PTo w w' i i.ti s := ⟨h.at_, rfl, fun _ hx => .inl hx, h.keep⟩
/-- The thread turns, as Call and Back leave it. -/
theorem Stay.thread (h : Stay w w' i s) {ti' : ThI} {t' : ThS} (ht : ThAt w2 ti' t') (htb : ti'.tb = i.ti.tb) (hf : ∀ x, x ∈ ti'.foot → x ∈ i.ti.foot ∨ w'.heap.size ≤ x) (hk : Keep i.ti.foot w' w2) : PTo w w2 i ti' { s with th := t' } :=
  ⟨h.at_.thread ht hk hf, htb, fun x hx => (hf x hx).imp id (fun e => Nat.le_trans h.keep.size e), h.keep.trans hk (fun _ hx => .inl (PI.memF.2 (.inr (.inr (.inr (.inr (.inr (.inr hx))))))))⟩
theorem PTo.keep0 {ti' : ThI} (h : PTo w w' i ti' s) (hk : Keep [] w' w2) : PTo w w2 i ti' s := ⟨h.at_.keep0 hk, h.tb, h.foot, h.keep.trans hk (by simp)⟩
theorem PTo.drew {ti' : ThI} (h : PTo w w' i ti' s) : PTo w w'.drew i ti' s := h.keep0 (Keep.refl _ _).drew
end

def MI.part (i : MI) (ti : ThI) : PI := ⟨i.m, i.p, i.mi, i.gi, i.tv, ti⟩
def MS.part (s : MS) (t : ThS) : PS := ⟨s.conf, s.mem, s.gd, t, s.steps, s.fault⟩
def MS.join (s : MS) (k : Nat) (q : PS) : MS := ⟨q.conf, q.mem, q.gd, s.ths.set k q.th, q.steps, q.fault⟩
def MI.join (i : MI) (k : Nat) (ti : ThI) : MI := { i with tis := i.tis.set k ti }
structure Goes (w w' : World) (i i' : MI) : Prop where
  m : i'.m = i.m
  p : i'.p = i.p
  tv : i'.tv = i.tv
  row : i'.tis.map (·.tb) = i.tis.map (·.tb)
  foot : ∀ x, x ∈ i'.foot → x ∈ i.foot ∨ w.heap.size ≤ x
  keep : Keep i.foot w w'
section
variable {w w' w2 : World} {i i' i2 : MI} {s : MS}
theorem Goes.refl (w : World) (i : MI) : Goes w w i i := ⟨rfl, rfl, rfl, rfl, fun _ h => .inl h, Keep.refl _ _⟩
theorem Goes.trans (h : Goes w w' i i') (k : Goes w' w2 i' i2) : Goes w w2 i i2 := by
  refine ⟨k.m.trans h.m, k.p.trans h.p, k.tv.trans h.tv, k.row.trans h.row, fun x hx => ?_, h.keep.trans k.keep (fun x hx => (h.foot x hx))⟩
  rcases k.foot x hx with hx | hx
  · exact h.foot x hx
  · exact .inr (Nat.le_trans h.keep.size hx)
theorem Goes.keep0 (h : Goes w w' i i') (hk : Keep [] w' w2) : Goes w w2 i i' := ⟨h.m, h.p, h.tv, h.row, h.foot, h.keep.trans hk (by simp)⟩
theorem MachAt.part (h : MachAt w i s) {k : Nat} {ti : ThI} {t : ThS} (h1 : i.tis[k]? = some ti) (h2 : s.ths[k]? = some t) : PAt w (i.part ti) (s.part t) :=
  ⟨h.hM, h.hP, h.ok, h.hMem, h.hG, h.th k ti t h1 h2, h.wbf ti (List.mem_of_getElem? h1), h.gsf ti (List.mem_of_getElem? h1), h.wg⟩
theorem MI.part_foot {i : MI} {ti : ThI} (hm : ti ∈ i.tis) : ∀ x, x ∈ (i.part ti).foot → x ∈ i.foot := by
  intro x hx
  rw [MI.mem_foot]
  rcases PI.memF.1 hx with hx | hx | hx | hx | hx | hx | hx
  · exact .inl hx
  · exact .inr (.inl hx)
  · exact .inr (.inr (.inl hx))
  · exact .inr (.inr (.inr (.inl hx)))
  · exact .inr (.inr (.inr (.inr (.inl hx))))
  · exact .inr (.inr (.inr (.inr (.inr (.inl hx)))))
  · exact .inr (.inr (.inr (.inr (.inr (.inr (.inr ⟨ti, hm, hx⟩))))))
theorem MachAt.join (h : MachAt w i s) {k : Nat} {ti ti' : ThI} {t : ThS} {q : PS} (h1 : i.tis[k]? = some ti) (h2 : s.ths[k]? = some t) (hp : PTo w w' (i.part ti) ti' q) :
    MachAt w' (i.join k ti') (s.join k q) ∧ Goes w w' i (i.join k ti') := by
  have hmem := List.mem_of_getElem? h1
  have hk1 := (List.getElem?_eq_some_iff.1 h1).1
  have hk2 := (List.getElem?_eq_some_iff.1 h2).1
  have hold : ∀ (a : ThI), a ∈ i.tis → ∀ x, x ∈ a.foot → x < w.heap.size := fun a ha x hx => by
    obtain ⟨t, ht⟩ := h.get ha
    exact ht.foot_lt x hx
  have hrow2 : (i.join k ti').tis.map (·.tb) = i.tis.map (·.tb) := by
    simp only [MI.join, List.map_set]
    rw [hp.tb]
    apply List.ext_getElem?
    intro j
    by_cases hj : j = k
    · subst hj
      rw [List.getElem?_set_self (by simpa using hk1)]
      simp [h1, MI.part]
    · rw [List.getElem?_set_ne (fun e => hj e.symm)]
  have hrow3 : (i.join k ti').row = i.row := by
    have : ∀ l : List ThI, l.map (fun t => ptr t.tb) = (l.map (·.tb)).map ptr := fun l => by simp
    unfold MI.row
    rw [this, this, hrow2]
  have hgo : Goes w w' i (i.join k ti') := by
    refine ⟨rfl, rfl, rfl, hrow2, fun x hx => ?_, hp.keep.mono (MI.part_foot hmem)⟩
    rcases MI.mem_foot.1 hx with hx | hx | hx | hx | hx | hx | hx | ⟨a, ha, hxa⟩
    · exact .inl (MI.mem_foot.2 (.inl hx))
    · exact .inl (MI.mem_foot.2 (.inr (.inl hx)))
    · exact .inl (MI.mem_foot.2 (.inr (.inr (.inl hx))))
    · exact .inl (MI.mem_foot.2 (.inr (.inr (.inr (.inl hx)))))
    · exact .inl (MI.mem_foot.2 (.inr (.inr (.inr (.inr (.inl hx))))))
    · exact .inl (MI.mem_foot.2 (.inr (.inr (.inr (.inr (.inr (.inl hx)))))))
    · exact .inl (MI.mem_foot.2 (.inr (.inr (.inr (.inr (.inr (.inr (.inl hx))))))))
    · rcases List.mem_or_eq_of_mem_set ha with ha | rfl
      · exact .inl (MI.mem_foot.2 (.inr (.inr (.inr (.inr (.inr (.inr (.inr ⟨a, ha, hxa⟩))))))))
      · exact (hp.foot x hxa).imp (fun hx => MI.mem_foot.2 (.inr (.inr (.inr (.inr (.inr (.inr (.inr ⟨ti, hmem, hx⟩)))))))) id
  have hothers : ∀ (j : Nat) (a : ThI), j ≠ k → i.tis[j]? = some a → ∀ x, x ∈ a.foot → x ∉ (i.part ti).foot := by
    intro j a hj ha x hx hx'
    obtain ⟨ta, hta⟩ := h.get (List.mem_of_getElem? ha)
    rcases PI.memF.1 hx' with e | e | e | e | e | e | e
    · subst e; exact hta.foot_ne h.hM (by decide) hx
    · subst e; exact hta.foot_ne h.hMem.hm (by decide) hx
    · subst e; exact h.wbf a (List.mem_of_getElem? ha) hx
    · subst e; exact hta.foot_ne h.hG.hg (by decide) hx
    · subst e; exact h.gsf a (List.mem_of_getElem? ha) hx
    · subst e; exact hta.foot_held h.hG.hh hx
    · exact h.apart j k a ti ha h1 hj x hx e
  refine ⟨⟨hp.at_.hM, hp.at_.hP, hp.at_.ok, hp.at_.hMem, hp.at_.hG, ?_, ?_, ?_, ?_, ?_, hp.at_.wg, ?_⟩, hgo⟩
  · have e : (s.join k q).ths.length = s.ths.length := by simp [MS.join]
    rw [hrow3, e]
    refine own_keep h.hrow hp.keep (fun g hg hx => ?_)
    obtain ⟨cs, hb⟩ := own_blk h.hrow hg
    exact (h.part h1 h2).foot_ne hb (by decide) hx
  · simp [MI.join, MS.join, h.tl]
  · intro j a b ha hb
    by_cases hj : j = k
    · subst hj
      simp only [MI.join, MS.join] at ha hb
      rw [List.getElem?_set_self hk1] at ha
      rw [List.getElem?_set_self hk2] at hb
      cases ha
      cases hb
      exact hp.at_.hTh
    · simp only [MI.join, MS.join] at ha hb
      rw [List.getElem?_set_ne (fun e => hj e.symm)] at ha hb
      exact (h.th j a b ha hb).keep hp.keep (hothers j a hj ha)
  · intro a ha
    rcases List.mem_or_eq_of_mem_set ha with ha | rfl
    · exact h.wbf a ha
    · exact hp.at_.wbf
  · intro a ha
    rcases List.mem_or_eq_of_mem_set ha with ha | rfl
    · exact h.gsf a ha
    · exact hp.at_.gsf
  · intro j l a b ha hb hjl x hx hx'
    simp only [MI.join] at ha hb
    by_cases hj : j = k <;> by_cases hl : l = k
    · omega
    · subst hj
      rw [List.getElem?_set_self hk1] at ha
      rw [List.getElem?_set_ne (fun e => hl e.symm)] at hb
      cases ha
      rcases hp.foot x hx with e | e
      · exact h.apart j l ti b h1 hb hjl x e hx'
      · have := hold b (List.mem_of_getElem? hb) x hx'; omega
    · subst hl
      rw [List.getElem?_set_ne (fun e => hj e.symm)] at ha
      rw [List.getElem?_set_self hk1] at hb
      cases hb
      rcases hp.foot x hx' with e | e
      · exact h.apart j l a ti ha h1 hjl x hx e
      · have := hold a (List.mem_of_getElem? ha) x hx; omega
    · rw [List.getElem?_set_ne (fun e => hj e.symm)] at ha
      rw [List.getElem?_set_ne (fun e => hl e.symm)] at hb
      exact h.apart j l a b ha hb hjl x hx hx'
end
end Go.Proofs.YtoghcikfkkmfkaaGreat
