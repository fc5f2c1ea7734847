/- Package guard: its functions by their contracts. Conditions: as in the text ahead. -/
import Derived.Test.YtoghcikfkkmfkaaGreatGuard
namespace Go.Proofs.YtoghcikfkkmfkaaGreat
open Go.RowKit Go.Maps

structure GuardI where
  gb : Nat
  gsb : Nat
  hb : Nat
  cap : Nat
  extra : List Value
structure GuardS where
  gens : List Nat
  held : List Nat
  slips : Int
structure GuardAt (w : World) (i : GuardI) (s : GuardS) : Prop where
  hg : Blk w i.gb 122 #[.slice (some ⟨i.gsb, 0, none⟩) s.gens.length i.cap, .map (some i.hb), .int .i64 s.slips]
  hs : Blk w i.gsb 22 (u64s s.gens ++ i.extra).toArray
  hh : HeldAt w i.hb s.held
  len : s.gens.length ≤ 251
  sub : ∀ k, k ∈ s.held → 1 ≤ k ∧ k < s.gens.length
  slips0 : 0 ≤ s.slips

def GuardS.there (s : GuardS) (k : Int) : Bool := decide (1 ≤ k) && decide (k < s.gens.length)
def GuardS.edge (s : GuardS) (k : Nat) : Nat := if 1 ≤ k ∧ k < s.gens.length then mkE k (s.gens.getD k 0) else 0
def GuardS.leads (s : GuardS) (e : Nat) : Bool := decide (slotE e ∈ s.held) && (nodeE (s.edge (slotE e)) == nodeE e)

section
variable {w w' : World} {i : GuardI} {s : GuardS} {S : List Nat}
theorem GuardAt.keep (h : GuardAt w i s) (hk : Keep S w w') (h1 : i.gb ∉ S) (h2 : i.gsb ∉ S) (h3 : i.hb ∉ S) : GuardAt w' i s := ⟨h.hg.keep hk h1, h.hs.keep hk h2, h.hh.keep hk h3, h.len, h.sub, h.slips0⟩
theorem GuardAt.alloc (h : GuardAt w i s) (o : Obj) : GuardAt (w.alloc o) i s := ⟨h.hg.alloc o, h.hs.alloc o, h.hh.alloc o, h.len, h.sub, h.slips0⟩
theorem GuardAt.drewN (h : GuardAt w i s) (n : Nat) : GuardAt (w.drewN n) i s := ⟨h.hg, h.hs, h.hh.drewN n, h.len, h.sub, h.slips0⟩
theorem GuardAt.drew (h : GuardAt w i s) : GuardAt w.drew i s := ⟨h.hg, h.hs, h.hh.drew, h.len, h.sub, h.slips0⟩
theorem GuardAt.drawn (h : GuardAt w i s) (hd : Drawn w w') : GuardAt w' i s := by obtain ⟨n, rfl⟩ := hd; exact h.drewN n
theorem GuardAt.gen (h : GuardAt w i s) (k : Nat) (hk : k < s.gens.length) : w.cell? ⟨i.gsb, k, none⟩ = some (.int .u64 (s.gens[k])) := by
  rw [h.hs.cell]
  simp [u64s, List.getElem?_append_left, hk]
theorem GuardAt.ne1 (h : GuardAt w i s) : i.gb ≠ i.gsb := h.hg.ne_ h.hs (by decide)
theorem GuardAt.ne2 (h : GuardAt w i s) : i.hb ≠ i.gb := h.hh.neBlk h.hg
theorem GuardAt.ne3 (h : GuardAt w i s) : i.hb ≠ i.gsb := h.hh.neBlk h.hs
theorem GuardS.edge_lt (s : GuardS) (k : Nat) (hl : s.gens.length ≤ 251) : s.edge k < 2 ^ 64 := by
  unfold GuardS.edge
  split
  · exact mkE_lt _ _ (by omega)
  · decide
end

theorem guard_slips (w : World) (i : GuardI) (s : GuardS) (h : GuardAt w i s) :
    Calls Tryz.prog 65 #[.pointer (some ⟨i.gb, 0, none⟩)] w fun e w' => e = .returned (.int .i64 s.slips) ∧ w = w' := by
  have hc := h.hg.cell
  clear h
  go_enter Tryz.func65, Tryz.ntmps65
  go_wp2
  go_ret
  exact ⟨rfl, rfl⟩
theorem guard_held (w : World) (i : GuardI) (s : GuardS) (h : GuardAt w i s) :
    Calls Tryz.prog 25 #[.pointer (some ⟨i.gb, 0, none⟩)] w fun e w' => e = .returned (.int .i64 s.held.length) ∧ w = w' := by
  have hc := h.hg.cell
  obtain ⟨⟨D, ho, hz, _⟩, _⟩ := h.hh
  have hl := fun ty => ho.len Tryz.underlying120 ty
  rw [hz] at hl
  clear h hz ho
  go_enter Tryz.func25, Tryz.ntmps25
  go_wp2
  go_ret
  exact ⟨rfl, rfl⟩
theorem guard_there (w : World) (i : GuardI) (s : GuardS) (k : Int) (h : GuardAt w i s) :
    Calls Tryz.prog 60 #[.pointer (some ⟨i.gb, 0, none⟩), .int .i64 k] w fun e w' => e = .returned (.bool (s.there k)) ∧ w = w' := by
  have hc := h.hg.cell
  clear h
  by_cases h1 : 1 ≤ k
  · have d1 : decide (1 ≤ k) = true := by simpa using h1
    have e1 : s.there k = decide (k < s.gens.length) := by simp [GuardS.there, h1]
    rw [e1]
    clear e1 h1
    go_enter Tryz.func60, Tryz.ntmps60
    go_wp2
    go_ret
    exact ⟨rfl, rfl⟩
  · have d1 : decide (1 ≤ k) = false := by simpa using h1
    have e1 : s.there k = false := by simp [GuardS.there, h1]
    rw [e1]
    clear e1 h1
    go_enter Tryz.func60, Tryz.ntmps60
    go_wp2
    go_ret
    exact ⟨rfl, rfl⟩
theorem guard_edge (w : World) (i : GuardI) (s : GuardS) (k : Nat) (h : GuardAt w i s) :
    Calls Tryz.prog 62 #[.pointer (some ⟨i.gb, 0, none⟩), .int .i64 k] w fun e w' => e = .returned (.int .u64 (s.edge k : Nat)) ∧ w = w' := by
  have HT := guard_there w i s k h
  by_cases hk : 1 ≤ k ∧ k < s.gens.length
  · have e1 : s.there k = true := by simp [GuardS.there]; omega
    have e2 : s.edge k = mkE k (s.gens[k]'hk.2) := by simp [GuardS.edge, hk]
    rw [e1] at HT
    rw [e2]
    have HM := Lib.hid (edge_make k (s.gens[k]'hk.2) w (by have := h.len; omega))
    have hc := h.hg.cell
    have hg := h.gen k hk.2
    obtain ⟨hk1, hk2⟩ := hk
    have HT := Lib.hid HT
    clear h e1 e2
    go_enter Tryz.func62, Tryz.ntmps62
    go_wp2_with fail
    refine HT.out.mono ?_
    rintro e w' ⟨rfl, rfl⟩
    go_wp2_with fail
    refine HM.out.mono ?_
    rintro e w' ⟨rfl, rfl⟩
    go_wp2
    go_ret
    exact ⟨rfl, rfl⟩
  · have e1 : s.there k = false := by simp [GuardS.there]; omega
    have e2 : s.edge k = 0 := by simp only [GuardS.edge]; rw [if_neg hk]
    rw [e1] at HT
    rw [e2]
    have HT := Lib.hid HT
    clear h hk e1 e2
    go_enter Tryz.func62, Tryz.ntmps62
    go_wp2_with fail
    refine HT.out.mono ?_
    rintro e w' ⟨rfl, rfl⟩
    go_wp2
    go_ret
    exact ⟨rfl, rfl⟩

set_option maxHeartbeats 400000 in
theorem guard_leads (w : World) (i : GuardI) (s : GuardS) (e : Nat) (h : GuardAt w i s) (he : e < 2 ^ 64) :
    Calls Tryz.prog 20 #[.pointer (some ⟨i.gb, 0, none⟩), .int .u64 e] w fun r w' => r = .returned (.bool (s.leads e)) ∧ Drawn w w' := by
  have HS : ∀ w, Hid (Calls Tryz.prog 61 #[.int .u64 e] w fun r w' => r = .returned (.int .i64 (slotE e : Nat)) ∧ w = w') := fun w => edge_slot e w he
  have HT : ∀ n, Hid (Calls Tryz.prog 60 #[.pointer (some ⟨i.gb, 0, none⟩), .int .i64 (slotE e : Nat)] (w.drewN n) fun r w' => r = .returned (.bool (s.there (slotE e : Nat))) ∧ w.drewN n = w') := fun n => guard_there _ i s _ (h.drewN n)
  have hb : ((slotE e : Nat) : Int) ≤ 4095 := by have := slotE_lt e; omega
  by_cases hin : slotE e ∈ s.held
  · have hsub := h.sub _ hin
    have e1 : s.there (slotE e : Nat) = true := by simp [GuardS.there]; omega
    have HE : ∀ n, Hid (Calls Tryz.prog 62 #[.pointer (some ⟨i.gb, 0, none⟩), .int .i64 (slotE e : Nat)] (w.drewN n) fun r w' => r = .returned (.int .u64 (s.edge (slotE e) : Nat)) ∧ w.drewN n = w') := fun n => guard_edge _ i s _ (h.drewN n)
    have HO : ∀ w, Hid (Calls Tryz.prog 63 #[.int .u64 (s.edge (slotE e) : Nat), .int .u64 e] w fun r w' => r = .returned (.bool (nodeE (s.edge (slotE e)) == nodeE e)) ∧ w = w') := fun w => edge_to _ e w (s.edge_lt _ h.len) he
    have e2 : s.leads e = (nodeE (s.edge (slotE e)) == nodeE e) := by simp [GuardS.leads, hin]
    rw [e2]
    rw [e1] at HT
    have hc := h.hg.cell
    have hl := fun n => (h.hh.drewN n).look (slotE e : Nat) (by omega) (by omega)
    have hx : (∃ n ∈ s.held, ((slotE e : Nat) : Int) = (n : Int)) := ⟨_, hin, rfl⟩
    simp only [if_pos hx] at hl
    clear h hsub e1 e2 hin hx he
    go_enter Tryz.func20, Tryz.ntmps20
    go_wp2_with fail
    go_quiet (first | (go_at_call 61; exact Calls.quiet_of_same ((HS _).out.mono (fun _ _ h => ⟨h.1, h.2.symm⟩))) | (go_at_call 60; exact Calls.quiet_of_same ((HT _).out.mono (fun _ _ h => ⟨h.1, h.2.symm⟩))) | (go_at_call 62; exact Calls.quiet_of_same ((HE _).out.mono (fun _ _ h => ⟨h.1, h.2.symm⟩))) | (go_at_call 63; exact Calls.quiet_of_same ((HO _).out.mono (fun _ _ h => ⟨h.1, h.2.symm⟩))))
    go_wp2
    go_ret
    exact ⟨rfl, Drawn.n _ _⟩
  · have e2 : s.leads e = false := by simp [GuardS.leads, hin]
    rw [e2]
    have hc := h.hg.cell
    have hl := fun n => (h.hh.drewN n).look (slotE e : Nat) (by omega) (by omega)
    have hx : ¬ (∃ n ∈ s.held, ((slotE e : Nat) : Int) = (n : Int)) := by
      rintro ⟨n, hn, e3⟩
      have : n = slotE e := by omega
      exact hin (this ▸ hn)
    simp only [if_neg hx] at hl
    cases e1 : s.there (slotE e : Nat)
    · rw [e1] at HT
      clear h e1 e2 hin hx he hl
      go_enter Tryz.func20, Tryz.ntmps20
      go_wp2_with fail
      go_quiet (first | (go_at_call 61; exact Calls.quiet_of_same ((HS _).out.mono (fun _ _ h => ⟨h.1, h.2.symm⟩))) | (go_at_call 60; exact Calls.quiet_of_same ((HT _).out.mono (fun _ _ h => ⟨h.1, h.2.symm⟩))))
      go_wp2
      go_ret
      exact ⟨rfl, Drawn.n _ _⟩
    · rw [e1] at HT
      clear h e1 e2 hin hx he
      go_enter Tryz.func20, Tryz.ntmps20
      go_wp2_with fail
      go_quiet (first | (go_at_call 61; exact Calls.quiet_of_same ((HS _).out.mono (fun _ _ h => ⟨h.1, h.2.symm⟩))) | (go_at_call 60; exact Calls.quiet_of_same ((HT _).out.mono (fun _ _ h => ⟨h.1, h.2.symm⟩))))
      go_wp2
      go_ret
      exact ⟨rfl, Drawn.n _ _⟩

/-- Take. -/
def GuardS.takeS (s : GuardS) (k : Nat) : GuardS := if 1 ≤ k ∧ k < s.gens.length ∧ k ∉ s.held then { s with held := k :: s.held } else { s with slips := s.slips + 1 }
def GuardS.takeB (s : GuardS) (k : Nat) : Bool := decide (1 ≤ k ∧ k < s.gens.length ∧ k ∉ s.held)
theorem GuardAt.slip {w : World} {i : GuardI} {s : GuardS} (h : GuardAt w i s) : GuardAt (w.setCell ⟨i.gb, 2, none⟩ (.int .i64 (s.slips + 1))) i { s with slips := s.slips + 1 } :=
  ⟨by simpa using h.hg.set_ 2 (.int .i64 (s.slips + 1)), h.hs.far (p := ⟨i.gb, 2, none⟩) h.ne1.symm _, h.hh.set_ (p := ⟨i.gb, 2, none⟩) h.ne2 _, h.len, h.sub, by have := h.slips0; simp; omega⟩

theorem nodup_few : ∀ (n : Nat) (L : List Nat), L.Nodup → (∀ k, k ∈ L → k < n) → L.length ≤ n
  | 0, L, _, h => by
    cases L with
    | nil => simp
    | cons a l => exact absurd (h a (by simp)) (by omega)
  | n + 1, L, hn, h => by
    have h1 := nodup_few n (L.erase n) (hn.erase n) (fun k hk => by
      have h2 := hn.mem_erase_iff.1 hk
      have := h k h2.2
      omega)
    by_cases hm : n ∈ L
    · rw [List.length_erase_of_mem hm] at h1
      omega
    · rw [List.erase_of_not_mem hm] at h1
      omega
theorem GuardAt.few {w : World} {i : GuardI} {s : GuardS} (h : GuardAt w i s) : s.held.length < maxLen := by
  have h1 := nodup_few _ _ h.hh.nd (fun k hk => (h.sub k hk).2)
  have h2 := h.len
  unfold maxLen
  omega
theorem GuardAt.took {w w' : World} {i : GuardI} {s : GuardS} {k : Nat} (h : GuardAt w i s) (_hk : k ∉ s.held) (h1 : 1 ≤ k) (h2 : k < s.gens.length) (hh : HeldAt w' i.hb (k :: s.held)) (hg : w.grownBy w' (some i.hb)) : GuardAt w' i { s with held := k :: s.held } := by
  have hK := Keep.of_grown hg
  refine ⟨h.hg.keep hK (by simpa using h.ne2.symm), h.hs.keep hK (by simpa using h.ne3.symm), hh, h.len, fun n hn => ?_, h.slips0⟩
  rcases List.mem_cons.1 hn with rfl | hn
  · exact ⟨h1, h2⟩
  · exact h.sub n hn

set_option maxHeartbeats 400000 in
theorem guard_take (w : World) (i : GuardI) (s : GuardS) (k : Nat) (h : GuardAt w i s) (hk : k ≤ 4095) (hsl : s.slips ≤ 4611686018427387904) :
    Calls Tryz.prog 52 #[.pointer (some ⟨i.gb, 0, none⟩), .int .i64 k] w fun r w' => r = .returned (.bool (s.takeB k)) ∧ GuardAt w' i (s.takeS k) ∧ Keep [i.gb, i.hb] w w' := by
  have HT := guard_there w i s k h
  have hc := h.hg.cell
  have hf := h.hg.frozen
  have hl := h.hh.look k (by omega) (by omega)
  have hsl0 := h.slips0
  have hks : (k : Int) ≤ 4095 := by omega
  have H := Lib.hid h
  clear h
  by_cases h1 : 1 ≤ k ∧ k < s.gens.length
  · have e1 : s.there k = true := by simp [GuardS.there]; omega
    rw [e1] at HT
    have HT := Lib.hid HT
    by_cases hin : k ∈ s.held
    · have hx : ∃ n ∈ s.held, (k : Int) = (n : Int) := ⟨k, hin, rfl⟩
      simp only [if_pos hx] at hl
      have e2 : s.takeB k = false := by simp [GuardS.takeB, hin]
      have e3 : s.takeS k = { s with slips := s.slips + 1 } := by simp [GuardS.takeS, hin]
      rw [e2, e3]
      clear e1 e2 e3 hin hx h1
      go_enter Tryz.func52, Tryz.ntmps52
      go_wp2_with fail
      refine HT.out.mono ?_
      rintro r w' ⟨rfl, rfl⟩
      go_wp2
      go_ret
      exact ⟨rfl, H.out.slip, (Keep.refl _ _).set_ _ (.inl (by simp))⟩
    · have hx : ¬ ∃ n ∈ s.held, (k : Int) = (n : Int) := by
        rintro ⟨n, hn, e3⟩
        have : n = k := by omega
        exact hin (this ▸ hn)
      simp only [if_neg hx] at hl
      have e2 : s.takeB k = true := by simp [GuardS.takeB, hin, h1]
      have e3 : s.takeS k = { s with held := k :: s.held } := by simp [GuardS.takeS, hin, h1]
      rw [e2, e3]
      have HI := Lib.hid hin
      have H1 := Lib.hid h1
      clear e1 e2 e3 hin hx h1
      obtain ⟨⟨D, hD⟩, hnd⟩ := H.out.hh
      have HD := Lib.hid hD
      have HN := Lib.hid hnd
      clear hD hnd
      go_enter Tryz.func52, Tryz.ntmps52
      go_wp2_with fail
      refine HT.out.mono ?_
      rintro r w' ⟨rfl, rfl⟩
      go_wp2_with (at_mapUpdate; refine wpList_mapUpdate_own _ rfl _ _ _ 120 rfl 3 22 keyed Tryz.underlying120 _ i.hb s.held.length D rfl HD.out.1 ?c1 _ _ (kl k) rfl rfl (kl_key k (by omega) (by omega)) _ [] (plainElem_int Tryz.underlying22 (WalkArith.wf_u64 ⟨by decide, by decide⟩)) ?_; (case c1 => exact GuardAt.few H.out); intro w1 hown1 hgrow1; have HO := Lib.hid hown1; have HG := Lib.hid hgrow1; clear hown1 hgrow1)
      go_ret
      exact ⟨rfl, GuardAt.took H.out HI.out H1.out.1 H1.out.2 (HD.out.put HN.out HI.out HO.out) HG.out, (Keep.of_grown HG.out).mono (by simp)⟩
  · have e1 : s.there k = false := by simp [GuardS.there]; omega
    rw [e1] at HT
    have HT := Lib.hid HT
    have e2 : s.takeB k = false := by simp only [GuardS.takeB, decide_eq_false_iff_not]; exact fun h => h1 ⟨h.1, h.2.1⟩
    have e3 : s.takeS k = { s with slips := s.slips + 1 } := by unfold GuardS.takeS; exact if_neg (fun h => h1 ⟨h.1, h.2.1⟩)
    rw [e2, e3]
    clear e1 e2 e3 h1 hl
    go_enter Tryz.func52, Tryz.ntmps52
    go_wp2_with fail
    refine HT.out.mono ?_
    rintro r w' ⟨rfl, rfl⟩
    go_wp2
    go_ret
    exact ⟨rfl, H.out.slip, (Keep.refl _ _).set_ _ (.inl (by simp))⟩
end Go.Proofs.YtoghcikfkkmfkaaGreat
