/- Explore: what the law asks of each schedule (the function that it hands to Each), by its contract. Conditions: the schedule is the next one of all. -/
import Derived.Test.YtbhibmimdpodiaaExp6
namespace Go.Proofs.Ytbhibmimdpodiaa
open Go.RowKit

theorem OwnRows.keepS {w w' : World} {B : Nat} {v : Value} {ls : List (List (Int × Int))} {S : List Nat} (h : OwnRows w B v ls) (hk : Keep S w w') (h1 : ∀ b cs, Blk w b 54 cs → b ∉ S) (h2 : ∀ b cs, Blk w b 95 cs → b ∉ S) : OwnRows w' B v ls := by
  obtain ⟨vs, h3, h4⟩ := h
  exact ⟨vs, own_keep h3 hk (fun g hg => by obtain ⟨cs, hb⟩ := own_blk h3 hg; exact h1 g cs hb), fun k u hu => (h4 k u hu).keep hk h2⟩
/-- What the function that is handed on has hold of. -/
structure YSt (w : World) (B fb ib ab tb : Nat) (ls : List (List (Int × Int))) (till : Int) (i : Nat) : Prop where
  f : Blk w fb 4 #[.bool true]
  i_ : Blk w ib 3 #[.int .i64 (i : Nat)]
  a : ∃ v, Blk w ab 47 #[v] ∧ OwnRows w B v ls
  t : Blk w tb 3 #[.int .i64 till]
  ne_ : ib ≠ tb
theorem YSt.keep {w w' : World} {B fb ib ab tb : Nat} {ls : List (List (Int × Int))} {till : Int} {i : Nat} {S : List Nat} (h : YSt w B fb ib ab tb ls till i) (hk : Keep S w w') (hs : ∀ b t cs, Blk w b t cs → t ≠ 94 → b ∉ S) : YSt w' B fb ib ab tb ls till i := by
  obtain ⟨v, h1, h2⟩ := h.a
  exact ⟨h.f.keep hk (hs _ _ _ h.f (by decide)), h.i_.keep hk (hs _ _ _ h.i_ (by decide)), ⟨v, h1.keep hk (hs _ _ _ h1 (by decide)), h2.keepS hk (fun b cs hb => hs _ _ _ hb (by decide)) (fun b cs hb => hs _ _ _ hb (by decide))⟩, h.t.keep hk (hs _ _ _ h.t (by decide)), h.ne_⟩
def YOut (B fb ib ab tb : Nat) (ls : List (List (Int × Int))) (till : Int) (i : Nat) (w : World) (r : Ending) (w' : World) : Prop := r = .returned (.bool (((i : Nat) : Int) + 1 != till)) ∧ Keep [fb, ib] w w' ∧ YSt w' B fb ib ab tb ls till (i + 1)
set_option maxHeartbeats 1000000 in
theorem yield_one (w : World) (B fb ib ab tb : Nat) (ls : List (List (Int × Int))) (till : Int) (i : Nat) (h : YSt w B fb ib ab tb ls till i) (hl : ls.length ≤ 3000) (hi : i < ls.length) (A : Option Addr) (p : List (Int × Int)) (c : Nat) (hp : ls.getD i [] = p) (hT : TurnsAt 94 w A p) (hpl : p.length ≤ 1000) :
    Calls Try.prog 23 #[.slice A p.length c, .pointer (some ⟨fb, 0, none⟩), .pointer (some ⟨ib, 0, none⟩), .pointer (some ⟨ab, 0, none⟩), .pointer (some ⟨tb, 0, none⟩)] w (YOut B fb ib ab tb ls till i w) := by
  have HY := Lib.hid h
  obtain ⟨v, hab, hrows⟩ := h.a
  have HR := Lib.hid hrows
  obtain ⟨g, c2, A2, c3, rfl, hcell, hT2⟩ := hrows.at_ hi
  rw [hp] at hcell hT2
  have HT := Lib.hid hT
  have HT2 := Lib.hid hT2
  have HPL := Lib.hid hpl
  have hf0 := h.f.cell 0
  have hi0 := h.i_.cell 0
  have ha0 := hab.cell 0
  have ht0 := h.t.cell 0
  have HAB := Lib.hid hab
  have hn1 : fb ≠ ib := h.f.ne_ h.i_ (by decide)
  have hn2 : fb ≠ ab := h.f.ne_ hab (by decide)
  have hn3 : fb ≠ tb := h.f.ne_ h.t (by decide)
  have hn4 : ib ≠ tb := h.ne_
  have hn5 := hn1.symm
  have hn6 := hn2.symm
  have hn7 := hn3.symm
  have hn8 := hn4.symm
  have hz : ((i : Nat) : Int) < (ls.length : Nat) := by omega
  have hz0 : (0 : Int) ≤ ((i : Nat) : Int) := by omega
  have hz1 : ((ls.length : Nat) : Int) ≤ 3000 := by omega
  have hff := h.f.frozen 0
  have hif := h.i_.frozen 0
  have HP : Hid (decide (p = p) = true) := Lib.hid (decide_eq_true rfl)
  clear h hab hrows hp hT hT2 hpl hl
  go_enter Try.func23, Try.ntmps23
  go_wp2_with (go_at_call 24; refine (law36_same _ _ _ p p _ _ HT.out HT2.out HPL.out HPL.out).mono ?_; rintro r x ⟨rfl, hk⟩; have HKX := Lib.hid (Keep.of_drawn (S := []) hk); have HYX := Lib.hid (HY.out.keep HKX.out (by simp)); rw [HP.out]; have hf0 := HYX.out.f.cell 0; have hi0 := HYX.out.i_.cell 0; have ha0 := (HAB.out.keep HKX.out (by simp)).cell 0; have ht0 := HYX.out.t.cell 0; have hff := HYX.out.f.frozen 0; have hif := HYX.out.i_.frozen 0; clear hk)
  go_ret
  have HKZ := ((Keep.refl [fb, ib] x).set_ (p := ⟨fb, 0, none⟩) (.bool true) (.inl (by simp))).set_ (p := ⟨ib, 0, none⟩) (.int .i64 (((i : Nat) : Int) + 1)) (.inl (by simp))
  have hf2 := (HYX.out.f.set_ 0 (.bool true)).far (p := ⟨ib, 0, none⟩) hn1 (.int .i64 (((i : Nat) : Int) + 1))
  have hi2 := (HYX.out.i_.far (p := ⟨fb, 0, none⟩) hn5 (.bool true)).set_ 0 (.int .i64 (((i : Nat) : Int) + 1))
  obtain ⟨v, h1, h2⟩ := HYX.out.a
  refine ⟨rfl, (HKX.out.mono (by simp)).trans HKZ (fun x hx => .inl hx), by simpa using hf2, by simpa using hi2, ⟨v, h1.keep HKZ (by simp [hn6, ne_comm.1 hn2, (HYX.out.i_.ne_ h1 (by decide)).symm]), h2.keepS HKZ ?_ ?_⟩, HYX.out.t.keep HKZ (by simp [hn7, hn8]), hn4⟩
  · intro b cs hb hm
    simp only [List.mem_cons, List.not_mem_nil, or_false] at hm
    rcases hm with rfl | rfl
    · exact hb.ne_ HYX.out.f (by decide) rfl
    · exact hb.ne_ HYX.out.i_ (by decide) rfl
  · intro b cs hb hm
    simp only [List.mem_cons, List.not_mem_nil, or_false] at hm
    rcases hm with rfl | rfl
    · exact hb.ne_ HYX.out.f (by decide) rfl
    · exact hb.ne_ HYX.out.i_ (by decide) rfl
end Go.Proofs.Ytbhibmimdpodiaa
