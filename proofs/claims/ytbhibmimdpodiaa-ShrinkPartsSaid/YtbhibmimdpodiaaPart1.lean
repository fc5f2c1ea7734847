/- shrink.Part by its contract. Condition: at most 1000 entries each. -/
import Derived.Test.YtbhibmimdpodiaaEntQ
namespace Go.Proofs.Ytbhibmimdpodiaa
open Go.RowKit

theorem EntAt.cut {w : World} {ok : Nat → Prop} {b o : Nat} {l : List EntS} (h : EntAt w ok (some ⟨b, o, none⟩) l) (hl : 0 < l.length) : EntAt w ok (some ⟨b, o + 7, none⟩) l.tail := fun h0 => by
  obtain ⟨b', o', h1, h2, h3, h4⟩ := h hl
  obtain ⟨rfl, rfl⟩ : b = b' ∧ o = o' := by simpa using h1
  refine ⟨b, o + 7, rfl, h2, h3, fun j u hj => ?_⟩
  cases l with
  | nil => simp at hl
  | cons x l =>
    rw [Nat.add_assoc]
    refine h4 _ _ ?_
    show (x.cells ++ entL l)[7 + j]? = _
    rw [List.getElem?_append_right (by show 7 ≤ _; omega), show 7 + j - x.cells.length = j by show 7 + j - 7 = j; omega]
    exact hj
/-- What is left, when the rest of the other list is gone through. -/
structure EatR (w wr : World) (a b : List EntS) (k : Nat) (l : List EntS) (A : Option Addr) (cap : Nat) : Prop where
  hk : Keep [] w wr
  ents : EntAt wr anyB A l
  le : l.length ≤ cap
  cap : cap ≤ maxLen
  few : l.length ≤ 1000
  eq : eatL l (b.drop k) = eatL a b
section
variable {w wr w2 : World} {a b l : List EntS} {k cap : Nat} {A : Option Addr} {x y : EntS}
theorem EatR.no (h : EatR w wr a b k l A cap) (hk : k < b.length) (hx : b.getD k ent0 = x) (hn : l.head? ≠ some x) (hw : Keep [] wr w2) : EatR w w2 a b (k + 1) l A cap := by
  refine ⟨h.hk.trans hw (by simp), h.ents.keep0 hw, h.le, h.cap, h.few, ?_⟩
  have e := h.eq
  rw [List.drop_eq_getElem_cons hk] at e
  unfold eatL at e
  have hb : b[k] = x := by rw [← hx, List.getD_eq_getElem?_getD, List.getElem?_eq_getElem hk]; rfl
  rw [hb, if_neg (by simpa using hn)] at e
  rw [e]
  cases b <;> rfl
theorem EatR.yes {c o : Nat} (h : EatR w wr a b k l (some ⟨c, o, none⟩) cap) (hk : k < b.length) (hx : b.getD k ent0 = x) (h0 : 0 < l.length) (hy : l.getD 0 ent0 = x) (hw : Keep [] wr w2) : EatR w w2 a b (k + 1) l.tail (some ⟨c, o + 7, none⟩) (cap - 1) := by
  have hle := h.le
  have hcm := h.cap
  have hfw := h.few
  refine ⟨h.hk.trans hw (by simp), (h.ents.keep0 hw).cut h0, by simp; omega, by omega, by simp; omega, ?_⟩
  have e := h.eq
  rw [List.drop_eq_getElem_cons hk] at e
  unfold eatL at e
  have hb : b[k] = x := by rw [← hx, List.getD_eq_getElem?_getD, List.getElem?_eq_getElem hk]; rfl
  have hh : l.head? = some x := by
    cases l with
    | nil => simp at h0
    | cons z l => rw [← hy]; rfl
  rw [hb, if_pos (by simpa using hh)] at e
  rw [e]
  cases b <;> rfl
theorem EatR.one {c o : Nat} (h : EatR w wr a b k l (some ⟨c, o, none⟩) cap) (hc : cap = 1) (hk : k < b.length) (hx : b.getD k ent0 = x) (h0 : 0 < l.length) (hy : l.getD 0 ent0 = x) (hw : Keep [] wr w2) (A2 : Option Addr) : EatR w w2 a b (k + 1) l.tail A2 (cap - 1) := by
  have h2 := h.yes hk hx h0 hy hw
  have hl : l.tail = [] := by
    have := h.le
    refine List.eq_nil_of_length_eq_zero ?_
    simp
    omega
  refine ⟨h2.hk, ?_, h2.le, h2.cap, h2.few, h2.eq⟩
  rw [hl]
  exact EntAt.nil _ _ _
theorem EatR.done (h : EatR w wr a b k l A cap) (hk : k = b.length) : l.isEmpty = a.isSublist b := by
  have e := h.eq
  rw [hk, List.drop_of_length_le (Nat.le_refl _)] at e
  rw [← eatL_sub, ← e]
  rfl
end
theorem head_ne {l : List EntS} {x y : EntS} (h0 : 0 < l.length) (hy : l.getD 0 ent0 = y) (hn : ¬ y = x) : l.head? ≠ some x := by
  cases l with
  | nil => simp at h0
  | cons z l =>
    intro h
    apply hn
    rw [← hy]
    injection h
def PartOut (a b : List EntS) (w : World) (r : Ending) (w' : World) : Prop := r = .returned (.bool (a.isSublist b)) ∧ Keep [] w w'
set_option maxHeartbeats 2000000 in
theorem shrink_part (w : World) (A B : Option Addr) (a b : List EntS) (ca cb : Nat) (ha : EntAt w anyB A a) (hb : EntAt w anyB B b) (hl : a.length ≤ 1000) (hl2 : b.length ≤ 1000) (hca : a.length ≤ ca) (hcm : ca ≤ maxLen) :
    Calls Try.prog 16 #[.slice A a.length ca, .slice B b.length cb] w (PartOut a b w) := by
  have HB := Lib.hid hb
  have HST := Lib.hid (show EatR w w a b 0 a A ca from ⟨Keep.refl _ _, ha, hca, hcm, hl, rfl⟩)
  clear ha hb
  go_enter Try.func16, Try.ntmps16
  go_wp2_with fail
  go_loopg [0, 6, 9] b.length (fun g v0 _ q wr => ∃ (k : Nat) (l : List EntS) (A' : Option Addr) (cap' : Nat), k ≤ b.length ∧ g = b.length - k ∧ v0 = .slice A' l.length cap' ∧ q = .int .i64 (k : Nat) ∧ EatR w wr a b k l A' cap')
  case atStart => exact ⟨0, a, A, ca, Nat.zero_le _, rfl, rfl, rfl, HST.out⟩
  case round =>
    obtain ⟨k, l, A', cap', hk, rfl, rfl, rfl, hr⟩ := hrel
    have HR := Lib.hid hr
    have hfew := hr.few
    have hle := hr.le
    have hcm := hr.cap
    unfold maxLen at hcm
    clear hr HST
    have hz0 : (0 : Int) ≤ ((k : Nat) : Int) := by omega
    by_cases hlt : k < b.length
    · have hz : ((k : Nat) : Int) < (b.length : Nat) := by omega
      obtain ⟨bb, ob, rfl, _, _, k0, k1, k2, k3, k4, k5, k6⟩ := (HB.out.keep0 HR.out.hk).at_ hlt
      generalize hx : b.getD k ent0 = x at *
      have HX := Lib.hid hx
      clear hx
      go_upto_region 4 with fail
      have HN := Lib.hid (Blk.new wr 43 x.cells.toArray)
      have HKN := Lib.hid ((Keep.refl [] wr).alloc (.cells x.cells.toArray 43))
      have HE := Lib.hid (HR.out.ents.keep0 HKN.out)
      simp only [EntS.cells] at HN HKN HE
      generalize wr.heap.size = nb at HN ⊢
      generalize wr.alloc (.cells #[.int .i64 x.thr, .bool x.beg, .int .i64 x.op, .int .i64 x.key, .int .i64 x.val, .int .i64 x.hi, .int .i64 x.lim] 43) = w1 at HN HKN HE ⊢
      clear k0 k1 k2 k3 k4 k5 k6
      have n0 := HN.out.cell 0
      have n1 := HN.out.cell 1
      have n2 := HN.out.cell 2
      have n3 := HN.out.cell 3
      have n4 := HN.out.cell 4
      have n5 := HN.out.cell 5
      have n6 := HN.out.cell 6
      by_cases h0 : 0 < l.length
      · obtain ⟨c, o, rfl, _, _, g0, g1, g2, g3, g4, g5, g6⟩ := HE.out.at_ h0
        simp only [Nat.zero_mul, Nat.add_zero] at g0 g1 g2 g3 g4 g5 g6
        have hz1 : (0 : Int) < ((l.length : Nat) : Int) := by omega
        generalize hy : l.getD 0 ent0 = y at *
        have HY := Lib.hid hy
        clear hy
        have hq := ent_eql y x
        unfold EntS.agg at hq
        cases hd : decide (y = x) with
        | true =>
          have HD := Lib.hid (of_decide_eq_true hd)
          simp only [hd] at hq
          clear hd
          by_cases hc1 : cap' = 1
          · obtain rfl := hc1
            have HT9 : Hid (l.tail.length = 0) := Lib.hid (by simp; omega)
            go_quiet (fail)
            go_wp2_with fail
            go_roundg (b.length - (k + 1))
            case measure => omega
            case rel => exact ⟨k + 1, l.tail, some ⟨c, o, none⟩, 0, by omega, rfl, by rw [HT9.out], by go_num, HR.out.one rfl hlt HX.out h0 (HY.out.trans HD.out) (HKN.out.drewN _) _⟩
          · have HC := Lib.hid hc1
            go_quiet (fail)
            go_wp2_with fail
            go_roundg (b.length - (k + 1))
            case measure => omega
            case rel => exact ⟨k + 1, l.tail, _, _, by omega, rfl, by rw [List.length_tail], by go_num, HR.out.yes hlt HX.out h0 (HY.out.trans HD.out) (HKN.out.drewN _)⟩
        | false =>
          have HD := Lib.hid (of_decide_eq_false hd)
          simp only [hd] at hq
          clear hd
          have HH := Lib.hid (head_ne h0 HY.out HD.out)
          go_quiet (fail)
          go_wp2_with fail
          go_roundg (b.length - (k + 1))
          case measure => omega
          case rel => exact ⟨k + 1, l, _, _, by omega, rfl, rfl, by go_num, HR.out.no hlt HX.out HH.out (HKN.out.drewN _)⟩
      · obtain rfl : l = [] := List.eq_nil_of_length_eq_zero (by omega)
        go_quiet (fail)
        go_wp2_with fail
        go_roundg (b.length - (k + 1))
        case measure => omega
        case rel => exact ⟨k + 1, [], _, _, by omega, rfl, rfl, by go_num, HR.out.no hlt HX.out (by simp) (HKN.out.drewN _)⟩
    · have hz : ¬ ((k : Nat) : Int) < (b.length : Nat) := by omega
      have HD := Lib.hid (HR.out.done (by omega))
      have HK := Lib.hid HR.out.hk
      by_cases hn : l.length = 0
      · have hne : (((l.length : Nat) : Int) == 0) = true := by rw [beq_iff_eq]; omega
        have HE : Hid (l.isEmpty = true) := Lib.hid (by rw [List.eq_nil_of_length_eq_zero hn]; rfl)
        generalize l.length = n at *
        clear hn
        go_wp2
        go_ret
        exact ⟨by rw [← HD.out, HE.out]; rfl, HK.out⟩
      · have hne : (((l.length : Nat) : Int) == 0) = false := by rw [beq_eq_false_iff_ne]; omega
        have HE : Hid (l.isEmpty = false) := Lib.hid (by cases l with | nil => exact absurd rfl hn | cons y l => rfl)
        generalize l.length = n at *
        clear hn
        go_wp2
        go_ret
        exact ⟨by rw [← HD.out, HE.out]; rfl, HK.out⟩
end Go.Proofs.Ytbhibmimdpodiaa
