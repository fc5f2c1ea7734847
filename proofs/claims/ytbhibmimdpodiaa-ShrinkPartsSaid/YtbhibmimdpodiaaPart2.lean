/- The reference of layer 42: Part by its contract. Condition: at most 1000 entries each. -/
import Derived.Test.YtbhibmimdpodiaaPart1
namespace Go.Proofs.Ytbhibmimdpodiaa
open Go.RowKit

/-- What the rest says, when so many of each list are left. -/
def backTo (a b : List EntS) (na nb : Nat) : Bool := (a.take na).reverse.isSublist (b.take nb).reverse
theorem take_rev {l : List EntS} {n : Nat} {x : EntS} (h : n < l.length) (hx : l.getD n ent0 = x) : (l.take (n + 1)).reverse = x :: (l.take n).reverse := by
  rw [List.take_succ_eq_append_getElem h, List.reverse_append]
  have : l[n] = x := by rw [← hx, List.getD_eq_getElem?_getD, List.getElem?_eq_getElem h]; rfl
  rw [this]
  rfl
theorem backTo_all (a b : List EntS) : backTo a b a.length b.length = a.isSublist b := by
  unfold backTo
  rw [List.take_of_length_le (Nat.le_refl _), List.take_of_length_le (Nat.le_refl _), sub_rev]
theorem backTo_none (a b : List EntS) (nb : Nat) : backTo a b 0 nb = true := by simp [backTo, List.isSublist]
theorem backTo_out {a b : List EntS} {na : Nat} {x : EntS} (h : na < a.length) (hx : a.getD na ent0 = x) : backTo a b (na + 1) 0 = false := by
  unfold backTo
  rw [take_rev h hx]
  rfl
theorem backTo_yes {a b : List EntS} {na nb : Nat} {x : EntS} (ha : na < a.length) (hb : nb < b.length) (hx : a.getD na ent0 = x) (hy : b.getD nb ent0 = x) : backTo a b (na + 1) (nb + 1) = backTo a b na nb := by
  unfold backTo
  rw [take_rev ha hx, take_rev hb hy]
  simp [List.isSublist]
theorem backTo_no {a b : List EntS} {na nb : Nat} {x y : EntS} (ha : na < a.length) (hb : nb < b.length) (hx : a.getD na ent0 = x) (hy : b.getD nb ent0 = y) (hn : ¬ y = x) : backTo a b (na + 1) (nb + 1) = backTo a b (na + 1) nb := by
  unfold backTo
  rw [take_rev ha hx, take_rev hb hy]
  simp [List.isSublist, Ne.symm hn]
set_option maxHeartbeats 2000000 in
theorem ref42_part (w : World) (A B : Option Addr) (a b : List EntS) (ca cb : Nat) (ha : EntAt w anyB A a) (hb : EntAt w anyB B b) (hl : a.length ≤ 1000) (hl2 : b.length ≤ 1000) :
    Calls Try.prog 17 #[.slice A a.length ca, .slice B b.length cb] w (PartOut a b w) := by
  have HA := Lib.hid ha
  have HB := Lib.hid hb
  have HST := Lib.hid (backTo_all a b)
  clear ha hb
  go_enter Try.func17, Try.ntmps17
  go_wp2_with fail
  go_loopg [5, 6] a.length (fun g v5 v6 wr => ∃ (na nb : Nat), na = g ∧ na ≤ a.length ∧ nb ≤ b.length ∧ v5 = .int .i64 ((nb : Nat) - 1 : Int) ∧ v6 = .int .i64 ((na : Nat) - 1 : Int) ∧ Drawn w wr ∧ backTo a b na nb = a.isSublist b)
  case atStart => exact ⟨_, b.length, rfl, Nat.le_refl _, Nat.le_refl _, rfl, rfl, Drawn.refl _, HST.out⟩
  case round =>
    obtain ⟨na, nb, rfl, hna, hnb, rfl, rfl, hd, he⟩ := hrel
    have HD := Lib.hid hd
    have HE := Lib.hid he
    clear hd he HST
    cases na with
    | zero =>
      have HE2 := Lib.hid ((backTo_none a b nb).symm.trans HE.out)
      go_wp2
      go_ret
      exact ⟨by rw [← HE2.out]; rfl, Keep.of_drawn HD.out⟩
    | succ na =>
      have hla : na < a.length := by omega
      have hza : (((na + 1 : Nat) : Int) - 1) = ((na : Nat) : Int) := by omega
      have hza0 : (0 : Int) ≤ ((na : Nat) : Int) := by omega
      have hza1 : ((na : Nat) : Int) < (a.length : Nat) := by omega
      rw [hza]
      clear hza
      go_wp2_with fail
      go_loopg [5] nb (fun g v5 wx => ∃ (mb : Nat), mb = g ∧ mb ≤ b.length ∧ v5 = .int .i64 ((mb : Nat) - 1 : Int) ∧ Drawn w wx ∧ backTo a b (na + 1) mb = a.isSublist b)
      case atStart => exact ⟨_, rfl, hnb, rfl, HD.out, HE.out⟩
      case round =>
        obtain ⟨mb, rfl, hmb, rfl, hd, he⟩ := hrel
        have HD2 := Lib.hid hd
        have HE2 := Lib.hid he
        clear hd he HE
        cases mb with
        | zero =>
          generalize hx : a.getD na ent0 = x
          have HF := Lib.hid ((backTo_out (b := b) hla hx).symm.trans HE2.out)
          clear hx
          go_wp2_with fail
          go_quiet (fail)
          go_wp2
          go_ret
          exact ⟨by rw [← HF.out]; rfl, Keep.of_drawn (HD2.out.trans (Drawn.n _ _))⟩
        | succ mb =>
          have hlb : mb < b.length := by omega
          have hzb : (((mb + 1 : Nat) : Int) - 1) = ((mb : Nat) : Int) := by omega
          have hzb0 : (0 : Int) ≤ ((mb : Nat) : Int) := by omega
          have hzb1 : ((mb : Nat) : Int) < (b.length : Nat) := by omega
          rw [hzb]
          clear hzb
          obtain ⟨c, o, rfl, _, _, g0, g1, g2, g3, g4, g5, g6⟩ := (HA.out.keep0 (Keep.of_drawn HD2.out)).at_ hla
          obtain ⟨bb, ob, rfl, _, _, k0, k1, k2, k3, k4, k5, k6⟩ := (HB.out.keep0 (Keep.of_drawn HD2.out)).at_ hlb
          generalize hx : a.getD na ent0 = x at *
          generalize hy : b.getD mb ent0 = y at *
          have HX := Lib.hid hx
          have HY := Lib.hid hy
          clear hx hy
          have hq := ent_neq y x
          unfold EntS.agg at hq
          cases hd : decide (y = x) with
          | true =>
            have HQ := Lib.hid ((backTo_yes hla hlb HX.out (HY.out.trans (of_decide_eq_true hd))).symm.trans HE2.out)
            simp only [hd, Bool.not_true] at hq
            clear hd
            go_wp2_with fail
            go_quiet (fail)
            go_wp2_with fail
            go_roundg na
            case measure => omega
            case rel => exact ⟨na, mb, rfl, by omega, by omega, rfl, rfl, HD2.out.trans (Drawn.n _ _), HQ.out⟩
          | false =>
            have HQ := Lib.hid ((backTo_no hla hlb HX.out HY.out (of_decide_eq_false hd)).symm.trans HE2.out)
            simp only [hd, Bool.not_false] at hq
            clear hd
            go_wp2_with fail
            go_quiet (fail)
            go_wp2_with fail
            go_roundg mb
            case measure => omega
            case rel => exact ⟨mb, rfl, by omega, rfl, HD2.out.trans (Drawn.n _ _), HQ.out⟩
end Go.Proofs.Ytbhibmimdpodiaa
