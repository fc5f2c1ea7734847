/- Comparing entries. Plain lemmas on the model's comparison. -/
import Derived.Test.YtbhibmimdpodiaaEnts
namespace Go.Proofs.Ytbhibmimdpodiaa
open Go.RowKit

def EntS.agg (e : EntS) : Value := .agg #[.int .i64 e.thr, .bool e.beg, .int .i64 e.op, .int .i64 e.key, .int .i64 e.val, .int .i64 e.hi, .int .i64 e.lim]
theorem ent_ext {a b : EntS} : a = b ↔ a.thr = b.thr ∧ a.beg = b.beg ∧ a.op = b.op ∧ a.key = b.key ∧ a.val = b.val ∧ a.hi = b.hi ∧ a.lim = b.lim := by
  obtain ⟨a1, a2, a3, a4, a5, a6, a7⟩ := a
  obtain ⟨b1, b2, b3, b4, b5, b6, b7⟩ := b
  simp
theorem ent_equal (a b : EntS) (w : World) : (Op.equalIn 10000 43 a.agg b.agg).run Try.prog w = .ok (decide (a = b)) w := by
  obtain ⟨a1, a2, a3, a4, a5, a6, a7⟩ := a
  obtain ⟨b1, b2, b3, b4, b5, b6, b7⟩ := b
  simp only [EntS.agg]
  simp [go_sem, Try.underlying43, Try.underlying41, Try.underlying3, Try.underlying4, Try.underlying2]
  by_cases h1 : a1 = b1
  · by_cases h2 : a2 = b2
    · by_cases h3 : a3 = b3
      · by_cases h4 : a4 = b4
        · by_cases h5 : a5 = b5
          · by_cases h6 : a6 = b6
            · by_cases h7 : a7 = b7 <;> simp [h1, h2, h3, h4, h5, h6, h7]
            · simp [h1, h2, h3, h4, h5, h6]
          · simp [h1, h2, h3, h4, h5]
        · simp [h1, h2, h3, h4]
      · simp [h1, h2, h3]
    · simp [h1, h2]
  · simp [h1]
theorem ent_eql (a b : EntS) (w : World) : (binOp .eql 43 a.agg b.agg).run Try.prog w = .ok (.bool (decide (a = b))) w := by
  have := ent_equal a b w
  unfold EntS.agg at *
  rw [run_eql_struct, this]
  rfl
theorem ent_neq (a b : EntS) (w : World) : (binOp .neq 43 a.agg b.agg).run Try.prog w = .ok (.bool (!decide (a = b))) w := by
  have := ent_equal a b w
  unfold EntS.agg at *
  rw [run_neq_struct, this]
  rfl
theorem sameTo_step {a b : List EntS} {k : Nat} (ha : k < a.length) (hb : k < b.length) (h : a.take k = b.take k) (he : a.getD k ent0 = b.getD k ent0) : a.take (k + 1) = b.take (k + 1) := by
  rw [List.getD_eq_getElem?_getD, List.getD_eq_getElem?_getD, List.getElem?_eq_getElem ha, List.getElem?_eq_getElem hb] at he
  rw [List.take_succ_eq_append_getElem ha, List.take_succ_eq_append_getElem hb, h]
  simp at he
  rw [he]
theorem sameTo_no {a b : List EntS} {k : Nat} (he : a.getD k ent0 ≠ b.getD k ent0) : a ≠ b := by
  rintro rfl
  exact he rfl
def SameOut (a b : List EntS) (w : World) (r : Ending) (w' : World) : Prop := r = .returned (.bool (decide (a = b))) ∧ Drawn w w'
set_option maxHeartbeats 1000000 in
theorem ref42_same (w : World) (A B : Option Addr) (a b : List EntS) (ca cb : Nat) (oka okb : Nat → Prop) (ha : EntAt w oka A a) (hb : EntAt w okb B b) (hl : a.length ≤ 1000) (hl2 : b.length ≤ 1000) :
    Calls Try.prog 13 #[.slice A a.length ca, .slice B b.length cb] w (SameOut a b w) := by
  have HA := Lib.hid ha
  have HB := Lib.hid hb
  have HL := Lib.hid (And.intro hl hl2)
  clear ha hb
  by_cases hne : a.length = b.length
  · have HE := Lib.hid hne
    rw [← hne]
    clear hne
    go_enter Try.func13, Try.ntmps13
    go_wp2_with fail
    go_loopg [5] a.length (fun g q wr => ∃ k : Nat, k ≤ a.length ∧ g = a.length - k ∧ q = .int .i64 (k : Nat) ∧ Drawn w wr ∧ a.take k = b.take k)
    case atStart => exact ⟨0, Nat.zero_le _, rfl, rfl, Drawn.refl _, rfl⟩
    case round =>
      obtain ⟨k, hk, rfl, rfl, hd, hs⟩ := hrel
      have HD := Lib.hid hd
      have HS := Lib.hid hs
      clear hd hs
      by_cases hlt : k < a.length
      · have hlb : k < b.length := by have := HE.out; omega
        obtain ⟨ba, oa, rfl, _, _, g0, g1, g2, g3, g4, g5, g6⟩ := (HA.out.keep (Keep.of_drawn HD.out) (S := []) (by simp)).at_ hlt
        obtain ⟨bb, ob, rfl, _, _, k0, k1, k2, k3, k4, k5, k6⟩ := (HB.out.keep (Keep.of_drawn HD.out) (S := []) (by simp)).at_ hlb
        have hz : ((k : Nat) : Int) < (a.length : Nat) := by omega
        have hz0 : (0 : Int) ≤ ((k : Nat) : Int) := by omega
        have HST := Lib.hid (sameTo_step hlt hlb HS.out)
        have HNO := Lib.hid (sameTo_no (a := a) (b := b) (k := k))
        generalize a.getD k ent0 = x at *
        generalize b.getD k ent0 = y at *
        have hq := ent_neq x y
        unfold EntS.agg at hq
        cases hd : decide (x = y) with
        | true =>
          have HX := Lib.hid (of_decide_eq_true hd)
          simp only [hd, Bool.not_true] at hq
          clear hd
          go_wp2_with fail
          go_quiet (fail)
          go_wp2_with fail
          go_roundg (a.length - (k + 1))
          case measure => omega
          case rel => exact ⟨k + 1, by omega, rfl, by go_num, HD.out.trans (Drawn.n _ _), HST.out HX.out⟩
        | false =>
          have HX := Lib.hid (of_decide_eq_false hd)
          simp only [hd, Bool.not_false] at hq
          clear hd
          go_wp2_with fail
          go_quiet (fail)
          go_wp2
          go_ret
          exact ⟨by rw [decide_eq_false (HNO.out HX.out)]; rfl, HD.out.trans (Drawn.n _ _)⟩
      · have hke : k = a.length := by omega
        have HKE := Lib.hid hke
        have hz : ¬ ((k : Nat) : Int) < (a.length : Nat) := by omega
        clear hke
        go_wp2
        go_ret
        have h1 := HS.out
        rw [HKE.out, List.take_of_length_le (Nat.le_refl _), List.take_of_length_le (by rw [HE.out]; exact Nat.le_refl _)] at h1
        exact ⟨by rw [decide_eq_true h1]; rfl, HD.out⟩
  · have HE : Hid (decide (a = b) = false) := Lib.hid (decide_eq_false (fun e => hne (by rw [e])))
    have hz : ¬ ((a.length : Nat) : Int) = (b.length : Nat) := by omega
    clear hne
    go_enter Try.func13, Try.ntmps13
    go_wp2
    go_ret
    exact ⟨by rw [HE.out]; rfl, Drawn.refl _⟩
end Go.Proofs.Ytbhibmimdpodiaa
