/- The reference of layer 42: pass and Least by their contracts. Conditions: at most 120 entries. -/
import Derived.Test.YtbhibmimdpodiaaRf42
namespace Go.Proofs.Ytbhibmimdpodiaa
open Go.RowKit

/-- What a pass has come to, so many rounds before its end. -/
structure PassR (w wr : World) (b : List EntS → Bool) (size k0 : Nat) (R : List EntS × Nat × Bool) (g at_ k : Nat) (l : List EntS) (any : Bool) (A : Option Addr) : Prop where
  hk : Keep [] w wr
  ents : EntAt wr anyB A l
  eq : passGo b size g at_ l k any = R
  fuel : l.length - at_ ≤ g
  room : k + g ≤ k0
  few : l.length ≤ 120
  at_le : at_ ≤ 2000
def PassOut (R : List EntS × Nat × Bool) (w : World) (r : Ending) (w' : World) : Prop := Keep [] w w' ∧ ∃ A cap, r = .returned (.tuple #[.slice A R.1.length cap, .int .i64 (R.2.1 : Nat), .bool R.2.2]) ∧ EntAt w' anyB A R.1
section
variable {w wr w2 : World} {b : List EntS → Bool} {size k0 g at_ k : Nat} {R : List EntS × Nat × Bool} {l : List EntS} {any : Bool} {A A2 : Option Addr} {cap : Nat}
theorem PassR.done (h : PassR w wr b size k0 R g at_ k l any A) (he : ¬ at_ < l.length) : R = (l, k, any) := by
  have := h.eq
  rw [passGo_end b size he] at this
  exact this.symm
theorem PassR.yes (h : PassR w wr b size k0 R g at_ k l any A) (hs : 0 < size) (hlt : at_ < l.length) (hb : b (woL l (cutF l.length at_) (cutM l.length at_ size)) = true) (hk : Keep [] w w2) (he : EntAt w2 anyB A2 (woL l (cutF l.length at_) (cutM l.length at_ size))) :
    PassR w w2 b size k0 R (g - 1) at_ (k + 1) (woL l (cutF l.length at_) (cutM l.length at_ size)) true A2 ∧ 0 < g := by
  obtain ⟨f, h1, h2, h3⟩ := passGo_yes b size (any := any) (k := k) hs hlt h.fuel hb
  have hf : f = g - 1 := by omega
  subst hf
  refine ⟨⟨hk, he, by rw [← h1]; exact h.eq, h2, by have := h.room; omega, ?_, h.at_le⟩, by omega⟩
  rw [wo_len hlt]
  have := h.few
  omega
theorem PassR.no (h : PassR w wr b size k0 R g at_ k l any A) (hs : 0 < size) (hs2 : size ≤ 1000) (hlt : at_ < l.length) (hb : b (woL l (cutF l.length at_) (cutM l.length at_ size)) = false) (hk : Keep [] w w2) (he : EntAt w2 anyB A l) :
    PassR w w2 b size k0 R (g - 1) (at_ + size) (k + 1) l any A ∧ 0 < g := by
  obtain ⟨f, h1, h2, h3⟩ := passGo_no b size (any := any) (k := k) hs hlt h.fuel hb
  have hf : f = g - 1 := by omega
  subst hf
  exact ⟨⟨hk, he, by rw [← h1]; exact h.eq, h2, by have := h.room; omega, h.few, by have := h.few; omega⟩, by omega⟩
end
set_option maxHeartbeats 1000000 in
theorem ref42_pass (w : World) (A : Option Addr) (l : List EntS) (cap : Nat) (ok : Nat → Prop) (h : EntAt w ok A l) (hl : l.length ≤ 120) (n : Int × Int × Int) (size k : Nat) (hs : 1 ≤ size) (hs2 : size ≤ 1000) (hk : k ≤ 1000000) :
    Calls Try.prog 38 #[.slice A l.length cap, .agg #[.int .i64 n.1, .int .i64 n.2.1, .int .i64 n.2.2], .int .i64 (size : Nat), .int .i64 (k : Nat)] w (PassOut (pass (badB n) size l k) w) := by
  have HK := Lib.hid ((Keep.refl [] w).alloc (.cells #[.int .i64 n.1, .int .i64 n.2.1, .int .i64 n.2.2] 29))
  have HN := Lib.hid (Blk.new w 29 #[.int .i64 n.1, .int .i64 n.2.1, .int .i64 n.2.2])
  generalize hR : pass (badB n) size l k = R
  have hst : PassR w (w.alloc (.cells #[.int .i64 n.1, .int .i64 n.2.1, .int .i64 n.2.2] 29)) (badB n) size (k + l.length) R l.length 0 k l false A :=
    ⟨HK.out, (h.mono (fun _ _ _ => trivial)).keep0 HK.out, hR, by omega, by omega, hl, by omega⟩
  have HST := Lib.hid hst
  clear h hR hst
  go_enter Try.func38, Try.ntmps38
  go_upto_region 1 with fail
  generalize w.heap.size = nb at HN ⊢
  generalize w.alloc (.cells #[.int .i64 n.1, .int .i64 n.2.1, .int .i64 n.2.2] 29) = w1 at HN HK HST ⊢
  go_wp2_with fail
  go_loopg [0, 3, 11, 12, 13] l.length (fun g v0 v3 v11 v12 _ wr => ∃ (f at_ k' : Nat) (l' : List EntS) (any : Bool) (A' : Option Addr) (cap' : Nat), f = g ∧ v0 = .slice A' l'.length cap' ∧ v3 = .int .i64 (k' : Nat) ∧ v11 = .bool any ∧ v12 = .int .i64 (at_ : Nat) ∧ PassR w wr (badB n) size (k + l.length) R f at_ k' l' any A' ∧ Keep [] w1 wr)
  case atStart => exact ⟨_, 0, k, l, false, A, cap, rfl, rfl, rfl, rfl, rfl, HST.out, Keep.refl _ _⟩
  case round =>
    obtain ⟨f, at_, k', l', any, A', cap', rfl, rfl, rfl, rfl, rfl, hr, hk1⟩ := hrel
    have HR := Lib.hid hr
    have HK1 := Lib.hid hk1
    have hfew := hr.few
    have hroom := hr.room
    have hatle := hr.at_le
    clear hr hk1 HST
    have hz0 : (0 : Int) ≤ ((at_ : Nat) : Int) := by omega
    have hzs : (0 : Int) ≤ ((size : Nat) : Int) := by omega
    by_cases hlt : at_ < l'.length
    · have hz : ((at_ : Nat) : Int) < (l'.length : Nat) := by omega
      have KW := Lib.hid (fun w' (hx : EntAt w' anyB A' l') => ref42_without w' A' l' cap' anyB hx (by omega) (at_ : Nat) (size : Nat))
      have KB := Lib.hid (fun (w' : World) A2 c2 (hx : EntAt w' anyB A2 (woL l' (cutF l'.length at_) (cutM l'.length at_ size))) => ref42_bad w' A2 _ c2 anyB hx (by rw [wo_len hlt]; omega) n)
      generalize hle : woL l' (cutF l'.length at_) (cutM l'.length at_ size) = less at *
      have HLE := Lib.hid hle
      clear hle
      cases hb : badB n less with
      | true =>
        have HBB := Lib.hid hb
        go_wp2_with (first
          | (go_at_call 15; refine (KW.out _ HR.out.ents).mono ?_; rintro r x ⟨hk, v, rfl, hown⟩; obtain ⟨A2, c2, rfl⟩ := own_form hown; have HE2 := Lib.hid ((EntAt.of_own hown).mono (ok' := anyB) (fun _ _ _ => trivial)); have HK2 := Lib.hid hk; clear hk hown; have hn0 := (HN.out.keep (HK1.out.trans HK2.out (by simp)) (by simp)).cell 0; have hn1 := (HN.out.keep (HK1.out.trans HK2.out (by simp)) (by simp)).cell 1; have hn2 := (HN.out.keep (HK1.out.trans HK2.out (by simp)) (by simp)).cell 2)
          | (go_at_call 11; refine (KB.out _ _ _ HE2.out).mono ?_; rintro r y ⟨rfl, hk⟩; have HK3 := Lib.hid hk; clear hk))
        have HP := Lib.hid (HR.out.yes (A2 := A2) (by omega) hlt (by rw [HLE.out]; exact HBB.out) (HR.out.hk.trans (HK2.out.trans HK3.out (by simp)) (by simp)) (by rw [HLE.out]; exact HE2.out.keep0 HK3.out))
        rw [HLE.out] at HP
        go_roundg (f - 1)
        case measure => have := HP.out.2; omega
        case rel => exact ⟨_, at_, k' + 1, less, true, A2, c2, rfl, rfl, by go_num, rfl, rfl, HP.out.1, (HK1.out.trans HK2.out (by simp)).trans HK3.out (by simp)⟩
      | false =>
        have HBB := Lib.hid hb
        go_wp2_with (first
          | (go_at_call 15; refine (KW.out _ HR.out.ents).mono ?_; rintro r x ⟨hk, v, rfl, hown⟩; obtain ⟨A2, c2, rfl⟩ := own_form hown; have HE2 := Lib.hid ((EntAt.of_own hown).mono (ok' := anyB) (fun _ _ _ => trivial)); have HK2 := Lib.hid hk; clear hk hown; have hn0 := (HN.out.keep (HK1.out.trans HK2.out (by simp)) (by simp)).cell 0; have hn1 := (HN.out.keep (HK1.out.trans HK2.out (by simp)) (by simp)).cell 1; have hn2 := (HN.out.keep (HK1.out.trans HK2.out (by simp)) (by simp)).cell 2)
          | (go_at_call 11; refine (KB.out _ _ _ HE2.out).mono ?_; rintro r y ⟨rfl, hk⟩; have HK3 := Lib.hid hk; clear hk))
        have HP := Lib.hid (HR.out.no (by omega) hs2 hlt (by rw [HLE.out]; exact HBB.out) (HR.out.hk.trans (HK2.out.trans HK3.out (by simp)) (by simp)) (HR.out.ents.keep0 (HK2.out.trans HK3.out (by simp))))
        go_roundg (f - 1)
        case measure => have := HP.out.2; omega
        case rel => exact ⟨_, at_ + size, k' + 1, l', any, A', cap', rfl, rfl, by go_num, rfl, by go_num, HP.out.1, (HK1.out.trans HK2.out (by simp)).trans HK3.out (by simp)⟩
    · have hz : ¬ ((at_ : Nat) : Int) < (l'.length : Nat) := by omega
      have HD := Lib.hid (HR.out.done hlt)
      have HE := Lib.hid HR.out.ents
      have HKK := Lib.hid HR.out.hk
      go_wp2
      refine bodyPost_ret (v := .tuple #[.slice A' l'.length cap', .int .i64 (k' : Nat), .bool any]) (by simp [results, Try.results38, go_sem]) rfl ?_
      rw [HD.out]
      exact ⟨HKK.out, A', cap', rfl, HE.out⟩
end Go.Proofs.Ytbhibmimdpodiaa
