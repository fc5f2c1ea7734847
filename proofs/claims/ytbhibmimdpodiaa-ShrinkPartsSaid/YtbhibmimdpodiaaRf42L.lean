/- The reference of layer 42: Least by its contract. Condition: at most 120 entries. -/
import Derived.Test.YtbhibmimdpodiaaRf42P
namespace Go.Proofs.Ytbhibmimdpodiaa
open Go.RowKit

structure SizR (w wr : World) (b : List EntS → Bool) (R : List EntS × Nat) (f size k : Nat) (l : List EntS) (A : Option Addr) : Prop where
  hk : Keep [] w wr
  ents : EntAt wr anyB A l
  eq : sizesGo b f size l k = R
  fuel : size ≤ f
  room : k + 120 * f ≤ 7201
  few : l.length ≤ 120
structure OneR (w wr : World) (b : List EntS → Bool) (R : List EntS × Nat) (f k : Nat) (l : List EntS) (any : Bool) (A : Option Addr) : Prop where
  hk : Keep [] w wr
  ents : EntAt wr anyB A l
  eq : (any = true ∧ onesGo b f l k = R ∧ l.length + 1 ≤ f) ∨ (any = false ∧ R = (l, k))
  room : k + 120 * f ≤ 30000
  few : l.length ≤ 120
  le : l.length ≤ f
def LeastOut (R : List EntS × Nat) (w : World) (r : Ending) (w' : World) : Prop := Keep [] w w' ∧ ∃ A cap, r = .returned (.tuple #[.slice A R.1.length cap, .int .i64 (R.2 : Nat)]) ∧ EntAt w' anyB A R.1
section
variable {w wr w2 : World} {b : List EntS → Bool} {size f k : Nat} {R : List EntS × Nat} {l : List EntS} {any : Bool} {A A2 : Option Addr} {cap : Nat}
theorem SizR.step (h : SizR w wr b R f size k l A) (hs : 1 < size) (hk : Keep [] w w2) (he : EntAt w2 anyB A2 (pass b size l k).1) : SizR w w2 b R (f - 1) (size / 2) (pass b size l k).2.1 (pass b size l k).1 A2 ∧ 0 < f := by
  obtain ⟨h1, h2, h3⟩ := sizes_step b (l := l) (k := k) hs h.fuel
  have hp := pass_len b size l k
  exact ⟨⟨hk, he, by rw [← h1]; exact h.eq, h2, by have := h.room; have := h.few; omega, by have := h.few; omega⟩, h3⟩
theorem SizR.done (h : SizR w wr b R f size k l A) (hs : ¬ 1 < size) : R = (l, k) := by
  have := h.eq
  rw [sizes_end b hs] at this
  exact this.symm
theorem OneR.start (h : SizR w wr b R f size k l A) (n : Nat) (hn : l.length ≤ n) (h120 : n ≤ 120) : OneR w wr b (onesGo b (n + 1) l k) (n + 1) k l true A :=
  ⟨h.hk, h.ents, .inl ⟨rfl, rfl, by omega⟩, by have := h.room; omega, h.few, by omega⟩
theorem OneR.step (h : OneR w wr b R f k l true A) (hk : Keep [] w w2) (he : EntAt w2 anyB A2 (pass b 1 l k).1) : OneR w w2 b R (f - 1) (pass b 1 l k).2.1 (pass b 1 l k).1 (pass b 1 l k).2.2 A2 ∧ 0 < f := by
  have hp := pass_len b 1 l k
  rcases h.eq with ⟨_, h1, h2⟩ | ⟨h1, _⟩
  · have hr := h.room
    have hfw := h.few
    cases ha : (pass b 1 l k).2.2 with
    | true =>
      obtain ⟨e1, e2, e3⟩ := ones_yes b h2 ha
      exact ⟨⟨hk, he, .inl ⟨rfl, by rw [← e1]; exact h1, e2⟩, by omega, by omega, by omega⟩, e3⟩
    | false =>
      have e1 := ones_no b h2 ha
      exact ⟨⟨hk, he, .inr ⟨rfl, by rw [← h1]; exact e1⟩, by omega, by omega, by omega⟩, by omega⟩
  · cases h1
theorem OneR.done (h : OneR w wr b R f k l false A) : R = (l, k) := by
  rcases h.eq with ⟨h1, _⟩ | ⟨_, h2⟩
  · cases h1
  · exact h2
end

set_option maxHeartbeats 1000000 in
theorem ref42_least (w : World) (A : Option Addr) (l : List EntS) (cap : Nat) (ok : Nat → Prop) (h : EntAt w ok A l) (hl : l.length ≤ 120) (n : Int × Int × Int) :
    Calls Try.prog 12 #[.slice A l.length cap, .agg #[.int .i64 n.1, .int .i64 n.2.1, .int .i64 n.2.2]] w (LeastOut (leastL (badB n) l) w) := by
  have HK := Lib.hid ((Keep.refl [] w).alloc (.cells #[.int .i64 n.1, .int .i64 n.2.1, .int .i64 n.2.2] 29))
  have HN := Lib.hid (Blk.new w 29 #[.int .i64 n.1, .int .i64 n.2.1, .int .i64 n.2.2])
  have HE := Lib.hid ((h.mono (ok' := anyB) (fun _ _ _ => trivial)).keep0 HK.out)
  generalize hR : leastL (badB n) l = R
  have HR := Lib.hid hR
  clear h hR
  go_enter Try.func12, Try.ntmps12
  go_upto_region 1 with fail
  generalize w.heap.size = nb at HN ⊢
  generalize w.alloc (.cells #[.int .i64 n.1, .int .i64 n.2.1, .int .i64 n.2.2] 29) = w1 at HN HK HE ⊢
  have hn0 := HN.out.cell 0
  have hn1 := HN.out.cell 1
  have hn2 := HN.out.cell 2
  have KB := Lib.hid (ref42_bad w1 A l cap anyB HE.out (by omega) n)
  cases hb : badB n l with
  | false =>
    have HBB := Lib.hid hb
    go_wp2_with (go_at_call 11; refine KB.out.mono ?_; rintro r y ⟨rfl, hk⟩; have HK3 := Lib.hid hk; clear hk)
    refine bodyPost_ret (v := .tuple #[.slice A l.length cap, .int .i64 1]) (by simp [results, Try.results12, go_sem]) rfl ?_
    rw [← HR.out]
    unfold leastL
    rw [if_pos HBB.out]
    exact ⟨HK.out.trans HK3.out (by simp), A, cap, rfl, HE.out.keep0 HK3.out⟩
  | true =>
    have HBB := Lib.hid hb
    by_cases hz : l.length = 0
    · obtain rfl : l = [] := List.eq_nil_of_length_eq_zero hz
      clear hz
      go_wp2_with (go_at_call 11; refine KB.out.mono ?_; rintro r y ⟨rfl, hk⟩; have HK3 := Lib.hid hk; clear hk)
      refine bodyPost_ret (v := .tuple #[.slice A 0 cap, .int .i64 1]) (by simp [results, Try.results12, go_sem]) rfl ?_
      rw [← HR.out]
      unfold leastL
      rw [HBB.out]
      exact ⟨HK.out.trans HK3.out (by simp), A, cap, rfl, HE.out.keep0 HK3.out⟩
    · have hnz : (((l.length : Nat) : Int) == 0) = false := by rw [beq_eq_false_iff_ne]; omega
      have hlz : ((l.length : Nat) : Int) ≤ 120 := by omega
      have HRR : Hid (onesGo (badB n) (l.length + 1) (sizesGo (badB n) (l.length / 2) (l.length / 2) l 1).1 (sizesGo (badB n) (l.length / 2) (l.length / 2) l 1).2 = R) := by
        have := HR.out
        unfold leastL at this
        rw [if_neg (by rw [HBB.out]; decide), if_neg hz] at this
        exact this
      clear HR
      go_wp2_with (go_at_call 11; refine KB.out.mono ?_; rintro r y ⟨rfl, hk⟩; have HK3 := Lib.hid hk; clear hk)
      clear KB hn0 hn1 hn2
      have HS0 : Hid (SizR w y (badB n) (sizesGo (badB n) (l.length / 2) (l.length / 2) l 1) (l.length / 2) (l.length / 2) 1 l A) := Lib.hid ⟨HK.out.trans HK3.out (by simp), HE.out.keep0 HK3.out, rfl, Nat.le_refl _, by omega, hl⟩
      generalize sizesGo (badB n) (l.length / 2) (l.length / 2) l 1 = R1 at *
      go_loopg [0, 6, 7] (l.length / 2) (fun g v0 v6 v7 wr => ∃ (f size k' : Nat) (l' : List EntS) (A' : Option Addr) (cap' : Nat), f = g ∧ v0 = .slice A' l'.length cap' ∧ v6 = .int .i64 (k' : Nat) ∧ v7 = .int .i64 (size : Nat) ∧ SizR w wr (badB n) R1 f size k' l' A' ∧ Keep [] w1 wr ∧ l'.length ≤ l.length)
      case atStart => exact ⟨_, l.length / 2, 1, l, A, cap, rfl, rfl, rfl, congrArg (Value.int .i64) (by omega), HS0.out, HK3.out, Nat.le_refl _⟩
      case round =>
        obtain ⟨f, size, k', l', A', cap', rfl, rfl, rfl, rfl, hr, hk1, hll⟩ := hrel
        have HR := Lib.hid hr
        have HK1 := Lib.hid hk1
        have hfew := hr.few
        have hroom := hr.room
        have hfuel := hr.fuel
        clear hr hk1 HS0
        have hzs : (0 : Int) ≤ ((size : Nat) : Int) := by omega
        have hn0 := (HN.out.keep HK1.out (by simp)).cell 0
        have hn1 := (HN.out.keep HK1.out (by simp)).cell 1
        have hn2 := (HN.out.keep HK1.out (by simp)).cell 2
        by_cases hlt : 1 < size
        · have hz1 : (1 : Int) < ((size : Nat) : Int) := by omega
          have KP := Lib.hid (fun w' (hx : EntAt w' anyB A' l') => ref42_pass w' A' l' cap' anyB hx hfew n size k' (by omega) (by omega) (by omega))
          go_wp2_with (go_at_call 38; refine (KP.out _ HR.out.ents).mono ?_; rintro r x ⟨hk, A2, c2, rfl, he⟩; have HK2 := Lib.hid hk; have HE2 := Lib.hid he; clear hk he)
          have HP := Lib.hid (HR.out.step hlt (HR.out.hk.trans HK2.out (by simp)) HE2.out)
          go_roundg (f - 1)
          case measure => have := HP.out.2; omega
          case rel => exact ⟨_, size / 2, _, _, A2, c2, rfl, rfl, rfl, congrArg (Value.int .i64) (by omega), HP.out.1, HK1.out.trans HK2.out (by simp), Nat.le_trans (pass_len _ _ _ _).1 hll⟩
        · have hz1 : ¬ (1 : Int) < ((size : Nat) : Int) := by omega
          have HD := Lib.hid (HR.out.done hlt)
          have HO : Hid (OneR w wr (badB n) R (l.length + 1) k' l' true A') := by
            have h1 := HRR.out
            have h2 := OneR.start HR.out l.length hll hl
            rw [HD.out] at h1
            rw [h1] at h2
            exact h2
          have HK10 := Lib.hid HK1.out
          clear HR HD HRR HK1 hroom hfuel hlt
          go_wp2_with fail
          go_loopg [0, 6, 8] (l.length + 1) (fun g v0 v6 v8 wr => ∃ (f k' : Nat) (l' : List EntS) (any : Bool) (A' : Option Addr) (cap' : Nat), f = g ∧ v0 = .slice A' l'.length cap' ∧ v6 = .int .i64 (k' : Nat) ∧ v8 = .bool any ∧ OneR w wr (badB n) R f k' l' any A' ∧ Keep [] w1 wr)
          case atStart => exact ⟨_, k', l', true, A', cap', rfl, rfl, rfl, rfl, HO.out, HK10.out⟩
          case round =>
            obtain ⟨f, k', l', any, A', cap', rfl, rfl, rfl, rfl, hr, hk1⟩ := hrel
            have HR := Lib.hid hr
            have HK1 := Lib.hid hk1
            have hfew := hr.few
            have hroom := hr.room
            clear hr hk1 HO
            have hn0 := (HN.out.keep HK1.out (by simp)).cell 0
            have hn1 := (HN.out.keep HK1.out (by simp)).cell 1
            have hn2 := (HN.out.keep HK1.out (by simp)).cell 2
            cases any with
            | true =>
              have KP := Lib.hid (fun w' (hx : EntAt w' anyB A' l') => ref42_pass w' A' l' cap' anyB hx hfew n 1 k' (by omega) (by omega) (by omega))
              go_wp2_with (go_at_call 38; refine (KP.out _ HR.out.ents).mono ?_; rintro r x ⟨hk, A2, c2, rfl, he⟩; have HK2 := Lib.hid hk; have HE2 := Lib.hid he; clear hk he)
              have HP := Lib.hid (HR.out.step (HR.out.hk.trans HK2.out (by simp)) HE2.out)
              go_roundg (f - 1)
              case measure => have := HP.out.2; omega
              case rel => exact ⟨_, _, _, _, A2, c2, rfl, rfl, rfl, rfl, HP.out.1, HK1.out.trans HK2.out (by simp)⟩
            | false =>
              have HD := Lib.hid HR.out.done
              have HE2 := Lib.hid HR.out.ents
              have HKK := Lib.hid HR.out.hk
              go_wp2
              refine bodyPost_ret (v := .tuple #[.slice A' l'.length cap', .int .i64 (k' : Nat)]) (by simp [results, Try.results12, go_sem]) rfl ?_
              rw [HD.out]
              exact ⟨HKK.out, A', cap', rfl, HE2.out⟩
end Go.Proofs.Ytbhibmimdpodiaa
