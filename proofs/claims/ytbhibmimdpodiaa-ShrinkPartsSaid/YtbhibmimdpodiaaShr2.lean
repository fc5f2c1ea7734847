/- shrink.Least by its contract. Condition: as of ask; at most 120 entries. -/
import Derived.Test.YtbhibmimdpodiaaShr1
import Derived.Test.YtbhibmimdpodiaaRf42L
namespace Go.Proofs.Ytbhibmimdpodiaa
open Go.RowKit

def LeOut (c : Int × Int × Int) (R : List EntS × Nat) (w : World) (r : Ending) (w' : World) : Prop := Keep [] w w' ∧ ∃ A cap, r = .returned (.tuple #[scriptV c (.slice A R.1.length cap), .int .i64 (R.2 : Nat)]) ∧ EntAt w' anyB A R.1
theorem run_fn_nil (F : Nat) (lb : Array Value) (w : World) : (binOp .eql 34 (.func (.func F) #[] lb) .nilFunc).run Try.prog w = .ok (.bool false) w := by kernel_rfl
theorem run_nil_nil (w : World) : (binOp .eql 34 .nilFunc .nilFunc).run Try.prog w = .ok (.bool true) w := by kernel_rfl
set_option maxHeartbeats 1000000 in
theorem shr_least_nil (w : World) (c : Int × Int × Int) (A : Option Addr) (L cap : Nat) :
    Calls Try.prog 8 #[scriptV c (.slice A L cap), .nilFunc] w fun r w' => r = .returned (.tuple #[scriptV c (.slice A L cap), .int .i64 0]) ∧ Keep [] w w' := by
  unfold scriptV
  have HK := Lib.hid (((Keep.refl [] w).alloc (.cells #[.int .i64 c.1, .int .i64 c.2.1, .int .u64 c.2.2, .slice A L cap] 27)))
  have hnn := run_nil_nil
  go_enter Try.func8, Try.ntmps8
  go_wp2
  go_step3
  go_wp2
  rw [Exit.noGoto_ret]
  refine bodyPost_ret (v := .tuple #[.agg #[.int .i64 c.1, .int .i64 c.2.1, .int .u64 c.2.2, .slice A L cap], .int .i64 0]) (by simp [results, Try.results8, go_sem]) rfl ?_
  exact ⟨rfl, HK.out.alloc _⟩
theorem EntAt.ne_blk {w : World} {ok : Nat → Prop} {A : Option Addr} {l : List EntS} {g t : Nat} {cs : Array Value} (h : EntAt w ok A l) (hb : Blk w g t cs) (hs : cs.size < 7) : EntAt w (· ≠ g) A l := fun h0 => by
  obtain ⟨b, o, h1, h2, _, h4⟩ := h h0
  refine ⟨b, o, h1, h2, ?_, h4⟩
  rintro rfl
  have hl : 6 < (entL l).length := by rw [entL_len]; omega
  have := h4 6 _ (List.getElem?_eq_getElem hl)
  rw [hb.cell, Array.getElem?_eq_none (by omega)] at this
  cases this
theorem le_done {w0 y z : World} {xb F k rb : Nat} {lb : Array Value} {c : Int × Int × Int} {l : List EntS} {A : Option Addr} {cap : Nat} {cs : Array Value} (h : ShrAt w0 y xb F lb c k l A cap) (hz : Keep [rb] y z) (hr : w0.heap.size ≤ rb) (hb : Blk y rb 27 cs) (hs : cs.size < 7) : LeOut c (l, k) w0 (.returned (.tuple #[.agg #[.int .i64 c.1, .int .i64 c.2.1, .int .u64 c.2.2, .slice A l.length cap], .int .i64 (k : Nat)])) z :=
  ⟨h.hk0.trans hz (fun x hx => .inr (by rw [List.mem_singleton.1 hx]; exact hr)), A, cap, rfl, ((h.ents.ne_blk hb hs).keep hz (fun b hb => by simpa using hb)).mono (fun _ _ _ => trivial)⟩
set_option maxHeartbeats 1000000 in
theorem shr_least (w : World) (F : Nat) (lb : Array Value) (c : Int × Int × Int) (b : List EntS → Bool) (hF : BadFn F lb c b w) (A : Option Addr) (l : List EntS) (cap : Nat) (ok : Nat → Prop) (h : EntAt w ok A l) (hl : l.length ≤ 120) :
    Calls Try.prog 8 #[scriptV c (.slice A l.length cap), .func (.func F) #[] lb] w (LeOut c (leastL b l) w) := by
  have HF := Lib.hid hF
  generalize hR : leastL b l = R
  have HR := Lib.hid hR
  have hfn := run_fn_nil F lb
  have HK0 := Lib.hid (((Keep.refl [] w).alloc (.cells #[.int .i64 c.1, .int .i64 c.2.1, .int .u64 c.2.2, .slice A l.length cap] 27)).alloc (.cells #[.int .i64 0, .int .i64 0, .int .u64 0, .slice none 0 0] 27))
  have HS := Lib.hid ((Blk.new w 27 #[.int .i64 c.1, .int .i64 c.2.1, .int .u64 c.2.2, .slice A l.length cap]).alloc (.cells #[.int .i64 0, .int .i64 0, .int .u64 0, .slice none 0 0] 27))
  have HRB := Lib.hid (Blk.new (w.alloc (.cells #[.int .i64 c.1, .int .i64 c.2.1, .int .u64 c.2.2, .slice A l.length cap] 27)) 27 #[.int .i64 0, .int .i64 0, .int .u64 0, .slice none 0 0])
  simp only [World.size_alloc] at HRB
  have HE := Lib.hid ((h.mono (ok' := (· < w.heap.size)) (fun _ hb _ => hb)).keep0 HK0.out)
  clear h hR hF
  unfold scriptV
  go_enter Try.func8, Try.ntmps8
  go_wp2
  go_step3
  go_upto_region 3 with fail
  generalize hb : w.heap.size = sb at HS HRB HE ⊢
  generalize hr : sb + 1 = rb at HRB ⊢
  generalize (w.alloc (.cells #[.int .i64 c.1, .int .i64 c.2.1, .int .u64 c.2.2, .slice A l.length cap] 27)).alloc (.cells #[.int .i64 0, .int .i64 0, .int .u64 0, .slice none 0 0] 27) = w1 at HK0 HS HRB HE ⊢
  have HBE := Lib.hid hb
  have HRE := Lib.hid hr
  clear hb hr
  have hs0 := HS.out.cell 0
  have hs1 := HS.out.cell 1
  have hs2 := HS.out.cell 2
  have hs3 := HS.out.cell 3
  go_upto_region 4 with fail
  have HX := Lib.hid (Blk.new w1 86 #[.int .i64 c.1, .int .i64 c.2.1, .int .u64 c.2.2, .slice A l.length cap, .func (.func F) #[] lb, .int .i64 0])
  have HK1 := Lib.hid ((Keep.refl [] w1).alloc (.cells #[.int .i64 c.1, .int .i64 c.2.1, .int .u64 c.2.2, .slice A l.length cap, .func (.func F) #[] lb, .int .i64 0] 86))
  have HXN := Lib.hid (And.intro HS.out.lt HRB.out.lt)
  generalize hxb : w1.heap.size = xb at HX HXN ⊢
  have HXB := Lib.hid hxb
  clear hxb hs0 hs1 hs2 hs3
  generalize w1.alloc (.cells #[.int .i64 c.1, .int .i64 c.2.1, .int .u64 c.2.2, .slice A l.length cap, .func (.func F) #[] lb, .int .i64 0] 86) = w2 at HX HK1 ⊢
  have HSH : Hid (ShrAt w w2 xb F lb c 0 l A cap) := Lib.hid ⟨HX.out, (HE.out.keep0 HK1.out).mono (fun b _ hb => by have := HXN.out; omega), HK0.out.trans HK1.out (by simp), by have := HXB.out; have := HK0.out.size; omega⟩
  have hs0 := (HS.out.keep HK1.out (by simp)).cell 0
  have hs1 := (HS.out.keep HK1.out (by simp)).cell 1
  have hs2 := (HS.out.keep HK1.out (by simp)).cell 2
  have hs3 := (HS.out.keep HK1.out (by simp)).cell 3
  have KA := Lib.hid (shr_ask w w2 xb F lb c b HF.out _ 0 HX.out HSH.out.hk0 HSH.out.new A l cap HSH.out.ents hl (by omega))
  unfold scriptV at KA
  go_wp2_with fail
  refine KA.out.mono ?_
  rintro r y ⟨rfl, hby, hky⟩
  have HSY := Lib.hid (HSH.out.asked hby hky)
  have HKY := Lib.hid hky
  clear hs0 hs1 hs2 hs3 hky hby HX KA HSH
  have HS1 := Lib.hid ((HS.out.keep HK1.out (by simp)).keep HKY.out (by have := HXN.out; simp; omega))
  have HR1 := Lib.hid ((HRB.out.keep HK1.out (by simp)).keep HKY.out (by have := HXN.out; simp; omega))
  have hs0 := HS1.out.cell 0
  have hs1 := HS1.out.cell 1
  have hs2 := HS1.out.cell 2
  have hs3 := HS1.out.cell 3
  cases hb : b l with
  | false =>
    have HBB := Lib.hid hb
    have hx5 : y.cell? ⟨xb, 5, none⟩ = some (.int .i64 1) := HSY.out.blk.cell 5
    have hr0 := HR1.out.cell 0
    have hr1 := HR1.out.cell 1
    have hr2 := HR1.out.cell 2
    have hr3 := HR1.out.cell 3
    have hrf := HR1.out.frozen
    have hne1 : xb ≠ rb := fun e => by have := HXN.out; omega
    have hne2 : rb ≠ xb := fun e => hne1 e.symm
    have hne3 : sb ≠ rb := fun e => by have := HRE.out; omega
    have hne4 : rb ≠ sb := fun e => hne3 e.symm
    go_wp2_with fail
    have HZ := Lib.hid ((((HR1.out.set_ 0 (.int .i64 c.1)).set_ 1 (.int .i64 c.2.1)).set_ 2 (.int .u64 c.2.2)).set_ 3 (.slice A l.length cap))
    simp only [List.setIfInBounds_toArray, List.set] at HZ
    have HKZ := Lib.hid (((((Keep.refl [rb] y).set_ (p := ⟨rb, 0, none⟩) (.int .i64 c.1) (.inl (by simp))).set_ (p := ⟨rb, 1, none⟩) (.int .i64 c.2.1) (.inl (by simp))).set_ (p := ⟨rb, 2, none⟩) (.int .u64 c.2.2) (.inl (by simp))).set_ (p := ⟨rb, 3, none⟩) (.slice A l.length cap) (.inl (by simp)))
    have hz0 := HZ.out.cell 0
    have hz1 := HZ.out.cell 1
    have hz2 := HZ.out.cell 2
    have hz3 := HZ.out.cell 3
    go_region
    go_wp2
    rw [Exit.noGoto_ret]
    refine bodyPost_ret (v := .tuple #[.agg #[.int .i64 c.1, .int .i64 c.2.1, .int .u64 c.2.2, .slice A l.length cap], .int .i64 1]) (by simp [results, Try.results8, go_sem, hz0, hz1, hz2, hz3]) rfl ?_
    rw [← HR.out]
    unfold leastL
    rw [if_pos HBB.out]
    exact le_done (rb := rb) HSY.out HKZ.out.drew (by have := HBE.out; have := HRE.out; omega) HR1.out (by decide)
  | true =>
    have HBB := Lib.hid hb
    by_cases hz : l.length = 0
    · obtain rfl : l = [] := List.eq_nil_of_length_eq_zero hz
      clear hz
      have HRR : Hid (R = ([], 1)) := Lib.hid (by
        have := HR.out
        unfold leastL at this
        rw [HBB.out] at this
        exact this.symm)
      go_wp2_with fail
      go_step3
      go_wp2_with fail
      go_loopg [7] 0 (fun g v7 wr => v7 = .int .i64 0 ∧ y = wr)
      case atStart => exact ⟨rfl, rfl⟩
      case round =>
        obtain ⟨rfl, rfl⟩ := hrel
        have hs3 : y.cell? ⟨sb, 3, none⟩ = some (.slice A 0 cap) := HS1.out.cell 3
        go_wp2_with fail
        have hx0 : y.cell? ⟨xb, 0, none⟩ = some (.int .i64 c.1) := HSY.out.blk.cell 0
        have hx1 : y.cell? ⟨xb, 1, none⟩ = some (.int .i64 c.2.1) := HSY.out.blk.cell 1
        have hx2 : y.cell? ⟨xb, 2, none⟩ = some (.int .u64 c.2.2) := HSY.out.blk.cell 2
        have hx3 : y.cell? ⟨xb, 3, none⟩ = some (.slice A 0 cap) := HSY.out.blk.cell 3
        have hx5 : y.cell? ⟨xb, 5, none⟩ = some (.int .i64 (1 : Nat)) := HSY.out.blk.cell 5
        have hr0 := HR1.out.cell 0
        have hr1 := HR1.out.cell 1
        have hr2 := HR1.out.cell 2
        have hr3 := HR1.out.cell 3
        have hrf := HR1.out.frozen
        have hne1 : xb ≠ rb := fun e => by have := HXN.out; omega
        have hne2 : rb ≠ xb := fun e => hne1 e.symm
        have HZ := Lib.hid ((((HR1.out.set_ 0 (.int .i64 c.1)).set_ 1 (.int .i64 c.2.1)).set_ 2 (.int .u64 c.2.2)).set_ 3 (.slice A 0 cap))
        simp only [List.setIfInBounds_toArray, List.set] at HZ
        have HKZ := Lib.hid (((((Keep.refl [rb] y).set_ (p := ⟨rb, 0, none⟩) (.int .i64 c.1) (.inl (by simp))).set_ (p := ⟨rb, 1, none⟩) (.int .i64 c.2.1) (.inl (by simp))).set_ (p := ⟨rb, 2, none⟩) (.int .u64 c.2.2) (.inl (by simp))).set_ (p := ⟨rb, 3, none⟩) (.slice A 0 cap) (.inl (by simp)))
        have hz0 := HZ.out.cell 0
        have hz1 := HZ.out.cell 1
        have hz2 := HZ.out.cell 2
        have hz3 := HZ.out.cell 3
        go_region
        go_wp2
        (try rw [Exit.noGoto_ret])
        refine bodyPost_ret (v := .tuple #[.agg #[.int .i64 c.1, .int .i64 c.2.1, .int .u64 c.2.2, .slice A 0 cap], .int .i64 (1 : Nat)]) (by simp [results, Try.results8, go_sem, hz0, hz1, hz2, hz3]) rfl ?_
        rw [HRR.out]
        exact le_done (rb := rb) HSY.out HKZ.out.drew (by have := HBE.out; have := HRE.out; omega) HR1.out (by decide)
    · have hnz : (((l.length : Nat) : Int) == 0) = false := by rw [beq_eq_false_iff_ne]; omega
      have hlz : ((l.length : Nat) : Int) ≤ 120 := by omega
      have HRR : Hid (onesGo b (l.length + 1) (sizesGo b (l.length / 2) (l.length / 2) l 1).1 (sizesGo b (l.length / 2) (l.length / 2) l 1).2 = R) := Lib.hid (by
        have := HR.out
        unfold leastL at this
        rw [if_neg (by rw [HBB.out]; decide), if_neg hz] at this
        exact this)
      clear HR
      have HS0 : Hid (SizR w y b (sizesGo b (l.length / 2) (l.length / 2) l 1) (l.length / 2) (l.length / 2) 1 l A) := Lib.hid ⟨HSY.out.hk0, HSY.out.ents.mono (fun _ _ _ => trivial), rfl, Nat.le_refl _, by omega, hl⟩
      generalize sizesGo b (l.length / 2) (l.length / 2) l 1 = R1 at *
      have HKL : Hid (Keep [xb] w2 y) := HKY
      go_wp2_with fail
      go_step3
      go_wp2_with fail
      go_loopg [7] (l.length / 2) (fun g v7 wr => ∃ (f size k' : Nat) (l' : List EntS) (A' : Option Addr) (cap' : Nat), f = g ∧ v7 = .int .i64 (size : Nat) ∧ SizR w wr b R1 f size k' l' A' ∧ ShrAt w wr xb F lb c k' l' A' cap' ∧ Keep [xb] w2 wr ∧ l'.length ≤ l.length)
      case atStart => exact ⟨_, l.length / 2, 1, l, A, cap, rfl, congrArg (Value.int .i64) (by omega), HS0.out, HSY.out, HKL.out, Nat.le_refl _⟩
      case round =>
        obtain ⟨f, size, k', l', A', cap', rfl, rfl, hr, hsh, hkl, hll⟩ := hrel
        have HR := Lib.hid hr
        have HSH := Lib.hid hsh
        have HKW := Lib.hid hkl
        have hfew := hr.few
        have hroom := hr.room
        have hfuel := hr.fuel
        have HS2 := Lib.hid ((HS.out.keep HK1.out (by simp)).keep hkl (by have := HXN.out; simp; omega))
        have HR2 := Lib.hid ((HRB.out.keep HK1.out (by simp)).keep hkl (by have := HXN.out; simp; omega))
        clear hr hsh hkl HS0 hs0 hs1 hs2 hs3
        have hs3 : wr.cell? ⟨sb, 3, none⟩ = some (.slice A l.length cap) := HS2.out.cell 3
        have hzs : (0 : Int) ≤ ((size : Nat) : Int) := by omega
        by_cases hlt : 1 < size
        · have hz1 : (1 : Int) < ((size : Nat) : Int) := by omega
          have KP := Lib.hid (shr_pass w wr xb F lb c b HF.out k' A' l' cap' HSH.out hfew (by omega) size (by omega) (by omega))
          go_wp2_with (go_at_call 36; refine KP.out.mono ?_; rintro r x ⟨rfl, hk, A2, c2, hsh⟩; have HKX := Lib.hid hk; have HSX := Lib.hid hsh; clear hk hsh)
          have HP := Lib.hid (HR.out.step hlt HSX.out.hk0 (HSX.out.ents.mono (fun _ _ _ => trivial)))
          go_roundg (f - 1)
          case measure => have := HP.out.2; omega
          case rel => exact ⟨_, size / 2, _, _, A2, c2, rfl, congrArg (Value.int .i64) (by omega), HP.out.1, HSX.out, HKW.out.trans HKX.out (fun x hx => .inl hx), Nat.le_trans (pass_len _ _ _ _).1 hll⟩
        · have hz1 : ¬ (1 : Int) < ((size : Nat) : Int) := by omega
          have HO : Hid (OneR w wr b R (l.length + 1) k' l' true A') := Lib.hid (by
            have h1 := HRR.out
            have h2 := OneR.start HR.out l.length hll hl
            rw [HR.out.done hlt] at h1
            rw [h1] at h2
            exact h2)
          clear HRR hroom hfuel hlt HR
          go_wp2_with fail
          go_loopg [] (l.length + 1) (fun g wx => ∃ (f k' : Nat) (l' : List EntS) (A' : Option Addr) (cap' : Nat), f = g ∧ OneR w wx b R f k' l' true A' ∧ ShrAt w wx xb F lb c k' l' A' cap' ∧ Keep [xb] w2 wx)
          case atStart => exact ⟨_, k', l', A', cap', rfl, HO.out, HSH.out, HKW.out⟩
          case round =>
            obtain ⟨f1, k1, l1, A1, cap1, rfl, hr, hsh, hkl⟩ := hrel
            have HR := Lib.hid hr
            have HSI := Lib.hid hsh
            have HKI := Lib.hid hkl
            have hfew1 := hr.few
            have hroom1 := hr.room
            clear hr hsh hkl HO hs3
            have KP := Lib.hid (shr_pass w _ xb F lb c b HF.out k1 A1 l1 cap1 HSI.out hfew1 (by omega) 1 (by omega) (by omega))
            have HST := Lib.hid (fun (w' : World) A2 (h1 : Keep [] w w') (h2 : EntAt w' anyB A2 (pass b 1 l1 k1).1) => HR.out.step h1 h2)
            generalize hpp : pass b 1 l1 k1 = pp at *
            obtain ⟨l9, k9, a9⟩ := pp
            have HPP := Lib.hid hpp
            clear hpp
            cases a9 with
            | true =>
              go_wp2_with (go_at_call 36; refine KP.out.mono ?_; rintro r x ⟨rfl, hk, A2, c2, hsh⟩; have HKX := Lib.hid hk; have HSX := Lib.hid hsh; clear hk hsh)
              have HP := Lib.hid (HST.out _ A2 HSX.out.hk0 (HSX.out.ents.mono (fun _ _ _ => trivial)))
              go_roundg (f1 - 1)
              case measure => have := HP.out.2; omega
              case rel => exact ⟨_, _, _, A2, c2, rfl, HP.out.1, HSX.out, HKI.out.trans HKX.out (fun x hx => .inl hx)⟩
            | false =>
              go_wp2_with (go_at_call 36; refine KP.out.mono ?_; rintro r x ⟨rfl, hk, A2, c2, hsh⟩; have HKX := Lib.hid hk; have HSX := Lib.hid hsh; clear hk hsh)
              have HD := Lib.hid ((HST.out _ A2 HSX.out.hk0 (HSX.out.ents.mono (fun _ _ _ => trivial))).1.done)
              have HR9 := Lib.hid ((HRB.out.keep HK1.out (by simp)).keep (HKI.out.trans HKX.out (fun x hx => .inl hx)) (by have := HXN.out; simp; omega))
              have hx0 : x.cell? ⟨xb, 0, none⟩ = some (.int .i64 c.1) := HSX.out.blk.cell 0
              have hx1 : x.cell? ⟨xb, 1, none⟩ = some (.int .i64 c.2.1) := HSX.out.blk.cell 1
              have hx2 : x.cell? ⟨xb, 2, none⟩ = some (.int .u64 c.2.2) := HSX.out.blk.cell 2
              have hx3 : x.cell? ⟨xb, 3, none⟩ = some (.slice A2 l9.length c2) := HSX.out.blk.cell 3
              have hx5 : x.cell? ⟨xb, 5, none⟩ = some (.int .i64 (k9 : Nat)) := HSX.out.blk.cell 5
              have hr0 := HR9.out.cell 0
              have hr1 := HR9.out.cell 1
              have hr2 := HR9.out.cell 2
              have hr3 := HR9.out.cell 3
              have hrf := HR9.out.frozen
              have hne1 : xb ≠ rb := fun e => by have := HXN.out; omega
              have hne2 : rb ≠ xb := fun e => hne1 e.symm
              have HZ := Lib.hid ((((HR9.out.set_ 0 (.int .i64 c.1)).set_ 1 (.int .i64 c.2.1)).set_ 2 (.int .u64 c.2.2)).set_ 3 (.slice A2 l9.length c2))
              simp only [List.setIfInBounds_toArray, List.set] at HZ
              have HKZ := Lib.hid (((((Keep.refl [rb] x).set_ (p := ⟨rb, 0, none⟩) (.int .i64 c.1) (.inl (by simp))).set_ (p := ⟨rb, 1, none⟩) (.int .i64 c.2.1) (.inl (by simp))).set_ (p := ⟨rb, 2, none⟩) (.int .u64 c.2.2) (.inl (by simp))).set_ (p := ⟨rb, 3, none⟩) (.slice A2 l9.length c2) (.inl (by simp)))
              have hz0 := HZ.out.cell 0
              have hz1 := HZ.out.cell 1
              have hz2 := HZ.out.cell 2
              have hz3 := HZ.out.cell 3
              go_region
              go_wp2
              (try rw [Exit.noGoto_ret])
              refine bodyPost_ret (v := .tuple #[.agg #[.int .i64 c.1, .int .i64 c.2.1, .int .u64 c.2.2, .slice A2 l9.length c2], .int .i64 (k9 : Nat)]) (by simp [results, Try.results8, go_sem, hz0, hz1, hz2, hz3]) rfl ?_
              rw [HD.out]
              exact le_done (rb := rb) HSX.out HKZ.out.drew (by have := HBE.out; have := HRE.out; omega) HR9.out (by decide)
end Go.Proofs.Ytbhibmimdpodiaa
