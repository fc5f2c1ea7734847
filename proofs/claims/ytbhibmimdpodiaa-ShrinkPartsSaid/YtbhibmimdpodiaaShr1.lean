/- shrink.shrinker's ask by its contract. Condition: the function that is asked answers by a test of lists, and turns nothing that was there. -/
import Derived.Test.YtbhibmimdpodiaaEntD
import Derived.Test.YtbhibmimdpodiaaRf42P
namespace Go.Proofs.Ytbhibmimdpodiaa
open Go.RowKit

/-- A function that is asked: it answers by b, as long as what was there at w0 is as it was. -/
structure BadFn (F : Nat) (lb : Array Value) (c : Int × Int × Int) (b : List EntS → Bool) (w0 : World) : Prop where
  enter : ∀ (args : Array Value) (w : World), (callFunc F args).run Try.prog w = .ok (.enter F args) w
  tell : ∀ w, Keep [] w0 w → ∀ A l cap, EntAt w anyB A l → l.length ≤ 120 → Calls Try.prog F (#[scriptV c (.slice A l.length cap)] ++ lb) w fun r w' => r = .returned (.bool (b l)) ∧ Keep [] w w'
def shrCells (c : Int × Int × Int) (v : Value) (F : Nat) (lb : Array Value) (k : Nat) : Array Value := #[.int .i64 c.1, .int .i64 c.2.1, .int .u64 c.2.2, v, .func (.func F) #[] lb, .int .i64 (k : Nat)]
def AskOut (xb : Nat) (c : Int × Int × Int) (v : Value) (F : Nat) (lb : Array Value) (k : Nat) (a : Bool) (w : World) (r : Ending) (w' : World) : Prop := r = .returned (.bool a) ∧ Blk w' xb 86 (shrCells c v F lb (k + 1)) ∧ Keep [xb] w w'
set_option maxHeartbeats 1000000 in
theorem shr_ask (w0 w : World) (xb F : Nat) (lb : Array Value) (c : Int × Int × Int) (b : List EntS → Bool) (hF : BadFn F lb c b w0) (v : Value) (k : Nat) (hb : Blk w xb 86 (shrCells c v F lb k)) (hk : Keep [] w0 w) (hx : w0.heap.size ≤ xb) (A : Option Addr) (l : List EntS) (cap : Nat) (h : EntAt w (· ≠ xb) A l) (hl : l.length ≤ 120) (hkk : k ≤ 1000000) :
    Calls Try.prog 35 #[.pointer (some ⟨xb, 0, none⟩), scriptV c (.slice A l.length cap)] w (AskOut xb c v F lb k (b l) w) := by
  have HB := Lib.hid (hb.alloc (.cells #[.int .i64 c.1, .int .i64 c.2.1, .int .u64 c.2.2, .slice A l.length cap] 27))
  have HS := Lib.hid (Blk.new w 27 #[.int .i64 c.1, .int .i64 c.2.1, .int .u64 c.2.2, .slice A l.length cap])
  have HK := Lib.hid ((Keep.refl [] w).alloc (.cells #[.int .i64 c.1, .int .i64 c.2.1, .int .u64 c.2.2, .slice A l.length cap] 27))
  have HE := Lib.hid (h.keep0 HK.out)
  have HK0 := Lib.hid (hk.trans HK.out (by simp))
  have HF := Lib.hid hF
  have hent := hF.enter
  have HX := Lib.hid hx
  have hlt : w.heap.size ≠ xb := fun e => by have := hb.lt; omega
  clear hb h hk hF hx
  unfold scriptV
  go_enter Try.func35, Try.ntmps35
  go_upto_region 1 with fail
  generalize w.heap.size = sb at HS hlt ⊢
  generalize w.alloc (.cells #[.int .i64 c.1, .int .i64 c.2.1, .int .u64 c.2.2, .slice A l.length cap] 27) = w1 at HB HS HK HE HK0 ⊢
  have hc5 := HB.out.cell 5
  have hf5 := HB.out.frozen 5
  have hk0 : (0 : Int) ≤ (k : Nat) := by omega
  simp only [shrCells] at hc5
  go_upto_region 2 with fail
  have HB2 := Lib.hid (HB.out.set_ 5 (.int .i64 (k + 1 : Nat)))
  have HS2 := Lib.hid (HS.out.far (p := ⟨xb, 5, none⟩) hlt (.int .i64 (k + 1 : Nat)))
  have HK2 := Lib.hid ((Keep.refl [xb] w1).set_ (p := ⟨xb, 5, none⟩) (.int .i64 (k + 1 : Nat)) (.inl (by simp)))
  have he : ((k : Nat) : Int) + 1 = ((k + 1 : Nat) : Int) := by omega
  rw [he]
  clear he hc5 hf5
  generalize w1.setCell ⟨xb, 5, none⟩ (.int .i64 (k + 1 : Nat)) = w2 at HB2 HS2 HK2 ⊢
  have HE2 := Lib.hid ((HE.out.keep HK2.out (fun b hb => by simpa using hb)).mono (ok' := anyB) (fun _ _ _ => trivial))
  have HK02 := Lib.hid (HK0.out.trans HK2.out (fun x hx => .inr (by rw [List.mem_singleton.1 hx]; exact HX.out)))
  have HB3 := Lib.hid (show Blk w2 xb 86 (shrCells c v F lb (k + 1)) from by
    have := HB2.out
    simpa [shrCells] using this)
  have hc4 : w2.cell? ⟨xb, 4, none⟩ = some (.func (.func F) #[] lb) := HB3.out.cell 4
  have hs0 := HS2.out.cell 0
  have hs1 := HS2.out.cell 1
  have hs2 := HS2.out.cell 2
  have hs3 := HS2.out.cell 3
  clear HB HB2
  unfold scriptV at HF
  go_region_held3 (fun w' => w'.cell? ⟨xb, 4, none⟩ = some (.func (.func F) #[] lb) ∧ w'.cell? ⟨sb, 0, none⟩ = some (.int .i64 c.1) ∧ w'.cell? ⟨sb, 1, none⟩ = some (.int .i64 c.2.1) ∧ w'.cell? ⟨sb, 2, none⟩ = some (.int .u64 c.2.2) ∧ w'.cell? ⟨sb, 3, none⟩ = some (.slice A l.length cap)) (first | exact ⟨hc4, hs0, hs1, hs2, hs3⟩ | go_keep) ((go_at_fn F; go_loud (refine (HF.out.tell _ (HK02.out.trans ((Keep.refl [] _).drew) (by simp)) A l cap (HE2.out.keep0 ((Keep.refl [] _).drew)) hl).mono ?_; rintro r x ⟨rfl, hk⟩; have HKx := Lib.hid hk; have HBx := Lib.hid (HB3.out.drew.keep hk (by simp)); have HSx := Lib.hid (HS2.out.drew.keep hk (by simp)); have hc4 : x.cell? ⟨xb, 4, none⟩ = some (.func (.func F) #[] lb) := HBx.out.cell 4; have hs0 := HSx.out.cell 0; have hs1 := HSx.out.cell 1; have hs2 := HSx.out.cell 2; have hs3 := HSx.out.cell 3; clear hk)))
  go_wp2
  go_ret
  exact ⟨rfl, HBx.out, (HK.out.mono (S' := [xb]) (by simp)).trans ((HK2.out.drew).trans HKx.out (by simp)) (fun x hx => .inl hx)⟩
/-- The shrinker, known whole. -/
structure ShrAt (w0 wr : World) (xb F : Nat) (lb : Array Value) (c : Int × Int × Int) (k : Nat) (l : List EntS) (A : Option Addr) (cap : Nat) : Prop where
  blk : Blk wr xb 86 (shrCells c (.slice A l.length cap) F lb k)
  ents : EntAt wr (· ≠ xb) A l
  hk0 : Keep [] w0 wr
  new : w0.heap.size ≤ xb
def ShrOut (w0 : World) (xb F : Nat) (lb : Array Value) (c : Int × Int × Int) (R : List EntS × Nat × Bool) (w : World) (r : Ending) (w' : World) : Prop := r = .returned (.bool R.2.2) ∧ Keep [xb] w w' ∧ ∃ A cap, ShrAt w0 w' xb F lb c R.2.1 R.1 A cap
section
variable {w0 wr w2 : World} {xb F : Nat} {lb : Array Value} {c : Int × Int × Int} {k k2 : Nat} {l l2 : List EntS} {A A2 : Option Addr} {cap cap2 : Nat}
theorem ShrAt.turned (h : ShrAt w0 wr xb F lb c k l A cap) (hb : Blk w2 xb 86 (shrCells c (.slice A2 l2.length cap2) F lb k2)) (hk : Keep [xb] wr w2) (he : EntAt w2 (· ≠ xb) A2 l2) : ShrAt w0 w2 xb F lb c k2 l2 A2 cap2 :=
  ⟨hb, he, h.hk0.trans hk (fun x hx => .inr (by rw [List.mem_singleton.1 hx]; exact h.new)), h.new⟩
theorem ShrAt.asked (h : ShrAt w0 wr xb F lb c k l A cap) (hb : Blk w2 xb 86 (shrCells c (.slice A l.length cap) F lb k2)) (hk : Keep [xb] wr w2) : ShrAt w0 w2 xb F lb c k2 l A cap :=
  ⟨hb, h.ents.keep hk (fun b hb => by simpa using hb), h.hk0.trans hk (fun x hx => .inr (by rw [List.mem_singleton.1 hx]; exact h.new)), h.new⟩
end
set_option maxHeartbeats 1000000 in
theorem shr_pass (w0 w : World) (xb F : Nat) (lb : Array Value) (c : Int × Int × Int) (b : List EntS → Bool) (hF : BadFn F lb c b w0) (k : Nat) (A : Option Addr) (l : List EntS) (cap : Nat) (h : ShrAt w0 w xb F lb c k l A cap) (hl : l.length ≤ 120) (hkk : k ≤ 900000) (size : Nat) (hs : 1 ≤ size) (hs2 : size ≤ 1000) :
    Calls Try.prog 36 #[.pointer (some ⟨xb, 0, none⟩), .int .i64 (size : Nat)] w (ShrOut w0 xb F lb c (pass b size l k) w) := by
  have HF := Lib.hid hF
  have HNEW := Lib.hid h.new
  generalize hR : pass b size l k = R
  have hst : PassR w0 w b size (k + l.length) R l.length 0 k l false A := ⟨h.hk0, h.ents.mono (fun _ _ _ => trivial), hR, by omega, by omega, hl, by omega⟩
  have HST := Lib.hid hst
  have HSH := Lib.hid h
  clear h hR hst hF
  go_enter Try.func36, Try.ntmps36
  go_wp2_with fail
  go_loopg [5, 6, 7] l.length (fun g v5 v6 _ wr => ∃ (f at_ k' : Nat) (l' : List EntS) (any : Bool) (A' : Option Addr) (cap' : Nat), f = g ∧ v5 = .bool any ∧ v6 = .int .i64 (at_ : Nat) ∧ PassR w0 wr b size (k + l.length) R f at_ k' l' any A' ∧ ShrAt w0 wr xb F lb c k' l' A' cap' ∧ Keep [xb] w wr)
  case atStart => exact ⟨_, 0, k, l, false, A, cap, rfl, rfl, rfl, HST.out, HSH.out, Keep.refl _ _⟩
  case round =>
    obtain ⟨f, at_, k', l', any, A', cap', rfl, rfl, rfl, hr, hsh, hk1⟩ := hrel
    have HR := Lib.hid hr
    have HS := Lib.hid hsh
    have HK1 := Lib.hid hk1
    have hfew := hr.few
    have hroom := hr.room
    have hatle := hr.at_le
    clear hr hk1 HST HSH
    have hc0 := hsh.blk.cell 0
    have hc1 := hsh.blk.cell 1
    have hc2 := hsh.blk.cell 2
    have hc3 := hsh.blk.cell 3
    simp only [shrCells] at hc0 hc1 hc2 hc3
    have hz0 : (0 : Int) ≤ ((at_ : Nat) : Int) := by omega
    have hzs : (0 : Int) ≤ ((size : Nat) : Int) := by omega
    by_cases hlt : at_ < l'.length
    · have hz : ((at_ : Nat) : Int) < (l'.length : Nat) := by omega
      have KW := Lib.hid (fun w' (hx : EntAt w' (· ≠ xb) A' l') => shrink_without w' c A' l' cap' (· ≠ xb) hx (by omega) (at_ : Nat) (size : Nat))
      have KA := Lib.hid (fun (w' : World) v2 (hb : Blk w' xb 86 (shrCells c v2 F lb k')) (hk : Keep [] w0 w') A2 c2 (hx : EntAt w' (· ≠ xb) A2 (woL l' (cutF l'.length at_) (cutM l'.length at_ size))) => shr_ask w0 w' xb F lb c b HF.out v2 k' hb hk HNEW.out A2 _ c2 hx (by rw [wo_len hlt]; omega) (by omega))
      generalize hle : woL l' (cutF l'.length at_) (cutM l'.length at_ size) = less at *
      have HLE := Lib.hid hle
      clear hle hsh
      cases hb : b less with
      | true =>
        have HBB := Lib.hid hb
        unfold scriptV at *
        have hlx := HS.out.blk.lt
        go_wp2_with fail
        refine (KW.out _ HS.out.ents).mono ?_
        rintro r x ⟨hk, v, rfl, hown⟩
        obtain ⟨A2, c2, rfl⟩ := own_form hown
        have HE2 := Lib.hid ((EntAt.of_own hown).mono (ok' := (· ≠ xb)) (fun b _ hb => by omega))
        have HK2 := Lib.hid hk
        have HB2 := Lib.hid (HS.out.blk.keep hk (by simp))
        clear hk hown hc0 hc1 hc2 hc3
        unfold scriptV
        go_wp2_with fail
        have HL := Lib.hid (Blk.new x 27 #[.int .i64 c.1, .int .i64 c.2.1, .int .u64 c.2.2, .slice A2 less.length c2])
        have HBA := Lib.hid (HB2.out.alloc (.cells #[.int .i64 c.1, .int .i64 c.2.1, .int .u64 c.2.2, .slice A2 less.length c2] 27))
        have HKA := Lib.hid ((Keep.refl [] x).alloc (.cells #[.int .i64 c.1, .int .i64 c.2.1, .int .u64 c.2.2, .slice A2 less.length c2] 27))
        have hne : x.heap.size ≠ xb := fun e => by have := HB2.out.lt; omega
        generalize x.heap.size = nb at HL hne ⊢
        generalize x.alloc (.cells #[.int .i64 c.1, .int .i64 c.2.1, .int .u64 c.2.2, .slice A2 less.length c2] 27) = x1 at HL HBA HKA ⊢
        refine (KA.out _ _ HBA.out ((HS.out.hk0.trans HK2.out (by simp)).trans HKA.out (by simp)) A2 c2 (HE2.out.keep0 HKA.out)).mono ?_
        rintro r y ⟨rfl, hby, hky⟩
        have HY := Lib.hid hby
        have HKY := Lib.hid hky
        have HLY := Lib.hid (HL.out.keep hky (by simpa using hne))
        clear hby hky
        have hl0 := HLY.out.cell 0
        have hl1 := HLY.out.cell 1
        have hl2 := HLY.out.cell 2
        have hl3 := HLY.out.cell 3
        have hy0 := HY.out.cell 0
        have hy1 := HY.out.cell 1
        have hy2 := HY.out.cell 2
        have hy3 := HY.out.cell 3
        have hyf := HY.out.frozen
        simp only [shrCells] at hy0 hy1 hy2 hy3
        have HZ := Lib.hid ((((HY.out.set_ 0 (.int .i64 c.1)).set_ 1 (.int .i64 c.2.1)).set_ 2 (.int .u64 c.2.2)).set_ 3 (.slice A2 less.length c2))
        have HKZ := Lib.hid (((((Keep.refl [xb] y).set_ (p := ⟨xb, 0, none⟩) (.int .i64 c.1) (.inl (by simp))).set_ (p := ⟨xb, 1, none⟩) (.int .i64 c.2.1) (.inl (by simp))).set_ (p := ⟨xb, 2, none⟩) (.int .u64 c.2.2) (.inl (by simp))).set_ (p := ⟨xb, 3, none⟩) (.slice A2 less.length c2) (.inl (by simp)))
        have hkf := ((((HK2.out.trans HKA.out (by simp)).mono (S' := [xb]) (by simp)).trans HKY.out (fun x hx => .inl hx)).trans HKZ.out (fun x hx => .inl hx))
        have HFIN := Lib.hid hkf
        have HE3 := Lib.hid ((HE2.out.keep0 HKA.out).keep HKY.out (fun b hb => by simpa using hb))
        clear hkf
        rw [HBB.out]
        go_wp2_with fail
        have HS9 := Lib.hid (HS.out.turned (A2 := A2) (cap2 := c2) (l2 := less) (k2 := k' + 1) (by have := HZ.out; simpa [shrCells] using this) HFIN.out (HE3.out.keep HKZ.out (fun b hb => by simpa using hb)))
        have HP := Lib.hid (HR.out.yes (A2 := A2) (by omega) hlt (by rw [HLE.out]; exact HBB.out) HS9.out.hk0 (by rw [HLE.out]; exact HS9.out.ents.mono (fun _ _ _ => trivial)))
        rw [HLE.out] at HP
        go_roundg (f - 1)
        case measure => have := HP.out.2; omega
        case rel => exact ⟨_, at_, k' + 1, less, true, A2, c2, rfl, rfl, rfl, HP.out.1, HS9.out, HK1.out.trans HFIN.out (fun x hx => .inl hx)⟩
      | false =>
        have HBB := Lib.hid hb
        unfold scriptV at *
        have hlx := HS.out.blk.lt
        go_wp2_with fail
        refine (KW.out _ HS.out.ents).mono ?_
        rintro r x ⟨hk, v, rfl, hown⟩
        obtain ⟨A2, c2, rfl⟩ := own_form hown
        have HE2 := Lib.hid ((EntAt.of_own hown).mono (ok' := (· ≠ xb)) (fun b _ hb => by omega))
        have HK2 := Lib.hid hk
        have HB2 := Lib.hid (HS.out.blk.keep hk (by simp))
        clear hk hown hc0 hc1 hc2 hc3
        unfold scriptV
        go_wp2_with fail
        have HL := Lib.hid (Blk.new x 27 #[.int .i64 c.1, .int .i64 c.2.1, .int .u64 c.2.2, .slice A2 less.length c2])
        have HBA := Lib.hid (HB2.out.alloc (.cells #[.int .i64 c.1, .int .i64 c.2.1, .int .u64 c.2.2, .slice A2 less.length c2] 27))
        have HKA := Lib.hid ((Keep.refl [] x).alloc (.cells #[.int .i64 c.1, .int .i64 c.2.1, .int .u64 c.2.2, .slice A2 less.length c2] 27))
        have hne : x.heap.size ≠ xb := fun e => by have := HB2.out.lt; omega
        generalize x.heap.size = nb at HL hne ⊢
        generalize x.alloc (.cells #[.int .i64 c.1, .int .i64 c.2.1, .int .u64 c.2.2, .slice A2 less.length c2] 27) = x1 at HL HBA HKA ⊢
        refine (KA.out _ _ HBA.out ((HS.out.hk0.trans HK2.out (by simp)).trans HKA.out (by simp)) A2 c2 (HE2.out.keep0 HKA.out)).mono ?_
        rintro r y ⟨rfl, hby, hky⟩
        have HY := Lib.hid hby
        have HKY := Lib.hid hky
        have HLY := Lib.hid (HL.out.keep hky (by simpa using hne))
        clear hby hky
        rw [HBB.out]
        go_wp2_with fail
        have hkf := (((HK2.out.trans HKA.out (by simp)).mono (S' := [xb]) (by simp)).trans HKY.out (fun x hx => .inl hx))
        have HFIN := Lib.hid hkf
        have HS9 := Lib.hid (HS.out.asked HY.out HFIN.out)
        clear hkf
        have HP := Lib.hid (HR.out.no (by omega) hs2 hlt (by rw [HLE.out]; exact HBB.out) HS9.out.hk0 (HS9.out.ents.mono (fun _ _ _ => trivial)))
        go_roundg (f - 1)
        case measure => have := HP.out.2; omega
        case rel => exact ⟨_, at_ + size, k' + 1, l', any, A', cap', rfl, rfl, by go_num, HP.out.1, HS9.out, HK1.out.trans HFIN.out (fun x hx => .inl hx)⟩
    · have hz : ¬ ((at_ : Nat) : Int) < (l'.length : Nat) := by omega
      have HD := Lib.hid (HR.out.done hlt)
      go_wp2
      go_ret
      rw [HD.out]
      exact ⟨rfl, HK1.out, A', cap', HS.out⟩
end Go.Proofs.Ytbhibmimdpodiaa
