/- epoch's Do by its pure step. Conditions: the thread is within Enter, Leave or Advance; the machine has as many threads as its configuration says. -/
import Derived.Test.YtoghcikfkkmfkaaGreatEp3
namespace Go.Proofs.YtoghcikfkkmfkaaGreat
open Go.RowKit

def PS.epoch (k : Nat) (s : PS) : PS := if s.th.top.fn = 10 then s.enter k else if s.th.top.fn = 11 then s.leave k else s.advance
structure EpOk (s : PS) : Prop where
  fits : Fits s
  rd : ∀ a, s.mem.rd a < 2 ^ 64
  fn : s.th.top.fn = 10 ∨ s.th.top.fn = 11 ∨ s.th.top.fn = 12
  r1 : s.th.top.fn = 12 → s.th.top.pc = 1 → ((s.th.top.reg 1 : Nat) : Int) < s.conf.thr
def ThrOk (s : MS) : Prop := s.ths.length = s.conf.thr.toNat
theorem ep_enter (w : World) (i : PI) (s : PS) (h : PAt w i s) (hok : EpOk s) (k : Nat) (hk : (k : Int) < s.conf.thr) : Calls Tryz.prog 100 #[runE i k] w (StepOut w i (s.enter k)) := by
  unfold PS.enter
  by_cases h0 : s.th.top.pc = 0
  · rw [if_pos h0]
    cases hp : s.th.ses.pinned with
    | true => exact enter_0p w i s h hok.fits k h0 hp
    | false => exact enter_0 w i s h hok.fits k h0 hp
  · rw [if_neg h0]
    by_cases h1 : s.th.top.pc = 1
    · rw [if_pos h1]
      exact enter_1 w i s h hok.fits k hk h1
    · rw [if_neg h1]
      exact enter_2 w i s h hok.fits k (hok.rd 1) h0 h1
theorem ep_advance (w : World) (i : PI) (s : PS) (h : PAt w i s) (hth : Thr i s.conf) (hok : EpOk s) (hf : s.th.top.fn = 12) (k : Nat) : Calls Tryz.prog 102 #[runE i k] w (StepOut w i s.advance) := by
  unfold PS.advance
  by_cases h0 : s.th.top.pc = 0
  · rw [if_pos h0]
    exact advance_0 w i s h hok.fits k h0
  · rw [if_neg h0]
    by_cases h1 : s.th.top.pc = 1
    · rw [if_pos h1]
      exact advance_1 w i s h hth ⟨hok.fits, hok.r1 hf h1, hok.rd⟩ k h1
    · rw [if_neg h1]
      exact advance_2 w i s h hok.fits k h0 h1
theorem enter_epoch (args : Array Value) (w : World) : (callFunc 59 args).run Tryz.prog w = .ok (.enter 59 args) w := by kernel_rfl
set_option maxRecDepth 100000 in
set_option maxHeartbeats 1000000 in
theorem epoch_do (k : Nat) : RoutineAt k ThrOk 59 EpOk (PS.epoch k) := by
  intro w i s h hM ti t h1 h2 hp hok
  have HT := Lib.hid (t_top h h1 h2 hp)
  have hkl := (List.getElem?_eq_some_iff.1 h2).1
  have HTH : Hid (Thr (i.part ti) (s.part t).conf) := by
    obtain ⟨g, cap, htv, _⟩ := h.tvForm (by omega)
    exact ⟨some ⟨g, 0, none⟩, cap, by rw [show (i.part ti).tv = i.tv from rfl, htv, hM]; rfl⟩
  have HKT : Hid ((k : Int) < (s.part t).conf.thr) := by
    have h3 : s.ths.length = s.conf.thr.toNat := hM
    show (k : Int) < s.conf.thr
    omega
  have H := Lib.hid h
  have H1 := Lib.hid h1
  have H2 := Lib.hid h2
  have HP := Lib.hid hp
  have HO := Lib.hid hok
  have hdeep : 0 < (s.part t).th.frs.length := hp
  have HD := Lib.hid hdeep
  generalize hpost : (s.part t).epoch k = post
  have HPO := Lib.hid hpost
  clear hpost h hp hok hdeep h1 h2 hM hkl
  go_enter Tryz.func59, Tryz.ntmps59
  go_wp2_with fail
  refine (m_thread H.out k ti H1.out).mono ?_
  rintro r x ⟨rfl, rfl⟩
  go_wp2_with fail
  refine HT.out.mono ?_
  rintro r x ⟨rfl, hd⟩
  have HX := Lib.hid (H.out.drawn hd)
  have HK := Lib.hid ((Stay.refl (H.out.part H1.out H2.out)).drawn hd)
  clear hd HT H
  go_wp2_with fail
  refine (m_thread HX.out k ti H1.out).mono ?_
  rintro r y ⟨rfl, rfl⟩
  have hfn : x.cell? ⟨ti.topB, 0, none⟩ = some (.int .i64 (s.part t).th.top.fn) := (HK.out.at_.frame HD.out).c0
  have hne : x.heap.size ≠ ti.topB := by have := (HK.out.at_.frame HD.out).1.lt; exact fun e => Nat.lt_irrefl _ (e ▸ this)
  have hne2 := hne.symm
  have HKA := Lib.hid (HK.out.alloc (.cells #[.pointer (some ⟨i.m, 0, none⟩), .int .i64 (k : Nat), .pointer (some ⟨ti.tb, 0, none⟩), .pointer (some ⟨ti.topB, 0, none⟩)] 161))
  have hfa : (x.alloc (.cells #[.pointer (some ⟨i.m, 0, none⟩), .int .i64 (k : Nat), .pointer (some ⟨ti.tb, 0, none⟩), .pointer (some ⟨ti.topB, 0, none⟩)] 161)).cell? ⟨ti.topB, 0, none⟩ = some (.int .i64 (s.part t).th.top.fn) := (HKA.out.at_.frame HD.out).c0
  rcases HO.out.fn with hf | hf | hf
  · have HPO2 : Hid ((s.part t).enter k = post) := by rw [← HPO.out]; unfold PS.epoch; rw [if_pos hf]; rfl
    have KT := Lib.hid (ep_enter _ (i.part ti) (s.part t) HKA.out.at_ HO.out k HKT.out)
    rw [hf] at hfn hfa
    clear hf HPO
    go_wp2_with fail
    refine KT.out.mono ?_
    rintro r y ⟨rfl, ti', hto⟩
    have HZ := Lib.hid (PTo.of_stay HKA.out hto)
    clear hto
    go_wp2_with fail
    go_end0
    rw [← HPO2.out]
    exact ⟨rfl, ti', HZ.out⟩
  · have HPO2 : Hid ((s.part t).leave k = post) := by rw [← HPO.out]; unfold PS.epoch; rw [if_neg (by rw [hf]; decide), if_pos hf]; rfl
    have KT := Lib.hid (leave_p _ (i.part ti) (s.part t) HKA.out.at_ HO.out.fits k HKT.out)
    rw [hf] at hfn hfa
    clear hf HPO
    go_wp2_with fail
    refine KT.out.mono ?_
    rintro r y ⟨rfl, ti', hto⟩
    have HZ := Lib.hid (PTo.of_stay HKA.out hto)
    clear hto
    go_wp2_with fail
    go_end0
    rw [← HPO2.out]
    exact ⟨rfl, ti', HZ.out⟩
  · have HPO2 : Hid ((s.part t).advance = post) := by rw [← HPO.out]; unfold PS.epoch; rw [if_neg (by rw [hf]; decide), if_neg (by rw [hf]; decide)]; rfl
    have KT := Lib.hid (ep_advance _ (i.part ti) (s.part t) HKA.out.at_ HTH.out HO.out hf k)
    rw [hf] at hfn hfa
    clear hf HPO
    go_wp2_with fail
    refine KT.out.mono ?_
    rintro r y ⟨rfl, ti', hto⟩
    have HZ := Lib.hid (PTo.of_stay HKA.out hto)
    clear hto
    go_wp2_with fail
    go_end0
    rw [← HPO2.out]
    exact ⟨rfl, ti', HZ.out⟩
end Go.Proofs.YtoghcikfkkmfkaaGreat
