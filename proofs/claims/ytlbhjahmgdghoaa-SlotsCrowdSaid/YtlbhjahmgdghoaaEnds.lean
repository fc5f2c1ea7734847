/- The laws' Ends: all threads go on alone, one behind the other, till they are within nothing. Conditions: what each step hands on. -/
import Derived.Test.YtlbhjahmgdghoaaW0
namespace Go.Proofs.Ytlbhjahmgdghoaa
open Go.RowKit

theorem m_threads {w : World} {i : MI} {s : MS} (h : MachAt w i s) (h0 : 0 < s.ths.length) :
    Calls Try.prog 63 #[.pointer (some ⟨i.m, 0, none⟩)] w fun r w' => r = .returned (.int .i64 (s.ths.length : Nat)) ∧ w = w' := by
  obtain ⟨g, cap, hv, _⟩ := h.tvForm h0
  have hM := h.mach
  rw [hv] at hM
  exact core_threads w i.m _ _ _ _ _ hM
/-- What a crowd's steps hand on: P n: so many steps were done. -/
structure Crowd (T most nmax : Nat) (M : MS → Prop) (ok : PS → Prop) (step : Nat → PS → PS) (lf : MS → ThS → Nat) (P : Nat → MS → Prop) : Prop where
  cm : ∀ n s, P n s → M s
  ct : ∀ n s, P n s → s.ths.length = T
  cl : ∀ (n : Nat) (s : MS) (k : Nat) (t : ThS), P n s → s.ths[k]? = some t → lf s t ≤ most
  cp : ∀ (n : Nat) (s : MS) (k : Nat) (t : ThS), P n s → s.ths[k]? = some t → 0 < t.frs.length → 0 < lf s t
  cs : ∀ (n : Nat) (s : MS) (k : Nat) (t : ThS), n < nmax → P n s → s.ths[k]? = some t → 0 < t.frs.length → ok (s.part t) ∧ Room s (step k (s.part t)) ∧ P (n + 1) (s.ran k t (step k)) ∧ ∃ t2, (s.ran k t (step k)).ths[k]? = some t2 ∧ lf (s.ran k t (step k)) t2 < lf s t
def Idle (j : Nat) (s : MS) : Prop := ∀ (x : Nat) (t : ThS), x < j → s.ths[x]? = some t → t.frs = []
theorem Idle.ran {j k : Nat} {s : MS} {t : ThS} {step : PS → PS} (h : Idle j s) (hk : j ≤ k) : Idle j (s.ran k t step) := by
  intro x t2 hx h2
  refine h x t2 hx ?_
  have e : (s.ran k t step).ths[x]? = (s.ths.set k ((s.part t).stepped (step (s.part t))).th)[x]? := rfl
  rw [e, List.getElem?_set_ne (by omega)] at h2
  exact h2
theorem Idle.more {j : Nat} {s : MS} {t : ThS} (h : Idle j s) (ht : s.ths[j]? = some t) (h0 : t.frs.length = 0) : Idle (j + 1) s := by
  intro x t2 hx h2
  by_cases e : x = j
  · subst e
    rw [ht] at h2
    injection h2 with h2
    rw [← h2]
    exact List.eq_nil_of_length_eq_zero h0
  · exact h x t2 (by omega) h2
def EndsOut (w : World) (i : MI) (P : Nat → MS → Prop) (r : Ending) (w' : World) : Prop := r = .returned (.bool true) ∧ ∃ i' s' n', P n' s' ∧ MachAt w' i' s' ∧ Goes w w' i i' ∧ Idle s'.ths.length s'
set_option maxRecDepth 100000 in
set_option maxHeartbeats 1000000 in
theorem ends_at {F T most nmax n0 : Nat} {M : MS → Prop} {ok : PS → Prop} {step : Nat → PS → PS} {lf : MS → ThS → Nat} {P : Nat → MS → Prop} (hr : ∀ k, RoutineAt k M F ok (step k)) (henter : ∀ (args : Array Value) (w : World), (callFunc F args).run Try.prog w = .ok (.enter F args) w)
    (hC : Crowd T most nmax M ok step lf P) (hT0 : 0 < T) (hT : T ≤ 100) (hm : most ≤ 100000000) (hn : n0 + T * most ≤ nmax) (w : World) (i : MI) (s : MS) (h : MachAt w i s) (hP : P n0 s) :
    Calls Try.prog 33 #[.pointer (some ⟨i.m, 0, none⟩), fnV F, .int .i64 (most : Nat)] w (EndsOut w i P) := by
  have H := Lib.hid h
  have HP := Lib.hid hP
  have HC := Lib.hid hC
  have HN := Lib.hid hn
  have HT0 : Hid (0 < T) := hT0
  have HS := Lib.hid (fun k w' i' s' h' hM' ti' t' h1 h2 hp hok hroom => core_step_at (hr k) henter w' i' s' h' hM' ti' t' h1 h2 hp hok hroom)
  unfold fnV at HS ⊢
  clear h hP hC hn hr henter hT0
  go_enter Try.func33, Try.ntmps33
  go_wp2_with fail
  go_loopg [7] T (fun gg q wr => ∃ (j n : Nat) (sj : MS) (ij : MI), j ≤ T ∧ gg = T - j ∧ q = .int .i64 (j : Nat) ∧ n ≤ n0 + j * most ∧ MachAt wr ij sj ∧ Goes w wr i ij ∧ P n sj ∧ Idle j sj)
  case atStart => exact ⟨0, n0, s, i, Nat.zero_le _, rfl, rfl, by omega, H.out, Goes.refl _ _, HP.out, fun x t hx => absurd hx (Nat.not_lt_zero x)⟩
  case round =>
    obtain ⟨j, n, sj, ij, hj, rfl, rfl, hnj, hma, hgo, hp, hidle⟩ := hrel
    have HID := Lib.hid hidle
    clear hidle
    have HMj := Lib.hid hma
    have HGj := Lib.hid hgo
    have HPj := Lib.hid hp
    have HNJ := Lib.hid hnj
    have hlen := HC.out.ct _ _ hp
    have KT := m_threads hma (by rw [hlen]; exact HT0.out)
    rw [hlen, hgo.m] at KT
    have HLN := Lib.hid hlen
    clear hma hgo hp hnj H HP hlen
    by_cases hlt : j < T
    · have hmul : j * most + most ≤ T * most := by
        rw [← Nat.succ_mul]
        exact Nat.mul_le_mul_right _ hlt
      have HMUL := Lib.hid hmul
      obtain ⟨tj, htj⟩ : ∃ tj, sj.ths[j]? = some tj := ⟨_, List.getElem?_eq_getElem (by rw [HLN.out]; exact hlt)⟩
      have HTJ := Lib.hid htj
      have hz : ((j : Nat) : Int) < (T : Int) := by omega
      clear hmul htj
      go_wp2_with fail
      refine KT.mono ?_
      clear KT
      rintro r y ⟨rfl, rfl⟩
      go_wp2_with fail
      go_loopg [8] most (fun gg q wy => ∃ (a n2 : Nat) (s2 : MS) (i2 : MI) (t2 : ThS), a ≤ most ∧ gg = most - a ∧ q = .int .i64 (a : Nat) ∧ n2 ≤ n + a ∧ MachAt wy i2 s2 ∧ Goes w wy i i2 ∧ P n2 s2 ∧ s2.ths[j]? = some t2 ∧ lf s2 t2 + a ≤ most ∧ Idle j s2)
      case atStart => exact ⟨0, n, sj, ij, tj, Nat.zero_le _, rfl, rfl, by omega, HMj.out, HGj.out, HPj.out, HTJ.out, by have := HC.out.cl _ _ _ _ HPj.out HTJ.out; omega, HID.out⟩
      case round =>
        obtain ⟨a, n2, s2, i2, t2, ha, rfl, rfl, hn2, hma2, hgo2, hp2, ht2, hl2, hid2⟩ := hrel
        have HID2 := Lib.hid hid2
        clear hid2
        have HM2 := Lib.hid hma2
        have HG2 := Lib.hid hgo2
        have HP2 := Lib.hid hp2
        have HT2 := Lib.hid ht2
        have HN2 : Hid (n2 ≤ n + a ∧ lf s2 t2 + a ≤ most) := ⟨hn2, hl2⟩
        obtain ⟨ti, hti⟩ := hma2.thAt ht2
        have HTI := Lib.hid hti
        have KTh := m_thread hma2 j ti hti
        rw [hgo2.m] at KTh
        have KD := m_depth hma2 hti ht2
        have hN2 : n2 ≤ n0 + T * most := by have h3 := HNJ.out; have h4 := HMUL.out; omega
        have HM := Lib.hid (HC.out.cm _ _ hp2)
        clear hma2 hgo2 hp2 ht2 hti hn2 hl2 HMj HGj HTJ
        by_cases hd : 0 < t2.frs.length
        · obtain ⟨hok, hroom, hp3, t3, ht3, hl3⟩ : ok (s2.part t2) ∧ Room s2 (step j (s2.part t2)) ∧ P (n2 + 1) (s2.ran j t2 (step j)) ∧ ∃ t3, (s2.ran j t2 (step j)).ths[j]? = some t3 ∧ lf (s2.ran j t2 (step j)) t3 < lf s2 t2 := by
            refine HC.out.cs n2 s2 j t2 ?_ HP2.out HT2.out hd
            have hq := HC.out.cp _ _ _ _ HP2.out HT2.out hd
            have h1 := HN2.out
            have h2 := HNJ.out
            have h3 := HMUL.out
            have h4 := HN.out
            omega
          have KS := HS.out j wr i2 s2 HM2.out HM.out ti t2 HTI.out HT2.out hd hok hroom
          rw [HG2.out.m] at KS
          have HP3 := Lib.hid hp3
          have HT3 := Lib.hid ht3
          have HL3 : Hid (lf (s2.ran j t2 (step j)) t3 < lf s2 t2) := hl3
          have hza : ((a : Nat) : Int) < (most : Int) := by have := HN2.out; omega
          have hzd : (0 : Int) < ((t2.frs.length : Nat) : Int) := by omega
          clear hok hroom hp3 ht3 hl3 hd
          generalize t2.frs.length = d at KD hzd
          go_wp2_with fail
          refine KTh.mono ?_
          rintro r z ⟨rfl, rfl⟩
          go_wp2_with fail
          refine KD.mono ?_
          rintro r z ⟨rfl, rfl⟩
          go_wp2_with fail
          refine KS.mono ?_
          clear KS
          rintro r z ⟨rfl, i3, hm3, hg3⟩
          have HM3 := Lib.hid hm3
          have HG3 := Lib.hid hg3
          clear hm3 hg3
          go_wp2_with fail
          go_roundg (most - (a + 1))
          case measure => have := HN2.out; have := HL3.out; omega
          case rel => exact ⟨a + 1, n2 + 1, _, i3, t3, by omega, rfl, by go_num, by have := HN2.out; omega, HM3.out, HG2.out.trans HG3.out, HP3.out, HT3.out, by have := HN2.out; have := HL3.out; omega, HID2.out.ran (Nat.le_refl _)⟩
        · have hd0 : t2.frs.length = 0 := by omega
          have HI3 := Lib.hid (HID2.out.more HT2.out hd0)
          rw [hd0] at KD
          clear hd hd0
          by_cases hza : a < most
          · have hza' : ((a : Nat) : Int) < (most : Int) := by omega
            go_wp2_with fail
            refine KTh.mono ?_
            rintro r z ⟨rfl, rfl⟩
            go_wp2_with fail
            refine KD.mono ?_
            rintro r z ⟨rfl, rfl⟩
            go_wp2_with fail
            refine KTh.mono ?_
            rintro r z ⟨rfl, rfl⟩
            go_wp2_with fail
            refine KD.mono ?_
            rintro r z ⟨rfl, rfl⟩
            go_wp2_with fail
            go_roundg (T - (j + 1))
            case measure => omega
            case rel => exact ⟨j + 1, n2, s2, i2, by omega, rfl, by go_num, by rw [Nat.succ_mul]; have := HN2.out; have := HNJ.out; omega, HM2.out, HG2.out, HP2.out, HI3.out⟩
          · obtain rfl : a = most := by omega
            go_wp2_with fail
            refine KTh.mono ?_
            rintro r z ⟨rfl, rfl⟩
            go_wp2_with fail
            refine KD.mono ?_
            rintro r z ⟨rfl, rfl⟩
            go_wp2_with fail
            go_roundg (T - (j + 1))
            case measure => omega
            case rel => exact ⟨j + 1, n2, s2, i2, by omega, rfl, by go_num, by rw [Nat.succ_mul]; have := HN2.out; have := HNJ.out; omega, HM2.out, HG2.out, HP2.out, HI3.out⟩
    · obtain rfl : j = T := by omega
      go_wp2_with fail
      refine KT.mono ?_
      clear KT
      rintro r y ⟨rfl, rfl⟩
      go_wp2_with fail
      go_ret
      exact ⟨rfl, ij, sj, n, HPj.out, HMj.out, HGj.out, by rw [HLN.out]; exact HID.out⟩
end Go.Proofs.Ytlbhjahmgdghoaa
