/- The reference of layer 5: May by its contract. No condition. -/
import Derived.Test.YtoghcikfkkmfkaaGreatNon
namespace Go.Proofs.YtoghcikfkkmfkaaGreat
open Go.RowKit

set_option maxRecDepth 100000 in
set_option maxHeartbeats 1000000 in
theorem ref05_may (c : ConfS) (w : World) : Calls Tryz.prog 8 #[.agg c.cells] w fun r w' => r = .returned (.bool c.may) ∧ Keep [] w w' := by
  have HK := Lib.hid ((Keep.refl [] w).alloc (.cells c.cells 24))
  obtain ⟨t, s, p⟩ := c
  simp only [ConfS.cells] at HK ⊢
  generalize hm : ConfS.may ⟨t, s, p⟩ = m
  have HM := Lib.hid hm
  clear hm
  by_cases h1 : 0 < t
  · by_cases h2 : t < 7
    · by_cases h3 : 6 < s
      · by_cases h4 : s < 251
        · by_cases h5 : 0 < p
          · by_cases h6 : p ≤ 1099511627776
            · have HV : Hid (m = true) := by
                rw [← HM.out]
                exact ConfS.may_iff.2 ⟨by simp; omega, by simp; omega, by simp; omega, by simp; omega, by simp; omega, by simpa using h6⟩
              go_enter Tryz.func8, Tryz.ntmps8
              go_wp2
              go_ret
              exact ⟨by rw [HV.out]; rfl, HK.out⟩
            · have HV : Hid (m = false) := by
                rw [← HM.out, Bool.eq_false_iff]
                intro h
                exact h6 (ConfS.may_iff.1 h).p2
              go_enter Tryz.func8, Tryz.ntmps8
              go_wp2
              go_ret
              exact ⟨by rw [HV.out]; rfl, HK.out⟩
          · have HV : Hid (m = false) := by
              rw [← HM.out, Bool.eq_false_iff]
              intro h
              have := (ConfS.may_iff.1 h).p1
              simp at this
              omega
            go_enter Tryz.func8, Tryz.ntmps8
            go_wp2
            go_ret
            exact ⟨by rw [HV.out]; rfl, HK.out⟩
        · have HV : Hid (m = false) := by
            rw [← HM.out, Bool.eq_false_iff]
            intro h
            have := (ConfS.may_iff.1 h).s2
            simp at this
            omega
          go_enter Tryz.func8, Tryz.ntmps8
          go_wp2
          go_ret
          exact ⟨by rw [HV.out]; rfl, HK.out⟩
      · have HV : Hid (m = false) := by
          rw [← HM.out, Bool.eq_false_iff]
          intro h
          have := (ConfS.may_iff.1 h).s1
          simp at this
          omega
        go_enter Tryz.func8, Tryz.ntmps8
        go_wp2
        go_ret
        exact ⟨by rw [HV.out]; rfl, HK.out⟩
    · have HV : Hid (m = false) := by
        rw [← HM.out, Bool.eq_false_iff]
        intro h
        have := (ConfS.may_iff.1 h).t2
        simp at this
        omega
      go_enter Tryz.func8, Tryz.ntmps8
      go_wp2
      go_ret
      exact ⟨by rw [HV.out]; rfl, HK.out⟩
  · have HV : Hid (m = false) := by
      rw [← HM.out, Bool.eq_false_iff]
      intro h
      have := (ConfS.may_iff.1 h).t1
      simp at this
      omega
    go_enter Tryz.func8, Tryz.ntmps8
    go_wp2
    go_ret
    exact ⟨by rw [HV.out]; rfl, HK.out⟩

theorem ref16_at (c : ConfS) (sl f : Nat) (w : World) (ho : c.Ok) (h0 : 1 ≤ sl) (h1 : (sl : Int) ≤ c.slots) (h3 : f ≤ 6) : Calls Tryz.prog 106 #[.agg c.cells, .int .i64 (sl : Nat), .int .i64 (f : Nat)] w fun r w' => r = .returned (.int .i64 (ixN c sl f : Nat)) ∧ Keep [] w w' := by
  have HK := Lib.hid ((Keep.refl [] w).alloc (.cells c.cells 24))
  have hix : ((ixN c sl f : Nat) : Int) = 3 + 8 * c.thr + 7 * ((sl : Int) - 1) + f := by
    have := ho.t1
    unfold ixN
    omega
  have HIX := Lib.hid hix
  obtain ⟨t, s, p⟩ := c
  obtain ⟨t1, t2, s1, s2, _, _⟩ := ho
  simp only [ConfS.cells] at *
  clear hix
  have hf0 : (0 : Int) ≤ (f : Nat) := by omega
  have hf6 : ((f : Nat) : Int) ≤ 6 := by omega
  have hs0 : (1 : Int) ≤ (sl : Nat) := by omega
  go_enter Tryz.func106, Tryz.ntmps106
  go_wp2
  go_ret
  exact ⟨by rw [HIX.out]; rfl, HK.out⟩
end Go.Proofs.YtoghcikfkkmfkaaGreat
