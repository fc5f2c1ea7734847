/- The reference of layer 5: May (as in text Ref05), for rows without machine. No condition. -/
import Derived.Test.YtnhkjfknhponkaaDoorPln
namespace Go.Proofs.YtnhkjfknhponkaaDoor
open Go.RowKit

set_option maxRecDepth 100000 in
set_option maxHeartbeats 1000000 in
theorem ref05_may (c : ConfS) (w : World) : Calls Tryd.prog 11 #[.agg c.cells] w fun r w' => r = .returned (.bool c.may) ∧ Keep [] w w' := by
  have HK := Lib.hid ((Keep.refl [] w).alloc (.cells c.cells 32))
  obtain ⟨t, s, p⟩ := c
  simp only [ConfS.cells] at HK ⊢
  generalize hm : ConfS.may ⟨t, s, p⟩ = m
  have HM := Lib.hid hm
  clear hm
  by_cases h1 : 0 < t
  · by_cases h2 : t < 7
    · by_cases h3 : 6 < s
      · by_cases h4 : s < 251
        · by_cases h5 : 0 < p
          · by_cases h6 : p ≤ 1099511627776
            · have HV : Hid (m = true) := by
                rw [← HM.out]
                exact ConfS.may_iff.2 ⟨by simp; omega, by simp; omega, by simp; omega, by simp; omega, by simp; omega, by simpa using h6⟩
              go_enter Tryd.func11, Tryd.ntmps11
              go_wp2
              go_ret
              exact ⟨by rw [HV.out]; rfl, HK.out⟩
            · have HV : Hid (m = false) := by
                rw [← HM.out, Bool.eq_false_iff]
                intro h
                exact h6 (ConfS.may_iff.1 h).p2
              go_enter Tryd.func11, Tryd.ntmps11
              go_wp2
              go_ret
              exact ⟨by rw [HV.out]; rfl, HK.out⟩
          · have HV : Hid (m = false) := by
              rw [← HM.out, Bool.eq_false_iff]
              intro h
              have := (ConfS.may_iff.1 h).p1
              simp at this
              omega
            go_enter Tryd.func11, Tryd.ntmps11
            go_wp2
            go_ret
            exact ⟨by rw [HV.out]; rfl, HK.out⟩
        · have HV : Hid (m = false) := by
            rw [← HM.out, Bool.eq_false_iff]
            intro h
            have := (ConfS.may_iff.1 h).s2
            simp at this
            omega
          go_enter Tryd.func11, Tryd.ntmps11
          go_wp2
          go_ret
          exact ⟨by rw [HV.out]; rfl, HK.out⟩
      · have HV : Hid (m = false) := by
          rw [← HM.out, Bool.eq_false_iff]
          intro h
          have := (ConfS.may_iff.1 h).s1
          simp at this
          omega
        go_enter Tryd.func11, Tryd.ntmps11
        go_wp2
        go_ret
        exact ⟨by rw [HV.out]; rfl, HK.out⟩
    · have HV : Hid (m = false) := by
        rw [← HM.out, Bool.eq_false_iff]
        intro h
        have := (ConfS.may_iff.1 h).t2
        simp at this
        omega
      go_enter Tryd.func11, Tryd.ntmps11
      go_wp2
      go_ret
      exact ⟨by rw [HV.out]; rfl, HK.out⟩
  · have HV : Hid (m = false) := by
      rw [← HM.out, Bool.eq_false_iff]
      intro h
      have := (ConfS.may_iff.1 h).t1
      simp at this
      omega
    go_enter Tryd.func11, Tryd.ntmps11
    go_wp2
    go_ret
    exact ⟨by rw [HV.out]; rfl, HK.out⟩
end Go.Proofs.YtnhkjfknhponkaaDoor
