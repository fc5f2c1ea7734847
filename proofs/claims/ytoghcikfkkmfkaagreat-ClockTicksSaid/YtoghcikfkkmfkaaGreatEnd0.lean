/- The laws' Ends: all threads go on alone, one behind the other, till they are within nothing. Conditions: what each step hands on. -/
import Derived.Test.YtoghcikfkkmfkaaGreatW0
namespace Go.Proofs.YtoghcikfkkmfkaaGreat
open Go.RowKit

theorem m_threads {w : World} {i : MI} {s : MS} (h : MachAt w i s) (h0 : 0 < s.ths.length) :
    Calls Tryz.prog 131 #[.pointer (some ⟨i.m, 0, none⟩)] w fun r w' => r = .returned (.int .i64 (s.ths.length : Nat)) ∧ w = w' := by
  obtain ⟨g, cap, hv, _⟩ := h.tvForm h0
  have hM := h.mach
  rw [hv] at hM
  exact core_threads w i.m _ _ _ _ _ hM
/-- What a crowd's steps hand on: P n: so many steps were done. -/
structure Crowd (T most nmax : Nat) (M : MS → Prop) (ok : PS → Prop) (step : Nat → PS → PS) (lf : MS → ThS → Nat) (P : Nat → MS → Prop) : Prop where
  cm : ∀ n s, P n s → M s
  ct : ∀ n s, P n s → s.ths.length = T
  cl : ∀ (n : Nat) (s : MS) (k : Nat) (t : ThS), P n s → s.ths[k]? = some t → lf s t ≤ most
  cp : ∀ (n : Nat) (s : MS) (k : Nat) (t : ThS), P n s → s.ths[k]? = some t → 0 < t.frs.length → 0 < lf s t
  cs : ∀ (n : Nat) (s : MS) (k : Nat) (t : ThS), n < nmax → P n s → s.ths[k]? = some t → 0 < t.frs.length → ok (s.part t) ∧ Room s (step k (s.part t)) ∧ P (n + 1) (s.ran k t (step k)) ∧ ∃ t2, (s.ran k t (step k)).ths[k]? = some t2 ∧ lf (s.ran k t (step k)) t2 < lf s t
def Idle (j : Nat) (s : MS) : Prop := ∀ (x : Nat) (t : ThS), x < j → s.ths[x]? = some t → t.frs = []
theorem Idle.ran {j k : Nat} {s : MS} {t : ThS} {step : PS → PS} (h : Idle j s) (hk : j ≤ k) : Idle j (s.ran k t step) := by
  intro x t2 hx h2
  refine h x t2 hx ?_
  have e : (s.ran k t step).ths[x]? = (s.ths.set k ((s.part t).stepped (step (s.part t))).th)[x]? := rfl
  rw [e, List.getElem?_set_ne (by omega)] at h2
  exact h2
theorem Idle.more {j : Nat} {s : MS} {t : ThS} (h : Idle j s) (ht : s.ths[j]? = some t) (h0 : t.frs.length = 0) : Idle (j + 1) s := by
  intro x t2 hx h2
  by_cases e : x = j
  · subst e
    rw [ht] at h2
    injection h2 with h2
    rw [← h2]
    exact List.eq_nil_of_length_eq_zero h0
  · exact h x t2 (by omega) h2
def EndsOut (w : World) (i : MI) (P : Nat → MS → Prop) (r : Ending) (w' : World) : Prop := r = .returned (.bool true) ∧ ∃ i' s' n', P n' s' ∧ MachAt w' i' s' ∧ Goes w w' i i' ∧ Idle s'.ths.length s'
end Go.Proofs.YtoghcikfkkmfkaaGreat
