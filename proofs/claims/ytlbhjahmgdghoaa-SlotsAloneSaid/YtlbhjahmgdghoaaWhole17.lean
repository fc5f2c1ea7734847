/- The laws' Whole of stage 17, at rest. Condition: the free list is whole. -/
import Derived.Test.YtlbhjahmgdghoaaChain17
namespace Go.Proofs.Ytlbhjahmgdghoaa
open Go.RowKit

theorem nodup_sub : ∀ (l m : List Nat), l.Nodup → (∀ a, a ∈ l → a ∈ m) → l.length ≤ m.length
  | [], _, _, _ => Nat.zero_le _
  | a :: l, m, hn, hs => by
    have hn' := List.nodup_cons.1 hn
    have ham := hs a (by simp)
    have := nodup_sub l (m.erase a) hn'.2 (fun b hb => (List.mem_erase_of_ne (fun e => hn'.1 (by rw [← e]; exact hb))).2 (hs b (by simp [hb])))
    have hl := List.length_erase_of_mem ham
    have : 0 < m.length := List.length_pos_of_mem ham
    simp only [List.length_cons]
    omega
theorem Free.whole {c : ConfS} {ws : List Nat} {gd : GuardS} {L G : List Nat} (h : Free c ws gd L G) (ho : c.Ok) : (L.length : Int) + (gd.held.length : Int) = c.slots := by
  have hs1 := ho.s1
  have hu : (L ++ gd.held).Nodup := List.nodup_append.2 ⟨h.nd, h.hnd, fun a ha b hb e => by
    subst e
    have := h.rng a ha
    exact (h.part a this.1 this.2).1 hb ha⟩
  have h1 := nodup_sub (L ++ gd.held) ((List.range c.slots.toNat).map (· + 1)) hu (fun a ha => by
    have : 1 ≤ a ∧ (a : Int) ≤ c.slots := (List.mem_append.1 ha).elim (h.rng a) (h.hrng a)
    exact List.mem_map.2 ⟨a - 1, List.mem_range.2 (by omega), by omega⟩)
  have hr : ((List.range c.slots.toNat).map (· + 1)).Nodup := List.pairwise_map.2 (List.Pairwise.imp (fun {a b} (hab : a ≠ b) => by show a + 1 ≠ b + 1; omega) List.nodup_range)
  have h2 := nodup_sub ((List.range c.slots.toNat).map (· + 1)) (L ++ gd.held) hr (fun a ha => by
    obtain ⟨k, hk, rfl⟩ := List.mem_map.1 ha
    have := List.mem_range.1 hk
    by_cases hm : k + 1 ∈ L
    · simp [hm]
    · exact List.mem_append.2 (.inr ((h.part (k + 1) (by omega) (by omega)).2 hm)))
  simp only [List.length_append, List.length_map, List.length_range] at h1 h2
  omega
set_option maxRecDepth 100000 in
theorem conf_slots (a b c : Int) : ∀ w, (Instr.field 24 (.agg #[.int .i64 a, .int .i64 b, .int .u64 c]) 1).run Try.prog w = .ok (.int .i64 b) w := by
  intro w
  kernel_rfl
set_option maxRecDepth 100000 in
set_option maxHeartbeats 1000000 in
theorem law17_whole {w : World} {i : MI} {s : MS} {L G : List Nat} (h : MachAt w i s) (hf : Free s.conf s.mem.ws s.gd L G) :
    Calls Try.prog 26 #[.pointer (some ⟨i.m, 0, none⟩)] w (TrueOut w) := by
  have HC := Lib.hid (law17_chain h hf)
  have HWH := Lib.hid (hf.whole h.ok)
  have HFW : Hid (L.length ≤ 251) := hf.few h.ok
  have hs1 := h.ok.s1
  have hs2 := h.ok.s2
  have H := Lib.hid h
  clear h hf
  go_enter Try.func26, Try.ntmps26
  go_wp2_with fail
  refine HC.out.mono ?_
  rintro r x ⟨hk, v, rfl, hown⟩
  have HX := Lib.hid (H.out.keep0 hk)
  have HK := Lib.hid hk
  obtain ⟨A, cap, rfl⟩ : ∃ A cap, v = .slice A L.length cap := by
    obtain ⟨hl, ⟨h1, h2⟩ | ⟨g, cap, cur, hv, _⟩⟩ := hown
    · have h2' : L.length = 0 := h2
      exact ⟨none, 0, by rw [h1, h2']⟩
    · exact ⟨_, _, hv⟩
  clear hk hown HC
  generalize hn : L.length = n at HWH HFW ⊢
  clear hn
  go_wp2_with fail
  refine (m_guard HX.out).mono ?_
  rintro r y ⟨rfl, rfl⟩
  go_wp2_with fail
  refine (guard_held _ _ _ HX.out.hG).mono ?_
  rintro r y ⟨rfl, rfl⟩
  have hw := HWH.out
  generalize s.gd.held.length = m at hw ⊢
  go_wp2_with fail
  refine (m_plan HX.out).mono ?_
  rintro r y ⟨rfl, rfl⟩
  go_wp2_with fail
  refine (m_conf HX.out).mono ?_
  rintro r y ⟨rfl, hk⟩
  have HK2 := Lib.hid (HK.out.trans hk (by simp))
  clear hk
  rw [show s.conf.cells = #[.int .i64 s.conf.thr, .int .i64 s.conf.slots, .int .u64 s.conf.stamps] from rfl]
  generalize s.conf.slots = sl at *
  subst hw
  have hfd := conf_slots s.conf.thr ((n : Int) + (m : Int)) s.conf.stamps
  go_wp2_with fail
  go_ret
  exact ⟨by simp, HK2.out⟩
end Go.Proofs.Ytlbhjahmgdghoaa
