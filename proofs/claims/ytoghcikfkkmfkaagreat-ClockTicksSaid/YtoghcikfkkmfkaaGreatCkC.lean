/- ClockTicks: the reference's Clock, the law's fresh, by their contracts. Conditions: the words, the row of what was told. -/
import Derived.Test.YtoghcikfkkmfkaaGreatCkP
namespace Go.Proofs.YtoghcikfkkmfkaaGreat
open Go.RowKit

theorem own_one {w : World} {base n : Nat} {t : TypeId} {v : Value} {xs : List Value} (h : w.ownsRow base t 1 v n xs) (hn : 0 < n) : ∃ g cap, v = .slice (some ⟨g, 0, none⟩) n cap ∧ n ≤ cap := by
  obtain ⟨hl, ⟨_, h0⟩ | ⟨g, cap, cur, hv, hb, hr, hc, _⟩⟩ := h
  · omega
  · exact ⟨g, cap, hv, hc⟩
theorem ref25_clock (w : World) (g cap : Nat) (ws : List Nat) (xt : List Value) (hb : Blk w g 22 (u64s ws ++ xt).toArray) (h3 : 3 ≤ ws.length) (h4 : ws.length ≤ 4096) :
    Calls Tryz.prog 40 #[.slice (some ⟨g, 0, none⟩) ws.length cap] w fun r w' => r = .returned (.int .u64 (ws.getD 0 0 : Nat)) ∧ w = w' := by
  have hc : w.cell? ⟨g, 0, none⟩ = some (.int .u64 (ws.getD 0 0 : Nat)) := by
    rw [hb.cell, List.getElem?_toArray, List.getElem?_append_left (by rw [u64s_length]; omega)]
    unfold u64s
    rw [List.getElem?_map, List.getD_eq_getElem?_getD, List.getElem?_eq_getElem (by omega)]
    rfl
  have hz : ¬ ((ws.length : Nat) : Int) < 3 := by omega
  have hz0 : (0 : Int) < ((ws.length : Nat) : Int) := by omega
  generalize ws.getD 0 0 = K at *
  generalize ws.length = n at *
  clear hb h3
  go_enter Tryz.func40, Tryz.ntmps40
  go_wp2_with fail
  go_ret
  exact ⟨rfl, rfl⟩
set_option maxHeartbeats 1000000 in
theorem law25_fresh (w : World) (base : Nat) (A : Option Addr) (cap : Nat) (L : List Nat) (v now : Nat) (st : Int) (hown : w.ownsRow base 22 1 (.slice A L.length cap) L.length (u64s L)) (hl : L.length ≤ 1000) :
    Calls Tryz.prog 42 #[.slice A L.length cap, .int .u64 (v : Nat), .int .u64 (now : Nat), .int .u64 st] w fun r w' => r = .returned (.bool (freshB L v now st)) ∧ w = w' := by
  have HO := Lib.hid hown
  have HL := Lib.hid hl
  clear hown hl
  by_cases hv : v = 0
  · subst hv
    have e : freshB L 0 now st = decide (st ≤ (now : Int)) := by unfold freshB; rw [if_pos rfl]
    rw [e]
    go_enter Tryz.func42, Tryz.ntmps42
    go_wp2_with fail
    go_ret
    exact ⟨by rfl, rfl⟩
  · obtain ⟨B, hB⟩ : ∃ B, B = freshB L v now st := ⟨_, rfl⟩
    have HB : Hid ((v ∈ L → B = false) ∧ (¬ v ∈ L → B = decide (v < now))) := Lib.hid (by
      have e : freshB L v now st = (!L.contains v && decide (v < now)) := by unfold freshB; rw [if_neg hv]
      rw [hB, e]
      refine ⟨fun h => by simp [h], fun h => ?_⟩
      simp [h])
    rw [← hB]
    clear hB
    have hvz : (((v : Nat) : Int) == 0) = false := by rw [beq_eq_false_iff_ne]; omega
    clear hv
    go_enter Tryz.func42, Tryz.ntmps42
    go_wp2_with fail
    go_loopg [9] L.length (fun g v9 wr => ∃ k : Nat, k ≤ L.length ∧ g = L.length - k ∧ v9 = .int .i64 (k : Nat) ∧ w = wr ∧ ¬ v ∈ L.take k)
    case atStart => exact ⟨0, Nat.zero_le _, rfl, rfl, rfl, by simp⟩
    case round =>
      obtain ⟨k, hk, rfl, rfl, rfl, hno⟩ := hrel
      have HNO := Lib.hid hno
      have hk0 : (0 : Int) ≤ ((k : Nat) : Int) := by omega
      have hk9 : ((k : Nat) : Int) ≤ 1000 := by have := HL.out; omega
      clear hno
      by_cases hlt : k < L.length
      · have hz : ((k : Nat) : Int) < ((L.length : Nat) : Int) := by omega
        obtain ⟨gq, cq, hA, _⟩ := own_one HO.out (by omega)
        injection hA with hA _ hcq
        subst hA hcq
        have hc : w.cell? ⟨gq, k, none⟩ = some (.int .u64 (L.getD k 0 : Nat)) := by
          have h1 := HO.out.cells (g := gq) rfl k (.int .u64 (L.getD k 0 : Nat)) (by
            unfold u64s
            rw [List.getElem?_map, List.getD_eq_getElem?_getD, List.getElem?_eq_getElem hlt]
            rfl)
          rw [show (⟨gq, 0, none⟩ : Addr).add k = ⟨gq, k, none⟩ by
            unfold Addr.add
            split
            · subst_vars; rfl
            · simp] at h1
          exact h1
        have HT : Hid (L.take (k + 1) = L.take k ++ [L.getD k 0]) := Lib.hid (by
          rw [List.take_succ_eq_append_getElem hlt, List.getD_eq_getElem?_getD, List.getElem?_eq_getElem hlt]
          rfl)
        have HM : Hid (L.getD k 0 ∈ L) := Lib.hid (by
          rw [List.getD_eq_getElem?_getD, List.getElem?_eq_getElem hlt]
          exact List.getElem_mem hlt)
        clear hlt
        generalize L.getD k 0 = x at *
        by_cases hx : x = v
        · have hxb : (((x : Nat) : Int) == ((v : Nat) : Int)) = true := by rw [hx]; simp
          have hcv : Hid (B = false) := Lib.hid (HB.out.1 (by rw [← hx]; exact HM.out))
          clear hx
          go_wp2_with fail
          go_ret
          exact ⟨by rw [hcv.out]; rfl, rfl⟩
        · have hxb : (((x : Nat) : Int) == ((v : Nat) : Int)) = false := by rw [beq_eq_false_iff_ne]; omega
          have HN2 : Hid (¬ v ∈ L.take (k + 1)) := Lib.hid (by
            rw [HT.out, List.mem_append, List.mem_singleton]
            exact fun h => h.elim HNO.out (fun e => hx e.symm))
          clear hx
          go_wp2_with fail
          go_roundg (L.length - (k + 1))
          case measure => omega
          case rel => exact ⟨k + 1, by omega, rfl, by go_num, rfl, HN2.out⟩
      · have hz : ¬ ((k : Nat) : Int) < ((L.length : Nat) : Int) := by omega
        have HCV : Hid (B = decide (v < now)) := Lib.hid (HB.out.2 (by
          have := HNO.out
          rw [List.take_of_length_le (by omega)] at this
          exact this))
        clear hlt
        go_wp2_with fail
        go_ret
        exact ⟨by rw [HCV.out]; rfl, rfl⟩
end Go.Proofs.YtoghcikfkkmfkaaGreat
