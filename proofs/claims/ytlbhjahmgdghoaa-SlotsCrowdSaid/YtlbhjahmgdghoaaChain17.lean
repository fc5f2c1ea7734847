/- The laws' Chain and Whole of stage 17, at rest. Condition: the free list is whole. The laws' Whole of stage 17, at rest. Condition: the free list is whole. -/
import Derived.Test.YtlbhjahmgdghoaaRef17G
namespace Go.Proofs.Ytlbhjahmgdghoaa
open Go.RowKit

def ChainL (L : List Nat) (w : World) (r : Ending) (w' : World) : Prop := Keep [] w w' ∧ ∃ v, r = .returned (.tuple #[v, .bool true]) ∧ w'.ownsRow w.heap.size 3 1 v L.length (ints L)
section
variable {w : World} {i : MI} {s : MS}
theorem edge_lt {gd : GuardS} {k : Nat} (h : k ≤ 250) : gd.edge k < 2 ^ 64 := by
  unfold GuardS.edge
  split
  · exact mkE_lt _ _ (by omega)
  · decide
theorem free_leads {c : ConfS} {ws : List Nat} {gd : GuardS} {L G : List Nat} (h : Free c ws gd L G) (ho : c.Ok) {a : Nat} (ha : a ∈ L) : gd.leads (gd.edge a) = false := by
  have hra := h.rng a ha
  have := ho.s2
  unfold GuardS.leads
  have e : slotE (gd.edge a) = a := by
    unfold GuardS.edge
    have hgl : gd.gens.length = c.slots.toNat + 1 := by rw [h.gq]; simp [h.glen]
    rw [if_pos ⟨hra.1, by omega⟩, slotE_mkE (by omega)]
  rw [e]
  have : a ∉ gd.held := fun hm => (h.part a hra.1 hra.2).1 hm ha
  simp [this]
theorem int_at {w : World} {base : Nat} {A : Nat} {cap : Nat} {L : List Nat} (h : w.ownsRow base 3 1 (.slice (some ⟨A, 0, none⟩) L.length cap) L.length (ints L)) (k : Nat) (hk : k < L.length) : w.cell? ⟨A, k, none⟩ = some (.int .i64 (L.getD k 0 : Nat)) := by
  have := h.cells (g := A) rfl k (.int .i64 (L.getD k 0 : Nat)) (by simp [ints, hk])
  rwa [Addr_add_zero] at this
end
set_option maxRecDepth 100000 in
set_option maxHeartbeats 1000000 in
theorem law17_chain {w : World} {i : MI} {s : MS} {L G : List Nat} (h : MachAt w i s) (hf : Free s.conf s.mem.ws s.gd L G) :
    Calls Try.prog 25 #[.pointer (some ⟨i.m, 0, none⟩)] w (ChainL L w) := by
  have ho := h.ok
  have hch := hf.chained ho
  have hfew := hf.few ho
  have hsl := ho.s2
  have HRN : Hid (∀ k, k < L.length → L.getD k 0 ≤ 250) := fun k hk => by
    have := (hf.rng (L.getD k 0) (by rw [List.getD_eq_getElem?_getD, List.getElem?_eq_getElem hk]; exact List.getElem_mem hk)).2
    omega
  have HLD : Hid (∀ k, k < L.length → s.gd.leads (s.gd.edge (L.getD k 0)) = false) := fun k hk => free_leads hf ho (by rw [List.getD_eq_getElem?_getD, List.getElem?_eq_getElem hk]; exact List.getElem_mem hk)
  have HND : Hid (∀ k j, k < L.length → j < k → L.getD k 0 ≠ L.getD j 0) := fun k j hk hj e => by
    rw [List.getD_eq_getElem?_getD, List.getD_eq_getElem?_getD, List.getElem?_eq_getElem hk, List.getElem?_eq_getElem (by omega)] at e
    have := (List.getElem_inj hf.nd).1 (show L[k] = L[j] from e)
    omega
  have HFW : Hid (L.length ≤ 251) := hfew
  have H := Lib.hid h
  have HL := Lib.hid hf.len
  have HSM := Lib.hid hf.sm
  have HCH := Lib.hid hch
  have HO := Lib.hid ho
  clear h hf ho hch hfew hsl
  go_enter Try.func25, Try.ntmps25
  go_wp2_with fail
  refine (m_plan H.out).mono ?_
  rintro r x ⟨rfl, rfl⟩
  go_wp2_with fail
  refine (m_conf H.out).mono ?_
  rintro r x ⟨rfl, hk⟩
  have HX := Lib.hid (H.out.keep0 hk)
  have HKx := Lib.hid hk
  clear hk
  rw [show s.conf.cells = #[.int .i64 s.conf.thr, .int .i64 s.conf.slots, .int .u64 s.conf.stamps] from rfl]
  go_wp2_with fail
  refine (m_mem HX.out).mono ?_
  rintro r y ⟨rfl, rfl⟩
  go_wp2_with fail
  refine (m_words HX.out (by rw [HL.out]; have := wordsN_ge HO.out; omega)).mono ?_
  rintro r y ⟨g, cp, xt, rfl, hw, hgn, hk⟩
  have HY := Lib.hid (HX.out.keep0 hk)
  have HKy := Lib.hid (HKx.out.trans hk (by simp))
  have KC := ref17_chain s.conf y HO.out s.mem.ws g cp xt hw HL.out HSM.out
  rw [HCH.out, ← HL.out, show s.conf.cells = #[.int .i64 s.conf.thr, .int .i64 s.conf.slots, .int .u64 s.conf.stamps] from rfl] at KC
  clear hk hw hgn
  go_wp2_with fail
  refine KC.mono ?_
  clear KC
  rintro r z ⟨hk, v, rfl, hown⟩
  have HZ := Lib.hid (HY.out.keep0 hk)
  have HKz := Lib.hid (HKy.out.trans hk (by simp))
  have HOW := Lib.hid (chain_base hown HKy.out.size)
  have HLN := Lib.hid (List.length_eq_zero_iff (l := L))
  obtain ⟨A, cap, rfl⟩ : ∃ A cap, v = .slice A L.length cap := by
    obtain ⟨hl, ⟨h1, h2⟩ | ⟨g, cap, cur, hv, _⟩⟩ := hown
    · have h2' : L.length = 0 := h2
      exact ⟨none, 0, by rw [h1, h2']⟩
    · exact ⟨_, _, hv⟩
  have HA : Hid (0 < L.length → ∃ g, A = some ⟨g, 0, none⟩) := fun hl => by
    obtain ⟨g, cap, e, _⟩ := World.ownsRow.form hown hl
    injection e with e
    exact ⟨g, e⟩
  clear hk hown
  have HFIN : Hid (ChainL L w (.returned (.tuple #[.slice A L.length cap, .bool true])) z) := ⟨HKz.out, .slice A L.length cap, rfl, HOW.out⟩
  generalize hn : L.length = n at HOW HLN HA HFW HRN HLD HND ⊢
  have HN := Lib.hid hn
  clear hn
  have hn250 := HFW.out
  go_wp2_with fail
  go_loopg [6] n (fun gg q wr => ∃ j : Nat, j ≤ n ∧ gg = n - j ∧ q = .int .i64 (j : Nat) ∧ Drawn z wr)
  case atStart => exact ⟨0, Nat.zero_le _, rfl, rfl, Drawn.refl _⟩
  case round =>
    obtain ⟨j, hj, rfl, rfl, hdr⟩ := hrel
    have HD := Lib.hid hdr
    clear hdr
    by_cases hlt : j < n
    · obtain ⟨ga, rfl⟩ := HA.out (by omega)
      have hz : ((j : Nat) : Int) < (n : Int) := by omega
      have hz0 : (0 : Int) ≤ ((j : Nat) : Int) := by omega
      have HOr := Lib.hid (own_keep HOW.out (Keep.of_drawn (S := []) HD.out) (by simp))
      have HIA : Hid (∀ k, k < n → wr.cell? ⟨ga, k, none⟩ = some (.int .i64 (L.getD k 0 : Nat))) := fun k hk => int_at (L := L) (cap := cap) (by rw [HN.out]; exact HOr.out) k (by rw [HN.out]; exact hk)
      have hx := HIA.out j hlt
      have hra := HRN.out j hlt
      have hld := HLD.out j hlt
      generalize hv : L.getD j 0 = a at hx hra hld
      have HV := Lib.hid hv
      have HLA := Lib.hid hld
      have HMr : ∀ n, Hid (MachAt (wr.drewN n) i s) := fun n => (HZ.out.drawn HD.out).drawn (Drawn.n _ _)
      have HG : ∀ n, Hid (Calls Try.prog 30 #[.pointer (some ⟨i.m, 0, none⟩)] (wr.drewN n) fun r w' => r = .returned (.pointer (some ⟨i.gi.gb, 0, none⟩)) ∧ wr.drewN n = w') := fun n => m_guard (HMr n).out
      have HE : ∀ n, Hid (Calls Try.prog 57 #[.pointer (some ⟨i.gi.gb, 0, none⟩), .int .i64 (a : Nat)] (wr.drewN n) fun r w' => r = .returned (.int .u64 (s.gd.edge a : Nat)) ∧ wr.drewN n = w') := fun n => guard_edge _ i.gi s.gd a (HMr n).out.hG
      have HLd : ∀ n, Hid (Calls Try.prog 31 #[.pointer (some ⟨i.gi.gb, 0, none⟩), .int .u64 (s.gd.edge a : Nat)] (wr.drewN n) fun r w' => r = .returned (.bool false) ∧ ∃ m, w' = wr.drewN m) := fun n => by
        have := guard_leads _ i.gi s.gd (s.gd.edge a) (HMr n).out.hG (edge_lt hra)
        rw [HLA.out] at this
        exact this.mono (fun _ _ ⟨h1, m, h2⟩ => ⟨h1, n + m, by rw [h2, World.drewN_drewN]⟩)
      clear hv hld
      go_wp2_with fail
      go_quiet (first | (go_at_call 30; exact Calls.quiet_of_same ((HG _).out.mono (fun _ _ h => ⟨h.1, h.2.symm⟩))) | (go_at_call 57; exact Calls.quiet_of_same ((HE _).out.mono (fun _ _ h => ⟨h.1, h.2.symm⟩))) | (go_at_call 31; exact (HLd _).out))
      go_wp2_with fail
      have HDq := Lib.hid (HD.out.trans (Drawn.n wr nq))
      have HIAq : Hid (∀ k, k < n → (wr.drewN nq).cell? ⟨ga, k, none⟩ = some (.int .i64 (L.getD k 0 : Nat))) := HIA.out
      have hNE : Hid (∀ k, k < j → L.getD k 0 ≠ a) := fun k hk e => HND.out j k hlt hk (by rw [HV.out, e])
      generalize hwq : wr.drewN nq = wq at HDq HIAq ⊢
      clear hwq hx HIA HMr HG HE HLd
      go_loopg [7] j (fun gg q wx => ∃ k : Nat, k ≤ j ∧ gg = j - k ∧ q = .int .i64 (k : Nat) ∧ Drawn z wx)
      case atStart => exact ⟨0, Nat.zero_le _, rfl, rfl, HDq.out⟩
      case round =>
        obtain ⟨k, hkj, rfl, rfl, hdr⟩ := hrel
        have HDx := Lib.hid hdr
        clear hdr
        by_cases hlk : k < j
        · have hzk : ((k : Nat) : Int) < (j : Int) := by omega
          have hzk0 : (0 : Int) ≤ ((k : Nat) : Int) := by omega
          have hzk1 : ((k : Nat) : Int) < (n : Int) := by omega
          have HOx := Lib.hid (own_keep HOW.out (Keep.of_drawn (S := []) HDx.out) (by simp))
          have hx1 : wr.cell? ⟨ga, k, none⟩ = some (.int .i64 (L.getD k 0 : Nat)) := int_at (L := L) (cap := cap) (by rw [HN.out]; exact HOx.out) k (by rw [HN.out]; omega)
          have hx2 : wr.cell? ⟨ga, j, none⟩ = some (.int .i64 (a : Nat)) := by
            have := int_at (L := L) (cap := cap) (by rw [HN.out]; exact HOx.out) j (by rw [HN.out]; exact hlt)
            rw [HV.out] at this
            exact this
          have hne := hNE.out k hlk
          generalize L.getD k 0 = bb at hx1 hne
          have hbe : (((a : Nat) : Int) == ((bb : Nat) : Int)) = false := by
            rw [beq_eq_false_iff_ne]
            omega
          have hbe2 : ¬ ((a : Nat) : Int) = ((bb : Nat) : Int) := by omega
          clear hne
          go_wp2_with fail
          go_quiet (fail)
          go_wp2_with fail
          go_roundg (j - (k + 1))
          case measure => omega
          case rel => exact ⟨k + 1, by omega, rfl, by go_num, HDx.out.trans (Drawn.n _ _)⟩
        · obtain rfl : k = j := by omega
          go_wp2_with fail
          go_roundg (n - (k + 1))
          case measure => omega
          case rel => exact ⟨k + 1, by omega, rfl, by go_num, HDx.out⟩
    · obtain rfl : j = n := by omega
      have HF2 : Hid (ChainL L w (.returned (.tuple #[.slice A j cap, .bool true])) wr) := ⟨HKz.out.trans (Keep.of_drawn (S := []) HD.out) (by simp), .slice A j cap, rfl, by rw [HN.out]; exact own_keep HOW.out (Keep.of_drawn (S := []) HD.out) (by simp)⟩
      go_wp2_with fail
      go_ret2
      exact HF2.out
theorem nodup_sub : ∀ (l m : List Nat), l.Nodup → (∀ a, a ∈ l → a ∈ m) → l.length ≤ m.length
  | [], _, _, _ => Nat.zero_le _
  | a :: l, m, hn, hs => by
    have hn' := List.nodup_cons.1 hn
    have ham := hs a (by simp)
    have := nodup_sub l (m.erase a) hn'.2 (fun b hb => (List.mem_erase_of_ne (fun e => hn'.1 (by rw [← e]; exact hb))).2 (hs b (by simp [hb])))
    have hl := List.length_erase_of_mem ham
    have : 0 < m.length := List.length_pos_of_mem ham
    simp only [List.length_cons]
    omega
theorem Free.whole {c : ConfS} {ws : List Nat} {gd : GuardS} {L G : List Nat} (h : Free c ws gd L G) (ho : c.Ok) : (L.length : Int) + (gd.held.length : Int) = c.slots := by
  have hs1 := ho.s1
  have hu : (L ++ gd.held).Nodup := List.nodup_append.2 ⟨h.nd, h.hnd, fun a ha b hb e => by
    subst e
    have := h.rng a ha
    exact (h.part a this.1 this.2).1 hb ha⟩
  have h1 := nodup_sub (L ++ gd.held) ((List.range c.slots.toNat).map (· + 1)) hu (fun a ha => by
    have : 1 ≤ a ∧ (a : Int) ≤ c.slots := (List.mem_append.1 ha).elim (h.rng a) (h.hrng a)
    exact List.mem_map.2 ⟨a - 1, List.mem_range.2 (by omega), by omega⟩)
  have hr : ((List.range c.slots.toNat).map (· + 1)).Nodup := List.pairwise_map.2 (List.Pairwise.imp (fun {a b} (hab : a ≠ b) => by show a + 1 ≠ b + 1; omega) List.nodup_range)
  have h2 := nodup_sub ((List.range c.slots.toNat).map (· + 1)) (L ++ gd.held) hr (fun a ha => by
    obtain ⟨k, hk, rfl⟩ := List.mem_map.1 ha
    have := List.mem_range.1 hk
    by_cases hm : k + 1 ∈ L
    · simp [hm]
    · exact List.mem_append.2 (.inr ((h.part (k + 1) (by omega) (by omega)).2 hm)))
  simp only [List.length_append, List.length_map, List.length_range] at h1 h2
  omega
set_option maxRecDepth 100000 in
theorem conf_slots (a b c : Int) : ∀ w, (Instr.field 24 (.agg #[.int .i64 a, .int .i64 b, .int .u64 c]) 1).run Try.prog w = .ok (.int .i64 b) w := by
  intro w
  kernel_rfl
set_option maxRecDepth 100000 in
set_option maxHeartbeats 1000000 in
theorem law17_whole {w : World} {i : MI} {s : MS} {L G : List Nat} (h : MachAt w i s) (hf : Free s.conf s.mem.ws s.gd L G) :
    Calls Try.prog 26 #[.pointer (some ⟨i.m, 0, none⟩)] w (TrueOut w) := by
  have HC := Lib.hid (law17_chain h hf)
  have HWH := Lib.hid (hf.whole h.ok)
  have HFW : Hid (L.length ≤ 251) := hf.few h.ok
  have hs1 := h.ok.s1
  have hs2 := h.ok.s2
  have H := Lib.hid h
  clear h hf
  go_enter Try.func26, Try.ntmps26
  go_wp2_with fail
  refine HC.out.mono ?_
  rintro r x ⟨hk, v, rfl, hown⟩
  have HX := Lib.hid (H.out.keep0 hk)
  have HK := Lib.hid hk
  obtain ⟨A, cap, rfl⟩ : ∃ A cap, v = .slice A L.length cap := by
    obtain ⟨hl, ⟨h1, h2⟩ | ⟨g, cap, cur, hv, _⟩⟩ := hown
    · have h2' : L.length = 0 := h2
      exact ⟨none, 0, by rw [h1, h2']⟩
    · exact ⟨_, _, hv⟩
  clear hk hown HC
  generalize hn : L.length = n at HWH HFW ⊢
  clear hn
  go_wp2_with fail
  refine (m_guard HX.out).mono ?_
  rintro r y ⟨rfl, rfl⟩
  go_wp2_with fail
  refine (guard_held _ _ _ HX.out.hG).mono ?_
  rintro r y ⟨rfl, rfl⟩
  have hw := HWH.out
  generalize s.gd.held.length = m at hw ⊢
  go_wp2_with fail
  refine (m_plan HX.out).mono ?_
  rintro r y ⟨rfl, rfl⟩
  go_wp2_with fail
  refine (m_conf HX.out).mono ?_
  rintro r y ⟨rfl, hk⟩
  have HK2 := Lib.hid (HK.out.trans hk (by simp))
  clear hk
  rw [show s.conf.cells = #[.int .i64 s.conf.thr, .int .i64 s.conf.slots, .int .u64 s.conf.stamps] from rfl]
  generalize s.conf.slots = sl at *
  subst hw
  have hfd := conf_slots s.conf.thr ((n : Int) + (m : Int)) s.conf.stamps
  go_wp2_with fail
  go_ret
  exact ⟨by simp, HK2.out⟩
end Go.Proofs.Ytlbhjahmgdghoaa
