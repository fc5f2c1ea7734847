/- TraceReplays: the law's words, a clone of words, trace.Replay, by their contracts. Conditions: at most 1000 words, 1000 changes. -/
import Derived.Test.YtnhkjfknhponkaaDoorTrP
namespace Go.Proofs.YtnhkjfknhponkaaDoor
open Go.RowKit

set_option maxHeartbeats 1000000 in
theorem law40_words (w : World) (A B : Option Addr) (ca cb : Nat) (l : List Nat) (ha : U64At w anyBl A l) (hb : U64At w anyBl B l) (hl : l.length ≤ 1000) :
    Calls Tryd.prog 7 #[.slice A l.length ca, .slice B l.length cb] w fun r w' => r = .returned (.bool true) ∧ Keep [] w w' := by
  have HA := Lib.hid ha
  have HB := Lib.hid hb
  have HL := Lib.hid hl
  clear ha hb hl
  go_enter Tryd.func7, Tryd.ntmps7
  go_wp2_with fail
  go_loopg [5] l.length (fun g v5 wr => ∃ k : Nat, k ≤ l.length ∧ g = l.length - k ∧ v5 = .int .i64 (k : Nat) ∧ Keep [] w wr)
  case atStart => exact ⟨0, Nat.zero_le _, rfl, rfl, Keep.refl _ _⟩
  case round =>
    obtain ⟨k, hk, rfl, rfl, hkw⟩ := hrel
    have HKW := Lib.hid hkw
    have hk0 : (0 : Int) ≤ ((k : Nat) : Int) := by omega
    have hk9 : ((k : Nat) : Int) ≤ 1000 := by have := HL.out; omega
    by_cases hlt : k < l.length
    · have hz : ((k : Nat) : Int) < ((l.length : Nat) : Int) := by omega
      obtain ⟨a, oa, hA, _, _, h1⟩ := (HA.out.keep0 hkw).at_ hlt
      obtain ⟨b, ob, hB, _, _, h2⟩ := (HB.out.keep0 hkw).at_ hlt
      subst hA hB
      have hne : (((l.getD k 0 : Nat) : Int) != ((l.getD k 0 : Nat) : Int)) = false := by simp
      clear hkw hlt
      generalize l.getD k 0 = x at *
      go_upto_region 6 with fail
      go_quiet (fail)
      go_wp2_with fail
      go_roundg (l.length - (k + 1))
      case measure => omega
      case rel => exact ⟨k + 1, by omega, rfl, by go_num, HKW.out.drewN _⟩
    · have hz : ¬ ((k : Nat) : Int) < ((l.length : Nat) : Int) := by omega
      clear hkw hlt
      go_wp2_with fail
      go_ret
      exact ⟨rfl, HKW.out⟩
def U64Out (w : World) (l : List Nat) (r : Ending) (w' : World) : Prop := Keep [] w w' ∧ ∃ v, r = .returned v ∧ w'.ownsRow w.heap.size 25 1 v l.length (u64L l)
set_option maxHeartbeats 1000000 in
theorem clone_u64 (w : World) (A : Option Addr) (l : List Nat) (cap : Nat) (h : U64At w anyBl A l) (hl : l.length ≤ 1000) :
    Calls Tryd.prog 25 #[.slice A l.length cap] w (U64Out w l) := by
  have HL := Lib.hid hl
  have HB := Lib.hid h
  clear h hl
  have q := fun (w : World) (a : Option Addr) (n c n' c' : Nat) => Lib.run_eql_slice_nil (P := Tryd.prog) w _ _ a n c n' c' Tryd.underlying22
  rcases A with _ | a
  · have hz : l.length = 0 := by
      rcases Nat.eq_zero_or_pos l.length with h | h
      · exact h
      · obtain ⟨b, o, h1, _⟩ := HB.out h
        cases h1
    obtain rfl : l = [] := List.eq_nil_of_length_eq_zero hz
    go_enter Tryd.func25, Tryd.ntmps25
    go_wp2
    go_ret
    exact ⟨Keep.refl _ _, _, rfl, rfl, .inl ⟨rfl, rfl⟩⟩
  · have hsrc : Hid (Reads (w.alloc (.cells #[] 25)) (w.heap.size + 1) 1 (some a) l.length (u64L l)) := Lib.hid ((HB.out.reads.alloc (Nat.le_refl _) _).more (by omega))
    clear HB
    go_enter Tryd.func25, Tryd.ntmps25
    go_wp2_with (at_builtin; obtain ⟨i0, hi, hz0, hz1, hz2⟩ := info_partsT infoU; refine wpList_append_any _ rfl _ _ 22 rfl w.heap.size 25 i0 (.int .u64 0) 1 8 Tryd.underlying22 hi hz0 hz1 hz2 rfl (by decide) (.slice (some ⟨w.heap.size, 0, none⟩) 0 0) 0 [] rfl (World.ownsRow_made w #[] 0 (Nat.le_refl _) (by unfold maxLen; omega) rfl) _ (some a) l.length cap (u64L l) rfl hsrc.out (u64L_one l) (by have := HL.out; unfold maxLen; omega) (by have := HL.out; omega) (by simp) ?_; clear hi hz0 hz1 hz2; intro v' w1 hown hg _; have HW := Lib.hid hown; have HK := Lib.hid (((Keep.refl [] w).alloc (.cells #[] 25)).trans (Keep.of_grown hg) (fun y hy => .inr (by simp [Value.ownBlock] at hy; omega))); clear hown hg)
    go_ret
    exact ⟨HK.out, _, rfl, by simpa using HW.out⟩

/-- A row that a call holds and writes into, k changes on. -/
structure RepR (w wr : World) (l : List Nat) (ls : List ChS) (k : Nat) (v : Value) : Prop where
  hk : Keep [] w wr
  own : wr.ownsRow w.heap.size 25 1 v l.length (u64L (replayR l (ls.take k)))
theorem zeroCh (w : World) : (zeroValue 27).run Tryd.prog w = .ok (.agg #[.int .i64 0, .int .u64 0, .int .u64 0]) w := by kernel_rfl
set_option maxHeartbeats 2000000 in
theorem trace_replay (w : World) (A B : Option Addr) (ca cb : Nat) (l : List Nat) (ls : List ChS) (ha : U64At w anyBl A l) (hb : ChAt w B ls) (hl : l.length ≤ 1000) (hls : ls.length ≤ 1000) :
    Calls Tryd.prog 8 #[.slice A l.length ca, .slice B ls.length cb] w (U64Out w (replayR l ls)) := by
  have KC := Lib.hid (clone_u64 w A l ca ha hl)
  have HB := Lib.hid hb
  have HL := Lib.hid hl
  have HLS := Lib.hid hls
  have HLR : Hid (∀ k, (replayR l (ls.take k)).length = l.length) := Lib.hid (fun k => replayR_length _ _)
  clear ha hb hl hls
  go_enter Tryd.func8, Tryd.ntmps8
  go_wp2_with fail
  refine KC.out.mono ?_
  rintro r x ⟨hk, v, rfl, hown⟩
  have HR0 : Hid (RepR w x l ls 0 v) := Lib.hid ⟨hk, by simpa [replayR] using hown⟩
  obtain ⟨A0, c0, rfl⟩ := own_form hown
  clear hk hown KC
  go_wp2_with fail
  go_loopg [12] ls.length (fun g v12 wr => ∃ k : Nat, k ≤ ls.length ∧ g = ls.length - k ∧ v12 = .int .i64 (k : Nat) ∧ RepR w wr l ls k (.slice A0 l.length c0))
  case atStart => exact ⟨0, Nat.zero_le _, rfl, rfl, HR0.out⟩
  case round =>
    obtain ⟨k, hk, rfl, rfl, hr⟩ := hrel
    have HR := Lib.hid hr
    have hk0 : (0 : Int) ≤ ((k : Nat) : Int) := by omega
    have hk9 : ((k : Nat) : Int) ≤ 1000 := by have := HLS.out; omega
    by_cases hlt : k < ls.length
    · have hz : ((k : Nat) : Int) < ((ls.length : Nat) : Int) := by omega
      obtain ⟨b, ob, hB, _, h0, h1, h2⟩ := (HB.out.keep0 hr.hk).at_ hlt
      subst hB
      have HNX : Hid (replayR l (ls.take (k + 1)) = stepR (replayR l (ls.take k)) (ls.getD k ChS.zero)) := Lib.hid (replayR_next l ls hlt)
      generalize ls.getD k ChS.zero = c at *
      obtain ⟨cp, cw, cn⟩ := c
      simp only at h0 h1 h2
      clear hr hlt
      go_upto_region 5 with fail
      have HN := Lib.hid (Blk.new wr 27 #[.int .i64 cp, .int .u64 (cw : Nat), .int .u64 (cn : Nat)])
      have HKN := Lib.hid ((Keep.refl [] wr).alloc (.cells #[.int .i64 cp, .int .u64 (cw : Nat), .int .u64 (cn : Nat)] 27))
      have HGN : Hid (∀ g, Value.ownBlock (.slice A0 l.length c0) = some g → g ≠ wr.heap.size) := Lib.hid (fun g hg e => by have := own_lt HR.out.own hg; omega)
      generalize wr.heap.size = nb at HN HGN ⊢
      generalize wr.alloc (.cells #[.int .i64 cp, .int .u64 (cw : Nat), .int .u64 (cn : Nat)] 27) = w1 at HN HKN ⊢
      have HO := Lib.hid (own_keep HR.out.own HKN.out (by simp))
      have HKW := Lib.hid (HR.out.hk.trans HKN.out (by simp))
      clear h0 h1 h2 HR HKN
      have h0 : w1.cell? ⟨nb, 0, none⟩ = some (.int .i64 cp) := HN.out.cell 0
      have h1 : w1.cell? ⟨nb, 1, none⟩ = some (.int .u64 (cw : Nat)) := HN.out.cell 1
      have h2 : w1.cell? ⟨nb, 2, none⟩ = some (.int .u64 (cn : Nat)) := HN.out.cell 2
      clear HN
      have HLK := HLR.out k
      generalize replayR l (ls.take k) = us at *
      have HLK2 := Lib.hid HLK
      clear HLK
      by_cases hin : 0 ≤ cp ∧ cp < (l.length : Int)
      · obtain ⟨p, rfl⟩ : ∃ p : Nat, cp = (p : Int) := ⟨cp.toNat, by omega⟩
        obtain ⟨_, hp⟩ := hin
        have hp0 : (0 : Int) ≤ ((p : Nat) : Int) := by omega
        obtain ⟨g, c, hA, _, _⟩ := own_some HO.out (by omega)
        injection hA with hA _ hc
        subst hA hc
        have hng : g ≠ nb := HGN.out g rfl
        have hcl := own_cell HO.out (k := p) (by omega)
        rw [u64L_get us (by have := HLK2.out; omega)] at hcl
        have hfz := own_thaw HO.out p
        have HPL : Hid (p < l.length) := Lib.hid (by omega)
        generalize hx : us.getD p 0 = x at hcl
        have HX := Lib.hid hx
        clear hx
        by_cases hw : x = cw
        · have hxb : (((x : Nat) : Int) == ((cw : Nat) : Int)) = true := by rw [hw]; simp
          have HS : Hid (stepR us ⟨p, cw, cn⟩ = us.set p cn) := Lib.hid (by
            unfold stepR
            rw [if_pos ⟨by omega, by have := HLK2.out; show ((p : Nat) : Int) < _; omega, by show us.getD (Int.toNat (p : Nat)) 0 = cw; rw [Int.toNat_natCast, HX.out, hw]⟩]
            rfl)
          clear hw
          go_quiet (fail)
          go_wp2_with fail
          go_roundg (ls.length - (k + 1))
          case measure => omega
          case rel =>
            refine ⟨k + 1, by omega, rfl, by go_num, ⟨?_, ?_⟩⟩
            · exact (HKW.out.drewN _).set_ _ (.inr (by have := own_ge HO.out (g := g) rfl; exact this))
            · rw [HNX.out, HS.out, ← u64L_set]
              exact own_put (own_keep HO.out ((Keep.refl [] _).drewN _) (by simp)) _
        · have hxb : (((x : Nat) : Int) == ((cw : Nat) : Int)) = false := by rw [beq_eq_false_iff_ne]; omega
          have HS : Hid (stepR us ⟨p, cw, cn⟩ = us) := Lib.hid (by
            unfold stepR
            rw [if_neg]
            rintro ⟨_, _, h3⟩
            rw [show (ChS.mk p cw cn).p.toNat = p from Int.toNat_natCast _, HX.out] at h3
            exact hw h3)
          clear hw
          go_quiet (fail)
          go_wp2_with fail
          go_roundg (ls.length - (k + 1))
          case measure => omega
          case rel => exact ⟨k + 1, by omega, rfl, by go_num, HKW.out.drewN _, by rw [HNX.out, HS.out]; exact own_keep HO.out ((Keep.refl [] _).drewN _) (by simp)⟩
      · have HS : Hid (stepR us ⟨cp, cw, cn⟩ = us) := Lib.hid (by
          unfold stepR
          rw [if_neg]
          rintro ⟨h1, h2, _⟩
          exact hin ⟨h1, by have := HLK2.out; rw [← HLK2.out]; exact h2⟩)
        by_cases hn : cp < 0
        · have hz0 : decide (cp ≥ 0) = false := decide_eq_false (by omega)
          have hz1 : ¬ (0 : Int) ≤ cp := by omega
          clear hin
          go_quiet (fail)
          go_wp2_with fail
          go_roundg (ls.length - (k + 1))
          case measure => omega
          case rel => exact ⟨k + 1, by omega, rfl, by go_num, HKW.out.drewN _, by rw [HNX.out, HS.out]; exact own_keep HO.out ((Keep.refl [] _).drewN _) (by simp)⟩
        · have hz0 : (0 : Int) ≤ cp := by omega
          have hz1 : ¬ cp < ((l.length : Nat) : Int) := by omega
          clear hin
          go_quiet (fail)
          go_wp2_with fail
          go_roundg (ls.length - (k + 1))
          case measure => omega
          case rel => exact ⟨k + 1, by omega, rfl, by go_num, HKW.out.drewN _, by rw [HNX.out, HS.out]; exact own_keep HO.out ((Keep.refl [] _).drewN _) (by simp)⟩
    · have hz : ¬ ((k : Nat) : Int) < ((ls.length : Nat) : Int) := by omega
      obtain rfl : k = ls.length := by omega
      have HR2 : Hid (Keep [] w wr ∧ wr.ownsRow w.heap.size 25 1 (.slice A0 l.length c0) (replayR l ls).length (u64L (replayR l ls))) := Lib.hid ⟨hr.hk, by
        have := hr.own
        rw [List.take_length] at this
        rw [show (replayR l ls).length = l.length from replayR_length _ _]
        exact this⟩
      clear hr hlt HR
      go_wp2_with fail
      go_ret
      exact ⟨HR2.out.1, _, rfl, HR2.out.2⟩
end Go.Proofs.YtnhkjfknhponkaaDoor
