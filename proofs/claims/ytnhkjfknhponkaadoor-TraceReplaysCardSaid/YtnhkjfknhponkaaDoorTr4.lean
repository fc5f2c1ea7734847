/- TraceReplays: the law's walk. No condition. -/
import Derived.Test.YtnhkjfknhponkaaDoorTr3
namespace Go.Proofs.YtnhkjfknhponkaaDoor
open Go.RowKit

set_option maxHeartbeats 1000000 in
theorem replays_long (A B : Option Addr) (n m ca cb : Nat) (w : World) (h : 200 < n ∨ 200 < m) : Calls Tryd.prog 3 #[.slice A n ca, .slice B m cb] w (LivesOut w) := by
  by_cases h1 : 200 < n
  · have hz : (200 : Int) < ((n : Nat) : Int) := by omega
    clear h h1
    go_enter Tryd.func3, Tryd.ntmps3
    go_wp2_with fail
    refine (lives40 _).mono ?_
    rintro r y ⟨rfl, hk⟩
    go_wp2_with fail
    go_ret
    exact ⟨rfl, hk⟩
  · have hz : ¬ (200 : Int) < ((n : Nat) : Int) := by omega
    have hz2 : (200 : Int) < ((m : Nat) : Int) := by omega
    clear h h1
    go_enter Tryd.func3, Tryd.ntmps3
    go_wp2_with fail
    refine (lives40 _).mono ?_
    rintro r y ⟨rfl, hk⟩
    go_wp2_with fail
    go_ret
    exact ⟨rfl, hk⟩
/-- What the law holds: its two copies. -/
structure TwoR (w wr : World) (l us : List Nat) (v5 v6 : Value) : Prop where
  hk : Keep [] w wr
  was : wr.ownsRow w.heap.size 25 1 v5 l.length (u64L l)
  out : wr.ownsRow w.heap.size 25 1 v6 l.length (u64L us)
  ne : ∀ g, v5.ownBlock = some g → v6.ownBlock ≠ some g
theorem TwoR.keep {w wr w2 : World} {l us : List Nat} {v5 v6 : Value} (h : TwoR w wr l us v5 v6) (hk : Keep [] wr w2) : TwoR w w2 l us v5 v6 :=
  ⟨h.hk.trans hk (by simp), own_keep h.was hk (by simp), own_keep h.out hk (by simp), h.ne⟩
theorem TwoR.put {w wr : World} {l us : List Nat} {v5 : Value} {g n c k x : Nat} (h : TwoR w wr l us v5 (.slice (some ⟨g, 0, none⟩) l.length c)) (_ : n = 0) : TwoR w (wr.setCell ⟨g, k, none⟩ (.int .u64 (x : Nat))) l (us.set k x) v5 (.slice (some ⟨g, 0, none⟩) l.length c) :=
  ⟨h.hk.set_ _ (.inr (own_ge h.out (g := g) rfl)), own_same h.was fun b hb => (Below.heap_setCell wr ⟨g, k, none⟩ _ b (fun e => h.ne b hb (by rw [show b = g from e]; rfl))), by rw [← u64L_set]; exact own_put h.out _, h.ne⟩
set_option maxHeartbeats 4000000 in
theorem replays_main (A B : Option Addr) (ca cb : Nat) (l : List Nat) (ls : List ChS) (w : World) (ha : U64At w anyBl A l) (hb : ChAt w B ls) (hl : l.length ≤ 200) (hls : ls.length ≤ 200) : Calls Tryd.prog 3 #[.slice A l.length ca, .slice B ls.length cb] w (LivesOut w) := by
  have hz : ¬ (200 : Int) < ((l.length : Nat) : Int) := by omega
  have hz2 : ¬ (200 : Int) < ((ls.length : Nat) : Int) := by omega
  have HA := Lib.hid ha
  have HB := Lib.hid hb
  have HL := Lib.hid hl
  have HLS := Lib.hid hls
  have HLR : Hid (∀ k, (replayR l (ls.take k)).length = l.length) := Lib.hid (fun k => replayR_length _ _)
  clear ha hb hl hls
  have HR1 : Hid (Reads (w.alloc (.cells #[] 25)) (w.heap.size + 1) 1 A l.length (u64L l)) := Lib.hid ((HA.out.reads.alloc (Nat.le_refl _) _).more (by omega))
  go_enter Tryd.func3, Tryd.ntmps3
  go_upto_region 4 with (at_builtin; obtain ⟨i0, hi, hz0, hz1, hz2⟩ := info_partsT infoU; refine wpList_append_any _ rfl (.tmp 18) (.tmp 19) 22 rfl w.heap.size 25 i0 (.int .u64 0) 1 8 Tryd.underlying22 hi hz0 hz1 hz2 rfl (by decide) (.slice (some ⟨w.heap.size, 0, none⟩) 0 0) 0 [] rfl (World.ownsRow_made w #[] 0 (Nat.le_refl _) (by unfold maxLen; omega) rfl) _ A l.length ca (u64L l) rfl HR1.out (u64L_one l) (by have := HL.out; unfold maxLen; omega) (by have := HL.out; omega) (by simp) ?_; clear hi hz0 hz1 hz2; intro v5 w1 hown hg _; have HW5 := Lib.hid hown; have HK := Lib.hid (((Keep.refl [] w).alloc (.cells #[] 25)).trans (Keep.of_grown hg) (fun y hy => .inr (by simp [Value.ownBlock] at hy; omega))); clear hown hg)
  rw [Nat.zero_add, List.nil_append] at HW5
  have HR2 : Hid (Reads (w1.alloc (.cells #[] 25)) (w1.heap.size + 1) 1 A l.length (u64L l)) := Lib.hid ((((HA.out.keep0 HK.out).reads).alloc (Nat.le_refl _) _).more (by omega))
  clear HR1
  have HA1 := Lib.hid (HA.out.keep0 HK.out)
  go_upto_region 5 with (at_builtin; obtain ⟨i1, hi, hz0, hz1, hz2⟩ := info_partsT infoU; refine wpList_append_any _ rfl (.tmp 21) (.tmp 22) 22 rfl w1.heap.size 25 i1 (.int .u64 0) 1 8 Tryd.underlying22 hi hz0 hz1 hz2 rfl (by decide) (.slice (some ⟨w1.heap.size, 0, none⟩) 0 0) 0 [] rfl (World.ownsRow_made w1 #[] 0 (Nat.le_refl _) (by unfold maxLen; omega) rfl) _ A l.length ca (u64L l) rfl HR2.out (u64L_one l) (by have := HL.out; unfold maxLen; omega) (by have := HL.out; omega) (by simp) ?_; clear hi hz0 hz1 hz2; intro v6 w2 hown hg _; have HW6 := Lib.hid hown; have HK2 := Lib.hid (((Keep.refl [] w1).alloc (.cells #[] 25)).trans (Keep.of_grown hg) (fun y hy => .inr (by simp [Value.ownBlock] at hy; omega))); clear hown hg)
  rw [Nat.zero_add, List.nil_append] at HW6
  clear HR2 HA1
  have HT : Hid (TwoR w w2 l (replayR l (ls.take 0)) v5 v6) := Lib.hid ⟨HK.out.trans HK2.out (by simp), own_keep HW5.out HK2.out (by simp), own_more HW6.out HK.out.size, fun g h1 h2 => by
    have a1 := own_lt HW5.out h1
    have a2 := own_ge HW6.out h2
    omega⟩
  obtain ⟨A5, c5, rfl⟩ := own_form HT.out.was
  obtain ⟨A6, c6, rfl⟩ := own_form HT.out.out
  clear HK HK2 HW5 HW6
  go_wp2_with fail
  go_loopg [7] ls.length (fun g v7 wr => ∃ k : Nat, k ≤ ls.length ∧ g = ls.length - k ∧ v7 = .int .i64 (k : Nat) ∧ TwoR w wr l (replayR l (ls.take k)) (.slice A5 l.length c5) (.slice A6 l.length c6))
  case atStart => exact ⟨0, Nat.zero_le _, rfl, rfl, HT.out⟩
  case round =>
    obtain ⟨k, hk, rfl, rfl, ht⟩ := hrel
    have HT1 := Lib.hid ht
    have hk0 : (0 : Int) ≤ ((k : Nat) : Int) := by omega
    have hk9 : ((k : Nat) : Int) ≤ 200 := by have := HLS.out; omega
    clear ht HT
    by_cases hlt : k < ls.length
    · have hzk : ((k : Nat) : Int) < ((ls.length : Nat) : Int) := by omega
      have HB1 := Lib.hid (fun (W : World) (hW : Keep [] w W) => (HB.out.keep0 hW).at_ hlt)
      have HNX : Hid (replayR l (ls.take (k + 1)) = stepR (replayR l (ls.take k)) (ls.getD k ChS.zero)) := Lib.hid (replayR_next l ls hlt)
      have HLK : Hid ((replayR l (ls.take k)).length = l.length) := Lib.hid (HLR.out k)
      generalize replayR l (ls.take k) = us at *
      generalize ls.getD k ChS.zero = c at *
      have HLT := Lib.hid hlt
      clear hlt
      go_wp2_with fail
      go_loopg [8] l.length (fun g v8 wr2 => ∃ j : Nat, j ≤ l.length ∧ g = l.length - j ∧ v8 = .int .i64 (j : Nat) ∧ TwoR w wr2 l (stepTo us c j) (.slice A5 l.length c5) (.slice A6 l.length c6))
      case atStart => exact ⟨0, Nat.zero_le _, rfl, rfl, by rw [stepTo_zero]; exact HT1.out⟩
      case round =>
        obtain ⟨j, hj, rfl, rfl, ht⟩ := hrel
        have HT2 := Lib.hid ht
        have hj0 : (0 : Int) ≤ ((j : Nat) : Int) := by omega
        have hj9 : ((j : Nat) : Int) ≤ 200 := by have := HL.out; omega
        by_cases hjl : j < l.length
        · have hzj : ((j : Nat) : Int) < ((l.length : Nat) : Int) := by omega
          obtain ⟨b, ob, hB, _, h0, h1, h2⟩ := HB1.out _ ht.hk
          subst hB
          obtain ⟨g6, d6, hA, _, _⟩ := own_some ht.out (by omega)
          injection hA with hA _ hd
          subst hA hd
          have HJL := Lib.hid hjl
          clear ht hjl HT1
          by_cases hp : ((j : Nat) : Int) = c.p
          · have hpb : (((j : Nat) : Int) == c.p) = true := by rw [hp]; simp
            have HST : Hid (stepTo us c j = us) := Lib.hid (stepTo_at us c hp)
            have hcl := own_cell HT2.out.out HJL.out
            rw [HST.out, u64L_get us (by have := HLK.out; have := HJL.out; omega)] at hcl
            have hfz := own_thaw HT2.out.out j
            have HP := Lib.hid hp
            clear hp
            generalize hx : us.getD j 0 = x at hcl
            have HX := Lib.hid hx
            clear hx
            by_cases hw : x = c.was
            · have hxb : (((x : Nat) : Int) == ((c.was : Nat) : Int)) = true := by rw [hw]; simp
              have HN : Hid (stepTo us c (j + 1) = us.set j c.now) := Lib.hid (stepTo_hit us c HP.out (by have := HLK.out; have := HJL.out; omega) (by rw [HX.out, hw]))
              clear hw
              go_upto_region 11 with fail
              go_quiet (fail)
              go_wp2_with fail
              go_roundg (l.length - (j + 1))
              case measure => have := HJL.out; omega
              case rel => exact ⟨j + 1, by have := HJL.out; omega, rfl, by go_num, by rw [HN.out]; have h9 := HT2.out; rw [HST.out] at h9; exact (h9.keep ((Keep.refl [] _).drewN _)).put (n := 0) rfl⟩
            · have hxb : (((x : Nat) : Int) == ((c.was : Nat) : Int)) = false := by rw [beq_eq_false_iff_ne]; omega
              have HN : Hid (stepTo us c (j + 1) = us) := Lib.hid (stepTo_no us c HP.out (by rw [HX.out]; exact hw))
              clear hw
              go_upto_region 11 with fail
              go_quiet (fail)
              go_wp2_with fail
              go_roundg (l.length - (j + 1))
              case measure => have := HJL.out; omega
              case rel => exact ⟨j + 1, by have := HJL.out; omega, rfl, by go_num, by rw [HN.out]; have h9 := HT2.out; rw [HST.out] at h9; exact h9.keep ((Keep.refl [] _).drewN _)⟩
          · have hpb : (((j : Nat) : Int) == c.p) = false := by rw [beq_eq_false_iff_ne]; exact hp
            have HN : Hid (stepTo us c (j + 1) = stepTo us c j) := Lib.hid (stepTo_miss us c hp)
            clear hp
            go_upto_region 11 with fail
            go_quiet (fail)
            go_wp2_with fail
            go_roundg (l.length - (j + 1))
            case measure => have := HJL.out; omega
            case rel => exact ⟨j + 1, by have := HJL.out; omega, rfl, by go_num, by rw [HN.out]; exact HT2.out.keep ((Keep.refl [] _).drewN _)⟩
        · have hzj : ¬ ((j : Nat) : Int) < ((l.length : Nat) : Int) := by omega
          have HE : Hid (stepTo us c j = stepR us c) := Lib.hid (stepTo_all us c (by have := HLK.out; omega))
          clear ht hjl HT1
          go_wp2_with fail
          go_roundg (ls.length - (k + 1))
          case measure => have := HLT.out; omega
          case rel => exact ⟨k + 1, HLT.out, rfl, by go_num, by rw [HNX.out, ← HE.out]; exact HT2.out⟩
    · have hzk : ¬ ((k : Nat) : Int) < ((ls.length : Nat) : Int) := by omega
      obtain rfl : k = ls.length := by omega
      have HTE : Hid (TwoR w wr l (replayR l ls) (.slice A5 l.length c5) (.slice A6 l.length c6)) := Lib.hid (by have := HT1.out; rw [List.take_length] at this; exact this)
      have HLQ : Hid ((replayR l ls).length = l.length) := Lib.hid (replayR_length _ _)
      have KR := Lib.hid (trace_replay wr A B ca cb l ls (HA.out.keep0 HTE.out.hk) (HB.out.keep0 HTE.out.hk) (by have := HL.out; omega) (by have := HLS.out; omega))
      clear hlt HT1
      go_wp2_with fail
      refine KR.out.mono ?_
      rintro r x ⟨hk, v, rfl, hown⟩
      obtain ⟨A3, c3, rfl⟩ := own_form hown
      rw [HLQ.out] at hown
      have HTX := Lib.hid (HTE.out.keep hk)
      have HO3 := Lib.hid hown
      clear hk hown KR
      generalize replayR l ls = us at *
      rw [HLQ.out]
      have K1 := Lib.hid (law40_words x A3 A6 c3 c6 us ((U64At.of_own (by rw [HLQ.out]; exact HO3.out)).mono fun _ _ _ => trivial) ((U64At.of_own (by rw [HLQ.out]; exact HTX.out.out)).mono fun _ _ _ => trivial) (by have := HLQ.out; have := HL.out; omega))
      rw [HLQ.out] at K1
      go_wp2_with fail
      refine K1.out.mono ?_
      rintro r y ⟨rfl, hk⟩
      have HTY := Lib.hid (HTX.out.keep hk)
      clear hk K1
      have K2 := Lib.hid (law40_words y A A5 ca c5 l (HA.out.keep0 HTY.out.hk) ((U64At.of_own HTY.out.was).mono fun _ _ _ => trivial) (by have := HL.out; omega))
      go_wp2_with fail
      refine K2.out.mono ?_
      rintro r z ⟨rfl, hk⟩
      have HTZ := Lib.hid (HTY.out.keep hk)
      clear hk K2
      go_wp2_with fail
      refine (lives40 _).mono ?_
      rintro r z2 ⟨rfl, hk⟩
      have HKZ := Lib.hid (HTZ.out.hk.trans hk (by simp))
      clear hk
      go_wp2_with fail
      go_ret
      exact ⟨rfl, HKZ.out⟩
end Go.Proofs.YtnhkjfknhponkaaDoor
