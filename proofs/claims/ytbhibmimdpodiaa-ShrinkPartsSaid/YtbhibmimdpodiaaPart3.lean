/- ShrinkParts' law by its contract: it answers true. Condition: the entries are known. -/
import Derived.Test.YtbhibmimdpodiaaPart2
import Derived.Test.YtbhibmimdpodiaaShr3
namespace Go.Proofs.Ytbhibmimdpodiaa
open Go.RowKit

theorem own_put {w : World} {base g cap i : Nat} {bk : List EntS} {x : EntS} (h : w.ownsRow base 43 7 (.slice (some ⟨g, 0, none⟩) bk.length cap) bk.length (entL bk)) (hi : i < bk.length) : (w.setCells g (i * 7) x.cells).ownsRow base 43 7 (.slice (some ⟨g, 0, none⟩) (bk.set i x).length cap) (bk.set i x).length (entL (bk.set i x)) := by
  obtain ⟨_, ⟨h1, _⟩ | ⟨g', c, cur, hv, hb, hh, hc, hcm, hcs, ht⟩⟩ := h
  · cases h1
  · injection hv with e1 _ e3
    injection e1 with e1
    injection e1 with e1
    subst e1 e3
    have hb1 : bk.set i x = bk.take i ++ (x :: bk.drop (i + 1)) := by rw [List.set_eq_take_append_cons_drop, if_pos hi]
    have hb0 : bk = bk.take i ++ (bk[i] :: bk.drop (i + 1)) := by rw [← List.drop_eq_getElem_cons hi, List.take_append_drop]
    have hl0 : (entL (bk.take i)).length = i * 7 := by rw [entL_len, List.length_take]; congr 1; omega
    have e : cur = (entL (bk.take i) ++ ((bk[i]).cells ++ (entL (bk.drop (i + 1)) ++ cur.toList.drop (bk.length * 7)))).toArray := by
      apply Array.ext'
      show cur.toList = entL (bk.take i) ++ ((bk[i]).cells ++ (entL (bk.drop (i + 1)) ++ cur.toList.drop (bk.length * 7)))
      have e2 : entL bk = entL (bk.take i) ++ ((bk[i]).cells ++ entL (bk.drop (i + 1))) := by
        have : entL bk = entL (bk.take i ++ (bk[i] :: bk.drop (i + 1))) := by rw [← hb0]
        rw [this, entL_app]
        rfl
      rw [← List.append_assoc, ← List.append_assoc, List.append_assoc (entL (bk.take i)), ← e2, ← ht, List.take_append_drop]
    have hh' := hh
    rw [e] at hh'
    have h2 := Blk.setCells x.cells _ _ _ w hh' rfl
    rw [hl0] at h2
    have e3 : entL (bk.take i) ++ (x.cells ++ (entL (bk.drop (i + 1)) ++ cur.toList.drop (bk.length * 7))) = entL (bk.set i x) ++ cur.toList.drop (bk.length * 7) := by
      rw [hb1, entL_app]
      show _ = (entL (bk.take i) ++ (x.cells ++ entL (bk.drop (i + 1)))) ++ _
      simp
    rw [e3] at h2
    refine ⟨entL_len _, .inr ⟨g, cap, _, rfl, hb, h2, by simpa using hc, hcm, ?_, ?_⟩⟩
    · have hd : cur.toList.length = cap * 7 := by simpa using hcs
      simp [entL_len, hcs]
      omega
    · show (entL (bk.set i x) ++ cur.toList.drop (bk.length * 7)).take _ = _
      rw [← entL_len, List.take_left']
      rfl
theorem own_cell {w : World} {base g cap i : Nat} {bk : List EntS} (h : w.ownsRow base 43 7 (.slice (some ⟨g, 0, none⟩) bk.length cap) bk.length (entL bk)) (hi : i < bk.length) : ∀ j, j < 7 → (w.cell? ⟨g, i * 7 + j, none⟩).isSome = true ∧ w.frozen? ⟨g, i * 7 + j, none⟩ = false := by
  intro j hj
  obtain ⟨cs, hb⟩ := own_blk h (g := g) rfl
  refine ⟨?_, hb.frozen _⟩
  have hl : i * 7 + j < (entL bk).length := by rw [entL_len]; omega
  have := h.cells (g := g) rfl (i * 7 + j) _ (List.getElem?_eq_getElem hl)
  rw [Addr_add_zero] at this
  rw [this]
  rfl
set_option maxHeartbeats 2000000 in
theorem shrinkParts_any (w : World) (c : Int × Int × Int) (f m : Int) (A : Option Addr) (l : List EntS) (cap : Nat) (hE : EntAt w anyB A l) (hl2 : l.length ≤ maxLen) :
    Calls Try.prog 4 #[scriptV c (.slice A l.length cap), .int .i64 f, .int .i64 m] w fun r w' => r = .returned (.bool true) ∧ Keep [] w w' := by
  have HK := Lib.hid ((Keep.refl [] w).alloc (.cells #[.int .i64 c.1, .int .i64 c.2.1, .int .u64 c.2.2, .slice A l.length cap] 27))
  have HS := Lib.hid (Blk.new w 27 #[.int .i64 c.1, .int .i64 c.2.1, .int .u64 c.2.2, .slice A l.length cap])
  have HE := Lib.hid (hE.keep0 HK.out)
  unfold maxLen at hl2
  clear hE
  unfold scriptV
  go_enter Try.func4, Try.ntmps4
  go_upto_region 1 with fail
  generalize w.heap.size = sb at HS ⊢
  generalize w.alloc (.cells #[.int .i64 c.1, .int .i64 c.2.1, .int .u64 c.2.2, .slice A l.length cap] 27) = w1 at HK HS HE ⊢
  have hs0 := HS.out.cell 0
  have hs1 := HS.out.cell 1
  have hs2 := HS.out.cell 2
  have hs3 := HS.out.cell 3
  by_cases hl : 200 < l.length
  · have hz : (200 : Int) < ((l.length : Nat) : Int) := by omega
    have hz2 : ((l.length : Nat) : Int) ≤ 9223372036854775807 := by omega
    go_wp2_with (go_at_call 9; refine (law42_lives _).mono ?_; rintro r y ⟨rfl, hk⟩; have HK3 := Lib.hid hk; clear hk)
    go_ret
    exact ⟨rfl, HK.out.trans HK3.out (by simp)⟩
  · have hz : ¬ (200 : Int) < ((l.length : Nat) : Int) := by omega
    have hl3 : l.length ≤ 200 := by omega
    clear hl2
    have KW := Lib.hid (shrink_without w1 c A l cap anyB HE.out (by omega) f m)
    generalize hwl : woL l (cutF l.length f) (cutM l.length f m) = wl at KW
    have HWL := Lib.hid hwl
    have hwll : wl.length ≤ l.length + l.length := by rw [← hwl]; exact wo_le _ _
    have HSUB : Hid (wl.isSublist l = true) := Lib.hid (by rw [← hwl]; exact wo_sub l _ _)
    clear hwl
    unfold scriptV at KW
    go_wp2_with fail
    refine KW.out.mono ?_
    rintro r x ⟨hk, v, rfl, hown⟩
    obtain ⟨A2, c2, rfl⟩ := own_form hown
    obtain ⟨hc2, hc2m⟩ := own_cap hown
    have HE2 := Lib.hid ((EntAt.of_own hown).mono (ok' := anyB) (fun _ _ _ => trivial))
    have HC2 := Lib.hid (And.intro hc2 hc2m)
    have HKx := Lib.hid hk
    clear hs0 hs1 hs2 hs3 hk hown KW hc2 hc2m
    unfold scriptV
    go_upto_region 4 with fail
    have HX := Lib.hid (Blk.new x 27 #[.int .i64 c.1, .int .i64 c.2.1, .int .u64 c.2.2, .slice A2 wl.length c2])
    have HK2 := Lib.hid (HKx.out.alloc (.cells #[.int .i64 c.1, .int .i64 c.2.1, .int .u64 c.2.2, .slice A2 wl.length c2] 27))
    have HE3 := Lib.hid (HE2.out.keep0 ((Keep.refl [] x).alloc (.cells #[.int .i64 c.1, .int .i64 c.2.1, .int .u64 c.2.2, .slice A2 wl.length c2] 27)))
    generalize x.heap.size = xb at HX ⊢
    generalize x.alloc (.cells #[.int .i64 c.1, .int .i64 c.2.1, .int .u64 c.2.2, .slice A2 wl.length c2] 27) = w2 at HX HK2 HE3 ⊢
    clear HKx HE2
    have HS2 := Lib.hid (HS.out.keep HK2.out (by simp))
    have hs3 := HS2.out.cell 3
    have hsl := HS2.out.lt
    have hslne : w2.heap.size ≠ sb := fun e => by omega
    have hslne2 : sb ≠ w2.heap.size := fun e => by omega
    have HEA := Lib.hid ((HE.out.keep0 HK2.out).keep0 ((Keep.refl [] w2).alloc (.cells #[] 43)))
    go_wp2_with (at_builtin; obtain ⟨i0, hi, hz0, hz1, hz2⟩ := info_parts infoEnt; refine wpList_append_any _ rfl (.tmp 19) (.tmp 21) 25 rfl w2.heap.size 43 i0 (.agg #[.int .i64 0, .bool false, .int .i64 0, .int .i64 0, .int .i64 0, .int .i64 0, .int .i64 0]) 7 56 Try.underlying25 hi hz0 hz1 hz2 rfl (by decide) (.slice (some ⟨w2.heap.size, 0, none⟩) 0 0) 0 [] rfl (World.ownsRow_made w2 #[] 0 (Nat.le_refl _) (by unfold maxLen; omega) rfl) _ A l.length cap (entL l) rfl HEA.out.reads (entL_one l) (by unfold maxLen; omega) (by omega) (by simp) ?_; clear hi hz0 hz1 hz2; intro v' w3 hown hg _; have HW := Lib.hid hown; have HK3 := Lib.hid (((Keep.refl [] w2).alloc (.cells #[] 43)).trans (Keep.of_grown hg) (fun y hy => .inr (by simp [Value.ownBlock] at hy; omega))); clear hown hg)
    obtain ⟨A8, c8, rfl⟩ := own_form HW.out
    have HW0 := Lib.hid (show w3.ownsRow w2.heap.size 43 7 (.slice A8 l.length c8) l.length (entL l) by have := HW.out; simpa using this)
    rw [Nat.zero_add]
    clear HW hs3 HEA
    go_loopg [9] (l.length / 2) (fun g q wr => ∃ (k : Nat) (bk : List EntS), k ≤ l.length / 2 ∧ g = l.length / 2 - k ∧ q = .int .i64 (k : Nat) ∧ bk.length = l.length ∧ wr.ownsRow w2.heap.size 43 7 (.slice A8 l.length c8) l.length (entL bk) ∧ Keep [] w2 wr)
    case atStart => exact ⟨0, l, Nat.zero_le _, rfl, rfl, rfl, HW0.out, HK3.out⟩
    case round =>
      obtain ⟨k, bk, hk, rfl, rfl, hbl, hown, hkk⟩ := hrel
      have HOW := Lib.hid hown
      have HKW := Lib.hid hkk
      have HBL := Lib.hid hbl
      clear hown hkk HW0 hbl
      have hz0 : (0 : Int) ≤ ((k : Nat) : Int) := by omega
      have hzl : ((l.length : Nat) : Int) ≤ 200 := by omega
      have hs3 : wr.cell? ⟨sb, 3, none⟩ = some (.slice A l.length cap) := (HS2.out.keep HKW.out (by simp)).cell 3
      by_cases hlt : k < l.length / 2
      · have hz1 : ((k : Nat) : Int) < ((l.length : Nat) : Int) / 2 := by omega
        obtain ⟨g, rfl⟩ : ∃ g, A8 = some ⟨g, 0, none⟩ := by
          obtain ⟨g, c, hv, _⟩ := HOW.out.form (by omega)
          injection hv with e _ _
          exact ⟨g, e⟩
        obtain ⟨j, hj⟩ : ∃ j : Nat, j = l.length - 1 - k := ⟨_, rfl⟩
        have hji : ((l.length : Nat) : Int) - 1 - ((k : Nat) : Int) = ((j : Nat) : Int) := by omega
        have hj0 : (0 : Int) ≤ ((j : Nat) : Int) := by omega
        have hj1 : ((j : Nat) : Int) < (l.length : Nat) := by omega
        have hjl : j < l.length := by omega
        have hkl : ((k : Nat) : Int) < (l.length : Nat) := by omega
        clear hj
        obtain ⟨bE, oE, rfl, _, _, k0, k1, k2, k3, k4, k5, k6⟩ := ((HE.out.keep0 HK2.out).keep0 HKW.out).at_ hjl
        generalize l.getD j ent0 = x at *
        have HO2 := Lib.hid (show wr.ownsRow w2.heap.size 43 7 (.slice (some ⟨g, 0, none⟩) bk.length c8) bk.length (entL bk) by rw [HBL.out]; exact HOW.out)
        obtain ⟨g', o', hA', _, _, p0, p1, p2, p3, p4, p5, p6⟩ := (EntAt.of_own HO2.out).at_ (k := k) (by rw [HBL.out]; omega)
        obtain ⟨rfl, rfl⟩ : g = g' ∧ 0 = o' := by simpa using hA'
        simp only [Nat.zero_add] at p0 p1 p2 p3 p4 p5 p6
        generalize bk.getD k ent0 = y at p0 p1 p2 p3 p4 p5 p6
        obtain ⟨cs9, hb9⟩ := own_blk HO2.out (g := g) rfl
        have hpf := hb9.frozen
        clear hb9 hA'
        have HPUT := Lib.hid (own_put (x := x) HO2.out (i := k) (by rw [HBL.out]; omega))
        have HKP := Lib.hid (Keep.setCells (S := [g]) (b := g) (.inl (by simp)) x.cells (k * 7) wr (Keep.refl _ _))
        have HG := Lib.hid (own_ge HO2.out (g := g) rfl)
        have hlen : (bk.set k x).length = l.length := by rw [List.length_set, HBL.out]
        have HLEN := Lib.hid hlen
        clear hlen
        go_wp2_with fail
        go_roundg (l.length / 2 - (k + 1))
        case measure => omega
        case rel => exact ⟨k + 1, bk.set k x, by omega, rfl, by go_num, HLEN.out, by have := HPUT.out; rw [HLEN.out] at this; exact this, HKW.out.trans HKP.out (fun y hy => .inr (by rw [List.mem_singleton.1 hy]; exact HG.out))⟩
      · have hz1 : ¬ ((k : Nat) : Int) < ((l.length : Nat) : Int) / 2 := by omega
        have HEX := Lib.hid (HE3.out.keep0 HKW.out)
        have HES := Lib.hid ((HE.out.keep0 HK2.out).keep0 HKW.out)
        have HEB := Lib.hid ((EntAt.of_own (l := bk) (by rw [HBL.out]; exact HOW.out)).mono (ok' := anyB) (fun _ _ _ => trivial))
        have HC8 := Lib.hid (own_cap HOW.out)
        have HXW := Lib.hid (HX.out.keep HKW.out (by simp))
        have HSW := Lib.hid (HS2.out.keep HKW.out (by simp))
        have KWR := Lib.hid (fun (w' : World) (h : Keep [] wr w') => ref42_without w' A l cap anyB (HES.out.keep0 h) (by omega) f m)
        rw [HWL.out] at KWR
        have KSM := Lib.hid (fun (w' : World) (h : Keep [] wr w') A9 c9 (h9 : EntAt w' anyB A9 wl) => ref42_same w' A2 A9 wl wl c2 c9 anyB anyB (HEX.out.keep0 h) h9 (by omega) (by omega))
        have KP1 := Lib.hid (fun (w' : World) (h : Keep [] wr w') => shrink_part w' A2 A wl l c2 cap (HEX.out.keep0 h) (HES.out.keep0 h) (by omega) (by omega) HC2.out.1 HC2.out.2)
        have KP2 := Lib.hid (fun (w' : World) (h : Keep [] wr w') => shrink_part w' A8 A bk l c8 cap (HEB.out.keep0 h) (HES.out.keep0 h) (by rw [HBL.out]; omega) (by omega) (by rw [HBL.out]; exact HC8.out.1) HC8.out.2)
        have KP3 := Lib.hid (fun (w' : World) (h : Keep [] wr w') => shrink_part w' A2 A8 wl bk c2 c8 (HEX.out.keep0 h) (HEB.out.keep0 h) (by omega) (by rw [HBL.out]; omega) HC2.out.1 HC2.out.2)
        have KR2 := Lib.hid (fun (w' : World) (h : Keep [] wr w') => ref42_part w' A8 A bk l c8 cap (HEB.out.keep0 h) (HES.out.keep0 h) (by rw [HBL.out]; omega) (by omega))
        have KR3 := Lib.hid (fun (w' : World) (h : Keep [] wr w') => ref42_part w' A2 A8 wl bk c2 c8 (HEX.out.keep0 h) (HEB.out.keep0 h) (by omega) (by rw [HBL.out]; omega))
        unfold PartOut at KP1 KP2 KP3 KR2 KR3
        unfold SameOut at KSM
        rw [HSUB.out] at KP1
        generalize bk.isSublist l = q2 at KP2 KR2
        generalize wl.isSublist bk = q3 at KP3 KR3
        rw [HBL.out] at KP2 KP3 KR2 KR3
        simp only [decide_true] at KSM
        clear hs3
        have HKc := Lib.hid ((Keep.refl [] wr).drew)
        have hx0 := HXW.out.cell 0
        have hx1 := HXW.out.cell 1
        have hx2 := HXW.out.cell 2
        have hx3 := HXW.out.cell 3
        have hs0 := HSW.out.cell 0
        have hs1 := HSW.out.cell 1
        have hs2 := HSW.out.cell 2
        have hs3 := HSW.out.cell 3
        go_wp2_with fail
        go_region_held3 (fun w' => w'.cell? ⟨xb, 0, none⟩ = some (.int .i64 c.1) ∧ w'.cell? ⟨xb, 1, none⟩ = some (.int .i64 c.2.1) ∧ w'.cell? ⟨xb, 2, none⟩ = some (.int .u64 c.2.2) ∧ w'.cell? ⟨xb, 3, none⟩ = some (.slice A2 wl.length c2) ∧ w'.cell? ⟨sb, 0, none⟩ = some (.int .i64 c.1) ∧ w'.cell? ⟨sb, 1, none⟩ = some (.int .i64 c.2.1) ∧ w'.cell? ⟨sb, 2, none⟩ = some (.int .u64 c.2.2) ∧ w'.cell? ⟨sb, 3, none⟩ = some (.slice A l.length cap)) (first | exact ⟨hx0, hx1, hx2, hx3, hs0, hs1, hs2, hs3⟩ | go_keep) (first
          | (go_at_call 15; (with_reducible refine (KWR.out _ HKc.out).mono ?_); rintro r z ⟨hk, v, rfl, hown⟩; obtain ⟨A9, c9, rfl⟩ := own_form hown; have HK9 := Lib.hid (HKc.out.trans hk (by simp)); have HE9 := Lib.hid ((EntAt.of_own hown).mono (ok' := anyB) (fun _ _ _ => trivial)); have HKc := Lib.hid (HKc.out.trans hk (by simp)); have HXx := Lib.hid (HXW.out.keep HKc.out (by simp)); have HSx := Lib.hid (HSW.out.keep HKc.out (by simp)); have hx0 := HXx.out.cell 0; have hx1 := HXx.out.cell 1; have hx2 := HXx.out.cell 2; have hx3 := HXx.out.cell 3; have hs0 := HSx.out.cell 0; have hs1 := HSx.out.cell 1; have hs2 := HSx.out.cell 2; have hs3 := HSx.out.cell 3; clear hk hown)
          | (go_at_call 13; (with_reducible refine (KSM.out _ HKc.out _ _ HE9.out).mono ?_); rintro r z ⟨rfl, hd⟩; have HKc := Lib.hid (HKc.out.trans (Keep.of_drawn (S := []) hd) (by simp)); have HXx := Lib.hid (HXW.out.keep HKc.out (by simp)); have HSx := Lib.hid (HSW.out.keep HKc.out (by simp)); have hx0 := HXx.out.cell 0; have hx1 := HXx.out.cell 1; have hx2 := HXx.out.cell 2; have hx3 := HXx.out.cell 3; have hs0 := HSx.out.cell 0; have hs1 := HSx.out.cell 1; have hs2 := HSx.out.cell 2; have hs3 := HSx.out.cell 3; clear hd)
          | (go_at_call 16; (with_reducible refine (KP1.out _ HKc.out).mono ?_); rintro r z ⟨rfl, hk⟩; have HKc := Lib.hid (HKc.out.trans hk (by simp)); have HXx := Lib.hid (HXW.out.keep HKc.out (by simp)); have HSx := Lib.hid (HSW.out.keep HKc.out (by simp)); have hx0 := HXx.out.cell 0; have hx1 := HXx.out.cell 1; have hx2 := HXx.out.cell 2; have hx3 := HXx.out.cell 3; have hs0 := HSx.out.cell 0; have hs1 := HSx.out.cell 1; have hs2 := HSx.out.cell 2; have hs3 := HSx.out.cell 3; clear hk)
          | (go_at_call 16; (with_reducible refine (KP2.out _ HKc.out).mono ?_); rintro r z ⟨rfl, hk⟩; have HKc := Lib.hid (HKc.out.trans hk (by simp)); have HXx := Lib.hid (HXW.out.keep HKc.out (by simp)); have HSx := Lib.hid (HSW.out.keep HKc.out (by simp)); have hx0 := HXx.out.cell 0; have hx1 := HXx.out.cell 1; have hx2 := HXx.out.cell 2; have hx3 := HXx.out.cell 3; have hs0 := HSx.out.cell 0; have hs1 := HSx.out.cell 1; have hs2 := HSx.out.cell 2; have hs3 := HSx.out.cell 3; clear hk)
          | (go_at_call 16; (with_reducible refine (KP3.out _ HKc.out).mono ?_); rintro r z ⟨rfl, hk⟩; have HKc := Lib.hid (HKc.out.trans hk (by simp)); have HXx := Lib.hid (HXW.out.keep HKc.out (by simp)); have HSx := Lib.hid (HSW.out.keep HKc.out (by simp)); have hx0 := HXx.out.cell 0; have hx1 := HXx.out.cell 1; have hx2 := HXx.out.cell 2; have hx3 := HXx.out.cell 3; have hs0 := HSx.out.cell 0; have hs1 := HSx.out.cell 1; have hs2 := HSx.out.cell 2; have hs3 := HSx.out.cell 3; clear hk)
          | (go_at_call 17; (with_reducible refine (KR2.out _ HKc.out).mono ?_); rintro r z ⟨rfl, hk⟩; have HKc := Lib.hid (HKc.out.trans hk (by simp)); have HXx := Lib.hid (HXW.out.keep HKc.out (by simp)); have HSx := Lib.hid (HSW.out.keep HKc.out (by simp)); have hx0 := HXx.out.cell 0; have hx1 := HXx.out.cell 1; have hx2 := HXx.out.cell 2; have hx3 := HXx.out.cell 3; have hs0 := HSx.out.cell 0; have hs1 := HSx.out.cell 1; have hs2 := HSx.out.cell 2; have hs3 := HSx.out.cell 3; clear hk)
          | (go_at_call 17; (with_reducible refine (KR3.out _ HKc.out).mono ?_); rintro r z ⟨rfl, hk⟩; have HKc := Lib.hid (HKc.out.trans hk (by simp)); have HXx := Lib.hid (HXW.out.keep HKc.out (by simp)); have HSx := Lib.hid (HSW.out.keep HKc.out (by simp)); have hx0 := HXx.out.cell 0; have hx1 := HXx.out.cell 1; have hx2 := HXx.out.cell 2; have hx3 := HXx.out.cell 3; have hs0 := HSx.out.cell 0; have hs1 := HSx.out.cell 1; have hs2 := HSx.out.cell 2; have hs3 := HSx.out.cell 3; clear hk)
          | (go_at_call 9; refine (law42_lives _).mono ?_; rintro r z ⟨rfl, hk⟩; have HKc := Lib.hid (HKc.out.trans hk (by simp)); have HXx := Lib.hid (HXW.out.keep HKc.out (by simp)); have HSx := Lib.hid (HSW.out.keep HKc.out (by simp)); have hx0 := HXx.out.cell 0; have hx1 := HXx.out.cell 1; have hx2 := HXx.out.cell 2; have hx3 := HXx.out.cell 3; have hs0 := HSx.out.cell 0; have hs1 := HSx.out.cell 1; have hs2 := HSx.out.cell 2; have hs3 := HSx.out.cell 3; clear hk))
        all_goals
          go_wp2
          go_ret
          exact ⟨rfl, (HK.out.trans HK2.out (by simp)).trans (HKW.out.trans HKc.out (by simp)) (by simp)⟩
end Go.Proofs.Ytbhibmimdpodiaa
