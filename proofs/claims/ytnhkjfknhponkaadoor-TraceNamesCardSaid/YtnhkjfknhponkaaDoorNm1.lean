/- A word's name: trace.Name by its contract. Conditions: the configuration may be; at most 60 slots. -/
import Derived.Test.YtnhkjfknhponkaaDoorTr3
namespace Go.Proofs.YtnhkjfknhponkaaDoor
open Go.RowKit

set_option maxHeartbeats 2000000 in
theorem plan_what_thread (c : ConfS) (p : Nat) (w : World) (h : PlanAt w p c) (ho : c.Ok) (a m : Nat) (ha : a = 3 + m) (hm : m < 8 * c.thr.toNat) : Calls Tryd.prog 26 #[.pointer (some ⟨p, 0, none⟩), .int .i64 (a : Nat)] w (WhatOut (placeC (if 5 ≤ m % 8 then (4, m / 8, m % 8 - 5) else if 2 ≤ m % 8 then (3, m / 8, m % 8 - 2) else (1 + m % 8, m / 8, 0))) true w) := by
  have hn : (3 + 8 * c.thr + 7 * c.slots : Int) = (nWords c : Int) := by unfold nWords; have := ho.t1; have := ho.s1; omega
  have hs : (3 + 8 * c.thr : Int) = ((3 + 8 * c.thr.toNat : Nat) : Int) := by have := ho.t1; omega
  have hn2 : Hid (nWords c ≤ 2000 ∧ a < nWords c) := Lib.hid (by unfold nWords; have := ho.t2; have := ho.s2; omega)
  have HP1 := Lib.hid (h.alloc (.cells #[.int .i64 0, .int .i64 0, .int .i64 0] 62))
  have KW := Lib.hid (fun (W : World) (hW : PlanAt W p c) => plan_words c p W hW ho)
  have KS := Lib.hid (fun (W : World) (hW : PlanAt W p c) => plan_slots c p W hW ho)
  rw [hn] at KW
  rw [hs] at KS
  have KI := Lib.hid (fun (W : World) => plan_in_yes ((a : Nat) : Int) 0 ((nWords c : Int) - 1) W (by omega) (by have := hn2.out; omega))
  have hS : Hid (a = 3 + m ∧ a < 3 + 8 * c.thr.toNat) := Lib.hid ⟨ha, by omega⟩
  clear h ho hn hs ha hm
  generalize nWords c = n at *
  generalize 3 + 8 * c.thr.toNat = N at *
  have hb : ((n : Nat) : Int) ≤ 2000 := by have := hn2.out; omega
  have hb0 : (0 : Int) ≤ ((n : Nat) : Int) := by omega
  have ha3 : ¬ ((a : Nat) : Int) < 3 := by have := hS.out; omega
  have haN : ¬ ((N : Nat) : Int) ≤ ((a : Nat) : Int) := by have := hS.out; omega
  have hw1 : IntKind.i64.wrap (((a : Nat) : Int) - 3) = ((m : Nat) : Int) := by
    have := hS.out
    have := hn2.out
    rw [IntWalk.i64_in _ (by omega)]
    omega
  obtain ⟨q, hq⟩ : ∃ q : Nat, q = m / 8 := ⟨_, rfl⟩
  obtain ⟨r, hr⟩ : ∃ r : Nat, r = m % 8 := ⟨_, rfl⟩
  have hq1 : Int.tdiv ((m : Nat) : Int) 8 = ((q : Nat) : Int) := by rw [hq]; exact (Int.ofNat_tdiv m 8)
  have hr1 : Int.tmod ((m : Nat) : Int) 8 = ((r : Nat) : Int) := by rw [hr]; exact (Int.ofNat_tmod m 8)
  have hq0 : (0 : Int) ≤ ((q : Nat) : Int) := by omega
  have hq9 : ((q : Nat) : Int) ≤ 2000 := by have := hS.out; have := hn2.out; omega
  have hr0 : (0 : Int) ≤ ((r : Nat) : Int) := by omega
  have hr9 : ((r : Nat) : Int) < 8 := by omega
  rw [← hq, ← hr]
  clear hq hr
  by_cases h5 : 5 ≤ r
  · rw [if_pos h5]
    have hz5 : (5 : Int) ≤ ((r : Nat) : Int) := by omega
    have hw5 : IntKind.i64.wrap (((r : Nat) : Int) - 5) = ((r - 5 : Nat) : Int) := by rw [IntWalk.i64_in _ (by omega)]; omega
    generalize r - 5 = j at *
    clear h5
    go_enter Tryd.func26, Tryd.ntmps26
    go_wp2_with fail
    refine (KW.out _ HP1.out).mono ?_
    rintro r' w2 ⟨rfl, k2, rfl⟩
    go_wp2_with fail
    refine (KI.out _).mono ?_
    rintro r' w3 ⟨rfl, rfl⟩
    go_wp2_with fail
    refine (KS.out _ (HP1.out.drewN _)).mono ?_
    rintro r' w3 ⟨rfl, rfl⟩
    go_wp2_with fail
    exact what_end rfl rfl (place3 ((Blk.new w _ _).drewN k2) _ _ _) rfl (place3k (((Keep.refl [] w).alloc _).drewN k2) (Nat.le_refl _) _ _ _)
  · rw [if_neg h5]
    have hz5 : ¬ (5 : Int) ≤ ((r : Nat) : Int) := by omega
    by_cases h2 : 2 ≤ r
    · rw [if_pos h2]
      have hz2 : (2 : Int) ≤ ((r : Nat) : Int) := by omega
      have hw5 : IntKind.i64.wrap (((r : Nat) : Int) - 2) = ((r - 2 : Nat) : Int) := by rw [IntWalk.i64_in _ (by omega)]; omega
      generalize r - 2 = j at *
      clear h5 h2
      go_enter Tryd.func26, Tryd.ntmps26
      go_wp2_with fail
      refine (KW.out _ HP1.out).mono ?_
      rintro r' w2 ⟨rfl, k2, rfl⟩
      go_wp2_with fail
      refine (KI.out _).mono ?_
      rintro r' w3 ⟨rfl, rfl⟩
      go_wp2_with fail
      refine (KS.out _ (HP1.out.drewN _)).mono ?_
      rintro r' w3 ⟨rfl, rfl⟩
      go_wp2_with fail
      exact what_end rfl rfl (place3 ((Blk.new w _ _).drewN k2) _ _ _) rfl (place3k (((Keep.refl [] w).alloc _).drewN k2) (Nat.le_refl _) _ _ _)
    · rw [if_neg h2]
      have hz2 : ¬ (2 : Int) ≤ ((r : Nat) : Int) := by omega
      clear h5 h2
      go_enter Tryd.func26, Tryd.ntmps26
      go_wp2_with fail
      refine (KW.out _ HP1.out).mono ?_
      rintro r' w2 ⟨rfl, k2, rfl⟩
      go_wp2_with fail
      refine (KI.out _).mono ?_
      rintro r' w3 ⟨rfl, rfl⟩
      go_wp2_with fail
      refine (KS.out _ (HP1.out.drewN _)).mono ?_
      rintro r' w3 ⟨rfl, rfl⟩
      go_wp2_with fail
      exact what_end rfl rfl (place3 ((Blk.new w _ _).drewN k2) _ _ _) rfl (place3k (((Keep.refl [] w).alloc _).drewN k2) (Nat.le_refl _) _ _ _)
/-- Every word that is. -/
theorem plan_what (c : ConfS) (p : Nat) (w : World) (h : PlanAt w p c) (ho : c.Ok) (a : Nat) (ha : a < nWords c) : Calls Tryd.prog 26 #[.pointer (some ⟨p, 0, none⟩), .int .i64 (a : Nat)] w (WhatOut (placeC (whatS c a)) true w) := by
  unfold nWords at ha
  by_cases h3 : a < 3
  · have e : whatS c a = (0, a, 0) := by unfold whatS; simp only; rw [if_pos h3]
    rw [e]
    exact plan_what_alone c p w h ho a h3
  · by_cases hN : 3 + 8 * c.thr.toNat ≤ a
    · have e : whatS c a = (5, 1 + (a - (3 + 8 * c.thr.toNat)) / 7, (a - (3 + 8 * c.thr.toNat)) % 7) := by unfold whatS; simp only; rw [if_neg h3, if_pos hN]
      rw [e]
      exact plan_what_node c p w h ho a _ (by omega) (by omega)
    · have e : whatS c a = if 5 ≤ (a - 3) % 8 then (4, (a - 3) / 8, (a - 3) % 8 - 5) else if 2 ≤ (a - 3) % 8 then (3, (a - 3) / 8, (a - 3) % 8 - 2) else (1 + (a - 3) % 8, (a - 3) / 8, 0) := by unfold whatS; simp only; rw [if_neg h3, if_neg hN]
      rw [e]
      exact plan_what_thread c p w h ho a _ (by omega) (by omega)
/-- A place's name. -/
def nameP (x : Nat × Nat × Nat) : List UInt8 :=
  if x.1 = 0 then aloneB x.2.1 else if x.1 = 1 then [97, 99, 116, 105, 118, 101] ++ numB x.2.1 else if x.1 = 2 then [118, 105, 99, 116, 105, 109] ++ numB x.2.1
  else if x.1 = 3 then [115, 116, 97, 109, 112] ++ numB x.2.1 ++ numB x.2.2 else if x.1 = 4 then [98, 97, 103] ++ numB x.2.1 ++ numB x.2.2 else [115, 108, 111, 116] ++ numB x.2.1 ++ [32] ++ fieldB x.2.2
/-- What holds of a place of few slots. -/
structure PlaceOk (x : Nat × Nat × Nat) : Prop where
  k5 : x.1 ≤ 5
  i : x.2.1 ≤ 60
  j : x.2.2 < 7
  i0 : x.1 = 0 → x.2.1 < 3
theorem what_ok (c : ConfS) (ho : c.Ok) (hs : c.slots ≤ 60) (a : Nat) (ha : a < nWords c) : PlaceOk (whatS c a) := by
  have h1 := ho.t1
  have h2 := ho.t2
  have h3 := ho.s1
  unfold nWords at ha
  unfold whatS
  simp only
  split
  · exact ⟨by dsimp only; omega, by dsimp only; omega, by dsimp only; omega, fun _ => by dsimp only; omega⟩
  · split
    · exact ⟨by dsimp only; omega, by dsimp only; omega, by dsimp only; omega, fun h => by cases h⟩
    · split
      · exact ⟨by dsimp only; omega, by dsimp only; omega, by dsimp only; omega, fun h => by cases h⟩
      · split
        · exact ⟨by dsimp only; omega, by dsimp only; omega, by dsimp only; omega, fun h => by cases h⟩
        · exact ⟨by dsimp only; omega, by dsimp only; omega, by dsimp only; omega, fun h => by dsimp only at h; omega⟩

/-- Any word's name. -/
def nameZ (c : ConfS) (a : Int) : List UInt8 := if 0 ≤ a ∧ a < (nWords c : Int) then nameP (whatS c a.toNat) else []
theorem trace_name_no (c : ConfS) (p : Nat) (w : World) (h : PlanAt w p c) (ho : c.Ok) (a : Int) (ha : a < 0 ∨ (nWords c : Int) ≤ a) : Calls Tryd.prog 9 #[.pointer (some ⟨p, 0, none⟩), .int .i64 a] w (StrOut [] w) := by
  have KW := Lib.hid (plan_what_no c p w h ho a ha)
  clear h ho ha
  go_enter Tryd.func9, Tryd.ntmps9
  go_wp2_with fail
  refine KW.out.mono ?_
  rintro r w1 ⟨rfl, hk⟩
  unfold placeC
  go_wp2_with fail
  go_ret
  exact ⟨rfl, hk.alloc _⟩
theorem plan_words_nil (w : World) : Calls Tryd.prog 34 #[.pointer none] w fun e w' => e = .returned (.int .i64 0) ∧ w = w' := by
  go_enter Tryd.func34, Tryd.ntmps34
  go_wp2_with fail
  go_ret
  exact ⟨rfl, rfl⟩
theorem plan_what_nil (w : World) (a : Int) : Calls Tryd.prog 26 #[.pointer none, .int .i64 a] w (WhatOut (placeC (0, 0, 0)) false w) := by
  have KI := Lib.hid (fun (W : World) => plan_in_no a 0 (-1) W (by omega))
  go_enter Tryd.func26, Tryd.ntmps26
  go_wp2_with fail
  refine (plan_words_nil _).mono ?_
  rintro r w2 ⟨rfl, rfl⟩
  go_wp2_with fail
  refine (KI.out _).mono ?_
  rintro r w3 ⟨rfl, rfl⟩
  go_wp2_with fail
  exact what_end rfl rfl (Blk.new w _ _) rfl ((Keep.refl [] w).alloc _)
theorem trace_name_nil (w : World) (a : Int) : Calls Tryd.prog 9 #[.pointer none, .int .i64 a] w (StrOut [] w) := by
  have KW := Lib.hid (plan_what_nil w a)
  go_enter Tryd.func9, Tryd.ntmps9
  go_wp2_with fail
  refine KW.out.mono ?_
  rintro r w1 ⟨rfl, hk⟩
  unfold placeC
  go_wp2_with fail
  go_ret
  exact ⟨rfl, hk.alloc _⟩
set_option maxHeartbeats 4000000 in
theorem trace_name_at (p a : Nat) (w : World) (x : Nat × Nat × Nat) (hx : PlaceOk x) (hk : Calls Tryd.prog 26 #[.pointer (some ⟨p, 0, none⟩), .int .i64 (a : Nat)] w (WhatOut (placeC x) true w)) :
    Calls Tryd.prog 9 #[.pointer (some ⟨p, 0, none⟩), .int .i64 (a : Nat)] w (StrOut (nameP x) w) := by
  have KW := Lib.hid hk
  obtain ⟨K, I, J⟩ := x
  obtain ⟨h5, hi, hj, h0⟩ := hx
  simp only at h5 hi hj h0
  unfold placeC at KW
  simp only at KW
  clear hk
  have KN := Lib.hid (fun W => trace_number I (by omega) W)
  have KM := Lib.hid (fun W => trace_number J (by omega) W)
  have hl1 := numB_len (i := I) (by omega)
  have hl2 := numB_len (i := J) (by omega)
  obtain ⟨hl3, hidx⟩ := field_index J hj
  rw [show (32 :: Lib.decDigits I) = numB I from rfl] at KN
  rw [show (32 :: Lib.decDigits J) = numB J from rfl] at KM
  have hcase : K = 0 ∨ K = 1 ∨ K = 2 ∨ K = 3 ∨ K = 4 ∨ K = 5 := by omega
  rcases hcase with rfl | rfl | rfl | rfl | rfl | rfl
  · obtain ⟨hl4, hal⟩ := alone_index I (h0 rfl)
    have hE : nameP (0, I, J) = aloneB I := rfl
    rw [hE]
    clear hE h0 hj hi h5 hl1 hl2 hl3 KN KM hidx hl4
    generalize aloneB I = ab at *
    go_enter Tryd.func9, Tryd.ntmps9
    go_wp2_with fail
    refine KW.out.mono ?_
    rintro r w1 ⟨rfl, hk⟩
    have HK1 := Lib.hid hk
    clear hk KW
    go_upto_region 6 with fail
    have HB := Lib.hid (Blk.new w1 62 #[.int .i64 (0 : Nat), .int .i64 (I : Nat), .int .i64 (J : Nat)])
    have HK2 := Lib.hid (HK1.out.alloc (.cells #[.int .i64 (0 : Nat), .int .i64 (I : Nat), .int .i64 (J : Nat)] 62))
    generalize w1.heap.size = g at HB ⊢
    generalize w1.alloc _ = w2 at HB HK2 ⊢
    have hc1 : w2.cell? ⟨g, 1, none⟩ = some (.int .i64 (I : Nat)) := HB.out.cell 1
    go_region_held3 (fun w' => w'.cell? ⟨g, 1, none⟩ = some (.int .i64 (I : Nat))) (first | exact hc1 | go_keep) (first | (go_at_call 27; refine (trace_alone _).mono ?_; rintro r x ⟨rfl, hk⟩; have HKx := Lib.hid hk; have hc1 : x.cell? ⟨g, 1, none⟩ = some (.int .i64 (I : Nat)) := (HB.out.drew.keep hk (by simp)).cell 1; clear hk))
    go_wp2
    go_ret
    exact ⟨rfl, (HK2.out.drew).trans HKx.out (by simp)⟩
  · have hE : nameP (1, I, J) = [97, 99, 116, 105, 118, 101] ++ numB I := rfl
    rw [hE]
    clear hE h0 hj hi h5 hl2 hl3 KM hidx
    generalize numB I = ib at *
    have HE := Lib.hid (cat_eq [97, 99, 116, 105, 118, 101] ib)
    have hn1 : ¬ 9223372036854775807 < 6 + ib.length := by omega
    generalize [97, 99, 116, 105, 118, 101] ++ ib = L at *
    clear hl1
    go_enter Tryd.func9, Tryd.ntmps9
    go_wp2_with fail
    refine KW.out.mono ?_
    rintro r w1 ⟨rfl, hk⟩
    have HK1 := Lib.hid hk
    clear hk KW
    go_wp2_with fail
    refine (KN.out _).mono ?_
    rintro r w2 ⟨rfl, rfl⟩
    go_wp2_with fail
    go_ret
    exact ⟨congrArg (fun s => Ending.returned (.string s)) HE.out, HK1.out.alloc _⟩
  · have hE : nameP (2, I, J) = [118, 105, 99, 116, 105, 109] ++ numB I := rfl
    rw [hE]
    clear hE h0 hj hi h5 hl2 hl3 KM hidx
    generalize numB I = ib at *
    have HE := Lib.hid (cat_eq [118, 105, 99, 116, 105, 109] ib)
    have hn1 : ¬ 9223372036854775807 < 6 + ib.length := by omega
    generalize [118, 105, 99, 116, 105, 109] ++ ib = L at *
    clear hl1
    go_enter Tryd.func9, Tryd.ntmps9
    go_wp2_with fail
    refine KW.out.mono ?_
    rintro r w1 ⟨rfl, hk⟩
    have HK1 := Lib.hid hk
    clear hk KW
    go_wp2_with fail
    refine (KN.out _).mono ?_
    rintro r w2 ⟨rfl, rfl⟩
    go_wp2_with fail
    go_ret
    exact ⟨congrArg (fun s => Ending.returned (.string s)) HE.out, HK1.out.alloc _⟩
  · have hE : nameP (3, I, J) = [115, 116, 97, 109, 112] ++ numB I ++ numB J := rfl
    rw [hE]
    clear hE h0 hj hi h5 hl3 hidx
    generalize numB I = ib at *
    generalize numB J = jb at *
    have HE : Hid ((⟨#[115, 116, 97, 109, 112]⟩ : ByteArray) ++ ⟨ib.toArray⟩ ++ ⟨jb.toArray⟩ = ⟨([115, 116, 97, 109, 112] ++ ib ++ jb).toArray⟩) := Lib.hid (by rw [← cat_eq, ← cat_eq])
    have hn1 : ¬ 9223372036854775807 < 5 + ib.length := by omega
    have hn2 : ¬ 9223372036854775807 < 5 + ib.length + jb.length := by omega
    generalize [115, 116, 97, 109, 112] ++ ib ++ jb = L at *
    clear hl1 hl2
    go_enter Tryd.func9, Tryd.ntmps9
    go_wp2_with fail
    refine KW.out.mono ?_
    rintro r w1 ⟨rfl, hk⟩
    have HK1 := Lib.hid hk
    clear hk KW
    go_upto_region 12 with fail
    go_region_held3 (fun w' => w'.cell? ⟨w1.heap.size, 1, none⟩ = some (.int .i64 (I : Nat)) ∧ w'.cell? ⟨w1.heap.size, 2, none⟩ = some (.int .i64 (J : Nat))) (first | exact ⟨(Blk.new w1 62 #[.int .i64 (3 : Nat), .int .i64 (I : Nat), .int .i64 (J : Nat)]).cell 1, (Blk.new w1 62 #[.int .i64 (3 : Nat), .int .i64 (I : Nat), .int .i64 (J : Nat)]).cell 2⟩ | go_keep) (first | (go_at_call 28; refine (KN.out _).mono ?_; rintro r x ⟨rfl, rfl⟩) | (go_at_call 28; refine (KM.out _).mono ?_; rintro r x ⟨rfl, rfl⟩))
    go_wp2
    go_ret
    exact ⟨congrArg (fun s => Ending.returned (.string s)) HE.out, by first | exact (HK1.out.alloc _).drew | exact (HK1.out.alloc _).drewN _⟩
  · have hE : nameP (4, I, J) = [98, 97, 103] ++ numB I ++ numB J := rfl
    rw [hE]
    clear hE h0 hj hi h5 hl3 hidx
    generalize numB I = ib at *
    generalize numB J = jb at *
    have HE : Hid ((⟨#[98, 97, 103]⟩ : ByteArray) ++ ⟨ib.toArray⟩ ++ ⟨jb.toArray⟩ = ⟨([98, 97, 103] ++ ib ++ jb).toArray⟩) := Lib.hid (by rw [← cat_eq, ← cat_eq])
    have hn1 : ¬ 9223372036854775807 < 3 + ib.length := by omega
    have hn2 : ¬ 9223372036854775807 < 3 + ib.length + jb.length := by omega
    generalize [98, 97, 103] ++ ib ++ jb = L at *
    clear hl1 hl2
    go_enter Tryd.func9, Tryd.ntmps9
    go_wp2_with fail
    refine KW.out.mono ?_
    rintro r w1 ⟨rfl, hk⟩
    have HK1 := Lib.hid hk
    clear hk KW
    go_upto_region 14 with fail
    go_region_held3 (fun w' => w'.cell? ⟨w1.heap.size, 1, none⟩ = some (.int .i64 (I : Nat)) ∧ w'.cell? ⟨w1.heap.size, 2, none⟩ = some (.int .i64 (J : Nat))) (first | exact ⟨(Blk.new w1 62 #[.int .i64 (4 : Nat), .int .i64 (I : Nat), .int .i64 (J : Nat)]).cell 1, (Blk.new w1 62 #[.int .i64 (4 : Nat), .int .i64 (I : Nat), .int .i64 (J : Nat)]).cell 2⟩ | go_keep) (first | (go_at_call 28; refine (KN.out _).mono ?_; rintro r x ⟨rfl, rfl⟩) | (go_at_call 28; refine (KM.out _).mono ?_; rintro r x ⟨rfl, rfl⟩))
    go_wp2
    go_ret
    exact ⟨congrArg (fun s => Ending.returned (.string s)) HE.out, by first | exact (HK1.out.alloc _).drew | exact (HK1.out.alloc _).drewN _⟩
  · have hE : nameP (5, I, J) = [115, 108, 111, 116] ++ numB I ++ [32] ++ fieldB J := rfl
    rw [hE]
    clear hE h0 hj hi h5 hl2 KM
    generalize numB I = nb at *
    generalize fieldB J = fb at *
    have hn1 : ¬ 9223372036854775807 < 4 + nb.length := by omega
    have hn2 : ¬ 9223372036854775807 < 4 + nb.length + 1 := by omega
    have hn3 : ¬ 9223372036854775807 < 4 + nb.length + 1 + fb.length := by omega
    have HE : Hid ((⟨#[115, 108, 111, 116]⟩ : ByteArray) ++ ⟨nb.toArray⟩ ++ ⟨#[32]⟩ ++ ⟨fb.toArray⟩ = ⟨([115, 108, 111, 116] ++ nb ++ [32] ++ fb).toArray⟩) := Lib.hid (by rw [← cat_eq, ← cat_eq, ← cat_eq])
    generalize [115, 108, 111, 116] ++ nb ++ [32] ++ fb = L at *
    clear hl1 hl3
    go_enter Tryd.func9, Tryd.ntmps9
    go_wp2_with fail
    refine KW.out.mono ?_
    rintro r w1 ⟨rfl, hk⟩
    have HK1 := Lib.hid hk
    clear hk KW
    go_upto_region 15 with fail
    have HB := Lib.hid (Blk.new w1 62 #[.int .i64 (5 : Nat), .int .i64 (I : Nat), .int .i64 (J : Nat)])
    have HK2 := Lib.hid (HK1.out.alloc (.cells #[.int .i64 (5 : Nat), .int .i64 (I : Nat), .int .i64 (J : Nat)] 62))
    generalize w1.heap.size = g at HB ⊢
    generalize w1.alloc _ = w2 at HB HK2 ⊢
    have hc1 : w2.cell? ⟨g, 1, none⟩ = some (.int .i64 (I : Nat)) := HB.out.cell 1
    have hc2 : w2.cell? ⟨g, 2, none⟩ = some (.int .i64 (J : Nat)) := HB.out.cell 2
    go_region_held3 (fun w' => w'.cell? ⟨g, 1, none⟩ = some (.int .i64 (I : Nat)) ∧ w'.cell? ⟨g, 2, none⟩ = some (.int .i64 (J : Nat))) (first | exact ⟨hc1, hc2⟩ | go_keep) (first | (go_at_call 28; refine (KN.out _).mono ?_; rintro r x ⟨rfl, rfl⟩) | (go_at_call 29; refine (trace_fields _).mono ?_; rintro r x ⟨rfl, hk⟩; have HKx := Lib.hid hk; have HBx := Lib.hid (HB.out.drew.keep hk (by simp)); have hc1 : x.cell? ⟨g, 1, none⟩ = some (.int .i64 (I : Nat)) := HBx.out.cell 1; have hc2 : x.cell? ⟨g, 2, none⟩ = some (.int .i64 (J : Nat)) := HBx.out.cell 2; clear hk))
    go_wp2
    go_ret
    exact ⟨congrArg (fun s => Ending.returned (.string s)) HE.out, (HK2.out.drew).trans HKx.out (by simp)⟩
theorem nameZ_in {c : ConfS} {a : Nat} (h : a < nWords c) : nameZ c (a : Nat) = nameP (whatS c a) := by
  unfold nameZ
  rw [if_pos ⟨by omega, by omega⟩]
  rfl
theorem nameZ_out {c : ConfS} {a : Int} (h : a < 0 ∨ (nWords c : Int) ≤ a) : nameZ c a = [] := by
  unfold nameZ
  rw [if_neg (by omega)]
theorem trace_name (c : ConfS) (p : Nat) (w : World) (h : PlanAt w p c) (ho : c.Ok) (hs : c.slots ≤ 60) (a : Int) : Calls Tryd.prog 9 #[.pointer (some ⟨p, 0, none⟩), .int .i64 a] w (StrOut (nameZ c a) w) := by
  by_cases h1 : 0 ≤ a ∧ a < (nWords c : Int)
  · obtain ⟨k, rfl⟩ : ∃ k : Nat, a = (k : Int) := ⟨a.toNat, by omega⟩
    rw [nameZ_in (by omega)]
    exact trace_name_at p k w _ (what_ok c ho hs k (by omega)) (plan_what c p w h ho k (by omega))
  · rw [nameZ_out (by omega)]
    exact trace_name_no c p w h ho a (by omega)
end Go.Proofs.YtnhkjfknhponkaaDoor
