/- TraceReplays: the chapter's example (lives of layer 40), by contracts. No condition. -/
import Derived.Test.YtnhkjfknhponkaaDoorTr1
import Derived.Test.YtnhkjfknhponkaaDoorPln
import Derived.Test.YtnhkjfknhponkaaDoorShS
namespace Go.Proofs.YtnhkjfknhponkaaDoor
open Go.RowKit

def bytesV (l : List UInt8) : Value := .string ⟨l.toArray⟩
def aloneC : Array Value := #[.string { data := #[99, 108, 111, 99, 107] }, .string { data := #[101, 112, 111, 99, 104] }, .string { data := #[102, 114, 101, 101] }]
def fieldsC : Array Value := #[.string { data := #[108, 105, 110, 107] }, .string { data := #[103, 101, 110] }, .string { data := #[105, 110, 102, 111] }, .string { data := #[107, 101, 121] }, .string { data := #[108, 101, 102, 116] }, .string { data := #[114, 105, 103, 104, 116] }, .string { data := #[100, 105, 101, 100] }]
theorem trace_alone (w : World) : Calls Tryd.prog 27 #[] w fun r w' => r = .returned (.agg aloneC) ∧ Keep [] w w' := by
  have hh := Blk.new w 65 aloneC
  unfold aloneC at hh ⊢
  go_enter Tryd.func27, Tryd.ntmps27
  go_wp2
  exact bodyPost_ret (results_cell_row (p := 0) (ty := 65) (d := .array 3 9) rfl _ _ w.heap.size _ _ _ rfl hh (by kernel_rfl) rfl (by kernel_rfl)) rfl ⟨rfl, (Keep.refl _ _).alloc _⟩
theorem trace_fields (w : World) : Calls Tryd.prog 29 #[] w fun r w' => r = .returned (.agg fieldsC) ∧ Keep [] w w' := by
  have hh := Blk.new w 68 fieldsC
  unfold fieldsC at hh ⊢
  go_enter Tryd.func29, Tryd.ntmps29
  go_wp2
  exact bodyPost_ret (results_cell_row (p := 0) (ty := 68) (d := .array 7 9) rfl _ _ w.heap.size _ _ _ rfl hh (by kernel_rfl) rfl (by kernel_rfl)) rfl ⟨rfl, (Keep.refl _ _).alloc _⟩
/-- Two strings, one behind the other. -/
theorem cat_eq (a b : List UInt8) : (⟨a.toArray⟩ : ByteArray) ++ (⟨b.toArray⟩ : ByteArray) = ⟨(a ++ b).toArray⟩ := by
  apply ByteArray.ext
  simp
theorem small_len {i : Nat} (hi : i < 100) : (Lib.decDigits i).length ≤ 2 := by
  have : ∀ j : Fin 100, (Lib.decDigits j.val).length ≤ 2 := by decide +kernel
  exact this ⟨i, hi⟩
theorem trace_number (i : Nat) (hi : i < 100) (w : World) : Calls Tryd.prog 28 #[.int .i64 i] w fun r w' => r = .returned (.string ⟨(32 :: Lib.decDigits i).toArray⟩) ∧ w = w' := by
  have K := Lib.hid (Tryd.strconv_Itoa_small i hi w)
  have hsl := small_len hi
  have hcat := Lib.hid (cat_eq [32] (Lib.decDigits i))
  clear hi
  generalize Lib.decDigits i = d at *
  have hno : ¬ 9223372036854775807 < 1 + d.length := by omega
  clear hsl
  go_enter Tryd.func28, Tryd.ntmps28
  go_wp2_with fail
  refine K.out.mono ?_
  rintro r x ⟨rfl, rfl⟩
  go_wp2_with fail
  go_ret
  exact ⟨congrArg (fun s => Ending.returned (.string s)) hcat.out, rfl⟩

theorem results_row_tmp {P : Program} {fn : Func} {p u : Tmp} {ty : TypeId} (h : fn.results = #[.cell p ty, .tmp u]) (tmps : Array Value) (w : World) (g : Nat) (t : TypeId) (cs : Array Value) (fr : Nat × Nat) (d : TypeDesc)
    (hp : tmps.getD p undef = .pointer (some ⟨g, 0, none⟩)) (hg : w.heap[g]? = some (.cells cs t fr))
    (hu : P.underlying ty = some d) (hd : (match d with | .struct _ | .array _ _ => true | _ => false) = true) (hi : (P.info? ty).map (·.size) = some cs.size) :
    (results fn tmps).run P w = .ok (.tuple #[.agg cs, tmps.getD u undef]) w := by
  rw [results_cell_tmp h, hp]
  simp [asAddr, run_loadVar_row w g t ty cs fr d hg hu hd hi, Result.andThen]
/-- What a word is. -/
def whatS (c : ConfS) (a : Nat) : Nat × Nat × Nat :=
  let n := 3 + 8 * c.thr.toNat
  if a < 3 then (0, a, 0) else if n ≤ a then (5, 1 + (a - n) / 7, (a - n) % 7) else if 5 ≤ (a - 3) % 8 then (4, (a - 3) / 8, (a - 3) % 8 - 5) else if 2 ≤ (a - 3) % 8 then (3, (a - 3) / 8, (a - 3) % 8 - 2) else (1 + (a - 3) % 8, (a - 3) / 8, 0)
def placeC (x : Nat × Nat × Nat) : Array Value := #[.int .i64 (x.1 : Nat), .int .i64 (x.2.1 : Nat), .int .i64 (x.2.2 : Nat)]
def nWords (c : ConfS) : Nat := 3 + 8 * c.thr.toNat + 7 * c.slots.toNat
def WhatOut (v : Array Value) (b : Bool) (w : World) (r : Ending) (w' : World) : Prop := r = .returned (.tuple #[.agg v, .bool b]) ∧ Keep [] w w'
theorem place3 {w : World} {g : Nat} {x y z : Value} (h : Blk w g 62 #[x, y, z]) (a b c : Value) : Blk (((w.setCell ⟨g, 0, none⟩ a).setCell ⟨g, 1, none⟩ b).setCell ⟨g, 2, none⟩ c) g 62 #[a, b, c] := ((h.set_ 0 a).set_ 1 b).set_ 2 c
theorem place3k {w w' : World} {g : Nat} (h : Keep [] w w') (hg : w.heap.size ≤ g) (a b c : Value) : Keep [] w (((w'.setCell ⟨g, 0, none⟩ a).setCell ⟨g, 1, none⟩ b).setCell ⟨g, 2, none⟩ c) := ((h.set_ a (.inr hg)).set_ b (.inr hg)).set_ c (.inr hg)
/-- Its two results, laid. -/
theorem what_end {w w' : World} {tmps : Array Value} {cs : Array Value} {b : Bool} {g : Nat} (hp : tmps.getD 4 undef = .pointer (some ⟨g, 0, none⟩)) (h5 : tmps.getD 5 undef = .bool b) (hb : Blk w' g 62 cs) (hs : cs.size = 3) (hk : Keep [] w w') : bodyPost Tryd.prog Tryd.f26 (WhatOut cs b w) Exit.ret { tmps := tmps, defers := [] } w' := by
  exact bodyPost_ret (results_row_tmp (p := 4) (u := 5) (ty := 62) (d := _) rfl _ _ g _ cs _ hp hb Tryd.underlying62 rfl (by rw [hs]; kernel_rfl)) rfl ⟨by rw [h5], hk⟩
set_option maxHeartbeats 1000000 in
theorem plan_what_no (c : ConfS) (p : Nat) (w : World) (h : PlanAt w p c) (ho : c.Ok) (a : Int) (ha : a < 0 ∨ (nWords c : Int) ≤ a) : Calls Tryd.prog 26 #[.pointer (some ⟨p, 0, none⟩), .int .i64 a] w (WhatOut (placeC (0, 0, 0)) false w) := by
  have hn : (3 + 8 * c.thr + 7 * c.slots : Int) = (nWords c : Int) := by unfold nWords; have := ho.t1; have := ho.s1; omega
  have hn2 : Hid (nWords c ≤ 2000) := Lib.hid (by unfold nWords; have := ho.t2; have := ho.s2; omega)
  have HP1 := Lib.hid (h.alloc (.cells #[.int .i64 0, .int .i64 0, .int .i64 0] 62))
  have KW := Lib.hid (fun (W : World) (hW : PlanAt W p c) => plan_words c p W hW ho)
  rw [hn] at KW
  have KI := Lib.hid (fun (W : World) => plan_in_no a 0 ((nWords c : Int) - 1) W (by rcases ha with h1 | h1 <;> omega))
  clear h ho ha hn
  generalize nWords c = n at *
  have hb : ((n : Nat) : Int) ≤ 2000 := by have := hn2.out; omega
  have hb0 : (0 : Int) ≤ ((n : Nat) : Int) := by omega
  go_enter Tryd.func26, Tryd.ntmps26
  go_wp2_with fail
  refine (KW.out _ HP1.out).mono ?_
  rintro r w2 ⟨rfl, k2, rfl⟩
  go_wp2_with fail
  refine (KI.out _).mono ?_
  rintro r w3 ⟨rfl, rfl⟩
  go_wp2_with fail
  exact what_end rfl rfl (place3 ((Blk.new w _ _).drewN k2) _ _ _) rfl (place3k (((Keep.refl [] w).alloc _).drewN k2) (Nat.le_refl _) _ _ _)
set_option maxHeartbeats 1000000 in
theorem plan_what_alone (c : ConfS) (p : Nat) (w : World) (h : PlanAt w p c) (ho : c.Ok) (a : Nat) (ha : a < 3) : Calls Tryd.prog 26 #[.pointer (some ⟨p, 0, none⟩), .int .i64 (a : Nat)] w (WhatOut (placeC (0, a, 0)) true w) := by
  have hn : (3 + 8 * c.thr + 7 * c.slots : Int) = (nWords c : Int) := by unfold nWords; have := ho.t1; have := ho.s1; omega
  have hn2 : Hid (nWords c ≤ 2000 ∧ 3 ≤ nWords c) := Lib.hid (by unfold nWords; have := ho.t2; have := ho.s2; omega)
  have HP1 := Lib.hid (h.alloc (.cells #[.int .i64 0, .int .i64 0, .int .i64 0] 62))
  have KW := Lib.hid (fun (W : World) (hW : PlanAt W p c) => plan_words c p W hW ho)
  rw [hn] at KW
  have KI := Lib.hid (fun (W : World) => plan_in_yes ((a : Nat) : Int) 0 ((nWords c : Int) - 1) W (by omega) (by have := hn2.out; omega))
  clear h ho hn
  generalize nWords c = n at *
  have hb : ((n : Nat) : Int) ≤ 2000 := by have := hn2.out; omega
  have hb0 : (0 : Int) ≤ ((n : Nat) : Int) := by omega
  have ha3 : ((a : Nat) : Int) < 3 := by omega
  go_enter Tryd.func26, Tryd.ntmps26
  go_wp2_with fail
  refine (KW.out _ HP1.out).mono ?_
  rintro r w2 ⟨rfl, k2, rfl⟩
  go_wp2_with fail
  refine (KI.out _).mono ?_
  rintro r w3 ⟨rfl, rfl⟩
  go_wp2_with fail
  exact what_end rfl rfl (place3 ((Blk.new w _ _).drewN k2) _ _ _) rfl (place3k (((Keep.refl [] w).alloc _).drewN k2) (Nat.le_refl _) _ _ _)
set_option maxHeartbeats 1000000 in
theorem plan_what_node (c : ConfS) (p : Nat) (w : World) (h : PlanAt w p c) (ho : c.Ok) (a m : Nat) (ha : a = 3 + 8 * c.thr.toNat + m) (hm : m < 7 * c.slots.toNat) : Calls Tryd.prog 26 #[.pointer (some ⟨p, 0, none⟩), .int .i64 (a : Nat)] w (WhatOut (placeC (5, 1 + m / 7, m % 7)) true w) := by
  have hn : (3 + 8 * c.thr + 7 * c.slots : Int) = (nWords c : Int) := by unfold nWords; have := ho.t1; have := ho.s1; omega
  have hs : (3 + 8 * c.thr : Int) = ((3 + 8 * c.thr.toNat : Nat) : Int) := by have := ho.t1; omega
  have hn2 : Hid (nWords c ≤ 2000 ∧ a < nWords c) := Lib.hid (by unfold nWords; have := ho.t2; have := ho.s2; omega)
  have HP1 := Lib.hid (h.alloc (.cells #[.int .i64 0, .int .i64 0, .int .i64 0] 62))
  have KW := Lib.hid (fun (W : World) (hW : PlanAt W p c) => plan_words c p W hW ho)
  have KS := Lib.hid (fun (W : World) (hW : PlanAt W p c) => plan_slots c p W hW ho)
  rw [hn] at KW
  rw [hs] at KS
  have KI := Lib.hid (fun (W : World) => plan_in_yes ((a : Nat) : Int) 0 ((nWords c : Int) - 1) W (by omega) (by have := hn2.out; omega))
  have hS : Hid (3 ≤ 3 + 8 * c.thr.toNat ∧ a = 3 + 8 * c.thr.toNat + m) := Lib.hid ⟨by omega, ha⟩
  clear h ho hn hs ha hm
  generalize nWords c = n at *
  generalize 3 + 8 * c.thr.toNat = N at *
  have hb : ((n : Nat) : Int) ≤ 2000 := by have := hn2.out; omega
  have hb0 : (0 : Int) ≤ ((n : Nat) : Int) := by omega
  have ha3 : ¬ ((a : Nat) : Int) < 3 := by have := hS.out; omega
  have haN : ((N : Nat) : Int) ≤ ((a : Nat) : Int) := by have := hS.out; omega
  have hw1 : IntKind.i64.wrap (((a : Nat) : Int) - ((N : Nat) : Int)) = ((m : Nat) : Int) := by
    have := hS.out
    have := hn2.out
    rw [IntWalk.i64_in _ (by omega)]
    omega
  obtain ⟨q, hq⟩ : ∃ q : Nat, q = m / 7 := ⟨_, rfl⟩
  obtain ⟨r, hr⟩ : ∃ r : Nat, r = m % 7 := ⟨_, rfl⟩
  have hq1 : Int.tdiv ((m : Nat) : Int) 7 = ((q : Nat) : Int) := by rw [hq]; exact (Int.ofNat_tdiv m 7)
  have hr1 : Int.tmod ((m : Nat) : Int) 7 = ((r : Nat) : Int) := by rw [hr]; exact (Int.ofNat_tmod m 7)
  have hq0 : (0 : Int) ≤ ((q : Nat) : Int) := by omega
  have hq9 : ((q : Nat) : Int) ≤ 2000 := by have := hS.out; have := hn2.out; omega
  have hr0 : (0 : Int) ≤ ((r : Nat) : Int) := by omega
  have hr9 : ((r : Nat) : Int) ≤ 2000 := by omega
  rw [← hq, ← hr]
  clear hq hr
  go_enter Tryd.func26, Tryd.ntmps26
  go_wp2_with fail
  refine (KW.out _ HP1.out).mono ?_
  rintro r' w2 ⟨rfl, k2, rfl⟩
  go_wp2_with fail
  refine (KI.out _).mono ?_
  rintro r' w3 ⟨rfl, rfl⟩
  go_wp2_with fail
  refine (KS.out _ (HP1.out.drewN _)).mono ?_
  rintro r' w3 ⟨rfl, rfl⟩
  go_wp2_with fail
  refine (KS.out _ (HP1.out.drewN _)).mono ?_
  rintro r' w3 ⟨rfl, rfl⟩
  go_wp2_with fail
  exact what_end rfl rfl (place3 ((Blk.new w _ _).drewN k2) _ _ _) rfl (place3k (((Keep.refl [] w).alloc _).drewN k2) (Nat.le_refl _) _ _ _)
end Go.Proofs.YtnhkjfknhponkaaDoor
