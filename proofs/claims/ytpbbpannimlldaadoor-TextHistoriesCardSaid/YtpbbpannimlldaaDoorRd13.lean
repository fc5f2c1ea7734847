/- TextReads: the law's walk. Conditions: the library's tables and errors are as they were laid. -/
import Derived.Test.YtpbbpannimlldaaDoorRd5
import Derived.Test.YtpbbpannimlldaaDoorRd8
import Derived.Test.YtpbbpannimlldaaDoorRd11
import Derived.Test.YtpbbpannimlldaaDoorRd12
namespace Go.Proofs.YtpbbpannimlldaaDoor
open Go.RowKit

def callP (ws : List (List UInt8)) : CallX × Int := match readC ws with
  | .ok c => (c, 0)
  | .error k => (CallX.zero, k)
def ansP (ws : List (List UInt8)) : AnsX × Int := match readA ws with
  | .ok a => (a, 0)
  | .error k => (⟨0, 0, 0, 0, [], none, 0⟩, k)
def CalR (c : CallX) (e : Int) (w : World) (r : Ending) (w' : World) : Prop := r = .returned (.tuple #[.agg #[.int .i64 c.op, .int .i64 c.key, .int .i64 c.val, .int .i64 c.hi, .int .i64 c.lim], .int .i64 e]) ∧ Keep [] w w'
def AnsR (a : AnsX) (e : Int) (w : World) (r : Ending) (w' : World) : Prop := Keep [] w w' ∧ ∃ A cap, r = .returned (.tuple #[.agg #[.int .i64 a.kind, .int .i64 a.key, .int .i64 a.val, .int .i64 a.n, .slice A a.ps.length cap], .int .i64 e]) ∧ ElAt pairC w' A a.ps
theorem CalR.of_text {s : List UInt8} {w w' : World} {r : Ending} (h : ReadCOut s w r w') : CalR (callP (cutZ 32 s)).1 (callP (cutZ 32 s)).2 w r w' := h
theorem CalR.of_ref {ws : List (List UInt8)} {w w' : World} {r : Ending} (h : RCallOut ws w r w') : CalR (callP ws).1 (callP ws).2 w r w' := by
  obtain ⟨h1, h2⟩ := h
  refine ⟨?_, h1⟩
  unfold callP
  cases hr : readC ws with
  | ok c => rw [hr] at h2; exact h2
  | error k => rw [hr] at h2; exact h2
theorem AnsR.of_text {s : List UInt8} {w w' : World} {r : Ending} (h : ReadAOut s w r w') : AnsR (ansP (cutZ 32 s)).1 (ansP (cutZ 32 s)).2 w r w' := by
  obtain ⟨h1, h2⟩ := h
  refine ⟨h1, ?_⟩
  unfold ansP
  cases hr : readA (cutZ 32 s) with
  | ok a => rw [hr] at h2; obtain ⟨A, cap, e, o⟩ := h2; exact ⟨A, cap, e, ElAt.of_own o rfl⟩
  | error k => rw [hr] at h2; exact ⟨none, 0, h2, fun h => absurd h (Nat.lt_irrefl 0)⟩
theorem AnsR.of_ref {ws : List (List UInt8)} {w w' : World} {r : Ending} (h : RAnsOut ws w r w') : AnsR (ansP ws).1 (ansP ws).2 w r w' := by
  obtain ⟨h1, h2⟩ := h
  refine ⟨h1, ?_⟩
  unfold ansP
  cases hr : readA ws with
  | ok a => rw [hr] at h2; obtain ⟨A, cap, e, o⟩ := h2; exact ⟨A, cap, e, ElAt.of_own o rfl⟩
  | error k => rw [hr] at h2; exact ⟨none, 0, h2, fun h => absurd h (Nat.lt_irrefl 0)⟩
theorem prsZ_len : ∀ {t : List (List UInt8)} {l : List (Int × Int)}, prsZ t = some l → l.length = t.length
  | [], l, h => by injection h with h; subst h; rfl
  | s :: t, l, h => by
    cases hp : pairZ s with
    | none => rw [prsZ_cons_none hp] at h; cases h
    | some p =>
      rw [prsZ_cons_some hp] at h
      cases ht : prsZ t with
      | none => rw [ht] at h; cases h
      | some m =>
        rw [ht] at h
        injection h with h
        subst h
        show m.length + 1 = t.length + 1
        rw [prsZ_len ht]
theorem ansP_len (ws : List (List UInt8)) : (ansP ws).1.ps.length ≤ ws.length := by
  unfold ansP
  cases hr : readA ws with
  | error k => exact Nat.zero_le _
  | ok a =>
    show a.ps.length ≤ ws.length
    cases ws with
    | nil => cases hr
    | cons s t =>
      cases hk : kdZ s with
      | none => rw [readA_none hk] at hr; cases hr
      | some k =>
        by_cases h3 : k = 3
        · subst h3
          rw [readA_three hk] at hr
          cases hp : prsZ t with
          | none => rw [hp] at hr; cases hr
          | some l =>
            rw [hp] at hr
            injection hr with hr
            subst hr
            show l.length ≤ t.length + 1
            rw [prsZ_len hp]
            omega
        · rw [readA_gat hk h3] at hr
          split at hr
          · cases hr
          · split at hr
            · injection hr with hr
              subst hr
              unfold ansK
              split
              · exact Nat.zero_le _
              · split <;> exact Nat.zero_le _
            · cases hr
theorem call_eql (a b c d e : Int) (w : World) : (binOp .eql 26 (.agg #[.int .i64 a, .int .i64 b, .int .i64 c, .int .i64 d, .int .i64 e]) (.agg #[.int .i64 a, .int .i64 b, .int .i64 c, .int .i64 d, .int .i64 e])).run Tryd.prog w = .ok (.bool true) w := by
  rw [run_eql_struct]
  simp [go_sem, Tryd.underlying26, Tryd.underlying3, Tryd.underlying2]
theorem strL_flat (l : List (List UInt8)) : strL l = l.flatMap strC := by
  induction l with
  | nil => rfl
  | cons a l ih => unfold strL at *; rw [List.map_cons, ih]; rfl
set_option maxRecDepth 100000 in
set_option maxHeartbeats 4000000 in
theorem text_reads (s : List UInt8) (w : World) (ht : TabsOk w) : Calls Tryd.prog 3 #[.string ⟨s.toArray⟩] w (TrueOut w) := by
  have KV := Lib.hid (fun (W : World) (hk : Keep [] w W) => law35_lives W (ht.tab.keep hk))
  unfold TrueOut at KV
  by_cases h2 : 2000 < s.length
  · have hz : (2000 : Int) < ((s.length : Nat) : Int) := by omega
    clear h2 ht
    go_enter Tryd.func3, Tryd.ntmps3
    go_wp2_with fail
    refine (KV.out _ (Keep.refl _ _)).mono ?_
    rintro r x ⟨rfl, hk⟩
    have HK := Lib.hid hk
    clear hk
    go_wp2_with fail
    go_ret
    exact ⟨rfl, HK.out⟩
  have hz : ¬ (2000 : Int) < ((s.length : Nat) : Int) := by omega
  have hs5 : s.length ≤ 20000 := by omega
  have KC := Lib.hid (fun (W : World) => ref35_cut 32 s W hs5)
  unfold CutOut at KC
  have KTC := Lib.hid (fun (W : World) (hk : Keep [] w W) => (text_readCall s W hs5 (ht.keep hk)).mono (fun _ _ h => CalR.of_text h))
  have KTA := Lib.hid (fun (W : World) (hk : Keep [] w W) => (text_readAnswer s W hs5 (ht.keep hk)).mono (fun _ _ h => AnsR.of_text h))
  obtain ⟨hwn, hwl⟩ := cutZ_len 32 s
  have HWN : Hid ((cutZ 32 s).length ≤ 20001) := Lib.hid (by omega)
  have HWL : Hid (∀ x ∈ cutZ 32 s, x.length ≤ 20000) := Lib.hid (fun x hx => by have := hwl x hx; omega)
  have HPS : Hid ((ansP (cutZ 32 s)).1.ps.length ≤ 20001) := Lib.hid (by have := ansP_len (cutZ 32 s); have := HWN.out; omega)
  have hne := cutZ_ne 32 s
  have KRC : Hid (∀ (W : World) (A : Option Addr) (cap : Nat), ElAt strC W A (cutZ 32 s) → Calls Tryd.prog 9 #[.slice A (cutZ 32 s).length cap] W (CalR (callP (cutZ 32 s)).1 (callP (cutZ 32 s)).2 W)) := Lib.hid (fun W A cap hA => by
    have h1 := HWN.out
    have h2 := HWL.out
    generalize cutZ 32 s = ws at *
    match ws, hne with
    | s0 :: t0, _ => exact (ref35_readCall W A cap s0 t0 ⟨hA, h2, h1⟩).mono (fun _ _ h => CalR.of_ref h))
  have KRA : Hid (∀ (W : World) (A : Option Addr) (cap : Nat), ElAt strC W A (cutZ 32 s) → Calls Tryd.prog 11 #[.slice A (cutZ 32 s).length cap] W (AnsR (ansP (cutZ 32 s)).1 (ansP (cutZ 32 s)).2 W)) := Lib.hid (fun W A cap hA => by
    have h1 := HWN.out
    have h2 := HWL.out
    generalize cutZ 32 s = ws at *
    match ws, hne with
    | s0 :: t0, _ => exact (ref35_readAnswer W A cap s0 t0 ⟨hA, h2, h1⟩).mono (fun _ _ h => AnsR.of_ref h))
  clear h2 ht hs5 hwn hwl hne
  generalize callP (cutZ 32 s) = cp at *
  generalize ansP (cutZ 32 s) = ap at *
  generalize cutZ 32 s = ws at *
  obtain ⟨c, ce⟩ := cp
  obtain ⟨a, ae⟩ := ap
  have KS : Hid (∀ (W : World) (A1 A2 : Option Addr) (c1 c2 : Nat), ElAt pairC W A1 a.ps → ElAt pairC W A2 a.ps → Calls Tryd.prog 12 #[.agg #[.int .i64 a.kind, .int .i64 a.key, .int .i64 a.val, .int .i64 a.n, .slice A1 a.ps.length c1], .agg #[.int .i64 a.kind, .int .i64 a.key, .int .i64 a.val, .int .i64 a.n, .slice A2 a.ps.length c2]] W (SameOut W)) := Lib.hid (fun W A1 A2 c1 c2 h1 h2 => ref09_same W _ _ _ _ A1 A2 c1 c2 a.ps h1 h2 HPS.out)
  clear HPS HWN HWL
  dsimp only at KTC KTA KRC KRA
  unfold CalR at KTC KRC
  unfold AnsR at KTA KRA
  unfold SameOut at KS
  go_enter Tryd.func3, Tryd.ntmps3
  go_wp2_with fail
  refine (KC.out _).mono ?_
  rintro r w1 ⟨hk, A, cap, rfl, ho⟩
  have HK1 := Lib.hid hk
  rw [strL_flat] at ho
  have HW1 := Lib.hid (ElAt.of_own ho rfl)
  clear hk ho KC hz
  go_wp2_with fail
  refine (KTC.out _ HK1.out).mono ?_
  rintro r w2 ⟨rfl, hk⟩
  have HK2 := Lib.hid (HK1.out.trans hk (by simp))
  have HW2 := Lib.hid (HW1.out.keep hk)
  clear hk HK1 HW1 KTC
  go_upto_region 5 with fail
  have HB3 := Lib.hid (Blk.new w2 26 #[.int .i64 c.op, .int .i64 c.key, .int .i64 c.val, .int .i64 c.hi, .int .i64 c.lim])
  have hka := (Keep.refl [] w2).alloc (.cells #[.int .i64 c.op, .int .i64 c.key, .int .i64 c.val, .int .i64 c.hi, .int .i64 c.lim] 26)
  have HK3 := Lib.hid (HK2.out.trans hka (by simp))
  have HW3 := Lib.hid (HW2.out.keep hka)
  clear hka HK2 HW2
  generalize w2.heap.size = b3 at HB3 ⊢
  generalize w2.alloc _ = w3 at HB3 HK3 HW3 ⊢
  go_wp2_with fail
  refine (KRC.out _ _ _ HW3.out).mono ?_
  rintro r w4 ⟨rfl, hk⟩
  have HK4 := Lib.hid (HK3.out.trans hk (by simp))
  have HW4 := Lib.hid (HW3.out.keep hk)
  have HB4 := Lib.hid (HB3.out.keep hk (by simp))
  clear hk HK3 HW3 HB3 KRC
  go_upto_region 6 with fail
  have HC5 := Lib.hid (Blk.new w4 26 #[.int .i64 c.op, .int .i64 c.key, .int .i64 c.val, .int .i64 c.hi, .int .i64 c.lim])
  have hka := (Keep.refl [] w4).alloc (.cells #[.int .i64 c.op, .int .i64 c.key, .int .i64 c.val, .int .i64 c.hi, .int .i64 c.lim] 26)
  have HK5 := Lib.hid (HK4.out.trans hka (by simp))
  have HW5 := Lib.hid (HW4.out.keep hka)
  have HB5 := Lib.hid (HB4.out.keep hka (by simp))
  clear hka HK4 HW4 HB4
  generalize w4.heap.size = c3 at HC5 ⊢
  generalize w4.alloc _ = w5 at HC5 HB5 HK5 HW5 ⊢
  go_wp2_with fail
  refine (KTA.out _ HK5.out).mono ?_
  rintro r w6 ⟨hk, A1, p1, rfl, he⟩
  have HK6 := Lib.hid (HK5.out.trans hk (by simp))
  have HW6 := Lib.hid (HW5.out.keep hk)
  have HB6 := Lib.hid (HB5.out.keep hk (by simp))
  have HC6 := Lib.hid (HC5.out.keep hk (by simp))
  have HE6 := Lib.hid he
  clear hk he HK5 HW5 HB5 HC5 KTA
  go_upto_region 7 with fail
  have HD7 := Lib.hid (Blk.new w6 33 #[.int .i64 a.kind, .int .i64 a.key, .int .i64 a.val, .int .i64 a.n, .slice A1 a.ps.length p1])
  have hka := (Keep.refl [] w6).alloc (.cells #[.int .i64 a.kind, .int .i64 a.key, .int .i64 a.val, .int .i64 a.n, .slice A1 a.ps.length p1] 33)
  have HK7 := Lib.hid (HK6.out.trans hka (by simp))
  have HW7 := Lib.hid (HW6.out.keep hka)
  have HB7 := Lib.hid (HB6.out.keep hka (by simp))
  have HC7 := Lib.hid (HC6.out.keep hka (by simp))
  have HE7 := Lib.hid (HE6.out.keep hka)
  clear hka HK6 HW6 HB6 HC6 HE6
  generalize w6.heap.size = d3 at HD7 ⊢
  generalize w6.alloc _ = w7 at HD7 HC7 HB7 HK7 HW7 HE7 ⊢
  go_wp2_with fail
  refine (KRA.out _ _ _ HW7.out).mono ?_
  rintro r w8 ⟨hk, A2, p2, rfl, he⟩
  have HK8 := Lib.hid (HK7.out.trans hk (by simp))
  have HB8 := Lib.hid (HB7.out.keep hk (by simp))
  have HC8 := Lib.hid (HC7.out.keep hk (by simp))
  have HD8 := Lib.hid (HD7.out.keep hk (by simp))
  have HE8 := Lib.hid (HE7.out.keep hk)
  have HF8 := Lib.hid he
  clear hk he HK7 HW7 HB7 HC7 HD7 HE7 KRA
  go_upto_region 8 with fail
  have HX9 := Lib.hid (Blk.new w8 33 #[.int .i64 a.kind, .int .i64 a.key, .int .i64 a.val, .int .i64 a.n, .slice A2 a.ps.length p2])
  have hka := (Keep.refl [] w8).alloc (.cells #[.int .i64 a.kind, .int .i64 a.key, .int .i64 a.val, .int .i64 a.n, .slice A2 a.ps.length p2] 33)
  have HK9 := Lib.hid (HK8.out.trans hka (by simp))
  have HB9 := Lib.hid (HB8.out.keep hka (by simp))
  have HC9 := Lib.hid (HC8.out.keep hka (by simp))
  have HD9 := Lib.hid (HD8.out.keep hka (by simp))
  have HE9 := Lib.hid (HE8.out.keep hka)
  have HF9 := Lib.hid (HF8.out.keep hka)
  clear hka HK8 HB8 HC8 HD8 HE8 HF8
  generalize w8.heap.size = x3 at HX9 ⊢
  generalize w8.alloc _ = w9 at HX9 HD9 HC9 HB9 HK9 HE9 HF9 ⊢
  have KS9 := Lib.hid (KS.out w9 A1 A2 p1 p2 HE9.out HF9.out)
  clear KS HE9 HF9
  have b0 : w9.cell? ⟨b3, 0, none⟩ = some (.int .i64 c.op) := HB9.out.cell 0
  have b1 : w9.cell? ⟨b3, 1, none⟩ = some (.int .i64 c.key) := HB9.out.cell 1
  have b2 : w9.cell? ⟨b3, 2, none⟩ = some (.int .i64 c.val) := HB9.out.cell 2
  have b3' : w9.cell? ⟨b3, 3, none⟩ = some (.int .i64 c.hi) := HB9.out.cell 3
  have b4 : w9.cell? ⟨b3, 4, none⟩ = some (.int .i64 c.lim) := HB9.out.cell 4
  have c0 : w9.cell? ⟨c3, 0, none⟩ = some (.int .i64 c.op) := HC9.out.cell 0
  have c1 : w9.cell? ⟨c3, 1, none⟩ = some (.int .i64 c.key) := HC9.out.cell 1
  have c2 : w9.cell? ⟨c3, 2, none⟩ = some (.int .i64 c.val) := HC9.out.cell 2
  have c3' : w9.cell? ⟨c3, 3, none⟩ = some (.int .i64 c.hi) := HC9.out.cell 3
  have c4 : w9.cell? ⟨c3, 4, none⟩ = some (.int .i64 c.lim) := HC9.out.cell 4
  have d0 : w9.cell? ⟨d3, 0, none⟩ = some (.int .i64 a.kind) := HD9.out.cell 0
  have d1 : w9.cell? ⟨d3, 1, none⟩ = some (.int .i64 a.key) := HD9.out.cell 1
  have d2 : w9.cell? ⟨d3, 2, none⟩ = some (.int .i64 a.val) := HD9.out.cell 2
  have d3' : w9.cell? ⟨d3, 3, none⟩ = some (.int .i64 a.n) := HD9.out.cell 3
  have d4 : w9.cell? ⟨d3, 4, none⟩ = some (.slice A1 a.ps.length p1) := HD9.out.cell 4
  have x0 : w9.cell? ⟨x3, 0, none⟩ = some (.int .i64 a.kind) := HX9.out.cell 0
  have x1 : w9.cell? ⟨x3, 1, none⟩ = some (.int .i64 a.key) := HX9.out.cell 1
  have x2 : w9.cell? ⟨x3, 2, none⟩ = some (.int .i64 a.val) := HX9.out.cell 2
  have x3' : w9.cell? ⟨x3, 3, none⟩ = some (.int .i64 a.n) := HX9.out.cell 3
  have x4 : w9.cell? ⟨x3, 4, none⟩ = some (.slice A2 a.ps.length p2) := HX9.out.cell 4
  have hq := fun (w : World) => call_eql c.op c.key c.val c.hi c.lim w
  generalize c.op = n0 at *
  generalize c.key = n1 at *
  generalize c.val = n2 at *
  generalize c.hi = n3 at *
  generalize c.lim = n4 at *
  clear HB9 HC9 HD9 HX9
  go_wp2_with fail
  refine KS9.out.mono ?_
  rintro r w10 ⟨rfl, hk⟩
  have HK10 := Lib.hid (HK9.out.trans hk (by simp))
  clear hk KS9 HK9
  go_wp2_with fail
  refine (KV.out _ HK10.out).mono ?_
  rintro r w11 ⟨rfl, hk⟩
  have HK11 := Lib.hid (HK10.out.trans hk (by simp))
  clear hk
  go_wp2_with fail
  go_ret
  exact ⟨rfl, HK11.out⟩
end Go.Proofs.YtpbbpannimlldaaDoor
