/- TraceReplays: a word's name, by its place; the chapter's example. Conditions: the configuration may be; numbers below 100. -/
import Derived.Test.YtnhkjfknhponkaaDoorTr2
namespace Go.Proofs.YtnhkjfknhponkaaDoor
open Go.RowKit

/-- Fields' names, and those of words that stand alone. -/
def fieldB (r : Nat) : List UInt8 := [[108, 105, 110, 107], [103, 101, 110], [105, 110, 102, 111], [107, 101, 121], [108, 101, 102, 116], [114, 105, 103, 104, 116], [100, 105, 101, 100]].getD r []
def aloneB (r : Nat) : List UInt8 := [[99, 108, 111, 99, 107], [101, 112, 111, 99, 104], [102, 114, 101, 101]].getD r []
theorem field_index (r : Nat) (h : r < 7) : (fieldB r).length ≤ 5 ∧ ∀ w : World, (Instr.index 68 (.agg fieldsC) (.int .i64 (r : Nat))).run Tryd.prog w = .ok (.string ⟨(fieldB r).toArray⟩) w := by
  have hcase : r = 0 ∨ r = 1 ∨ r = 2 ∨ r = 3 ∨ r = 4 ∨ r = 5 ∨ r = 6 := by omega
  rcases hcase with rfl | rfl | rfl | rfl | rfl | rfl | rfl <;> exact ⟨by decide, fun _ => by kernel_rfl⟩
theorem alone_index (r : Nat) (h : r < 3) : (aloneB r).length ≤ 5 ∧ ∀ w : World, (Instr.index 65 (.agg aloneC) (.int .i64 (r : Nat))).run Tryd.prog w = .ok (.string ⟨(aloneB r).toArray⟩) w := by
  have hcase : r = 0 ∨ r = 1 ∨ r = 2 := by omega
  rcases hcase with rfl | rfl | rfl <;> exact ⟨by decide, fun _ => by kernel_rfl⟩
/-- A number behind a blank. -/
def numB (i : Nat) : List UInt8 := 32 :: Lib.decDigits i
theorem numB_len {i : Nat} (hi : i < 100) : (numB i).length ≤ 3 := by
  have := small_len hi
  simp [numB]
  omega
def StrOut (l : List UInt8) (w : World) (r : Ending) (w' : World) : Prop := r = .returned (.string ⟨l.toArray⟩) ∧ Keep [] w w'
set_option maxHeartbeats 2000000 in
theorem trace_name_node (c : ConfS) (p : Nat) (w : World) (h : PlanAt w p c) (ho : c.Ok) (a m : Nat) (ha : a = 3 + 8 * c.thr.toNat + m) (hm : m < 7 * c.slots.toNat) (hs : 1 + m / 7 < 100) :
    Calls Tryd.prog 9 #[.pointer (some ⟨p, 0, none⟩), .int .i64 (a : Nat)] w (StrOut ([115, 108, 111, 116] ++ numB (1 + m / 7) ++ [32] ++ fieldB (m % 7)) w) := by
  have KW := Lib.hid (plan_what_node c p w h ho a m ha hm)
  have KN := Lib.hid (fun W => trace_number (1 + m / 7) hs W)
  have hl1 := numB_len hs
  obtain ⟨hl2, hidx⟩ := field_index (m % 7) (by omega)
  have hcat := Lib.hid (cat_eq)
  clear h ho ha hm
  generalize hI : 1 + m / 7 = I at *
  generalize hJ : m % 7 = J at *
  have hnb : (32 :: Lib.decDigits I) = numB I := rfl
  rw [hnb] at KN
  clear hI hJ hnb hs
  generalize numB I = nb at *
  generalize fieldB J = fb at *
  have hn1 : ¬ 9223372036854775807 < 4 + nb.length := by omega
  have hn2 : ¬ 9223372036854775807 < 4 + nb.length + 1 := by omega
  have hn3 : ¬ 9223372036854775807 < 4 + nb.length + 1 + fb.length := by omega
  clear hl1 hl2
  obtain ⟨L, HL⟩ : ∃ L, Hid (L = [115, 108, 111, 116] ++ nb ++ [32] ++ fb) := ⟨_, Lib.hid rfl⟩
  rw [← HL.out]
  go_enter Tryd.func9, Tryd.ntmps9
  go_wp2_with fail
  refine KW.out.mono ?_
  rintro r w1 ⟨rfl, hk⟩
  have HK1 := Lib.hid hk
  clear hk KW
  unfold placeC
  go_upto_region 15 with fail
  have HB := Lib.hid (Blk.new w1 62 #[.int .i64 (5 : Nat), .int .i64 (I : Nat), .int .i64 (J : Nat)])
  have HK2 := Lib.hid (HK1.out.alloc (.cells #[.int .i64 (5 : Nat), .int .i64 (I : Nat), .int .i64 (J : Nat)] 62))
  generalize w1.heap.size = g at HB ⊢
  generalize w1.alloc _ = w2 at HB HK2 ⊢
  have hc1 : w2.cell? ⟨g, 1, none⟩ = some (.int .i64 (I : Nat)) := HB.out.cell 1
  have hc2 : w2.cell? ⟨g, 2, none⟩ = some (.int .i64 (J : Nat)) := HB.out.cell 2
  go_region_held3 (fun w' => w'.cell? ⟨g, 1, none⟩ = some (.int .i64 (I : Nat)) ∧ w'.cell? ⟨g, 2, none⟩ = some (.int .i64 (J : Nat))) (first | exact ⟨hc1, hc2⟩ | go_keep) (first | (go_at_call 28; refine (KN.out _).mono ?_; rintro r x ⟨rfl, rfl⟩) | (go_at_call 29; refine (trace_fields _).mono ?_; rintro r x ⟨rfl, hk⟩; have HKx := Lib.hid hk; have HBx := Lib.hid (HB.out.drew.keep hk (by simp)); have hc1 : x.cell? ⟨g, 1, none⟩ = some (.int .i64 (I : Nat)) := HBx.out.cell 1; have hc2 : x.cell? ⟨g, 2, none⟩ = some (.int .i64 (J : Nat)) := HBx.out.cell 2; clear hk))
  have hE : Hid ((⟨#[115, 108, 111, 116]⟩ : ByteArray) ++ ⟨nb.toArray⟩ ++ ⟨#[32]⟩ ++ ⟨fb.toArray⟩ = ⟨L.toArray⟩) := Lib.hid (by rw [HL.out, ← cat_eq, ← cat_eq, ← cat_eq])
  go_wp2
  go_ret
  exact ⟨congrArg (fun s => Ending.returned (.string s)) hE.out, (HK2.out.drew).trans HKx.out (by simp)⟩
/-- What every law tells. -/
def LivesOut (w : World) (r : Ending) (w' : World) : Prop := r = .returned (.bool true) ∧ Keep [] w w'
def cEx : ConfS := ⟨1, 7, 5⟩
theorem cEx_ok : cEx.Ok := ⟨by decide, by decide, by decide, by decide, by decide, by decide⟩
set_option maxHeartbeats 1000000 in
theorem lives40 (w : World) : Calls Tryd.prog 6 #[] w (LivesOut w) := by
  have KP := Lib.hid (fun W => plan_new_yes cEx W cEx_ok)
  have KN := Lib.hid (fun (W : World) p (hp : PlanAt W p cEx) => trace_name_node cEx p W hp cEx_ok 13 2 rfl (by decide) (by decide))
  have hL : [115, 108, 111, 116] ++ numB (1 + 2 / 7) ++ [32] ++ fieldB (2 % 7) = ([115, 108, 111, 116, 32, 49, 32, 105, 110, 102, 111] : List UInt8) := by decide +kernel
  rw [hL] at KN
  rw [show cEx.cells = #[.int .i64 1, .int .i64 7, .int .u64 5] from rfl] at KP
  clear hL
  go_enter Tryd.func6, Tryd.ntmps6
  go_wp2_with fail
  refine (KP.out _).mono ?_
  rintro r x ⟨p, rfl, hp, _, hk⟩
  have HP := Lib.hid hp
  have HK := Lib.hid hk
  clear hp hk
  go_wp2_with fail
  refine (KN.out _ _ HP.out).mono ?_
  rintro r y ⟨rfl, hk⟩
  have HK2 := Lib.hid (HK.out.trans hk (by simp))
  clear hk
  go_wp2_with fail
  go_ret
  exact ⟨rfl, HK2.out⟩
end Go.Proofs.YtnhkjfknhponkaaDoor
