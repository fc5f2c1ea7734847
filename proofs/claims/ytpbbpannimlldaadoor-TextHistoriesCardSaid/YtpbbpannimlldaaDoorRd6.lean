/- An answer's parts, read: words.kind, text.pair by their contracts. Conditions: the library's tables and errors are as they were laid; at most 20000 bytes. -/
import Derived.Test.YtpbbpannimlldaaDoorRd4
namespace Go.Proofs.YtpbbpannimlldaaDoor
open Go.RowKit

set_option maxRecDepth 100000 in
theorem kind_index (k : Nat) (h : k < 9) : ∀ w : World, (Instr.index 78 (.agg kindsC) (.int .i64 (k : Nat))).run Tryd.prog w = .ok (.string ⟨(kindL.getD k []).toArray⟩) w := by
  have hc : k = 0 ∨ k = 1 ∨ k = 2 ∨ k = 3 ∨ k = 4 ∨ k = 5 ∨ k = 6 ∨ k = 7 ∨ k = 8 := by omega
  rcases hc with rfl | rfl | rfl | rfl | rfl | rfl | rfl | rfl | rfl <;> exact fun _ => by kernel_rfl
/-- A kind, or the panic that there is none. -/
def KindOut (w0 w : World) (wb : Nat) (ws : List (List UInt8)) (r : Ending) (w' : World) : Prop := Keep [wb] w w' ∧ match ws with
  | [] => r = panE 4
  | s :: t => match kdZ s with
    | some k => r = .returned (.int .i64 (k : Nat)) ∧ WdR w0 w' wb t
    | none => r = panE 3
set_option maxHeartbeats 2000000 in
theorem words_kind (w0 w : World) (wb : Nat) (ws : List (List UInt8)) (h : WdR w0 w wb ws) : Calls Tryd.prog 49 #[.pointer (some ⟨wb, 0, none⟩)] w (KindOut w0 w wb ws) := by
  have KX := Lib.hid (words_next w0 w wb ws h)
  unfold NextOut panE at KX
  clear h
  cases ws with
  | nil =>
    go_enter Tryd.func49, Tryd.ntmps49
    go_wp2_with fail
    refine KX.out.mono ?_
    rintro r x ⟨hk, rfl, _⟩
    have HK := Lib.hid hk
    clear hk KX
    go_wp2_with fail
    exact ⟨rfl, HK.out, rfl⟩
  | cons s t =>
    have HOUT : Hid (∀ (e : Ending) (W : World), Keep [wb] w W → (match kdZ s with | some k => e = .returned (.int .i64 (k : Nat)) ∧ WdR w0 W wb t | none => e = panE 3) → KindOut w0 w wb (s :: t) e W) := Lib.hid (fun e W h1 h2 => ⟨h1, h2⟩)
    go_enter Tryd.func49, Tryd.ntmps49
    go_wp2_with fail
    refine KX.out.mono ?_
    rintro r x ⟨hk, rfl, hx⟩
    have HK := Lib.hid hk
    have HX := Lib.hid hx
    clear hk hx KX
    go_wp2_with fail
    refine (text_kinds _).mono ?_
    rintro r y ⟨rfl, hk⟩
    have HK2 := Lib.hid (HK.out.trans hk (by simp))
    have HX2 := Lib.hid (HX.out.keep hk)
    clear hk HK HX
    go_wp2_with fail
    go_loopg [9] 9 (fun g v9 wr => ∃ k : Nat, k ≤ 9 ∧ g = 9 - k ∧ v9 = .int .i64 (k : Nat) ∧ wr = y ∧ ∀ j, j < k → kindL.getD j [] ≠ s)
    case atStart => exact ⟨0, Nat.zero_le _, rfl, rfl, rfl, fun j hj => by omega⟩
    case round =>
      obtain ⟨k, hk, rfl, rfl, rfl, hno⟩ := hrel
      have HNO := Lib.hid hno
      have hk0 : (0 : Int) ≤ ((k : Nat) : Int) := by omega
      have hk15 : ((k : Nat) : Int) ≤ 9 := by omega
      clear hno
      by_cases hlt : k < 9
      · have hz : ((k : Nat) : Int) < 9 := by omega
        have hidx := kind_index k hlt
        have HLT := Lib.hid hlt
        clear hlt
        by_cases he : kindL.getD k [] = s
        · have hb : (kindL.getD k [] == s) = true := by rw [beq_iff_eq]; exact he
          have HO : Hid (kdZ s = some k) := Lib.hid (firstZ_some HLT.out he HNO.out)
          clear he
          generalize kindL.getD k [] = L at *
          go_wp2_with fail
          go_ret
          exact HOUT.out _ _ HK2.out (by rw [HO.out]; exact ⟨rfl, HX2.out⟩)
        · have hb : (kindL.getD k [] == s) = false := by rw [beq_eq_false_iff_ne]; exact he
          have HN2 : Hid (∀ j, j < k + 1 → kindL.getD j [] ≠ s) := Lib.hid (fun j hj => by
            by_cases hjk : j < k
            · exact HNO.out j hjk
            · obtain rfl : j = k := by omega
              exact he)
          clear he
          generalize kindL.getD k [] = L at *
          go_wp2_with fail
          go_roundg (9 - (k + 1))
          case measure => have := HLT.out; omega
          case rel => exact ⟨k + 1, HLT.out, rfl, by go_num, rfl, HN2.out⟩
      · have hz : ¬ ((k : Nat) : Int) < 9 := by omega
        obtain rfl : k = 9 := by omega
        have HO : Hid (kdZ s = none) := Lib.hid (firstZ_none HNO.out)
        clear hlt
        go_wp2_with fail
        exact ⟨rfl, HOUT.out _ _ HK2.out (by rw [HO.out]; rfl)⟩
/-- A pair, or the panic that there is none. -/
def PairOut (s : List UInt8) (w : World) (r : Ending) (w' : World) : Prop := Keep [] w w' ∧ match pairZ s with
  | some p => r = .returned (.agg #[.int .i64 p.1, .int .i64 p.2])
  | none => r = panE 4
theorem pairZ_two {s a b : List UInt8} (h : cutZ 58 s = [a, b]) : pairZ s = match parseZ a, parseZ b with | some x, some y => some (x, y) | _, _ => none := by
  unfold pairZ
  rw [h]
  cases ha : parseZ a <;> cases hb : parseZ b <;> simp [ha, hb]
theorem pairZ_not {s : List UInt8} (h : (cutZ 58 s).length ≠ 2) : pairZ s = none := by
  unfold pairZ
  split
  · rename_i a b e
    rw [e] at h
    exact absurd rfl h
  · rfl
theorem cut_lib (s : List UInt8) : (Lib.cut s [58] = (s, [], false) ∧ pairZ s = none) ∨ (∃ a b, Lib.cut s [58] = (a, b, true) ∧ a.length ≤ s.length ∧ b.length ≤ s.length ∧ pairZ s = match parseZ a, parseZ b with | some x, some y => some (x, y) | _, _ => none) := by
  rcases cut_parts 58 s with ⟨e1, e2⟩ | ⟨i, e1, e2⟩
  · refine .inl ⟨?_, pairZ_not (by rw [e2]; simp)⟩
    unfold Lib.cut
    rw [e1, if_neg (by decide)]
  · refine .inr ⟨s.take i, s.drop (i + 1), ?_, by simp <;> omega, by simp <;> omega, ?_⟩
    · unfold Lib.cut
      rw [e1, if_pos (by omega)]
      rfl
    · cases hr : cutZ 58 (s.drop (i + 1)) with
      | nil => exact absurd hr (cutZ_ne _ _)
      | cons b r =>
        cases r with
        | nil =>
          have hb := cutZ_single hr
          rw [hr] at e2
          rw [pairZ_two e2, hb]
        | cons c r =>
          have hm := cutZ_mem (c := 58) (l := s.drop (i + 1)) (by rw [hr]; simp)
          rw [pairZ_not (by rw [e2, hr]; simp), parse_no hm (by decide) (by decide)]
          cases parseZ (s.take i) <;> rfl
set_option maxHeartbeats 2000000 in
theorem text_pair (s : List UInt8) (w : World) (hs : s.length ≤ 20000) (ht : TabsOk w) : Calls Tryd.prog 50 #[.string ⟨s.toArray⟩] w (PairOut s w) := by
  obtain ⟨m, hm⟩ := ht.max
  have HOUT : Hid (∀ (e : Ending) (W : World), Keep [] w W → (match pairZ s with | some p => e = .returned (.agg #[.int .i64 p.1, .int .i64 p.2]) | none => e = panE 4) → PairOut s w e W) := Lib.hid (fun e W h1 h2 => ⟨h1, h2⟩)
  have HT := Lib.hid ht
  have HRB := Lib.hid (Blk.new w 51 #[.int .i64 0, .int .i64 0])
  have HK1 := Lib.hid ((Keep.refl [] w).alloc (.cells #[.int .i64 0, .int .i64 0] 51))
  have hsz : (⟨s.toArray⟩ : ByteArray).size = s.length := by show s.toArray.size = _; simp
  have KC : Hid (∀ W, Keep [] w W → Calls Tryd.prog 51 #[.string ⟨s.toArray⟩, .string { data := #[58] }] W fun e w' => e = .returned (.tuple #[.string ⟨(Lib.cut s [58]).1.toArray⟩, .string ⟨(Lib.cut s [58]).2.1.toArray⟩, .bool (Lib.cut s [58]).2.2]) ∧ ∃ n, w' = W.drewN n) := Lib.hid (fun W hk => Tryd.strings_Cut ⟨s.toArray⟩ ⟨#[58]⟩ m W (by rw [hsz]; omega) (cell_keep0 hm hk))
  have HSL := Lib.hid hs
  clear ht hm hsz hs
  go_enter Tryd.func50, Tryd.ntmps50
  go_upto_region 1 with fail
  generalize hrb : w.heap.size = rb at HRB ⊢
  have HRN := Lib.hid hrb
  clear hrb
  generalize w.alloc _ = w1 at HRB HK1 ⊢
  go_wp2_with fail
  refine (KC.out _ HK1.out).mono ?_
  rintro r x ⟨rfl, n, rfl⟩
  have HK2 := Lib.hid (HK1.out.drewN n)
  have HR2 := Lib.hid (HRB.out.drewN n)
  clear HK1 HRB KC
  generalize w1.drewN n = x at *
  rcases cut_lib s with ⟨hc, hp⟩ | ⟨a, b, hc, ha, hb, hp⟩
  · rw [hc]
    have HP := Lib.hid hp
    clear hc hp
    dsimp only
    go_wp2_with fail
    exact ⟨rfl, HOUT.out _ _ HK2.out (by rw [HP.out]; rfl)⟩
  · rw [hc]
    have HP := Lib.hid hp
    have KA := Lib.hid (fun (W : World) (hk : Keep [] w W) => text_parse a W (by have := HSL.out; omega) (HT.out.keep hk))
    have KB := Lib.hid (fun (W : World) (hk : Keep [] w W) => text_parse b W (by have := HSL.out; omega) (HT.out.keep hk))
    unfold ParseOut panE at KA KB
    clear hc hp ha hb
    dsimp only
    cases hpa : parseZ a with
    | none =>
      rw [hpa] at KA HP
      have HP2 : Hid (pairZ s = none) := Lib.hid HP.out
      clear hpa HP
      go_wp2_with fail
      refine (KA.out _ HK2.out).mono ?_
      rintro r y ⟨hk, rfl⟩
      have HK3 := Lib.hid (HK2.out.trans hk (by simp))
      clear hk
      go_wp2_with fail
      exact ⟨rfl, HOUT.out _ _ HK3.out (by rw [HP2.out]; rfl)⟩
    | some xa =>
      rw [hpa] at KA HP
      clear hpa
      go_wp2_with fail
      refine (KA.out _ HK2.out).mono ?_
      rintro r y ⟨hk, rfl⟩
      have HK3 := Lib.hid (HK2.out.trans hk (by simp))
      have HR3 := Lib.hid (HR2.out.keep hk (by simp))
      clear hk HK2 HR2
      cases hpb : parseZ b with
      | none =>
        rw [hpb] at KB HP
        have HP2 : Hid (pairZ s = none) := Lib.hid HP.out
        clear hpb HP
        go_wp2_with fail
        refine (KB.out _ HK3.out).mono ?_
        rintro r z ⟨hk, rfl⟩
        have HK4 := Lib.hid (HK3.out.trans hk (by simp))
        clear hk
        go_wp2_with fail
        exact ⟨rfl, HOUT.out _ _ HK4.out (by rw [HP2.out]; rfl)⟩
      | some xb =>
        rw [hpb] at KB HP
        have HP2 : Hid (pairZ s = some (xa, xb)) := Lib.hid HP.out
        clear hpb HP
        go_wp2_with fail
        refine (KB.out _ HK3.out).mono ?_
        rintro r z ⟨hk, rfl⟩
        have HK4 := Lib.hid (HK3.out.trans hk (by simp))
        have HR4 := Lib.hid (HR3.out.keep hk (by simp))
        clear hk HK3 HR3
        have hr0 : z.cell? ⟨rb, 0, none⟩ = some (.int .i64 0) := HR4.out.cell 0
        have hr1 : z.cell? ⟨rb, 1, none⟩ = some (.int .i64 0) := HR4.out.cell 1
        have hf0 := HR4.out.frozen 0
        have hf1 := HR4.out.frozen 1
        go_wp2_with fail
        exact bodyPost_ret (results_cell_row (p := 2) (ty := 51) rfl _ _ rb _ _ _ _ rfl ((HR4.out.set_ 0 (.int .i64 xa)).set_ 1 (.int .i64 xb)) Tryd.underlying51 rfl (by kernel_rfl)) rfl (HOUT.out _ _ ((HK4.out.set_ (p := ⟨rb, 0, none⟩) _ (.inr (Nat.le_of_eq HRN.out))).set_ (p := ⟨rb, 1, none⟩) _ (.inr (Nat.le_of_eq HRN.out))) (by rw [HP2.out]; rfl))
end Go.Proofs.YtpbbpannimlldaaDoor
