/- Numbers and words, written: the library's numbers, call.Word, the reference's Word, kinds, by their contracts. Condition: the library's table is as it was laid. -/
import Derived.Test.YtpbbpannimlldaaDoorTxP
import Derived.Test.YtpbbpannimlldaaDoorFu0
namespace Go.Proofs.YtpbbpannimlldaaDoor
open Go.RowKit

theorem itoa_all (n : Int) (h : I64 n) (w : World) (ht : TabOk w) : Calls Tryd.prog 39 #[.int .i64 n] w (TextOut (Lib.itoa n) w) := by
  refine (Tryd.strconv_Itoa n h.1 h.2 w ht).mono ?_
  rintro r x ⟨rfl, k, os, rfl⟩
  exact ⟨rfl, keep_grow w k os⟩
theorem text_number (n : Int) (h : I64 n) (w : World) (ht : TabOk w) : Calls Tryd.prog 38 #[.int .i64 n] w (TextOut (Lib.itoa n) w) := by
  have K := Lib.hid (Tryd.strconv_FormatInt_10 n h.1 h.2 w ht)
  clear h ht
  go_enter Tryd.func38, Tryd.ntmps38
  go_wp2_with fail
  refine K.out.mono ?_
  rintro r x ⟨rfl, k, os, rfl⟩
  have HK := Lib.hid (keep_grow w k os)
  generalize Go.Sort.grow (w.drewN k) os = w2 at *
  go_wp2_with fail
  go_ret
  exact ⟨rfl, HK.out⟩
def wordsC : Array Value := #[.string { data := #[105, 110, 115, 101, 114, 116] }, .string { data := #[100, 101, 108, 101, 116, 101] }, .string { data := #[108, 111, 111, 107, 117, 112] }, .string { data := #[114, 97, 110, 103, 101] }, .string { data := #[99, 111, 117, 110, 116] }, .string { data := #[109, 105, 110] }, .string { data := #[109, 97, 120] }, .string { data := #[102, 108, 111, 111, 114] }, .string { data := #[99, 101, 105, 108, 105, 110, 103] }, .string { data := #[111, 112, 101, 110] }, .string { data := #[110, 101, 120, 116] }, .string { data := #[115, 101, 101, 107] }, .string { data := #[99, 108, 111, 115, 101] }, .string { data := #[106, 111, 105, 110] }, .string { data := #[113, 117, 105, 116] }]
def kindsC : Array Value := #[.string { data := #[100, 111, 110, 101] }, .string { data := #[102, 111, 117, 110, 100] }, .string { data := #[99, 111, 117, 110, 116, 101, 100] }, .string { data := #[108, 105, 115, 116] }, .string { data := #[110, 111, 110, 101] }, .string { data := #[101, 120, 105, 115, 116, 115] }, .string { data := #[102, 117, 108, 108] }, .string { data := #[115, 112, 101, 110, 116] }, .string { data := #[98, 97, 100] }]
theorem wordsC_at (k : Nat) (h : k < 15) : wordsC[k]? = some (.string ⟨(wordL.getD k []).toArray⟩) := by
  have hc : k = 0 ∨ k = 1 ∨ k = 2 ∨ k = 3 ∨ k = 4 ∨ k = 5 ∨ k = 6 ∨ k = 7 ∨ k = 8 ∨ k = 9 ∨ k = 10 ∨ k = 11 ∨ k = 12 ∨ k = 13 ∨ k = 14 := by omega
  rcases hc with rfl | rfl | rfl | rfl | rfl | rfl | rfl | rfl | rfl | rfl | rfl | rfl | rfl | rfl | rfl <;> rfl
theorem kindsC_at (k : Nat) (h : k < 9) : kindsC[k]? = some (.string ⟨(kindL.getD k []).toArray⟩) := by
  have hc : k = 0 ∨ k = 1 ∨ k = 2 ∨ k = 3 ∨ k = 4 ∨ k = 5 ∨ k = 6 ∨ k = 7 ∨ k = 8 := by omega
  rcases hc with rfl | rfl | rfl | rfl | rfl | rfl | rfl | rfl | rfl <;> rfl
set_option maxRecDepth 100000 in
theorem word_index (k : Nat) (h : k < 15) : ∀ w : World, (Instr.index 99 (.agg wordsC) (.int .i64 (k : Nat))).run Tryd.prog w = .ok (.string ⟨(wordL.getD k []).toArray⟩) w := by
  have hc : k = 0 ∨ k = 1 ∨ k = 2 ∨ k = 3 ∨ k = 4 ∨ k = 5 ∨ k = 6 ∨ k = 7 ∨ k = 8 ∨ k = 9 ∨ k = 10 ∨ k = 11 ∨ k = 12 ∨ k = 13 ∨ k = 14 := by omega
  rcases hc with rfl | rfl | rfl | rfl | rfl | rfl | rfl | rfl | rfl | rfl | rfl | rfl | rfl | rfl | rfl <;> exact fun _ => by kernel_rfl
set_option maxRecDepth 100000 in
theorem call_words (w : World) : Calls Tryd.prog 56 #[] w fun r w' => r = .returned (.agg wordsC) ∧ Keep [] w w' := by
  have hh := Blk.new w 99 wordsC
  unfold wordsC at hh ⊢
  go_enter Tryd.func56, Tryd.ntmps56
  go_wp2
  exact bodyPost_ret (results_cell_row (p := 0) (ty := 99) (d := .array 15 9) rfl _ _ w.heap.size _ _ _ rfl hh (by kernel_rfl) rfl (by kernel_rfl)) rfl ⟨rfl, (Keep.refl _ _).alloc _⟩
set_option maxRecDepth 100000 in
theorem text_kinds (w : World) : Calls Tryd.prog 37 #[] w fun r w' => r = .returned (.agg kindsC) ∧ Keep [] w w' := by
  have hh := Blk.new w 78 kindsC
  unfold kindsC at hh ⊢
  go_enter Tryd.func37, Tryd.ntmps37
  go_wp2
  exact bodyPost_ret (results_cell_row (p := 0) (ty := 78) (d := .array 9 9) rfl _ _ w.heap.size _ _ _ rfl hh (by kernel_rfl) rfl (by kernel_rfl)) rfl ⟨rfl, (Keep.refl _ _).alloc _⟩
theorem call_word (op : Int) (w : World) : Calls Tryd.prog 41 #[.int .i64 op] w (TextOut (wordB op) w) := by
  by_cases h : 0 ≤ op ∧ op ≤ 14
  · obtain ⟨k, rfl⟩ : ∃ k : Nat, op = (k : Int) := ⟨op.toNat, by omega⟩
    have hk : k < 15 := by omega
    rw [(wordB_some hk).1]
    have hidx := word_index k hk
    generalize wordL.getD k [] = L at *
    have h1 : ¬ ((k : Nat) : Int) < 0 := by omega
    have h2 : ¬ (14 : Int) < ((k : Nat) : Int) := by omega
    clear h
    go_enter Tryd.func41, Tryd.ntmps41
    go_wp2_with fail
    refine (call_words _).mono ?_
    rintro r x ⟨rfl, hk⟩
    go_wp2_with fail
    go_ret
    exact ⟨rfl, hk⟩
  · rw [wordB_none (by omega)]
    by_cases h0 : op < 0
    · clear h
      go_enter Tryd.func41, Tryd.ntmps41
      go_wp2_with fail
      go_ret
      exact ⟨rfl, Keep.refl _ _⟩
    · have h2 : (14 : Int) < op := by omega
      clear h
      go_enter Tryd.func41, Tryd.ntmps41
      go_wp2_with fail
      go_ret
      exact ⟨rfl, Keep.refl _ _⟩
set_option maxHeartbeats 1000000 in
theorem ref09_word (op : Int) (w : World) : Calls Tryd.prog 24 #[.int .i64 op] w (TextOut (wordB op) w) := by
  have HB := Lib.hid (Blk.new w 9 wordsC)
  have HK := Lib.hid ((Keep.refl [] w).alloc (.cells wordsC 9))
  have hC : wordsC = #[.string { data := #[105, 110, 115, 101, 114, 116] }, .string { data := #[100, 101, 108, 101, 116, 101] }, .string { data := #[108, 111, 111, 107, 117, 112] }, .string { data := #[114, 97, 110, 103, 101] }, .string { data := #[99, 111, 117, 110, 116] }, .string { data := #[109, 105, 110] }, .string { data := #[109, 97, 120] }, .string { data := #[102, 108, 111, 111, 114] }, .string { data := #[99, 101, 105, 108, 105, 110, 103] }, .string { data := #[111, 112, 101, 110] }, .string { data := #[110, 101, 120, 116] }, .string { data := #[115, 101, 101, 107] }, .string { data := #[99, 108, 111, 115, 101] }, .string { data := #[106, 111, 105, 110] }, .string { data := #[113, 117, 105, 116] }] := rfl
  have HC : Hid (∀ k, k < 15 → (w.alloc (.cells wordsC 9)).cell? ⟨w.heap.size, k, none⟩ = some (.string ⟨(wordL.getD k []).toArray⟩)) := Lib.hid (fun k hk => (HB.out.cell k).trans (wordsC_at k hk))
  rw [hC] at HB HK HC
  clear hC
  by_cases h : 0 ≤ op ∧ op ≤ 14
  · obtain ⟨k, rfl⟩ : ∃ k : Nat, op = (k : Int) := ⟨op.toNat, by omega⟩
    have hk : k < 15 := by omega
    rw [(wordB_some hk).1]
    have HCK := Lib.hid (HC.out k hk)
    have h0 : (0 : Int) ≤ ((k : Nat) : Int) := by omega
    have h1 : ¬ ((k : Nat) : Int) < 0 := by omega
    have h2 : ((k : Nat) : Int) < 15 := by omega
    clear h HC HB
    go_enter Tryd.func24, Tryd.ntmps24
    go_upto_region 2 with fail
    generalize w.heap.size = g at HCK ⊢
    generalize w.alloc _ = w1 at HCK HK ⊢
    have hc := HCK.out
    generalize wordL.getD k [] = L at *
    go_wp2_with fail
    go_ret
    exact ⟨rfl, HK.out⟩
  · rw [wordB_none (by omega)]
    by_cases h0 : op < 0
    · clear h HC HB
      go_enter Tryd.func24, Tryd.ntmps24
      go_wp2_with fail
      go_ret
      exact ⟨rfl, HK.out⟩
    · have h2 : (15 : Int) ≤ op := by omega
      clear h HC HB
      go_enter Tryd.func24, Tryd.ntmps24
      go_wp2_with fail
      go_ret
      exact ⟨rfl, HK.out⟩
set_option maxHeartbeats 1000000 in
theorem ref35_kind (op : Int) (w : World) : Calls Tryd.prog 29 #[.int .i64 op] w (TextOut (kindB op) w) := by
  have HB := Lib.hid (Blk.new w 9 kindsC)
  have HK := Lib.hid ((Keep.refl [] w).alloc (.cells kindsC 9))
  have hC : kindsC = #[.string { data := #[100, 111, 110, 101] }, .string { data := #[102, 111, 117, 110, 100] }, .string { data := #[99, 111, 117, 110, 116, 101, 100] }, .string { data := #[108, 105, 115, 116] }, .string { data := #[110, 111, 110, 101] }, .string { data := #[101, 120, 105, 115, 116, 115] }, .string { data := #[102, 117, 108, 108] }, .string { data := #[115, 112, 101, 110, 116] }, .string { data := #[98, 97, 100] }] := rfl
  have HC : Hid (∀ k, k < 9 → (w.alloc (.cells kindsC 9)).cell? ⟨w.heap.size, k, none⟩ = some (.string ⟨(kindL.getD k []).toArray⟩)) := Lib.hid (fun k hk => (HB.out.cell k).trans (kindsC_at k hk))
  rw [hC] at HB HK HC
  clear hC
  by_cases h : 0 ≤ op ∧ op ≤ 8
  · obtain ⟨k, rfl⟩ : ∃ k : Nat, op = (k : Int) := ⟨op.toNat, by omega⟩
    have hk : k < 9 := by omega
    rw [(kindB_some hk).1]
    have HCK := Lib.hid (HC.out k hk)
    have h0 : (0 : Int) ≤ ((k : Nat) : Int) := by omega
    have h1 : ¬ ((k : Nat) : Int) < 0 := by omega
    have h2 : ((k : Nat) : Int) < 9 := by omega
    have h3 : ¬ (8 : Int) < ((k : Nat) : Int) := by omega
    clear h HC HB
    go_enter Tryd.func29, Tryd.ntmps29
    go_upto_region 2 with fail
    generalize w.heap.size = g at HCK ⊢
    generalize w.alloc _ = w1 at HCK HK ⊢
    have hc := HCK.out
    generalize kindL.getD k [] = L at *
    go_wp2_with fail
    go_ret
    exact ⟨rfl, HK.out⟩
  · rw [kindB_none (by omega)]
    by_cases h0 : op < 0
    · clear h HC HB
      go_enter Tryd.func29, Tryd.ntmps29
      go_wp2_with fail
      go_ret
      exact ⟨rfl, HK.out⟩
    · have h2 : (8 : Int) < op := by omega
      clear h HC HB
      go_enter Tryd.func29, Tryd.ntmps29
      go_wp2_with fail
      go_ret
      exact ⟨rfl, HK.out⟩
end Go.Proofs.YtpbbpannimlldaaDoor
