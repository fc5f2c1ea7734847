/- Explore: All beyond the bounds, from of any depth, Each and what it hands out, by their contracts. Conditions: bounds of the chapter; or beyond them nothing. -/
import Derived.Test.YtbhibmimdpodiaaExp10
namespace Go.Proofs.Ytbhibmimdpodiaa
open Go.RowKit

set_option maxHeartbeats 1000000 in
theorem ref36_all_no (t m k : Int) (w : World) (h : ¬ RightP t m k) : Calls Try.prog 21 #[.int .i64 t, .int .i64 m, .int .i64 k] w fun r w' => r = .returned (.slice none 0 0) ∧ Keep [] w w' := by
  have HK := Lib.hid ((Keep.refl [] w).alloc (.cells #[.slice none 0 0] 54))
  by_cases h0 : 1 ≤ t
  · by_cases h1 : t ≤ 6
    · by_cases h2 : 1 ≤ m
      · by_cases h3 : m ≤ 1000
        · by_cases h4 : 0 ≤ k
          · by_cases h5 : k ≤ 4
            · exact absurd ⟨h0, h1, h2, h3, h4, h5⟩ h
            · have g5 : 4 < k := by omega
              clear h
              go_enter Try.func21, Try.ntmps21
              go_wp2
              go_ret
              exact ⟨rfl, HK.out⟩
          · have g4 : k < 0 := by omega
            clear h
            go_enter Try.func21, Try.ntmps21
            go_wp2
            go_ret
            exact ⟨rfl, HK.out⟩
        · have g3 : 1000 < m := by omega
          clear h
          go_enter Try.func21, Try.ntmps21
          go_wp2
          go_ret
          exact ⟨rfl, HK.out⟩
      · have g2 : m < 1 := by omega
        clear h
        go_enter Try.func21, Try.ntmps21
        go_wp2
        go_ret
        exact ⟨rfl, HK.out⟩
    · have g1 : 6 < t := by omega
      clear h
      go_enter Try.func21, Try.ntmps21
      go_wp2
      go_ret
      exact ⟨rfl, HK.out⟩
  · have g0 : t < 1 := by omega
    clear h
    go_enter Try.func21, Try.ntmps21
    go_wp2
    go_ret
    exact ⟨rfl, HK.out⟩
theorem from_all (B fb ib ab tb kb yb hb mb rb T M k : Nat) (ls : List (List (Int × Int))) (till : Int) (h1 : 1 ≤ T) (h6 : T ≤ 6) (h1' : 1 ≤ M) (h9 : M ≤ 1000) (hk4 : k ≤ 4) (hl : ls.length ≤ 3000) : ∀ d, FromOk B fb ib ab tb kb yb hb mb rb T M k ls till d
  | 0 => fun w i v p hF hY hown hpk _ hA _ => from_leaf w B fb ib ab tb kb yb hb mb rb T M k ls till i v p hF hY hown (by omega) hk4 hA hl
  | d + 1 => from_step B fb ib ab tb kb yb hb mb rb T M k ls till d h1 h6 h1' h9 hk4 hl (from_all B fb ib ab tb kb yb hb mb rb T M k ls till h1 h6 h1' h9 hk4 hl d)
def EachOut (t m k : Int) (w : World) (r : Ending) (w' : World) : Prop := Keep [] w w' ∧ ∃ hb mb kb, r = .returned (.func (.func 43) #[] #[.pointer (some ⟨hb, 0, none⟩), .pointer (some ⟨mb, 0, none⟩), .pointer (some ⟨kb, 0, none⟩)]) ∧ Blk w' hb 3 #[.int .i64 t] ∧ Blk w' mb 3 #[.int .i64 m] ∧ Blk w' kb 3 #[.int .i64 k]
theorem exp_each (t m k : Int) (w : World) : Calls Try.prog 22 #[.int .i64 t, .int .i64 m, .int .i64 k] w (EachOut t m k w) := by
  have HK := Lib.hid ((((Keep.refl [] w).alloc (.cells #[.int .i64 t] 3)).alloc (.cells #[.int .i64 m] 3)).alloc (.cells #[.int .i64 k] 3))
  have HA := Lib.hid (((Blk.new w 3 #[.int .i64 t]).alloc (.cells #[.int .i64 m] 3)).alloc (.cells #[.int .i64 k] 3))
  have HB := Lib.hid ((Blk.new (w.alloc (.cells #[.int .i64 t] 3)) 3 #[.int .i64 m]).alloc (.cells #[.int .i64 k] 3))
  have HC := Lib.hid (Blk.new ((w.alloc (.cells #[.int .i64 t] 3)).alloc (.cells #[.int .i64 m] 3)) 3 #[.int .i64 k])
  simp only [World.size_alloc] at HB HC
  go_enter Try.func22, Try.ntmps22
  go_wp2
  go_ret
  exact ⟨HK.out, _, _, _, rfl, HA.out, HB.out, HC.out⟩
set_option maxHeartbeats 1000000 in
theorem each1_no (t m k : Int) (F hb mb kb : Nat) (lb : Array Value) (w : World) (h : ¬ RightP t m k) (hh : Blk w hb 3 #[.int .i64 t]) (hm : Blk w mb 3 #[.int .i64 m]) (hk : Blk w kb 3 #[.int .i64 k]) : Calls Try.prog 43 #[.func (.func F) #[] lb, .pointer (some ⟨hb, 0, none⟩), .pointer (some ⟨mb, 0, none⟩), .pointer (some ⟨kb, 0, none⟩)] w fun r w' => r = .returned (.tuple #[]) ∧ Keep [] w w' := by
  have HR := Lib.hid h
  have hh0 := (hh.alloc (.cells #[.func (.func F) #[] lb] 55)).cell 0
  have hm0 := (hm.alloc (.cells #[.func (.func F) #[] lb] 55)).cell 0
  have hk0 := (hk.alloc (.cells #[.func (.func F) #[] lb] 55)).cell 0
  have HK := Lib.hid ((Keep.refl [] w).alloc (.cells #[.func (.func F) #[] lb] 55))
  clear h hh hm hk
  go_enter Try.func43, Try.ntmps43
  go_upto_region 1 with fail
  generalize w.alloc (.cells #[.func (.func F) #[] lb] 55) = w1 at *
  go_wp2_with (go_at_call 41; refine (exp_right_no _ _ _ _ HR.out).mono ?_; rintro r x ⟨rfl, rfl⟩)
  (try simp only [Exit.inBlock, Exit.then])
  first
  | refine bodyPost_ret (results_none rfl _ _ _) rfl ?_
  | refine bodyPost_end (results_none rfl _ _ _) rfl ?_
  exact ⟨rfl, HK.out⟩
set_option maxHeartbeats 1000000 in
theorem each1_yes (B fb ib ab tb kb hb mb T M k : Nat) (ls : List (List (Int × Int))) (till : Int) (w : World) (h1 : 1 ≤ T) (h6 : T ≤ 6) (h1' : 1 ≤ M) (h9 : M ≤ 1000) (hk4 : k ≤ 4) (hls : ls = extP T M k (-1)) (hl : ls.length ≤ 3000) (hY : YSt w B fb ib ab tb ls till 0) (hh : Blk w hb 3 #[.int .i64 (T : Nat)]) (hm : Blk w mb 3 #[.int .i64 (M : Nat)]) (hk : Blk w kb 3 #[.int .i64 (k : Nat)]) (n1 : kb ≠ ib) (n2 : hb ≠ ib) (n3 : mb ≠ ib) : Calls Try.prog 43 #[.func (.func 23) #[] (capsY fb ib ab tb), .pointer (some ⟨hb, 0, none⟩), .pointer (some ⟨mb, 0, none⟩), .pointer (some ⟨kb, 0, none⟩)] w fun r w' => r = .returned (.tuple #[]) ∧ YSt w' B fb ib ab tb ls till (endP till 0 ls.length).2 ∧ Keep [fb, ib] w w' := by
  have HR := Lib.hid (RightP.mk (t := (T : Nat)) (m := (M : Nat)) (k := (k : Nat)) (by omega) (by omega) (by omega) (by omega) (by omega) (by omega))
  have HK1 := Lib.hid ((Keep.refl [] w).alloc (.cells #[.func (.func 23) #[] (capsY fb ib ab tb)] 55))
  have HYB := Lib.hid (Blk.new w 55 #[.func (.func 23) #[] (capsY fb ib ab tb)])
  have HS : Hid (ls = extP T M k (-1)) := Lib.hid hls
  have HL := Lib.hid hl
  have HY := Lib.hid hY
  have HH := Lib.hid hh
  have HM := Lib.hid hm
  have HKB := Lib.hid hk
  have HN := Lib.hid (And.intro n1 (And.intro n2 n3))
  have HB := Lib.hid (And.intro (And.intro h1 h6) (And.intro h1' (And.intro h9 hk4)))
  clear hls hl hY hh hm hk n1 n2 n3
  go_enter Try.func43, Try.ntmps43
  go_upto_region 1 with fail
  generalize w.heap.size = yb at *
  generalize w.alloc (.cells #[.func (.func 23) #[] (capsY fb ib ab tb)] 55) = w1 at *
  have HH1 := Lib.hid (HH.out.keep HK1.out (by simp))
  have HM1 := Lib.hid (HM.out.keep HK1.out (by simp))
  have HKB1 := Lib.hid (HKB.out.keep HK1.out (by simp))
  have hh0 := HH1.out.cell 0
  have hm0 := HM1.out.cell 0
  have hk0 := HKB1.out.cell 0
  go_upto_region 2 with (go_at_call 41; refine (exp_right_yes _ _ _ _ HR.out).mono ?_; rintro r x ⟨rfl, rfl⟩)
  clear hh0 hm0 hk0
  go_upto_region 3 with fail
  have HRB := Lib.hid (Blk.new w1 55 #[.nilFunc])
  have HK2 := Lib.hid ((Keep.refl [] w1).alloc (.cells #[.nilFunc] 55))
  have HGE := Lib.hid (Nat.le_refl w1.heap.size)
  generalize hrb : w1.heap.size = rb at HRB HGE ⊢
  have HRBE := Lib.hid hrb
  clear hrb
  generalize w1.alloc (.cells #[.nilFunc] 55) = w2 at *
  have hr0 := HRB.out.cell 0
  have hrf := HRB.out.frozen 0
  go_upto_region 4 with fail
  have HRB3 := Lib.hid (HRB.out.set_ 0 (.func (.func 44) #[] (capsF kb yb hb mb rb)))
  have HK3 := Lib.hid (HK2.out.set_ (p := ⟨rb, 0, none⟩) (.func (.func 44) #[] (capsF kb yb hb mb rb)) (.inr (Nat.le_of_eq HRBE.out)))
  simp only [List.setIfInBounds_toArray, List.set] at HRB3
  unfold capsF at HRB3 HK3
  generalize w2.setCell ⟨rb, 0, none⟩ (.func (.func 44) #[] #[.pointer (some ⟨kb, 0, none⟩), .pointer (some ⟨yb, 0, none⟩), .pointer (some ⟨hb, 0, none⟩), .pointer (some ⟨mb, 0, none⟩), .pointer (some ⟨rb, 0, none⟩)]) = w3 at *
  have hr3 : w3.cell? ⟨rb, 0, none⟩ = some (.func (.func 44) #[] (capsF kb yb hb mb rb)) := HRB3.out.cell 0
  have HK4 := Lib.hid (HK1.out.trans HK3.out (by simp))
  have HF3 : Hid (FSt w3 fb ib ab tb kb yb hb mb rb T M k) := Lib.hid ⟨HKB1.out.keep HK3.out (by simp), HYB.out.keep HK3.out (by simp), HH1.out.keep HK3.out (by simp), HM1.out.keep HK3.out (by simp), HRB3.out, ⟨_, HY.out.f.keep HK4.out (by simp)⟩, HN.out.1, HN.out.2.1, HN.out.2.2, ⟨_, HY.out.i_.keep HK4.out (by simp)⟩⟩
  have KA := Lib.hid (from_all B fb ib ab tb kb yb hb mb rb T M k ls till HB.out.1.1 HB.out.1.2 HB.out.2.1 HB.out.2.2.1 HB.out.2.2.2 HL.out k w3 0 (.slice none 0 0) [] HF3.out (HY.out.keep HK4.out (by simp)) (World.ownsRow_nil _ _ _ _) (by simp) (by simp) ⟨[], by rw [HS.out]; simp [lastP]⟩ (Nat.zero_le _))
  have HS2 : Hid ((extP T M k (lastP (-1) [])).length = ls.length) := Lib.hid (by rw [HS.out]; rfl)
  clear hr0 hrf
  go_wp2_with (go_at_call 44; refine KA.out.mono ?_; rintro r x ⟨rfl, hy, _, hk⟩; rw [HS2.out] at hy; have HYX := Lib.hid hy; have HKX := Lib.hid hk; clear hy hk)
  (try simp only [Exit.inBlock, Exit.then])
  first
  | refine bodyPost_ret (results_none rfl _ _ _) rfl ?_
  | refine bodyPost_end (results_none rfl _ _ _) rfl ?_
  exact ⟨rfl, HYX.out, (HK4.out.mono (by simp)).trans HKX.out (fun x hx => .inl (by simpa [Value.ownBlock] using hx))⟩
end Go.Proofs.Ytbhibmimdpodiaa
