/- Explore: from, by its contract: the walk. Conditions: as ahead. -/
import Derived.Test.YtbhibmimdpodiaaExp9
namespace Go.Proofs.Ytbhibmimdpodiaa
open Go.RowKit

set_option maxHeartbeats 2000000 in
theorem from_step (B fb ib ab tb kb yb hb mb rb T M k : Nat) (ls : List (List (Int × Int))) (till : Int) (d : Nat) (h1 : 1 ≤ T) (h6 : T ≤ 6) (h1' : 1 ≤ M) (h9 : M ≤ 1000) (hk4 : k ≤ 4) (hl : ls.length ≤ 3000) (IH : FromOk B fb ib ab tb kb yb hb mb rb T M k ls till d) : FromOk B fb ib ab tb kb yb hb mb rb T M k ls till (d + 1) := by
  intro w i v p hF hY hown hpk hq hA hi
  have HIH := Lib.hid IH
  have HF := Lib.hid hF
  have HO := Lib.hid hown
  have HL := Lib.hid hl
  have HP4 := Lib.hid (show p.length ≤ 4 ∧ p.length + 1 + d = k by omega)
  have HST : Hid (FRnd w w B fb ib ab tb ls till T M d i v p 0) := Lib.hid ⟨Keep.refl _ _, by rw [Nat.zero_mul]; exact hY, hown, by rw [Nat.zero_mul]; exact hA, by rw [Nat.zero_mul]; exact hi, by rw [Nat.zero_mul]; omega⟩
  have HQ := Lib.hid hq
  have HN := Lib.hid (row_ne hown)
  obtain ⟨A, c, rfl⟩ := own_form hown
  have HTA := Lib.hid (TurnsAt.of_own hown)
  have HLT := Lib.hid (last_at p)
  have hk0 := hF.k_.cell 0
  have hh0 := hF.h.cell 0
  have hm0 := hF.m.cell 0
  have hbk : ¬ ((p.length : Nat) : Int) = ((k : Nat) : Int) := by omega
  have hzp : (0 : Int) ≤ ((p.length : Nat) : Int) := by omega
  have hzp4 : ((p.length : Nat) : Int) ≤ 4 := by omega
  have hpos : p.length = 0 ∨ 0 < p.length := by omega
  clear hF hY hown hpk hq hA hi hl IH hk4
  obtain ⟨lt, hlt⟩ : ∃ lt, lt = lastP (-1) p := ⟨_, rfl⟩
  have HLE := Lib.hid hlt
  have HCN := Lib.hid (chN_le (T := T) (M := M) h6 h9 (decide (lt < 0)))
  clear hlt
  rcases hpos with hp0 | hp0
  case' inl =>
    have hp : p = [] := List.eq_nil_of_length_eq_zero hp0
    have hlt : lt = -1 := by rw [HLE.out, hp]; rfl
    have KC := Lib.hid (fun w' => exp_choices T M true w' h1 h6 h9)
    have hbb : decide (lt < 0) = true := decide_eq_true (by omega)
    have HV8 : Hid (Value.int .i64 (-1) = .int .i64 lt) := Lib.hid (by rw [hlt])
    rw [hbb] at HCN
    have HBB := Lib.hid hbb
    have hz0 : ¬ (0 : Int) < ((p.length : Nat) : Int) := by omega
    clear hlt hbb hp hp0
    go_enter Try.func44, Try.ntmps44
    go_wp2_with fail
    refine (KC.out _).mono ?_
    rintro r x ⟨rfl, rfl⟩
    rw [HV8.out]
    clear KC hbk hz0
    obtain ⟨CC, hcc⟩ : ∃ C, C = chN T M true := ⟨_, rfl⟩
    rw [← hcc] at HCN ⊢
    have HCC : Hid (CC = chN T M (decide (lastP (-1) p < 0))) := Lib.hid (by rw [hcc, ← HLE.out, HBB.out])
    clear hcc HBB
  case' inr =>
    have HPP := Lib.hid hp0
    obtain ⟨b, o, hAb, hc1, _⟩ := HTA.out.at_ (k := p.length - 1) (by omega)
    rw [HLT.out _ rfl hp0, ← HLE.out] at hc1
    have hln : 0 ≤ lt := by
      rw [HLE.out, ← HLT.out _ rfl hp0, List.getD_eq_getElem?_getD, List.getElem?_eq_getElem (by omega)]
      exact HQ.out _ (List.getElem_mem (by omega))
    have KC := Lib.hid (fun w' => exp_choices T M (decide (lt < 0)) w' h1 h6 h9)
    have HV8 : Hid (Value.int .i64 lt = .int .i64 lt) := Lib.hid rfl
    subst hAb
    have hz0 : (0 : Int) < ((p.length : Nat) : Int) := by omega
    have hzl : ((p.length : Nat) : Int) - 1 < ((p.length : Nat) : Int) := by omega
    clear hp0
    go_enter Try.func44, Try.ntmps44
    go_wp2_with fail
    refine (KC.out _).mono ?_
    rintro r x ⟨rfl, rfl⟩
    clear KC hbk hz0 hzl hc1 hln HPP
    obtain ⟨CC, hcc⟩ : ∃ C, C = chN T M (decide (lt < 0)) := ⟨_, rfl⟩
    rw [← hcc] at HCN ⊢
    have HCC : Hid (CC = chN T M (decide (lastP (-1) p < 0))) := Lib.hid (by rw [hcc, ← HLE.out])
    clear hcc
    generalize (some ⟨b, o, none⟩ : Option Addr) = A at *
  all_goals
    (clear hk0 hh0 hm0
     go_wp2_with fail
     go_loopg [9, 33] CC (fun g v9 v33 wr => ∃ n : Nat, n ≤ CC ∧ g = CC - n ∧ v33 = .int .i64 (n : Nat) ∧ FRnd w wr B fb ib ab tb ls till T M d i (.slice A p.length c) p n)
     case atStart => exact ⟨0, Nat.zero_le _, rfl, rfl, HST.out⟩
     case round =>
       obtain ⟨n, hn, rfl, rfl, hr⟩ := hrel
       have HR := Lib.hid hr
       have hzn : (0 : Int) ≤ ((n : Nat) : Int) := by omega
       have hnC : ((n : Nat) : Int) ≤ 6000 := by have := HCN.out; omega
       clear hr
       by_cases hltn : n < CC
       · have hz : ((n : Nat) : Int) < ((CC : Nat) : Int) := by omega
         have hlt2 := hltn
         rw [HCC.out] at hlt2
         have HNX := Lib.hid (HR.out.next hlt2)
         have HNS := Lib.hid (HR.out.stop hlt2)
         have HAK := Lib.hid (HR.out.ask HIH.out hlt2 HP4.out.2 HQ.out)
         have KT := Lib.hid (fun w' => exp_turn M n lt w' h1' h9 (by have := HCN.out; omega))
         unfold turnV at KT
         have HTE : Hid (turnP M (lastP (-1) p) n = turnP M lt n) := Lib.hid (by rw [HLE.out])
         rw [HTE.out] at HAK
         generalize turnP M lt n = t at *
         have HFR := Lib.hid (HF.out.keep HR.out.hk HN.out ⟨_, HR.out.y.f⟩ ⟨_, HR.out.y.i_⟩)
         have hr0 := HFR.out.r.cell 0
         have hm0 := HFR.out.m.cell 0
         obtain hs | hs := Classical.em (((i + n * szP T M d false : Nat) : Int) < till ∧ till ≤ ((i + n * szP T M d false + szP T M d false : Nat) : Int))
         · have HSE := Lib.hid (HNS.out hs)
           rw [endP_stop hs] at HAK
           clear hs
           go_wp2_with fail
           go_region_held3 (fun w' => w'.cell? ⟨rb, 0, none⟩ = some (.func (.func 44) #[] (capsF kb yb hb mb rb)) ∧ w'.cell? ⟨mb, 0, none⟩ = some (.int .i64 (M : Nat))) (first | exact ⟨hr0, hm0⟩ | exact ⟨hr1, hm1⟩ | go_keep) (first
             | (go_at_call 46; refine (KT.out _).mono ?_; rintro r x ⟨rfl, hk⟩; have HKX := Lib.hid (((Keep.refl [] wr).drew).trans hk (by simp)); have hfx := HFR.out.keep0 HKX.out (by simp); have hfx1 := HFR.out.keep0 (HKX.out.alloc (.cells #[.int .i64 t.1, .int .i64 t.2] 94)) (by simp); have hr0 : x.cell? ⟨rb, 0, none⟩ = some (.func (.func 44) #[] (capsF kb yb hb mb rb)) := hfx.r.cell 0; have hm0 : x.cell? ⟨mb, 0, none⟩ = some (.int .i64 (M : Nat)) := hfx.m.cell 0; have hr1 : (x.alloc (.cells #[.int .i64 t.1, .int .i64 t.2] 94)).cell? ⟨rb, 0, none⟩ = some (.func (.func 44) #[] (capsF kb yb hb mb rb)) := hfx1.r.cell 0; have hm1 : (x.alloc (.cells #[.int .i64 t.1, .int .i64 t.2] 94)).cell? ⟨mb, 0, none⟩ = some (.int .i64 (M : Nat)) := hfx1.m.cell 0; clear hk hfx hfx1)
             | (obtain ⟨i0, hi0, hy0, hy1, hy2⟩ := info_parts infoTurn; (refine step_append_turn rfl (.tmp 37) (.tmp 42) 52 rfl 0 94 i0 (.agg #[.int .i64 0, .int .i64 0]) 2 16 Try.underlying52 hi0 hy0 hy1 hy2 rfl (by decide) (.slice A p.length c) p.length (prL p) rfl (own_keep HR.out.own (HKX.out.alloc _) (by simp)) ⟨_, 0, none⟩ 1 1 (prC t) rfl rfl (World.news_of_block (heap_alloc_new _ _)) (by simp [prC, Value.oneCell']) (by have := HP4.out.1; unfold maxLen; omega) (by have := HP4.out.1; omega) (Nat.zero_le _) (by decide) ?_); clear hi0 hy0 hy1 hy2; intro v2 w2 hown hg hat; have HOW := Lib.hid hown; have HG := Lib.hid hg; have HAT := Lib.hid hat; have hne := row_ne (own_keep HR.out.own (HKX.out.alloc (.cells #[.int .i64 t.1, .int .i64 t.2] 94)) (by simp)); have HF2 := Lib.hid ((HFR.out.keep0 (HKX.out.alloc (.cells #[.int .i64 t.1, .int .i64 t.2] 94)) (by simp)).keep0 (Keep.of_grown hg) hne); have HY2 := Lib.hid ((HR.out.y.keep (HKX.out.alloc (.cells #[.int .i64 t.1, .int .i64 t.2] 94)) (by simp)).keep (Keep.of_grown hg) hne); have hr0 : w2.cell? ⟨rb, 0, none⟩ = some (.func (.func 44) #[] (capsF kb yb hb mb rb)) := HF2.out.r.cell 0; have hm0 : w2.cell? ⟨mb, 0, none⟩ = some (.int .i64 (M : Nat)) := HF2.out.m.cell 0; clear hown hg hat hne)
             | (go_at_call 44; refine (HAK.out w2 v2 HF2.out HY2.out HOW.out).mono ?_; rintro r y ⟨rfl, hy, ho, hk⟩; have HYY := Lib.hid hy; have HOK := Lib.hid (HR.out.kept (HKX.out.alloc (.cells #[.int .i64 t.1, .int .i64 t.2] 94)) HG.out HAT.out ho hk); have hfy := HF2.out.keep hk (row_ne HOW.out) ⟨_, hy.f⟩ ⟨_, hy.i_⟩; have hr0 : y.cell? ⟨rb, 0, none⟩ = some (.func (.func 44) #[] (capsF kb yb hb mb rb)) := hfy.r.cell 0; have hm0 : y.cell? ⟨mb, 0, none⟩ = some (.int .i64 (M : Nat)) := hfy.m.cell 0; clear hy ho hk hfy))
           clear hr0 hm0
           go_wp2
           go_ret
           unfold FromOut
           rw [HSE.out]
           exact ⟨rfl, HYY.out, HOK.out.1, HOK.out.2⟩
         · have HSE := Lib.hid hs
           rw [endP_go hs] at HAK
           clear hs
           go_wp2_with fail
           go_region_held3 (fun w' => w'.cell? ⟨rb, 0, none⟩ = some (.func (.func 44) #[] (capsF kb yb hb mb rb)) ∧ w'.cell? ⟨mb, 0, none⟩ = some (.int .i64 (M : Nat))) (first | exact ⟨hr0, hm0⟩ | exact ⟨hr1, hm1⟩ | go_keep) (first
             | (go_at_call 46; refine (KT.out _).mono ?_; rintro r x ⟨rfl, hk⟩; have HKX := Lib.hid (((Keep.refl [] wr).drew).trans hk (by simp)); have hfx := HFR.out.keep0 HKX.out (by simp); have hfx1 := HFR.out.keep0 (HKX.out.alloc (.cells #[.int .i64 t.1, .int .i64 t.2] 94)) (by simp); have hr0 : x.cell? ⟨rb, 0, none⟩ = some (.func (.func 44) #[] (capsF kb yb hb mb rb)) := hfx.r.cell 0; have hm0 : x.cell? ⟨mb, 0, none⟩ = some (.int .i64 (M : Nat)) := hfx.m.cell 0; have hr1 : (x.alloc (.cells #[.int .i64 t.1, .int .i64 t.2] 94)).cell? ⟨rb, 0, none⟩ = some (.func (.func 44) #[] (capsF kb yb hb mb rb)) := hfx1.r.cell 0; have hm1 : (x.alloc (.cells #[.int .i64 t.1, .int .i64 t.2] 94)).cell? ⟨mb, 0, none⟩ = some (.int .i64 (M : Nat)) := hfx1.m.cell 0; clear hk hfx hfx1)
             | (obtain ⟨i0, hi0, hy0, hy1, hy2⟩ := info_parts infoTurn; (refine step_append_turn rfl (.tmp 37) (.tmp 42) 52 rfl 0 94 i0 (.agg #[.int .i64 0, .int .i64 0]) 2 16 Try.underlying52 hi0 hy0 hy1 hy2 rfl (by decide) (.slice A p.length c) p.length (prL p) rfl (own_keep HR.out.own (HKX.out.alloc _) (by simp)) ⟨_, 0, none⟩ 1 1 (prC t) rfl rfl (World.news_of_block (heap_alloc_new _ _)) (by simp [prC, Value.oneCell']) (by have := HP4.out.1; unfold maxLen; omega) (by have := HP4.out.1; omega) (Nat.zero_le _) (by decide) ?_); clear hi0 hy0 hy1 hy2; intro v2 w2 hown hg hat; have HOW := Lib.hid hown; have HG := Lib.hid hg; have HAT := Lib.hid hat; have hne := row_ne (own_keep HR.out.own (HKX.out.alloc (.cells #[.int .i64 t.1, .int .i64 t.2] 94)) (by simp)); have HF2 := Lib.hid ((HFR.out.keep0 (HKX.out.alloc (.cells #[.int .i64 t.1, .int .i64 t.2] 94)) (by simp)).keep0 (Keep.of_grown hg) hne); have HY2 := Lib.hid ((HR.out.y.keep (HKX.out.alloc (.cells #[.int .i64 t.1, .int .i64 t.2] 94)) (by simp)).keep (Keep.of_grown hg) hne); have hr0 : w2.cell? ⟨rb, 0, none⟩ = some (.func (.func 44) #[] (capsF kb yb hb mb rb)) := HF2.out.r.cell 0; have hm0 : w2.cell? ⟨mb, 0, none⟩ = some (.int .i64 (M : Nat)) := HF2.out.m.cell 0; clear hown hg hat hne)
             | (go_at_call 44; refine (HAK.out w2 v2 HF2.out HY2.out HOW.out).mono ?_; rintro r y ⟨rfl, hy, ho, hk⟩; have HYY := Lib.hid hy; have HOK := Lib.hid (HR.out.kept (HKX.out.alloc (.cells #[.int .i64 t.1, .int .i64 t.2] 94)) HG.out HAT.out ho hk); have hfy := HF2.out.keep hk (row_ne HOW.out) ⟨_, hy.f⟩ ⟨_, hy.i_⟩; have hr0 : y.cell? ⟨rb, 0, none⟩ = some (.func (.func 44) #[] (capsF kb yb hb mb rb)) := hfy.r.cell 0; have hm0 : y.cell? ⟨mb, 0, none⟩ = some (.int .i64 (M : Nat)) := hfy.m.cell 0; clear hy ho hk hfy))
           clear hr0 hm0
           go_wp2_with fail
           go_roundg (CC - (n + 1))
           case measure => omega
           case rel => exact ⟨n + 1, by omega, rfl, by go_num, HOK.out.2, by have := HYY.out; rw [Nat.add_mul, Nat.one_mul, ← Nat.add_assoc]; exact this, HOK.out.1, HNX.out.2.2.1, HNX.out.2.2.2, by have := HR.out.go; have := HSE.out; rw [Nat.add_mul, Nat.one_mul, ← Nat.add_assoc]; omega⟩
       · have hne : n = CC := by omega
         have HAL := Lib.hid (HR.out.all (by rw [hne]; exact HCC.out))
         have hz : ¬ ((n : Nat) : Int) < ((CC : Nat) : Int) := by omega
         clear hne
         go_wp2_with fail
         go_ret
         unfold FromOut
         rw [HAL.out]
         exact ⟨rfl, HR.out.y, HR.out.own, HR.out.hk⟩)
end Go.Proofs.Ytbhibmimdpodiaa
