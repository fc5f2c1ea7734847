/- StatsSums: the law's function by its contract. No condition. -/
import Derived.Test.YtofmonknhiggaaaSt9
namespace Go.Proofs.Ytofmonknhiggaaa
open Go.RowKit

theorem mapM_some {α β : Type} {f : α → Option β} : ∀ (l : List α), (∀ x ∈ l, ∃ y, f x = some y) → ∃ ys, l.mapM f = some ys
  | [], _ => ⟨[], rfl⟩
  | x :: l, h => by
    obtain ⟨y, hy⟩ := h x (List.mem_cons_self ..)
    obtain ⟨ys, hys⟩ := mapM_some l (fun z hz => h z (List.mem_cons_of_mem _ hz))
    exact ⟨y :: ys, by rw [List.mapM_cons, hy, hys]; rfl⟩
def IntsOk (cs : List Value) : Prop := ∀ v ∈ cs, ∃ n : Int, v = .int .i64 n ∧ (Lit.int .i64 n).wf = true
theorem keyLits_one {d : Nat} {cs : List Value} (h : IntsOk cs) (hl : cs.length = 1) : ∃ l, Try.prog.keyLits (d + 1) 3 cs = some l := by
  obtain ⟨v, rfl⟩ := List.length_eq_one_iff.1 hl
  obtain ⟨n, rfl, hn⟩ := h v (by simp)
  refine ⟨[.int .i64 n], ?_⟩
  unfold Program.keyLits
  rw [Try.underlying3]
  exact if_pos ⟨rfl, hn⟩
theorem cells_int : Try.prog.cellsOf 3 = 1 := by kernel_rfl
theorem keyLits_arr {d n : Nat} {t : TypeId} (ht : Try.prog.underlying t = some (.array n 3)) (hc : Try.prog.cellsOf t = n) {cs : List Value} (h : IntsOk cs) (hl : cs.length = n) : ∃ l, Try.prog.keyLits (d + 2) t cs = some l := by
  unfold Program.keyLits
  rw [ht]
  simp only [cells_int]
  rw [hc, if_pos hl]
  obtain ⟨ys, hys⟩ := mapM_some (f := fun i => Try.prog.keyLits (d + 1) 3 ((cs.drop (i * 1)).take 1)) (List.range n) (fun i hi => by
    have hi' := List.mem_range.1 hi
    exact keyLits_one (fun v hv => h v (List.drop_subset _ _ (List.take_subset _ _ hv))) (by rw [List.length_take, List.length_drop]; omega))
  exact ⟨ys.flatten, by rw [hys]; rfl⟩
theorem keyLits_sum {cs : List Value} (h : IntsOk cs) (hl : cs.length = 42) : ∃ l, Try.prog.keyLits 3 28 cs = some l := by
  have sub : ∀ a n, IntsOk ((cs.drop a).take n) := fun a n v hv => h v (List.drop_subset _ _ (List.take_subset _ _ hv))
  have len : ∀ a n, a + n ≤ 42 → ((cs.drop a).take n).length = n := fun a n hn => by rw [List.length_take, List.length_drop]; omega
  unfold Program.keyLits
  rw [Try.underlying28]
  simp only []
  rw [show Try.prog.cellsOf 28 = 42 from by kernel_rfl, if_pos ⟨hl, by kernel_rfl⟩]
  obtain ⟨a, ha⟩ := keyLits_arr (d := 0) (t := 25) Try.underlying25 (by kernel_rfl) (sub 0 15) (len 0 15 (by omega))
  obtain ⟨b, hb⟩ := keyLits_arr (d := 0) (t := 25) Try.underlying25 (by kernel_rfl) (sub 15 15) (len 15 15 (by omega))
  obtain ⟨c, hc⟩ := keyLits_arr (d := 0) (t := 26) Try.underlying26 (by kernel_rfl) (sub 30 9) (len 30 9 (by omega))
  obtain ⟨e, he⟩ := keyLits_one (d := 1) (sub 39 1) (len 39 1 (by omega))
  obtain ⟨f, hf⟩ := keyLits_one (d := 1) (sub 40 1) (len 40 1 (by omega))
  obtain ⟨g, hg⟩ := keyLits_one (d := 1) (sub 41 1) (len 41 1 (by omega))
  refine ⟨[a, b, c, e, f, g].flatten, ?_⟩
  simp only [List.mapM_cons, List.mapM_nil, show Try.prog.cellsOf 25 = 15 from by kernel_rfl, show Try.prog.cellsOf 26 = 9 from by kernel_rfl, cells_int, ha, hb, hc, he, hf, hg]
  rfl
theorem sum_eql (zs : List Int) (hl : zs.length = 42) (hb : Low 1000000 zs) (w : World) : (binOp .eql 28 (.agg (sumC zs).toArray) (.agg (sumC zs).toArray)).run Try.prog w = .ok (.bool true) w := by
  have hi : IntsOk (sumC zs) := fun v hv => by
    obtain ⟨n, hn, rfl⟩ := List.mem_map.1 hv
    refine ⟨n, rfl, WalkArith.wf_i64 ?_⟩
    obtain ⟨k, hk, rfl⟩ := List.getElem_of_mem hn
    have := hb k
    rw [List.getD_eq_getElem?_getD, List.getElem?_eq_getElem hk] at this
    simp only [Option.getD_some] at this
    omega
  obtain ⟨l, hk⟩ := keyLits_sum hi (by rw [sumC_len, hl])
  have hf : (Value.agg (sumC zs).toArray).formed Try.prog 28 = true := by
    unfold Value.formed
    rw [Try.underlying28]
    simp only [List.size_toArray, sumC_len, hl]
    kernel_rfl
  obtain ⟨r, hr, hiff⟩ := run_equalIn_deep 9997 3 28 (by kernel_rfl) w 3 3 (.agg (sumC zs).toArray) (.agg (sumC zs).toArray) l l hf hf (by simpa [Value.cells] using hk) (by simpa [Value.cells] using hk)
  rw [run_eql_struct, hr, hiff.2 rfl]
  rfl
theorem opersR_at_nil (l : List EvS) : opersR l 0 = [] → l = [] ∨ (l.getD 0 ev0).back = true := fun h => by
  cases l with
  | nil => exact .inl rfl
  | cons e l =>
    right
    replace h : (if e.back = true then opersR l 1 else mkOp e 0 (nextBack e.thr l 1) :: opersR l 1) = [] := h
    split at h
    · assumption
    · cases h
theorem of_same {l : List EvS} {os : List OpS} (h : opsOut l os) : ofP l os = ofR l os := by
  unfold ofP ofR
  by_cases h0 : os.length = 0
  · rw [if_pos h0]
    obtain rfl := List.eq_nil_of_length_eq_zero h0
    rw [mostR_nil]
    rfl
  · rw [if_neg h0]
    by_cases hm : MayP l l.length
    · rw [h.1 hm, most_same hm l.length (Nat.le_refl _)]
    · rw [h.2 hm] at h0
      exact absurd rfl h0
theorem opsOut_same {l : List EvS} {os os2 : List OpS} (h : opsOut l os) (h2 : opsOut l os2) : os = os2 := by
  by_cases hm : MayP l l.length
  · rw [h.1 hm, h2.1 hm]
  · rw [h.2 hm, h2.2 hm]
theorem opsOut_pn {c : Nat} {l : List EvS} {os : List OpS} (h : opsOut l os) (hp : ∀ e ∈ l, e.pn ≤ c) : ∀ o ∈ os, o.pn ≤ c := by
  by_cases hm : MayP l l.length
  · rw [h.1 hm]
    exact opersR_pn l 0 hp
  · rw [h.2 hm]
    intro o ho
    cases ho
theorem opsOut_few {l : List EvS} {os : List OpS} (h : opsOut l os) : os.length ≤ l.length := by
  by_cases hm : MayP l l.length
  · rw [h.1 hm]
    exact opersR_few l 0
  · rw [h.2 hm]
    exact Nat.zero_le _
theorem ofP_low {l : List EvS} {os : List OpS} (h : opsOut l os) (hp : ∀ e ∈ l, e.pn ≤ 1500) (hl : l.length ≤ 200) : Low 1000000 (ofP l os) := by
  have h1 := Low.sum (getD_pn (opsOut_pn h hp)) os.length
  have h2 := opsOut_few h
  have h3 := mostTo_le l l.length
  unfold ofP
  split
  · exact h1.more (by omega)
  · exact h1.set_ (by omega) (by omega) (by omega)
def TrueOut (w : World) (r : Ending) (w' : World) : Prop := r = .returned (.bool true) ∧ Keep [] w w'
def liveE : List EvS := [ev0, { ev0 with back := true }]
def liveZ : List Int := ((((List.replicate 42 0).set 0 1).set 30 1).set 41 1)
theorem live_may : MayP liveE liveE.length := fun i hi => by
  replace hi : i < 2 := hi
  match i, hi with
  | 0, _ => decide
  | 1, _ => decide
theorem live_of {os : List OpS} (h : opsOut liveE os) : ofP liveE os = liveZ := by
  rw [h.1 live_may]
  decide +kernel
set_option maxRecDepth 100000 in
set_option maxHeartbeats 2000000 in
theorem lives38 (w : World) : Calls Try.prog 6 #[] w (TrueOut w) := by
  go_enter Try.func6, Try.ntmps6
  go_wp2_with fail
  generalize hw1 : w.alloc _ = w1
  have HB : Hid (Blk w1 w.heap.size 51 (liveE.flatMap evC).toArray) := Lib.hid (by rw [← hw1]; exact Blk.new w _ _)
  have HK : Hid (Keep [] w w1) := Lib.hid (by rw [← hw1]; exact (Keep.refl [] w).alloc _)
  have KO : Hid (Calls Try.prog 7 #[.slice (some ⟨w.heap.size, 0, none⟩) 2 2] w1 (StOfOut w1 liveE)) := Lib.hid (stats_of w1 (some ⟨w.heap.size, 0, none⟩) liveE 2 (fun _ => ⟨_, 0, rfl, HB.out.lt, fun j u hj => by rw [Nat.zero_add, HB.out.cell, List.getElem?_toArray]; exact hj⟩) (by decide) (fun e he => by
    rcases List.mem_cons.1 he with rfl | he
    · decide
    · rcases List.mem_cons.1 he with rfl | he
      · decide
      · cases he))
  clear hw1
  refine KO.out.mono ?_
  rintro r x ⟨os, hos, rfl, hk⟩
  have HZ := Lib.hid (live_of hos)
  have HZL := Lib.hid (ofP_len liveE os)
  have HKX := Lib.hid (HK.out.trans hk (by simp))
  clear hk hos HB KO HK
  generalize ofP liveE os = zs at *
  have HS0 : Hid (SumAt (x.alloc (.cells #[.int .i64 0, .int .i64 0, .int .i64 0, .int .i64 0, .int .i64 0, .int .i64 0, .int .i64 0, .int .i64 0, .int .i64 0, .int .i64 0, .int .i64 0, .int .i64 0, .int .i64 0, .int .i64 0, .int .i64 0, .int .i64 0, .int .i64 0, .int .i64 0, .int .i64 0, .int .i64 0, .int .i64 0, .int .i64 0, .int .i64 0, .int .i64 0, .int .i64 0, .int .i64 0, .int .i64 0, .int .i64 0, .int .i64 0, .int .i64 0, .int .i64 0, .int .i64 0, .int .i64 0, .int .i64 0, .int .i64 0, .int .i64 0, .int .i64 0, .int .i64 0, .int .i64 0, .int .i64 0, .int .i64 0, .int .i64 0] 29)) 29 x.heap.size zeroS) := Lib.hid ⟨Blk.new x 29 (sumC zeroS).toArray, rfl⟩
  have HKA := Lib.hid (HKX.out.alloc (.cells #[.int .i64 0, .int .i64 0, .int .i64 0, .int .i64 0, .int .i64 0, .int .i64 0, .int .i64 0, .int .i64 0, .int .i64 0, .int .i64 0, .int .i64 0, .int .i64 0, .int .i64 0, .int .i64 0, .int .i64 0, .int .i64 0, .int .i64 0, .int .i64 0, .int .i64 0, .int .i64 0, .int .i64 0, .int .i64 0, .int .i64 0, .int .i64 0, .int .i64 0, .int .i64 0, .int .i64 0, .int .i64 0, .int .i64 0, .int .i64 0, .int .i64 0, .int .i64 0, .int .i64 0, .int .i64 0, .int .i64 0, .int .i64 0, .int .i64 0, .int .i64 0, .int .i64 0, .int .i64 0, .int .i64 0, .int .i64 0] 29))
  go_upto_region 2 with ((with_reducible refine wpList_store_mid rfl 29 (.tmp 1) (.tmp 5) rfl x.heap.size 0 (sumC zs).toArray rfl rfl (HS0.out.there (by rw [List.size_toArray, sumC_len, HZL.out])) (by rw [List.size_toArray, sumC_len, HZL.out]; exact sizeSum) (sumC_one _) ?_))
  generalize hq : (x.alloc _).setCells x.heap.size 0 _ = w5
  have HS1 : Hid (SumAt w5 29 x.heap.size zs) := Lib.hid (by rw [← hq]; exact HS0.out.stored (ys := zs) HZL.out)
  have HK1 : Hid (Keep [] w w5) := Lib.hid (by rw [← hq]; exact (HKX.out.trans (Keep.setCells (S := [x.heap.size]) (w0 := x) (.inl (by simp)) (sumC zs) 0 _ ((Keep.refl _ _).alloc _)) (fun y hy => .inr (by rw [List.mem_singleton.1 hy]; exact HKX.out.size))))
  clear hq
  generalize x.heap.size = sb at HS1 ⊢
  clear HS0 HKA HKX
  have f0 := HS1.out.cell (k := 0) (by decide)
  have f1 := HS1.out.cell (k := 15) (by decide)
  have f2 := HS1.out.cell (k := 39) (by decide)
  have f3 := HS1.out.cell (k := 41) (by decide)
  have f4 := HS1.out.cell (k := 30) (by decide)
  rw [HZ.out, show liveZ.getD 0 0 = 1 from rfl] at f0
  rw [HZ.out, show liveZ.getD 15 0 = 0 from rfl] at f1
  rw [HZ.out, show liveZ.getD 39 0 = 0 from rfl] at f2
  rw [HZ.out, show liveZ.getD 41 0 = 1 from rfl] at f3
  rw [HZ.out, show liveZ.getD 30 0 = 1 from rfl] at f4
  go_wp2_with fail
  go_ret
  exact ⟨rfl, HK1.out⟩
set_option maxRecDepth 100000 in
set_option maxHeartbeats 2000000 in
theorem statsSums_any (w : World) (A : Option Addr) (l : List EvS) (cap : Nat) (h : ElAt evC w A l) (hl : l.length ≤ maxLen) : Calls Try.prog 3 #[.slice A l.length cap] w (TrueOut w) := by
  have HE := Lib.hid h
  have KG := Lib.hid (law38_great w A l cap h hl)
  clear h hl
  go_enter Try.func3, Try.ntmps3
  go_wp2_with fail
  refine KG.out.mono ?_
  clear KG
  rintro r x ⟨hd, b, rfl, hb⟩
  have HK := Lib.hid (Keep.of_drawn (S := []) hd)
  clear hd
  cases b with
  | true =>
    clear hb
    go_wp2_with fail
    refine (lives38 _).mono ?_
    rintro r y ⟨rfl, hk⟩
    have HK2 := Lib.hid (HK.out.trans hk (by simp))
    clear hk
    go_wp2_with fail
    go_ret
    exact ⟨rfl, HK2.out⟩
  | false =>
    obtain ⟨h1, h2⟩ := hb rfl
    have hpn : ∀ e ∈ l, e.pn ≤ 1500 := fun e he => by
      obtain ⟨k, hk, rfl⟩ := List.getElem_of_mem he
      have := h2 k hk
      rw [List.getD_eq_getElem?_getD, List.getElem?_eq_getElem hk] at this
      exact this
    have KS := Lib.hid (stats_of x A l cap (HE.out.keep HK.out) (by omega) hpn)
    have HPN := Lib.hid hpn
    have HLN := Lib.hid h1
    clear hb h1 h2 hpn
    go_wp2_with fail
    refine KS.out.mono ?_
    clear KS
    rintro r y ⟨os, hos, rfl, hk⟩
    have HOS := Lib.hid hos
    have HK2 := Lib.hid (HK.out.trans hk (by simp))
    clear hos hk HK
    have KR := Lib.hid (ref38_of y A l cap (HE.out.keep HK2.out) (by have := HLN.out; omega) HPN.out)
    go_wp2_with fail
    refine KR.out.mono ?_
    clear KR
    rintro r z ⟨os2, hos2, rfl, hk⟩
    have HK3 := Lib.hid (HK2.out.trans hk (by simp))
    obtain rfl := opsOut_same HOS.out hos2
    have HEQ := sum_eql (ofP l os) (ofP_len l os) (ofP_low HOS.out HPN.out (by have := HLN.out; omega))
    rw [← of_same HOS.out]
    clear hos2 hk HK2
    generalize (sumC (ofP l os)).toArray = zc at HEQ ⊢
    go_wp2_with fail
    refine (lives38 _).mono ?_
    rintro r z2 ⟨rfl, hk⟩
    have HK4 := Lib.hid (HK3.out.trans hk (by simp))
    clear hk
    go_wp2_with fail
    go_ret
    exact ⟨rfl, HK4.out⟩
end Go.Proofs.Ytofmonknhiggaaa
