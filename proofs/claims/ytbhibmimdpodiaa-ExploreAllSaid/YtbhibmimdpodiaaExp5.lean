/- The reference of layer 36: All by its contract. Conditions: bounds of the chapter, at most 3000 schedules. -/
import Derived.Test.YtbhibmimdpodiaaExp3
import Derived.Test.YtbhibmimdpodiaaExpQ
namespace Go.Proofs.Ytbhibmimdpodiaa
open Go.RowKit

/-- A slice value whose elements are turns of the reference, in memory. -/
def RowV (w : World) (v : Value) (l : List (Int × Int)) : Prop := ∃ A c, v = .slice A l.length c ∧ TurnsAt 95 w A l
/-- Rows of turns, in a row of the call's own. -/
def OwnRows (w : World) (B : Nat) (v : Value) (ls : List (List (Int × Int))) : Prop := ∃ vs : List Value, w.ownsRow B 54 1 v ls.length vs ∧ ∀ k u, vs[k]? = some u → RowV w u (ls.getD k [])
section
variable {w w' : World} {v u : Value} {l : List (Int × Int)} {ls : List (List (Int × Int))} {B B' : Nat} {S : List Nat}
theorem RowV.keep (h : RowV w v l) (hk : Keep S w w') (hs : ∀ b cs, Blk w b 95 cs → b ∉ S) : RowV w' v l := by
  obtain ⟨A, c, h1, h2⟩ := h
  exact ⟨A, c, h1, h2.keep hk hs⟩
theorem OwnRows.keep0 (h : OwnRows w B v ls) (hk : Keep [] w w') : OwnRows w' B v ls := by
  obtain ⟨vs, h1, h2⟩ := h
  exact ⟨vs, own_keep h1 hk (by simp), fun k u hu => (h2 k u hu).keep hk (by simp)⟩
theorem OwnRows.len {vs : List Value} {n : Nat} (h : w.ownsRow B 54 1 v n vs) : vs.length = n := by
  have := h.1
  omega
theorem OwnRows.grow {w1 : World} {v' : Value} {p : List (Int × Int)} {vs : List Value} (hv : w.ownsRow B 54 1 v ls.length vs) (hr : ∀ k u, vs[k]? = some u → RowV w u (ls.getD k [])) (hk : Keep [] w w1) (hu : RowV w1 u p) (hown : w'.ownsRow B 54 1 v' (ls.length + 1) (vs ++ [u])) (hg : w1.grownBy w' v.ownBlock) : OwnRows w' B v' (ls ++ [p]) := by
  have hne : ∀ b cs, Blk w1 b 95 cs → b ∉ v.ownBlock.toList := by
    intro b cs hb hm
    have : v.ownBlock = some b := by simpa using hm
    obtain ⟨cs', hb'⟩ := own_blk (own_keep hv hk (by simp)) this
    exact hb.ne_ hb' (by decide) rfl
  refine ⟨vs ++ [u], by simpa using hown, fun k z hz => ?_⟩
  have hl := OwnRows.len hv
  by_cases hkl : k < vs.length
  · rw [List.getElem?_append_left hkl] at hz
    have := ((hr k z hz).keep hk (by simp)).keep (Keep.of_grown hg) hne
    rw [List.getD_eq_getElem?_getD, List.getElem?_append_left (by omega), ← List.getD_eq_getElem?_getD]
    exact this
  · have hke : k = vs.length := by
      have := (List.getElem?_eq_some_iff.1 hz).1
      simp at this
      omega
    subst hke
    rw [List.getElem?_append_right (Nat.le_refl _), Nat.sub_self] at hz
    obtain rfl : u = z := by simpa using hz
    have := hu.keep (Keep.of_grown hg) hne
    rw [List.getD_eq_getElem?_getD, hl, List.getElem?_append_right (Nat.le_refl _), Nat.sub_self]
    exact this
theorem OwnRows.at_ (h : OwnRows w B v ls) {k : Nat} (hk : k < ls.length) : ∃ g c A c', v = .slice (some ⟨g, 0, none⟩) ls.length c ∧ w.cell? ⟨g, k, none⟩ = some (.slice A (ls.getD k []).length c') ∧ TurnsAt 95 w A (ls.getD k []) := by
  obtain ⟨vs, h1, h2⟩ := h
  have hl := OwnRows.len h1
  obtain ⟨g, c, hv, _, _⟩ := h1.form (by omega)
  have hu : vs[k]? = some (vs[k]'(by omega)) := List.getElem?_eq_getElem (by omega)
  obtain ⟨A, c', e1, e2⟩ := h2 k _ hu
  have hc := h1.cells (g := g) (by rw [hv]; rfl) k _ hu
  rw [Addr_add_zero] at hc
  exact ⟨g, c, A, c', hv, by rw [hc, e1], e2⟩
theorem OwnRows.more (h : OwnRows w B v ls) (hb : B' ≤ B) : OwnRows w B' v ls := by
  obtain ⟨vs, h1, h2⟩ := h
  exact ⟨vs, own_more h1 hb, h2⟩
end
theorem infoTs : (Try.prog.info? 54).map (fun i => (i.zero, i.size, i.bytes)) = some (some (.slice none 0 0), 1, 24) := by kernel_rfl
def AllOut (ls : List (List (Int × Int))) (w : World) (r : Ending) (w' : World) : Prop := Keep [] w w' ∧ ∃ v, r = .returned v ∧ OwnRows w' w.heap.size v ls
theorem ext_few {T M k : Nat} (h1 : 1 ≤ T) (h1' : 1 ≤ M) (h9 : M ≤ 1000) (hc : cntP T M k ≤ 3000) (i : Nat) (hi : i ≤ k) : (extP T M i (-1)).length ≤ 3000 := by
  rw [extP_len]
  show szP T M i true ≤ 3000
  rw [← cntP_sz]
  by_cases h2 : 2 ≤ T
  · have hstep : ∀ j, cntP T M j ≤ cntP T M (j + 1) := fun j => by
      show _ ≤ cntP T M j * chN T M (j == 0)
      have : 1 ≤ chN T M (j == 0) := by
        unfold chN
        have h3 : 1 ≤ (if (j == 0) = true then T else T - 1) := by split <;> omega
        exact Nat.le_trans (by omega) (Nat.mul_le_mul h3 h1')
      exact Nat.le_trans (by omega) (Nat.mul_le_mul_left _ this)
    have : ∀ d, cntP T M i ≤ cntP T M (i + d) := fun d => by
      induction d with
      | zero => exact Nat.le_refl _
      | succ d ih => exact Nat.le_trans ih (hstep _)
    have h := this (k - i)
    rw [show i + (k - i) = k by omega] at h
    omega
  · obtain rfl : T = 1 := by omega
    cases i with
    | zero => show 1 ≤ 3000; omega
    | succ i =>
      rw [cntP_pow]
      have h0 : chN 1 M false = 0 := by simp [chN]
      rw [h0]
      cases i with
      | zero => simp [chN]; omega
      | succ i => simp
theorem last_at (p : List (Int × Int)) (i : Nat) (hp : p.length = i) (h : 0 < i) : (p.getD (i - 1) (0, 0)).1 = lastP (-1) p := by
  unfold lastP
  rw [List.getLast?_eq_getElem?, hp, List.getD_eq_getElem?_getD, List.getElem?_eq_getElem (by omega)]
  rfl
theorem rowV_made {w : World} {B n : Nat} {v : Value} {xs : List Value} {p : List (Int × Int)} {x : Int × Int} (h : w.ownsRow B 95 2 v n xs) (hn : n = p.length + 1) (hx : xs = prL p ++ prC x) : RowV w v (p ++ [x]) := by
  obtain ⟨A, c, rfl⟩ := own_form h
  have hl : n = (p ++ [x]).length := by simp [hn]
  have hxl : xs = prL (p ++ [x]) := by rw [prL_app, hx]; simp [prL]
  subst hn
  rw [hxl] at h
  exact ⟨A, c, by rw [← hl], TurnsAt.of_own (by rw [← hl]; exact h)⟩
set_option maxHeartbeats 2000000 in
theorem ref36_all (T M k : Nat) (w : World) (h1 : 1 ≤ T) (h6 : T ≤ 6) (h1' : 1 ≤ M) (h9 : M ≤ 1000) (h4 : k ≤ 4) (hc : cntP T M k ≤ 3000) : Calls Try.prog 21 #[.int .i64 (T : Nat), .int .i64 (M : Nat), .int .i64 (k : Nat)] w (AllOut (extP T M k (-1)) w) := by
  have HFW := Lib.hid (ext_few h1 h1' h9 hc)
  have HNX := Lib.hid (extP_next (T := T) h1 h1')
  have HMM := Lib.hid (extP_mem (T := T) (M := M) h1)
  have hz1 : (1 : Int) ≤ ((T : Nat) : Int) := by omega
  have hz6 : ((T : Nat) : Int) ≤ 6 := by omega
  have hz1' : (1 : Int) ≤ ((M : Nat) : Int) := by omega
  have hz9 : ((M : Nat) : Int) ≤ 1000 := by omega
  have hz0 : (0 : Int) ≤ ((k : Nat) : Int) := by omega
  have hz4 : ((k : Nat) : Int) ≤ 4 := by omega
  have HK0 := Lib.hid ((Keep.refl [] w).alloc (.cells #[.slice none 0 0] 54))
  have HST : Hid (OwnRows (w.alloc (.cells #[.slice none 0 0] 54)) w.heap.size (.slice (some ⟨w.heap.size, 0, none⟩) 1 1) [[]]) := Lib.hid ⟨[.slice none 0 0], ⟨rfl, .inr ⟨w.heap.size, 1, _, rfl, Nat.le_refl _, heap_alloc_new _ _, Nat.le_refl _, by unfold maxLen; omega, rfl, rfl⟩⟩, fun k u hu => by
    have hk : k = 0 := by
      have := (List.getElem?_eq_some_iff.1 hu).1
      simp at this
      exact this
    subst hk
    obtain rfl : Value.slice none 0 0 = u := by simpa using hu
    exact ⟨none, 0, rfl, TurnsAt.nil _ _ _⟩⟩
  clear hc
  go_enter Try.func21, Try.ntmps21
  go_wp2_with fail
  go_loopg [7, 8, 9, 10, 11, 12] k (fun g v7 v8 _ _ _ _ wr => ∃ (i : Nat), i ≤ k ∧ g = k - i ∧ v8 = .int .i64 (i : Nat) ∧ Keep [] w wr ∧ OwnRows wr w.heap.size v7 (extP T M i (-1)))
  case atStart => exact ⟨0, Nat.zero_le _, rfl, rfl, HK0.out, HST.out⟩
  case round =>
    obtain ⟨i, hi, rfl, rfl, hk, hrows⟩ := hrel
    have HK1 := Lib.hid hk
    have HRW := Lib.hid hrows
    clear hk hrows HST HK0
    have hzi : (0 : Int) ≤ ((i : Nat) : Int) := by omega
    by_cases hlt : i < k
    · have hz : ((i : Nat) : Int) < ((k : Nat) : Int) := by omega
      obtain ⟨w1, rfl⟩ : ∃ wo : World, wo = wr := ⟨_, rfl⟩
      have HN := Lib.hid (HNX.out i)
      have hlN := HFW.out (i + 1) (by omega)
      have hls := HFW.out i (by omega)
      have HMI := Lib.hid (HMM.out i (-1))
      obtain ⟨N, hNE⟩ : ∃ N, N = extP T M (i + 1) (-1) := ⟨_, rfl⟩
      rw [← hNE] at HN hlN
      have HNE := Lib.hid hNE
      clear hNE
      generalize extP T M i (-1) = ls at *
      obtain ⟨A7, c7, rfl⟩ : ∃ A c, _ = Value.slice A ls.length c := by
        obtain ⟨vs, h1, _⟩ := HRW.out
        exact own_form h1
      go_wp2_with fail
      go_loopg [9, 10, 11, 12] ls.length (fun g v9 v10 _ _ wr => ∃ (q : Nat) (acc : List (List (Int × Int))), q ≤ ls.length ∧ g = ls.length - q ∧ v10 = .int .i64 (q : Nat) ∧ Keep [] w1 wr ∧ OwnRows wr w1.heap.size v9 acc ∧ acc ++ (ls.drop q).flatMap (expandR T M) = N)
      case atStart => exact ⟨0, [], Nat.zero_le _, rfl, rfl, Keep.refl _ _, ⟨[], ⟨rfl, .inl ⟨rfl, rfl⟩⟩, fun k u hu => by simp at hu⟩, by rw [HN.out]; rfl⟩
      case round =>
        obtain ⟨q, acc, hq, rfl, rfl, hk, hacc, hN⟩ := hrel
        have HK2 := Lib.hid hk
        have HAC := Lib.hid hacc
        have HNN := Lib.hid hN
        clear hk hacc hN
        have hzq : (0 : Int) ≤ ((q : Nat) : Int) := by omega
        by_cases hql : q < ls.length
        · have hzq2 : ((q : Nat) : Int) < (ls.length : Nat) := by omega
          have hdr : ls.drop q = ls.getD q [] :: ls.drop (q + 1) := by
            rw [List.drop_eq_getElem_cons hql, List.getD_eq_getElem?_getD, List.getElem?_eq_getElem hql]
            rfl
          have HPM := Lib.hid (HMI.out (ls.getD q []) (by rw [List.getD_eq_getElem?_getD, List.getElem?_eq_getElem hql]; exact List.getElem_mem hql))
          obtain ⟨g7, c, A, cp, hv, hcell, hturn⟩ := HRW.out.at_ hql
          obtain ⟨rfl, rfl⟩ : A7 = some ⟨g7, 0, none⟩ ∧ c7 = c := by
            injection hv with e1 e2 e3
            exact ⟨e1, e3⟩
          have HG7 : Hid (g7 < w1.heap.size) := Lib.hid (by
            obtain ⟨vs, h1, _⟩ := HRW.out
            exact own_lt h1 rfl)
          have HCL := Lib.hid hcell
          have HTU := Lib.hid hturn
          have HN2 := HNN.out
          rw [hdr, List.flatMap_cons, expand_T] at HN2
          have HN3 := Lib.hid HN2
          clear hv hcell hturn hdr HN2 HNN
          generalize ls.getD q [] = p at *
          have hpl : p.length = i := HPM.out.1
          have HPL := Lib.hid hpl
          obtain ⟨RST, hRST⟩ : ∃ R, R = (ls.drop (q + 1)).flatMap (expandR T M) := ⟨_, rfl⟩
          rw [← hRST] at HN3
          have HRST := Lib.hid hRST
          clear hRST
          clear hpl
          go_wp2_with fail
          go_loopg [9, 11, 12] T (fun g v9 v11 _ wr => ∃ (t : Nat) (acc : List (List (Int × Int))), t ≤ T ∧ g = T - t ∧ v11 = .int .i64 (t : Nat) ∧ Keep [] w1 wr ∧ OwnRows wr w1.heap.size v9 acc ∧ acc ++ (restT T M p t ++ RST) = N)
          case atStart => exact ⟨0, acc, Nat.zero_le _, rfl, rfl, HK2.out, HAC.out, HN3.out⟩
          case round =>
            obtain ⟨t, acc, ht, rfl, rfl, hk, hacc, hN⟩ := hrel
            have HK3 := Lib.hid hk
            have HAC := Lib.hid hacc
            have HNN := Lib.hid hN
            clear hk hacc hN HN3 HK2
            have hzt : (0 : Int) ≤ ((t : Nat) : Int) := by omega
            by_cases htT : t < T
            · have hzt2 : ((t : Nat) : Int) < ((T : Nat) : Int) := by omega
              have HCL3 := Lib.hid (HK3.out.cell (o := q) HG7.out (by simp))
              have hc7 := HCL3.out.trans HCL.out
              have HC7 := Lib.hid hc7
              clear hc7
              have hlac : acc.length ≤ 3000 := by
                have h := congrArg List.length HNN.out
                rw [List.length_append] at h
                omega
              have HLA := Lib.hid hlac
              clear hlac
              have HLT := Lib.hid (last_at p)
              obtain hsk | hgo := Classical.em (0 < i ∧ lastP (-1) p = (t : Int))
              · obtain ⟨hi0, hte⟩ := hsk
                have HN4 := HNN.out
                rw [restT_skip htT hte.symm] at HN4
                have HN5 := Lib.hid HN4
                clear HN4
                have hzi2 : (0 : Int) < ((i : Nat) : Int) := by omega
                obtain ⟨b, o, hA, hc1, _⟩ := (HTU.out.keep0 HK3.out).at_ (k := i - 1) (by have := HPL.out; omega)
                rw [HLT.out i HPL.out hi0, hte] at hc1
                subst hA
                have hc7 := HC7.out
                have hzp : ((i : Nat) : Int) - 1 < (p.length : Nat) := by have := HPL.out; omega
                clear hte
                go_wp2_with fail
                go_roundg (T - (t + 1))
                case measure => omega
                case rel => exact ⟨t + 1, acc, by omega, rfl, by go_num, HK3.out, HAC.out, HN5.out⟩
              · have HN4 := HNN.out
                have hgo2 : ¬ (t : Int) = lastP (-1) p := fun h => by
                  rcases Nat.eq_zero_or_pos i with hi0 | hi0
                  · have hp0 : p = [] := List.eq_nil_of_length_eq_zero (HPL.out.trans hi0)
                    rw [hp0] at h
                    have h2 : (t : Int) = -1 := h
                    omega
                  · exact hgo ⟨hi0, h.symm⟩
                rw [restT_go htT hgo2, List.append_assoc] at HN4
                have HN5 := Lib.hid HN4
                have HGO := Lib.hid hgo
                clear HN4 hgo2 hgo
                have hstart : i = 0 ∨ 0 < i := by omega
                rcases hstart with hi0 | hi0
                case' inl =>
                  have hzi2 : ¬ (0 : Int) < ((i : Nat) : Int) := by omega
                  clear hi0
                  go_upto_region 15 with fail
                case' inr =>
                  have hzi2 : (0 : Int) < ((i : Nat) : Int) := by omega
                  obtain ⟨b, o, hA, hc1, _⟩ := (HTU.out.keep0 HK3.out).at_ (k := i - 1) (by have := HPL.out; omega)
                  rw [HLT.out i HPL.out hi0] at hc1
                  have hbq : (lastP (-1) p == (t : Int)) = false := by
                    rw [beq_eq_false_iff_ne]
                    exact fun h => HGO.out ⟨hi0, h⟩
                  have hc7 := HC7.out
                  rw [hA] at hc7
                  have hzp : ((i : Nat) : Int) - 1 < (p.length : Nat) := by have := HPL.out; omega
                  generalize lastP (-1) p = lt at *
                  go_upto_region 15 with fail
                  clear hc7 hc1 hA hbq
                all_goals
                  (have hpl4 : p.length ≤ 4 := by have := HPL.out; omega
                   have HPL4 := Lib.hid hpl4
                   clear hpl4
                   obtain ⟨w3, hw3⟩ : ∃ wo : World, wo = wr := ⟨_, rfl⟩
                   rw [← hw3] at HK3 HAC HC7 ⊢
                   clear hw3 hzi2
                   go_wp2_with fail
                   go_loopg [9, 12] M (fun g v9 v12 wr => ∃ (n : Nat) (acc : List (List (Int × Int))), n ≤ M ∧ g = M - n ∧ v12 = .int .i64 ((n : Nat) + 1) ∧ Keep [] w1 wr ∧ OwnRows wr w1.heap.size v9 acc ∧ acc ++ (restN M p t n ++ (restT T M p (t + 1) ++ RST)) = N)
                   case atStart => exact ⟨0, acc, Nat.zero_le _, rfl, by simp, HK3.out, HAC.out, HN5.out⟩
                   case round =>
                     obtain ⟨n, acc, hn, rfl, rfl, hk, hacc, hN⟩ := hrel
                     have HK4 := Lib.hid hk
                     have HNN := Lib.hid hN
                     have hlac : acc.length ≤ 3000 := by
                       have h := congrArg List.length hN
                       rw [List.length_append] at h
                       omega
                     have HAC := Lib.hid hacc
                     obtain ⟨vs, hown9, hrow9⟩ := hacc
                     obtain ⟨A9, c9, rfl⟩ := own_form hown9
                     have HOW := Lib.hid hown9
                     have HRO := Lib.hid hrow9
                     have HLA := Lib.hid hlac
                     have hzn : (0 : Int) ≤ ((n : Nat) : Int) := by omega
                     clear hk hN HN5 hown9 hrow9 hlac
                     obtain ⟨w4, hw4⟩ : ∃ wo : World, wo = wr := ⟨_, rfl⟩
                     rw [← hw4] at HK4 HAC HOW HRO ⊢
                     clear hw4
                     by_cases hnM : n < M
                     · have hznM : ((n : Nat) : Int) + 1 ≤ ((M : Nat) : Int) := by omega
                       have HN4 := HNN.out
                       rw [restN_go hnM, List.cons_append, List.append_cons] at HN4
                       have HN5 := Lib.hid HN4
                       have hg74 : g7 < w4.heap.size := Nat.lt_of_lt_of_le HG7.out HK4.out.size
                       have hc7 := (HK4.out.cell (o := q) HG7.out (by simp)).trans HCL.out
                       have hca := (World.cell?_alloc_lt w4 (.cells #[] 95) ⟨g7, q, none⟩ hg74).trans hc7
                       have HTA := Lib.hid ((HTU.out.keep0 HK4.out).keep0 ((Keep.refl [] w4).alloc (.cells #[] 95)))
                       clear hg74 hc7 HN4
                       go_wp2_with (first
                         | (at_builtin; obtain ⟨i0, hi, hy0, hy1, hy2⟩ := info_parts infoT; refine wpList_append_any _ rfl (.tmp 73) (.tmp 77) 54 rfl w4.heap.size 95 i0 (.agg #[.int .i64 0, .int .i64 0]) 2 16 Try.underlying54 hi hy0 hy1 hy2 rfl (by decide) (.slice (some ⟨w4.heap.size, 0, none⟩) 0 0) 0 [] rfl (World.ownsRow_made w4 #[] 0 (Nat.le_refl _) (by unfold maxLen; omega) rfl) _ _ p.length cp (prL p) rfl HTA.out.reads (prL_one p) (by have := HPL4.out; unfold maxLen; omega) (by have := HPL4.out; omega) (by simp) ?_; clear hi hy0 hy1 hy2; intro v5 w5 hown hg _; have HW5 := Lib.hid hown; have HK5 := Lib.hid (((Keep.refl [] w4).alloc (.cells #[] 95)).trans (Keep.of_grown hg) (fun y hy => .inr (by simp [Value.ownBlock] at hy; omega))); clear hown hg)
                         | (at_builtin; obtain ⟨i0, hi, hy0, hy1, hy2⟩ := info_parts infoT; refine wpList_append_own_at _ rfl (.tmp 78) (.tmp 82) 54 rfl w4.heap.size 95 i0 (.agg #[.int .i64 0, .int .i64 0]) 2 16 Try.underlying54 hi hy0 hy1 hy2 rfl (by decide) v5 (0 + p.length) ([] ++ prL p) rfl (own_keep HW5.out ((Keep.refl [] w5).alloc _) (by simp)) ⟨_, 0, none⟩ 1 1 (prC ((t : Int), (n : Int) + 1)) rfl rfl (World.news_of_block (heap_alloc_new _ _)) (by simp [prC, Value.oneCell']) (by have := HPL4.out; unfold maxLen; omega) (by have := HPL4.out; omega) (by have := HK5.out.size; simp; omega) ?_; clear hi hy0 hy1 hy2; intro v6 w6 hown hg _ _; have HR6 := Lib.hid (rowV_made (p := p) (x := ((t : Int), (n : Int) + 1)) hown (by omega) (by simp)); obtain ⟨A6, c6, hv6, _⟩ := HR6.out; rw [List.length_append] at hv6; replace hv6 : v6 = .slice A6 (p.length + 1) c6 := hv6; subst hv6; have HK6 := Lib.hid ((HK5.out.alloc (.cells #[.int .i64 (t : Nat), .int .i64 ((n : Nat) + 1)] 95)).trans (Keep.of_grown hg) (fun y hy => .inr (own_ge HW5.out (by simpa using hy)))); clear hown hg)
                         | (at_builtin; obtain ⟨i0, hi, hy0, hy1, hy2⟩ := info_parts infoTs; refine wpList_append_own_at _ rfl (.tmp 72) (.tmp 84) 47 rfl w1.heap.size 54 i0 (.slice none 0 0) 1 24 Try.underlying47 hi hy0 hy1 hy2 rfl (by decide) (.slice A9 acc.length c9) acc.length vs rfl (own_keep HOW.out (HK6.out.alloc _) (by simp)) ⟨_, 0, none⟩ 1 1 [.slice A6 (p.length + 1) c6] rfl rfl (World.news_of_block (heap_alloc_new _ _)) (by simp [Value.oneCell']) (by have := HLA.out; unfold maxLen; omega) (by have := HLA.out; omega) (by have := HK4.out.size; have := HK6.out.size; simp; omega) ?_; clear hi hy0 hy1 hy2; intro v7 w7 hown hg _ _; have HR7 := Lib.hid (OwnRows.grow HOW.out HRO.out (HK6.out.alloc _) (HR6.out.keep ((Keep.refl [] w6).alloc _) (by simp)) hown hg); have HK7 := Lib.hid ((HK4.out.trans (HK6.out.alloc (.cells #[.slice A6 (p.length + 1) c6] 54)) (by simp)).trans (Keep.of_grown hg) (fun y hy => .inr (own_ge HOW.out (by simpa using hy)))); clear hown hg))
                       go_roundg (M - (n + 1))
                       case measure => omega
                       case rel => exact ⟨n + 1, _, by omega, rfl, by go_num, HK7.out, HR7.out, HN5.out⟩
                     · have hznM : ¬ ((n : Nat) : Int) + 1 ≤ ((M : Nat) : Int) := by omega
                       have hnE : n = M := by omega
                       have HN4 := HNN.out
                       rw [hnE, restN_end, List.nil_append] at HN4
                       have HN5 := Lib.hid HN4
                       clear HN4 hnE
                       go_wp2_with fail
                       go_roundg (T - (t + 1))
                       case measure => omega
                       case rel => exact ⟨t + 1, acc, by omega, rfl, by go_num, HK4.out, HAC.out, HN5.out⟩)
            · have htE : t = T := by omega
              have HN4 := HNN.out
              rw [htE, restT_end, List.nil_append, HRST.out] at HN4
              have HN5 := Lib.hid HN4
              have hzt2 : ¬ ((t : Nat) : Int) < ((T : Nat) : Int) := by omega
              clear HN4 htE
              go_wp2_with fail
              go_roundg (ls.length - (q + 1))
              case measure => omega
              case rel => exact ⟨q + 1, acc, by omega, rfl, by go_num, HK3.out, HAC.out, HN5.out⟩
        · have hqe : q = ls.length := by omega
          have hzq2 : ¬ ((q : Nat) : Int) < (ls.length : Nat) := by omega
          have HN4 := HNN.out
          rw [hqe, List.drop_of_length_le (Nat.le_refl _), List.flatMap_nil, List.append_nil] at HN4
          have HN5 := Lib.hid HN4
          clear HN4 hqe
          go_wp2_with fail
          go_roundg (k - (i + 1))
          case measure => omega
          case rel => exact ⟨i + 1, by omega, rfl, by go_num, HK1.out.trans HK2.out (by simp), by rw [← HNE.out, ← HN5.out]; exact HAC.out.more HK1.out.size⟩
    · have hke : i = k := by omega
      have HKE := Lib.hid hke
      have hz : ¬ ((i : Nat) : Int) < ((k : Nat) : Int) := by omega
      clear hke
      go_wp2
      go_ret
      exact ⟨HK1.out, _, rfl, by rw [← HKE.out]; exact HRW.out⟩
end Go.Proofs.Ytbhibmimdpodiaa
