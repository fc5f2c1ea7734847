/- slices.Delete of entries and shrink.Without by their contracts. Conditions: at most 1000 entries; what is cut out lies within. -/
import Derived.Test.YtbhibmimdpodiaaEnts
namespace Go.Proofs.Ytbhibmimdpodiaa
open Go.RowKit

set_option maxHeartbeats 1000000 in
theorem delete_none (w : World) (l : List EntS) (v : Value) (base i : Nat) (h : w.ownsRow base 43 7 v l.length (entL l)) (hi : i ≤ l.length) :
    Calls Try.prog 39 #[v, .int .i64 (i : Nat), .int .i64 (i : Nat)] w fun r w' => r = .returned v ∧ w = w' := by
  obtain ⟨A, cap, rfl⟩ := own_form h
  have hc : l.length ≤ cap := by
    obtain ⟨_, ⟨h1, h2⟩ | ⟨g, c, cur, hv, _, _, hc, _⟩⟩ := h
    · omega
    · injection hv with _ _ h3
      omega
  have hcm : cap ≤ maxLen := by
    obtain ⟨_, ⟨h1, h2⟩ | ⟨g, c, cur, hv, _, _, _, hc, _⟩⟩ := h
    · injection h1 with _ _ h3
      unfold maxLen
      omega
    · injection hv with _ _ h3
      omega
  unfold maxLen at hcm
  clear h
  generalize hn : l.length = n at *
  clear hn
  go_enter Try.func39, Try.ntmps39
  go_wp2
  all_goals (go_ret; exact ⟨rfl, rfl⟩)

set_option maxRecDepth 100000 in
set_option maxHeartbeats 1000000 in
theorem delete_some (w : World) (l : List EntS) (base g cap i j : Nat) (cur : Array Value) (hb : base ≤ g) (hh : Blk w g 43 cur) (hc : l.length ≤ cap) (hcm : cap ≤ maxLen) (hcs : cur.size = cap * 7) (ht : cur.toList.take (l.length * 7) = entL l) (hl : l.length ≤ 1000) (hij : i < j) (hj : j ≤ l.length) :
    Calls Try.prog 39 #[.slice (some ⟨g, 0, none⟩) l.length cap, .int .i64 (i : Nat), .int .i64 (j : Nat)] w (CutOut w base (.slice (some ⟨g, 0, none⟩) l.length cap) (woL l i (j - i))) := by
  have HH := Lib.hid hh
  have HCS := Lib.hid hcs
  have HT := Lib.hid ht
  have HCM := Lib.hid hcm
  have hcl : ∀ k, k < l.length * 7 → w.cell? ⟨g, k, none⟩ = (entL l)[k]? := fun k hk => by
    rw [HH.out.cell, ← HT.out, List.getElem?_take_of_lt hk, Array.getElem?_toList]
  obtain ⟨A, hA, hsrc⟩ : ∃ A : Addr, (if cap = j then some (⟨g, 0, none⟩ : Addr) else some ⟨g, j * 7, none⟩) = some A ∧ Hid (∀ t u, (entL (l.drop j))[t]? = some u → w.drew.cell? (A.add t) = some u) := by
    by_cases h : cap = j
    · refine ⟨⟨g, 0, none⟩, by simp [h], fun t u hu => ?_⟩
      have h0 : l.drop j = [] := List.drop_of_length_le (by omega)
      rw [h0] at hu
      simp [entL] at hu
    · refine ⟨⟨g, j * 7, none⟩, by simp [h], fun t u hu => ?_⟩
      have ht2 : t < (entL (l.drop j)).length := (List.getElem?_eq_some_iff.1 hu).1
      rw [entL_len, List.length_drop] at ht2
      rw [Addr_add_off]
      show w.cell? _ = _
      rw [hcl _ (by omega), ← hu]
      have e : entL l = entL (l.take j) ++ entL (l.drop j) := by rw [← entL_app, List.take_append_drop]
      have e2 : (entL (l.take j)).length = j * 7 := by rw [entL_len, List.length_take]; congr 1; omega
      rw [e, List.getElem?_append_right (by omega), e2, show j * 7 + t - j * 7 = t by omega]
  have s1 : Hid ((entL (l.drop j)).length = (l.length - j) * 7) := Lib.hid (by rw [entL_len, List.length_drop])
  have s3 : Hid (∀ t, t < (entL (l.drop j)).length → (w.drew.cell? ⟨g, 0 + i * 7 + t, none⟩).isSome = true ∧ w.drew.frozen? ⟨g, 0 + i * 7 + t, none⟩ = false) := by
    intro t ht2
    rw [entL_len, List.length_drop] at ht2
    refine ⟨?_, HH.out.frozen _⟩
    show (w.cell? _).isSome = true
    rw [HH.out.cell, Array.getElem?_eq_getElem (by omega)]
    rfl
  obtain ⟨W1, hW1⟩ : ∃ W1, W1 = w.drew.setCells g (i * 7) (entL (l.drop j)) := ⟨_, rfl⟩
  have hk1 : Keep [g] w W1 := by rw [hW1]; exact Keep.setCells (.inl (by simp)) _ _ _ (Keep.refl _ _).drew
  obtain ⟨cur1, hb1, hs1⟩ : ∃ cur1, Blk W1 g 43 cur1 ∧ cur1.size = cap * 7 := by
    have hd := HCS.out
    refine ⟨(cur.toList.take (i * 7) ++ (entL (l.drop j) ++ (cur.toList.drop (i * 7)).drop ((l.length - j) * 7))).toArray, ?_, ?_⟩
    · have e : cur = (cur.toList.take (i * 7) ++ ((cur.toList.drop (i * 7)).take ((l.length - j) * 7) ++ (cur.toList.drop (i * 7)).drop ((l.length - j) * 7))).toArray := by
        apply Array.ext'
        show cur.toList = _
        rw [List.take_append_drop, List.take_append_drop]
      have h2 := HH.out.drew
      rw [e] at h2
      have := Blk.setCells (entL (l.drop j)) _ _ _ w.drew h2 (by rw [s1.out]; simp; omega)
      have e2 : (cur.toList.take (i * 7)).length = i * 7 := by simp; omega
      rw [e2] at this
      rw [hW1]
      exact this
    · have hll : cur.toList.length = cap * 7 := by simpa using hd
      simp [s1.out]
      omega
  obtain ⟨zs, hzl, hzr⟩ := run_clear_any (P := Try.prog) W1 25 43 (.agg #[.int .i64 0, .bool false, .int .i64 0, .int .i64 0, .int .i64 0, .int .i64 0, .int .i64 0]) Try.underlying25 zeroEnt (fun k => by
      match k with
      | 0 | 1 | 2 | 3 | 4 | 5 | 6 => rfl
      | k + 7 => simp [Value.cells]; rfl) g ((i + (l.length - j)) * 7) (l.length - (i + (l.length - j))) (cap - (i + (l.length - j))) (by omega) (fun t ht2 => by
      have : t < (l.length - (i + (l.length - j))) * 7 := ht2
      rw [hb1.cell, Array.getElem?_eq_getElem (by omega)]; rfl) (fun t _ => hb1.frozen _)
  have hfin := cut_done (base := base) (cap := cap) (i := i) (j := j) (l := l) zs hb HH.out.drew hc hcm hcs ht (by omega) hj (by have : zs.length = (l.length - (i + (l.length - j))) * 7 := hzl; omega) (W1.setCells g ((i + (l.length - j)) * 7) zs) (by rw [hW1])
  have HF := Lib.hid hfin
  have hW : Hid (W1 = w.drew.setCells g (0 + i * 7) (entL (l.drop j))) := by show W1 = _; rw [hW1, Nat.zero_add]
  have hic : i ≤ cap := by omega
  have hjc : j ≤ cap := by omega
  clear hW1 hk1 hb1 hs1 hcl hfin hzl hh hcs ht
  unfold maxLen at hcm
  have s2 := Lib.hid (entL_one (l.drop j))
  generalize hn : l.length = n at *
  have HN := Lib.hid hn
  clear hn
  go_enter Try.func39, Try.ntmps39
  go_wp2_with fail
  obtain ⟨i0, hi, hz0, hz1, hz2⟩ := info_parts infoEnt
  go_region_law (refine step_append_room rfl (.tmp 22) (.tmp 25) 25 rfl 43 i0 7 Try.underlying25 hi hz1 g 0 i cap (by simp [Act.eval, Act.put]) A (n - j) (cap - j) (entL (l.drop j)) (by simp [Act.eval, Act.put]) s1.out hsrc.out s2.out (by omega) s3.out ?_; rw [← hW.out])
  go_wp2
  go_ret
  refine ⟨((Keep.refl [g] w).drew).trans HF.out.1 (fun x hx => .inl hx), _, rfl, ?_⟩
  exact HF.out.2
theorem delete_ents (w : World) (l : List EntS) (v : Value) (base i j : Nat) (h : w.ownsRow base 43 7 v l.length (entL l)) (hl : l.length ≤ 1000) (hij : i ≤ j) (hj : j ≤ l.length) :
    Calls Try.prog 39 #[v, .int .i64 (i : Nat), .int .i64 (j : Nat)] w (CutOut w base v (woL l i (j - i))) := by
  by_cases e : i = j
  · subst e
    refine (delete_none w l v base i h hj).mono ?_
    rintro r w' ⟨rfl, rfl⟩
    have e2 : woL l i (i - i) = l := by unfold woL; rw [Nat.sub_self, Nat.add_zero, List.take_append_drop]
    exact ⟨Keep.refl _ _, _, rfl, by rw [e2]; exact h⟩
  · obtain ⟨_, ⟨h1, h2⟩ | ⟨g, c, cur, hv, hb, hh, hc, hcm, hcs, ht⟩⟩ := h
    · omega
    · subst hv
      exact delete_some w l base g c i j cur hb hh hc hcm hcs ht hl (by omega) hj

def confC (c : Int × Int × Int) : List Value := [.int .i64 c.1, .int .i64 c.2.1, .int .u64 c.2.2]
def scriptV (c : Int × Int × Int) (v : Value) : Value := .agg #[.int .i64 c.1, .int .i64 c.2.1, .int .u64 c.2.2, v]
def WoOut (c : Int × Int × Int) (l : List EntS) (w : World) (r : Ending) (w' : World) : Prop := Keep [] w w' ∧ ∃ v, r = .returned (scriptV c v) ∧ w'.ownsRow w.heap.size 43 7 v l.length (entL l)
theorem cutF_f {n : Nat} {f : Int} : ((cutF n f : Nat) : Int) = max 0 (min f n) := by unfold cutF; omega
theorem cutM_m {n : Nat} {f m : Int} : ((cutM n f m : Nat) : Int) = max 0 (min m ((n : Int) - (cutF n f : Nat))) := by unfold cutM; omega
theorem wo_own {w0 w1 w2 : World} {v : Value} {n : Nat} {xs : List Value} (h : w2.ownsRow w1.heap.size 43 7 v n xs) (hs : w0.heap.size ≤ w1.heap.size) : w2.ownsRow w0.heap.size 43 7 v n xs := own_more h hs
set_option maxHeartbeats 1000000 in
theorem shrink_without (w : World) (c : Int × Int × Int) (A : Option Addr) (l : List EntS) (cap : Nat) (ok : Nat → Prop) (h : EntAt w ok A l) (hl : l.length ≤ 1000) (f m : Int) :
    Calls Try.prog 14 #[scriptV c (.slice A l.length cap), .int .i64 f, .int .i64 m] w (WoOut c (woL l (cutF l.length f) (cutM l.length f m)) w) := by
  have HL := Lib.hid hl
  obtain ⟨c0, c1, c2⟩ := c
  unfold scriptV
  have HK := Lib.hid (((Keep.refl [] w).alloc (.cells #[.int .i64 c0, .int .i64 c1, .int .u64 c2, .slice A l.length cap] 27)).alloc (.cells #[.int .i64 0, .int .i64 0, .int .u64 0, .slice none 0 0] 27))
  have HB := Lib.hid ((Blk.new w 27 #[.int .i64 c0, .int .i64 c1, .int .u64 c2, .slice A l.length cap]).alloc (.cells #[.int .i64 0, .int .i64 0, .int .u64 0, .slice none 0 0] 27))
  have HR := Lib.hid (Blk.new (w.alloc (.cells #[.int .i64 c0, .int .i64 c1, .int .u64 c2, .slice A l.length cap] 27)) 27 #[.int .i64 0, .int .i64 0, .int .u64 0, .slice none 0 0])
  simp only [World.size_alloc] at HR
  have HE := Lib.hid (EntAt.keep0 h HK.out)
  clear h
  go_enter Try.func14, Try.ntmps14
  go_upto_region 1 with fail
  generalize hb : w.heap.size = sb at HB HR ⊢
  generalize hr : sb + 1 = rb at HR ⊢
  generalize (w.alloc (.cells #[.int .i64 c0, .int .i64 c1, .int .u64 c2, .slice A l.length cap] 27)).alloc (.cells #[.int .i64 0, .int .i64 0, .int .u64 0, .slice none 0 0] 27) = w1 at HB HK HR HE ⊢
  have HBE := Lib.hid hb
  have HRE := Lib.hid hr
  clear hb hr
  have hv := HB.out.cell 3
  have hc0 := HB.out.cell 0
  have hc1 := HB.out.cell 1
  have hc2 := HB.out.cell 2
  generalize hF : cutF l.length f = F at *
  have hF1 : ((F : Nat) : Int) = max 0 (min f l.length) := by rw [← hF]; exact cutF_f
  have HF1 := Lib.hid hF1
  have hFl : F ≤ l.length := by rw [← hF]; exact cutF_le _ _
  generalize hM : cutM l.length f m = M at *
  have hM1 : ((M : Nat) : Int) = max 0 (min m ((l.length : Int) - (F : Nat))) := by rw [← hM, ← hF]; exact cutM_m
  have HM1 := Lib.hid hM1
  have hMl : F + M ≤ l.length := by rw [← hM, ← hF]; exact cutM_le _ _ _
  clear hF hM hF1 hM1
  go_cut [1] (fun s1 wx => s1 = .int .i64 (F : Nat) ∧ w1 = wx)
  case first =>
    go_wp2
    all_goals (go_meet; exact ⟨by have := HF1.out; congr 1; omega, rfl⟩)
  case rest =>
    obtain ⟨rfl, rfl⟩ := hcut
    go_upto_region 2 with fail
    go_cut [2] (fun s2 wx => s2 = .int .i64 (M : Nat) ∧ w1 = wx)
    case first =>
      go_wp2
      all_goals (go_meet; exact ⟨by have := HM1.out; congr 1; omega, rfl⟩)
    case rest =>
      obtain ⟨rfl, rfl⟩ := hcut
      have KC := Lib.hid (fun w' (hx : EntAt w' ok A l) => clone_ents w' A l cap ok hx HL.out)
      have KD := Lib.hid (fun (w' : World) v base (hx : w'.ownsRow base 43 7 v l.length (entL l)) => by have := delete_ents w' l v base F (F + M) hx HL.out (by omega) hMl; rw [show F + M - F = M by omega] at this; exact this)
      have hs1 : IntKind.i64.wrap ((F : Int) + (M : Nat)) = ((F + M : Nat) : Int) := by
        rw [IntWalk.i64_in _ (by have := HL.out; omega)]
        omega
      clear hv hc0 hc1 hc2
      go_upto_region 3 with fail
      have HKc := Lib.hid ((Keep.refl [] w1).drew)
      have hne : sb ≠ rb := by have := HRE.out; omega
      have hne2 : rb ≠ sb := Ne.symm hne
      have hv := HB.out.cell 3
      have hc0 := HB.out.cell 0
      have hc1 := HB.out.cell 1
      have hc2 := HB.out.cell 2
      have hr0 : w1.cell? ⟨rb, 0, none⟩ = some (.int .i64 0) := HR.out.cell 0
      have hr1 : w1.cell? ⟨rb, 1, none⟩ = some (.int .i64 0) := HR.out.cell 1
      have hr2 : w1.cell? ⟨rb, 2, none⟩ = some (.int .u64 0) := HR.out.cell 2
      have hr3 : w1.cell? ⟨rb, 3, none⟩ = some (.slice none 0 0) := HR.out.cell 3
      have hrf : ∀ k, w1.frozen? ⟨rb, k, none⟩ = false := HR.out.frozen
      go_region_held3 (fun w' => w'.cell? ⟨sb, 0, none⟩ = some (.int .i64 c0) ∧ w'.cell? ⟨sb, 1, none⟩ = some (.int .i64 c1) ∧ w'.cell? ⟨sb, 2, none⟩ = some (.int .u64 c2) ∧ w'.cell? ⟨sb, 3, none⟩ = some (.slice A l.length cap)) (first | exact ⟨hc0, hc1, hc2, hv⟩ | go_keep) (first
        | (go_at_call 40; refine (KC.out _ (HE.out.keep0 HKc.out)).mono ?_; rintro r x ⟨hk, v, rfl, hown⟩; obtain ⟨A1, cp1, rfl⟩ := own_form hown; have HOW := Lib.hid hown; have HKx := Lib.hid hk; have HKc := Lib.hid (HKc.out.trans hk (by simp)); have HBx := Lib.hid (HB.out.keep HKc.out (by simp)); have hv := HBx.out.cell 3; have hc0 := HBx.out.cell 0; have hc1 := HBx.out.cell 1; have hc2 := HBx.out.cell 2; clear hk hown)
        | (go_at_call 39; refine (KD.out _ _ _ HOW.out).mono ?_; rintro r y ⟨hk, v', rfl, hown⟩; obtain ⟨A2, cp2, rfl⟩ := own_form hown; have HOY := Lib.hid hown; have HKc := Lib.hid (HKc.out.trans hk (fun z hz => .inr (by have := own_ge HOW.out (by simpa using hz); have := HKx.out.size; simp at *; omega))); have HBx := Lib.hid (HB.out.keep HKc.out (by simp)); have HRx := Lib.hid (HR.out.keep HKc.out (by simp)); have hv := HBx.out.cell 3; have hc0 := HBx.out.cell 0; have hc1 := HBx.out.cell 1; have hc2 := HBx.out.cell 2; have hr0 := HRx.out.cell 0; have hr1 := HRx.out.cell 1; have hr2 := HRx.out.cell 2; have hr3 := HRx.out.cell 3; have hrf := HRx.out.frozen; clear hk hown))
      have HZ := Lib.hid ((((HRx.out.set_ 0 (.int .i64 c0)).set_ 1 (.int .i64 c1)).set_ 2 (.int .u64 c2)).set_ 3 (.slice A2 (woL l F M).length cp2))
      simp only [List.setIfInBounds_toArray, List.set] at HZ
      have hz0 := HZ.out.cell 0
      have hz1 := HZ.out.cell 1
      have hz2 := HZ.out.cell 2
      have hz3 := HZ.out.cell 3
      have HKz := Lib.hid (((((Keep.refl [rb] y).set_ (p := ⟨rb, 0, none⟩) (.int .i64 c0) (.inl (by simp))).set_ (p := ⟨rb, 1, none⟩) (.int .i64 c1) (.inl (by simp))).set_ (p := ⟨rb, 2, none⟩) (.int .u64 c2) (.inl (by simp))).set_ (p := ⟨rb, 3, none⟩) (.slice A2 (woL l F M).length cp2) (.inl (by simp)))
      have HOZ := Lib.hid (own_keep HOY.out HKz.out (fun g hg => by have := own_ne HOY.out HRx.out (by decide); rintro hx; rw [List.mem_singleton.1 hx] at hg; exact this hg))
      have hle : w.heap.size ≤ w1.heap.size := HK.out.size
      go_wp2
      refine bodyPost_ret (v := .agg #[.int .i64 c0, .int .i64 c1, .int .u64 c2, .slice A2 (woL l F M).length cp2]) ?_ rfl ?_
      · simp [results, Try.results14, go_sem, hz0, hz1, hz2, hz3]
      · exact ⟨(HK.out.trans HKc.out (by simp)).trans HKz.out (fun x hx => .inr (by rw [List.mem_singleton.1 hx]; have := HBE.out; have := HRE.out; omega)), _, rfl, own_more HOZ.out hle⟩
end Go.Proofs.Ytbhibmimdpodiaa
