/- The reference of layer 42: Without and Bad by their contracts. Condition: at most 1000 entries. -/
import Derived.Test.YtbhibmimdpodiaaEnts
namespace Go.Proofs.Ytbhibmimdpodiaa
open Go.RowKit

/-- What holds of the loop that keeps entries. -/
structure WoR (w wr : World) (v : Value) (l : List EntS) (f m : Int) (k : Nat) (acc : List EntS) : Prop where
  hk : Keep [] w wr
  own : wr.ownsRow w.heap.size 43 7 v acc.length (entL acc)
  eq : acc ++ keepGo f m k (l.drop k) = keepGo f m 0 l
  le : acc.length ≤ k
section
variable {w wr w2 : World} {v v' : Value} {l acc : List EntS} {f m : Int} {k : Nat} {o : Obj}
theorem WoR.start (w : World) (l : List EntS) (f m : Int) : WoR w w (.slice none 0 0) l f m 0 [] := ⟨Keep.refl _ _, ⟨rfl, .inl ⟨rfl, rfl⟩⟩, rfl, Nat.le_refl _⟩
theorem drop_cons {l : List EntS} {k : Nat} (h : k < l.length) : l.drop k = l.getD k ent0 :: l.drop (k + 1) := by
  rw [List.drop_eq_getElem_cons h, List.getD_eq_getElem?_getD, List.getElem?_eq_getElem h]
  rfl
theorem WoR.skip (h : WoR w wr v l f m k acc) (hk : k < l.length) (h1 : ¬ (k : Int) < f) (h2 : ¬ m ≤ (k : Int) - f) : WoR w wr v l f m (k + 1) acc := by
  refine ⟨h.hk, h.own, ?_, Nat.le_succ_of_le h.le⟩
  have e := h.eq
  rw [drop_cons hk] at e
  unfold keepGo at e
  rw [if_neg (by omega)] at e
  rw [e]
  cases l <;> rfl
theorem WoR.put {x : EntS} (h : WoR w wr v l f m k acc) (hk : k < l.length) (hx : l.getD k ent0 = x) (hc : (k : Int) < f ∨ m ≤ (k : Int) - f) (hown : w2.ownsRow w.heap.size 43 7 v' (acc.length + 1) (entL acc ++ [.int .i64 x.thr, .bool x.beg, .int .i64 x.op, .int .i64 x.key, .int .i64 x.val, .int .i64 x.hi, .int .i64 x.lim])) (hg : (wr.alloc o).grownBy w2 v.ownBlock) : WoR w w2 v' l f m (k + 1) (acc ++ [x]) := by
  subst hx
  refine ⟨(h.hk.alloc o).trans (Keep.of_grown hg) (fun x hx => .inr (own_ge h.own (by simpa using hx))), ?_, ?_, by simp; exact h.le⟩
  · rw [entL_app, List.length_append]
    simpa [entL, EntS.cells] using hown
  · have e := h.eq
    rw [drop_cons hk] at e
    unfold keepGo at e
    rw [if_pos hc] at e
    rw [List.append_assoc]
    rw [List.singleton_append, e]
    cases l <;> rfl
theorem WoR.done (h : WoR w wr v l f m k acc) (hk : k = l.length) : EntOut w (keepGo f m 0 l) (.returned v) wr := by
  have e := h.eq
  rw [hk, List.drop_of_length_le (Nat.le_refl _)] at e
  unfold keepGo at e
  rw [List.append_nil] at e
  have e2 : keepGo f m 0 l = acc := by
    rw [e]
    cases l <;> rfl
  exact ⟨h.hk, v, rfl, by rw [e2]; exact h.own⟩
end

set_option maxHeartbeats 1000000 in
theorem ref42_without_0 (w : World) (A : Option Addr) (l : List EntS) (cap : Nat) (ok : Nat → Prop) (h : EntAt w ok A l) (hl : l.length ≤ 1000) (f m : Int) (hf : f < 0) :
    Calls Try.prog 15 #[.slice A l.length cap, .int .i64 f, .int .i64 m] w (EntOut w (keepGo 0 m 0 l)) := by
  have HB := Lib.hid h
  have HL := Lib.hid hl
  clear h
  go_enter Try.func15, Try.ntmps15
  go_wp2_with fail
  go_loopg [7, 8] l.length (fun g v q wr => ∃ (k : Nat) (acc : List EntS), k ≤ l.length ∧ g = l.length - k ∧ q = .int .i64 (k : Nat) ∧ WoR w wr v l 0 m k acc)
  case atStart => exact ⟨0, [], Nat.zero_le _, rfl, rfl, WoR.start _ _ _ _⟩
  case round =>
    obtain ⟨k, acc, hk, rfl, rfl, hr⟩ := hrel
    have HR := Lib.hid hr
    clear hr
    have hz0 : (0 : Int) ≤ ((k : Nat) : Int) := by omega
    by_cases hlt : k < l.length
    · obtain ⟨b, o, rfl, _, _, g0, g1, g2, g3, g4, g5, g6⟩ := (HB.out.keep0 HR.out.hk).at_ hlt
      have hz : ((k : Nat) : Int) < (l.length : Nat) := by omega
      generalize hx : l.getD k ent0 = x at *
      have HX := Lib.hid hx
      clear hx
      have h1 : ¬ ((k : Nat) : Int) < 0 := by omega
      by_cases h2 : m ≤ ((k : Nat) : Int)
      · go_wp2_with (at_builtin; obtain ⟨i0, hi, hz0', hz1', hz2'⟩ := info_parts infoEnt; refine wpList_append_own_at _ rfl (.tmp 27) (.tmp 32) 25 rfl w.heap.size 43 i0 (.agg #[.int .i64 0, .bool false, .int .i64 0, .int .i64 0, .int .i64 0, .int .i64 0, .int .i64 0]) 7 56 Try.underlying25 hi hz0' hz1' hz2' rfl (by decide) _ _ _ rfl (own_keep HR.out.own ((Keep.refl [] _).alloc _) (by simp)) ⟨_, 0, none⟩ 1 1 [.int .i64 x.thr, .bool x.beg, .int .i64 x.op, .int .i64 x.key, .int .i64 x.val, .int .i64 x.hi, .int .i64 x.lim] rfl rfl (World.news_of_block (heap_alloc_new _ _)) (by simp [Value.oneCell']) (by have := HR.out.le; unfold maxLen; omega) (by have := HR.out.le; omega) (by have := HR.out.hk.size; simp; omega) ?_; clear hi hz0' hz1' hz2'; intro v2 w2 hown hg _ _; have HR2 := Lib.hid (HR.out.put hlt HX.out (.inr (by omega)) hown hg); clear hown hg)
        go_roundg (l.length - (k + 1))
        case measure => omega
        case rel => exact ⟨k + 1, _, by omega, rfl, by go_num, HR2.out⟩
      · have HR2 := Lib.hid (HR.out.skip hlt (by omega) (by omega))
        go_wp2_with fail
        go_roundg (l.length - (k + 1))
        case measure => omega
        case rel => exact ⟨k + 1, acc, by omega, rfl, by go_num, HR2.out⟩
    · have hke : k = l.length := by omega
      have HKE := Lib.hid hke
      have hz : ¬ ((k : Nat) : Int) < (l.length : Nat) := by omega
      clear hke
      go_wp2
      go_ret
      exact HR.out.done HKE.out
set_option maxHeartbeats 1000000 in
theorem ref42_without_f (w : World) (A : Option Addr) (l : List EntS) (cap : Nat) (ok : Nat → Prop) (h : EntAt w ok A l) (hl : l.length ≤ 1000) (f m : Int) (hf : 0 ≤ f) :
    Calls Try.prog 15 #[.slice A l.length cap, .int .i64 f, .int .i64 m] w (EntOut w (keepGo f m 0 l)) := by
  have HB := Lib.hid h
  have HL := Lib.hid hl
  clear h
  go_enter Try.func15, Try.ntmps15
  go_wp2_with fail
  go_loopg [7, 8] l.length (fun g v q wr => ∃ (k : Nat) (acc : List EntS), k ≤ l.length ∧ g = l.length - k ∧ q = .int .i64 (k : Nat) ∧ WoR w wr v l f m k acc)
  case atStart => exact ⟨0, [], Nat.zero_le _, rfl, rfl, WoR.start _ _ _ _⟩
  case round =>
    obtain ⟨k, acc, hk, rfl, rfl, hr⟩ := hrel
    have HR := Lib.hid hr
    clear hr
    have hz0 : (0 : Int) ≤ ((k : Nat) : Int) := by omega
    by_cases hlt : k < l.length
    · obtain ⟨b, o, rfl, _, _, g0, g1, g2, g3, g4, g5, g6⟩ := (HB.out.keep0 HR.out.hk).at_ hlt
      have hz : ((k : Nat) : Int) < (l.length : Nat) := by omega
      generalize hx : l.getD k ent0 = x at *
      have HX := Lib.hid hx
      clear hx
      by_cases h1 : ((k : Nat) : Int) < f
      · go_wp2_with (at_builtin; obtain ⟨i0, hi, hz0', hz1', hz2'⟩ := info_parts infoEnt; refine wpList_append_own_at _ rfl (.tmp 27) (.tmp 32) 25 rfl w.heap.size 43 i0 (.agg #[.int .i64 0, .bool false, .int .i64 0, .int .i64 0, .int .i64 0, .int .i64 0, .int .i64 0]) 7 56 Try.underlying25 hi hz0' hz1' hz2' rfl (by decide) _ _ _ rfl (own_keep HR.out.own ((Keep.refl [] _).alloc _) (by simp)) ⟨_, 0, none⟩ 1 1 [.int .i64 x.thr, .bool x.beg, .int .i64 x.op, .int .i64 x.key, .int .i64 x.val, .int .i64 x.hi, .int .i64 x.lim] rfl rfl (World.news_of_block (heap_alloc_new _ _)) (by simp [Value.oneCell']) (by have := HR.out.le; unfold maxLen; omega) (by have := HR.out.le; omega) (by have := HR.out.hk.size; simp; omega) ?_; clear hi hz0' hz1' hz2'; intro v2 w2 hown hg _ _; have HR2 := Lib.hid (HR.out.put hlt HX.out (.inl h1) hown hg); clear hown hg)
        go_roundg (l.length - (k + 1))
        case measure => omega
        case rel => exact ⟨k + 1, _, by omega, rfl, by go_num, HR2.out⟩
      · by_cases h2 : m ≤ ((k : Nat) : Int) - f
        · go_wp2_with (at_builtin; obtain ⟨i0, hi, hz0', hz1', hz2'⟩ := info_parts infoEnt; refine wpList_append_own_at _ rfl (.tmp 27) (.tmp 32) 25 rfl w.heap.size 43 i0 (.agg #[.int .i64 0, .bool false, .int .i64 0, .int .i64 0, .int .i64 0, .int .i64 0, .int .i64 0]) 7 56 Try.underlying25 hi hz0' hz1' hz2' rfl (by decide) _ _ _ rfl (own_keep HR.out.own ((Keep.refl [] _).alloc _) (by simp)) ⟨_, 0, none⟩ 1 1 [.int .i64 x.thr, .bool x.beg, .int .i64 x.op, .int .i64 x.key, .int .i64 x.val, .int .i64 x.hi, .int .i64 x.lim] rfl rfl (World.news_of_block (heap_alloc_new _ _)) (by simp [Value.oneCell']) (by have := HR.out.le; unfold maxLen; omega) (by have := HR.out.le; omega) (by have := HR.out.hk.size; simp; omega) ?_; clear hi hz0' hz1' hz2'; intro v2 w2 hown hg _ _; have HR2 := Lib.hid (HR.out.put hlt HX.out (.inr h2) hown hg); clear hown hg)
          go_roundg (l.length - (k + 1))
          case measure => omega
          case rel => exact ⟨k + 1, _, by omega, rfl, by go_num, HR2.out⟩
        · have HR2 := Lib.hid (HR.out.skip hlt (by omega) (by omega))
          go_wp2_with fail
          go_roundg (l.length - (k + 1))
          case measure => omega
          case rel => exact ⟨k + 1, acc, by omega, rfl, by go_num, HR2.out⟩
    · have hke : k = l.length := by omega
      have HKE := Lib.hid hke
      have hz : ¬ ((k : Nat) : Int) < (l.length : Nat) := by omega
      clear hke
      go_wp2
      go_ret
      exact HR.out.done HKE.out
theorem ref42_without (w : World) (A : Option Addr) (l : List EntS) (cap : Nat) (ok : Nat → Prop) (h : EntAt w ok A l) (hl : l.length ≤ 1000) (f m : Int) :
    Calls Try.prog 15 #[.slice A l.length cap, .int .i64 f, .int .i64 m] w (EntOut w (woL l (cutF l.length f) (cutM l.length f m))) := by
  rw [woL_keep]
  by_cases hf : f < 0
  · rw [if_pos hf]
    exact ref42_without_0 w A l cap ok h hl f m hf
  · rw [if_neg hf]
    exact ref42_without_f w A l cap ok h hl f m (by omega)

/-- How many of a thread are needed. -/
def needAt (n : Int × Int × Int) (t : Nat) : Int := if t = 0 then n.1 else if t = 1 then n.2.1 else n.2.2
theorem badB_no {n : Int × Int × Int} {l : List EntS} {t : Nat} (ht : t < 3) (h : (cnt t l : Int) < needAt n t) : badB n l = false := by
  rw [Bool.eq_false_iff]
  intro hb
  simp only [badB, Bool.and_eq_true, decide_eq_true_eq] at hb
  unfold needAt at h
  have : t = 0 ∨ t = 1 ∨ t = 2 := by omega
  rcases this with rfl | rfl | rfl
  · simp at h; omega
  · simp at h; omega
  · simp at h; omega
theorem badB_yes {n : Int × Int × Int} {l : List EntS} (h : ∀ t : Nat, t < 3 → needAt n t ≤ (cnt t l : Int)) : badB n l = true := by
  simp only [badB, Bool.and_eq_true, decide_eq_true_eq]
  have h0 := h 0 (by omega)
  have h1 := h 1 (by omega)
  have h2 := h 2 (by omega)
  simp [needAt] at h0 h1 h2
  exact ⟨⟨h0, h1⟩, h2⟩
theorem cnt_take {t : Int} {l : List EntS} {k : Nat} {x : EntS} (hk : k < l.length) (hx : l.getD k ent0 = x) : cnt t (l.take (k + 1)) = cnt t (l.take k) + (if x.thr = t then 1 else 0) := by
  subst hx
  rw [List.take_succ_eq_append_getElem hk]
  unfold cnt
  rw [List.countP_append, List.getD_eq_getElem?_getD, List.getElem?_eq_getElem hk]
  simp [List.countP_cons]
theorem cnt_take_le (t : Int) (l : List EntS) (k : Nat) : cnt t (l.take k) ≤ k := by
  refine Nat.le_trans (cnt_le _ _) ?_
  simp
  omega
def BadOut (n : Int × Int × Int) (l : List EntS) (w : World) (r : Ending) (w' : World) : Prop := r = .returned (.bool (badB n l)) ∧ Keep [] w w'
set_option maxHeartbeats 1000000 in
theorem ref42_bad (w : World) (A : Option Addr) (l : List EntS) (cap : Nat) (ok : Nat → Prop) (h : EntAt w ok A l) (hl : l.length ≤ 1000) (n : Int × Int × Int) :
    Calls Try.prog 11 #[.slice A l.length cap, .agg #[.int .i64 n.1, .int .i64 n.2.1, .int .i64 n.2.2]] w (BadOut n l w) := by
  have HK := Lib.hid ((Keep.refl [] w).alloc (.cells #[.int .i64 n.1, .int .i64 n.2.1, .int .i64 n.2.2] 29))
  have HB := Lib.hid (EntAt.keep0 h HK.out)
  have HN := Lib.hid (Blk.new w 29 #[.int .i64 n.1, .int .i64 n.2.1, .int .i64 n.2.2])
  clear h
  go_enter Try.func11, Try.ntmps11
  go_upto_region 1 with fail
  generalize w.heap.size = nb at HN ⊢
  generalize w.alloc (.cells #[.int .i64 n.1, .int .i64 n.2.1, .int .i64 n.2.2] 29) = w1 at HB HN HK ⊢
  go_wp2_with fail
  go_loop [5] (fun q => ∃ t : Nat, t ≤ 3 ∧ q = .int .i64 (t : Nat) ∧ ∀ j : Nat, j < t → needAt n j ≤ (cnt j l : Int)) (fun q => 3 - (intOf q).toNat)
  case atStart => exact ⟨0, by omega, rfl, fun j hj => by omega⟩
  case round =>
    obtain ⟨t, ht, rfl, hj⟩ := hrel
    have HJ := Lib.hid hj
    clear hj
    by_cases hlt : t < 3
    · have hzt : ((t : Nat) : Int) < 3 := by omega
      have hzt0 : (0 : Int) ≤ ((t : Nat) : Int) := by omega
      have hn : w1.cell? ⟨nb, t, none⟩ = some (.int .i64 (needAt n t)) := by
        rw [HN.out.cell]
        have : t = 0 ∨ t = 1 ∨ t = 2 := by omega
        rcases this with rfl | rfl | rfl <;> rfl
      have HT := Lib.hid hlt
      have hcl := cnt_le (t : Int) l
      go_wp2_with fail
      go_loop [6, 7] (fun c q => ∃ k : Nat, k ≤ l.length ∧ q = .int .i64 (k : Nat) ∧ c = .int .i64 (cnt (t : Nat) (l.take k) : Nat)) (fun _ q => l.length - (intOf q).toNat)
      case atStart => exact ⟨0, Nat.zero_le _, rfl, rfl⟩
      case round =>
        obtain ⟨k, hk, rfl, rfl⟩ := hrel
        have hck := cnt_take_le (t : Nat) l k
        by_cases hlk : k < l.length
        · obtain ⟨b, o, rfl, _, _, g0, _⟩ := HB.out.at_ hlk
          have hzk : ((k : Nat) : Int) < (l.length : Nat) := by omega
          have hzk0 : (0 : Int) ≤ ((k : Nat) : Int) := by omega
          generalize hx : l.getD k ent0 = x at *
          have HC := Lib.hid (cnt_take (t := (t : Nat)) hlk hx)
          clear hx
          cases he : (x.thr == ((t : Nat) : Int)) with
          | true =>
            have HE := Lib.hid he
            go_wp2_with fail
            go_round
            case rel => exact ⟨k + 1, by omega, by go_num, by rw [HC.out, if_pos (eq_of_beq HE.out)]; go_num⟩
            case measure => simp [intOf]; omega
          | false =>
            have HE := Lib.hid he
            go_wp2_with fail
            go_round
            case rel => exact ⟨k + 1, by omega, by go_num, by rw [HC.out, if_neg (by have := HE.out; simpa using this)]; rfl⟩
            case measure => simp [intOf]; omega
        · have hke : k = l.length := by omega
          have HKE := Lib.hid hke
          have hzk : ¬ ((k : Nat) : Int) < (l.length : Nat) := by omega
          have hcc : cnt (t : Nat) (l.take k) = cnt (t : Nat) l := by rw [hke, List.take_of_length_le (Nat.le_refl _)]
          rw [hcc]
          clear hke hcc
          by_cases hb : (cnt (t : Nat) l : Int) < needAt n t
          · have HBD := Lib.hid (badB_no hlt hb)
            go_wp2
            go_ret
            exact ⟨by rw [HBD.out]; rfl, HK.out⟩
          · have HBD := Lib.hid hb
            go_wp2_with fail
            go_round
            case rel => exact ⟨t + 1, by omega, by go_num, fun j hj => by
              by_cases e : j = t
              · subst e; have := HBD.out; omega
              · exact HJ.out j (by omega)⟩
            case measure => simp [intOf]; omega
    · have HBD := Lib.hid (badB_yes (n := n) (l := l) (fun j hj => HJ.out j (by omega)))
      have hzt : ¬ ((t : Nat) : Int) < 3 := by omega
      go_wp2
      go_ret
      exact ⟨by rw [HBD.out]; rfl, HK.out⟩
end Go.Proofs.Ytbhibmimdpodiaa
