/- Explore: one turn appended, Clone, and the law's comparison. Conditions: rows are short. -/
import Derived.Test.YtbhibmimdpodiaaExp5
namespace Go.Proofs.Ytbhibmimdpodiaa
open Go.RowKit

theorem turn_equal (a b : Int × Int) (w : World) : (Op.equalIn 10000 95 (turnV a) (turnV b)).run Try.prog w = .ok (decide (a = b)) w := by
  obtain ⟨a1, a2⟩ := a
  obtain ⟨b1, b2⟩ := b
  simp only [turnV]
  simp [go_sem, Try.underlying95, Try.underlying3]
  by_cases h1 : a1 = b1
  · by_cases h2 : a2 = b2 <;> simp [h1, h2]
  · simp [h1]
theorem turn_neq (a b : Int × Int) (w : World) : (binOp .neq 95 (turnV a) (turnV b)).run Try.prog w = .ok (.bool (!decide (a = b))) w := by
  have := turn_equal a b w
  unfold turnV at *
  rw [run_neq_struct, this]
  rfl
theorem sameT_step {a b : List (Int × Int)} {k : Nat} (ha : k < a.length) (hb : k < b.length) (h : a.take k = b.take k) (he : a.getD k (0, 0) = b.getD k (0, 0)) : a.take (k + 1) = b.take (k + 1) := by
  rw [List.getD_eq_getElem?_getD, List.getD_eq_getElem?_getD, List.getElem?_eq_getElem ha, List.getElem?_eq_getElem hb] at he
  rw [List.take_succ_eq_append_getElem ha, List.take_succ_eq_append_getElem hb, h]
  simp at he
  rw [he]
theorem sameT_no {a b : List (Int × Int)} {k : Nat} (he : a.getD k (0, 0) ≠ b.getD k (0, 0)) : a ≠ b := by
  rintro rfl
  exact he rfl
def SameTOut (a b : List (Int × Int)) (w : World) (r : Ending) (w' : World) : Prop := r = .returned (.bool (decide (a = b))) ∧ Drawn w w'
set_option maxHeartbeats 1000000 in
theorem law36_same (w : World) (A B : Option Addr) (a b : List (Int × Int)) (ca cb : Nat) (ha : TurnsAt 94 w A a) (hb : TurnsAt 95 w B b) (hl : a.length ≤ 1000) (hl2 : b.length ≤ 1000) :
    Calls Try.prog 24 #[.slice A a.length ca, .slice B b.length cb] w (SameTOut a b w) := by
  have HA := Lib.hid ha
  have HB := Lib.hid hb
  have HL := Lib.hid (And.intro hl hl2)
  clear ha hb
  by_cases hne : a.length = b.length
  · have HE := Lib.hid hne
    rw [← hne]
    clear hne
    go_enter Try.func24, Try.ntmps24
    go_wp2_with fail
    go_loopg [5] a.length (fun g q wr => ∃ k : Nat, k ≤ a.length ∧ g = a.length - k ∧ q = .int .i64 (k : Nat) ∧ Drawn w wr ∧ a.take k = b.take k)
    case atStart => exact ⟨0, Nat.zero_le _, rfl, rfl, Drawn.refl _, rfl⟩
    case round =>
      obtain ⟨k, hk, rfl, rfl, hd, hs⟩ := hrel
      have HD := Lib.hid hd
      have HS := Lib.hid hs
      clear hd hs
      by_cases hlt : k < a.length
      · have hlb : k < b.length := by have := HE.out; omega
        obtain ⟨ba, oa, rfl, g0, g1⟩ := (HA.out.keep (Keep.of_drawn HD.out) (S := []) (by simp)).at_ hlt
        obtain ⟨bb, ob, rfl, k0, k1⟩ := (HB.out.keep (Keep.of_drawn HD.out) (S := []) (by simp)).at_ hlb
        have hz : ((k : Nat) : Int) < (a.length : Nat) := by omega
        have hz0 : (0 : Int) ≤ ((k : Nat) : Int) := by omega
        have hlb' : ((k : Nat) : Int) < (b.length : Nat) := by omega
        have HST := Lib.hid (sameT_step hlt hlb HS.out)
        have HNO := Lib.hid (sameT_no (a := a) (b := b) (k := k))
        generalize a.getD k (0, 0) = x at *
        generalize b.getD k (0, 0) = y at *
        have hq := turn_neq x y
        unfold turnV at hq
        cases hd : decide (x = y) with
        | true =>
          have HX := Lib.hid (of_decide_eq_true hd)
          simp only [hd, Bool.not_true] at hq
          clear hd
          go_wp2_with fail
          go_quiet (fail)
          go_wp2_with fail
          go_roundg (a.length - (k + 1))
          case measure => omega
          case rel => exact ⟨k + 1, by omega, rfl, by go_num, HD.out.trans (Drawn.n _ _), HST.out HX.out⟩
        | false =>
          have HX := Lib.hid (of_decide_eq_false hd)
          simp only [hd, Bool.not_false] at hq
          clear hd
          go_wp2_with fail
          go_quiet (fail)
          go_wp2
          go_ret
          exact ⟨by rw [decide_eq_false (HNO.out HX.out)]; rfl, HD.out.trans (Drawn.n _ _)⟩
      · have hke : k = a.length := by omega
        have HKE := Lib.hid hke
        have hz : ¬ ((k : Nat) : Int) < (a.length : Nat) := by omega
        clear hke
        go_wp2
        go_ret
        have h1 := HS.out
        rw [HKE.out, List.take_of_length_le (Nat.le_refl _), List.take_of_length_le (by rw [HE.out]; exact Nat.le_refl _)] at h1
        exact ⟨by rw [decide_eq_true h1]; rfl, HD.out⟩
  · have HE : Hid (decide (a = b) = false) := Lib.hid (decide_eq_false (fun e => hne (by rw [e])))
    have hz : ¬ ((a.length : Nat) : Int) = (b.length : Nat) := by omega
    clear hne
    go_enter Try.func24, Try.ntmps24
    go_wp2
    go_ret
    exact ⟨by rw [HE.out]; rfl, Drawn.refl _⟩
def CloneOut (p : List (Int × Int)) (w : World) (r : Ending) (w' : World) : Prop := Keep [] w w' ∧ ∃ A c, r = .returned (.slice A p.length c) ∧ TurnsAt 94 w' A p
set_option maxHeartbeats 1000000 in
theorem exp_clone (w : World) (B : Nat) (v : Value) (p : List (Int × Int)) (h : w.ownsRow B 94 2 v p.length (prL p)) (hl : p.length ≤ 4) :
    Calls Try.prog 45 #[v] w (CloneOut p w) := by
  have HL := Lib.hid hl
  clear hl
  obtain ⟨hl, ⟨rfl, hn⟩ | ⟨g, cap, cur, rfl, hr⟩⟩ := h
  · have hp : p = [] := List.eq_nil_of_length_eq_zero hn
    subst hp
    have q := fun (w : World) (a : Option Addr) (n c n' c' : Nat) => Lib.run_eql_slice_nil (P := Try.prog) w _ _ a n c n' c' Try.underlying52
    go_enter Try.func45, Try.ntmps45
    go_wp2
    go_ret
    exact ⟨Keep.refl _ _, none, 0, rfl, TurnsAt.nil _ _ _⟩
  · have HT := Lib.hid (TurnsAt.of_own (t := 94) (w := w) (A := some ⟨g, 0, none⟩) (n := p.length) (cap := cap) (l := p) (base := B) ⟨hl, .inr ⟨g, cap, cur, rfl, hr⟩⟩)
    clear hl hr
    have q := fun (w : World) (a : Option Addr) (n c n' c' : Nat) => Lib.run_eql_slice_nil (P := Try.prog) w _ _ a n c n' c' Try.underlying52
    have HTA := Lib.hid (HT.out.keep0 ((Keep.refl [] w).alloc (.cells #[] 94)))
    go_enter Try.func45, Try.ntmps45
    go_wp2_with (at_builtin; obtain ⟨i0, hi, hy0, hy1, hy2⟩ := info_parts infoTurn; refine wpList_append_any _ rfl (.tmp 5) (.tmp 6) 52 rfl w.heap.size 94 i0 (.agg #[.int .i64 0, .int .i64 0]) 2 16 Try.underlying52 hi hy0 hy1 hy2 rfl (by decide) (.slice (some ⟨w.heap.size, 0, none⟩) 0 0) 0 [] rfl (World.ownsRow_made w #[] 0 (Nat.le_refl _) (by unfold maxLen; omega) rfl) _ _ p.length cap (prL p) rfl HTA.out.reads (prL_one p) (by have := HL.out; unfold maxLen; omega) (by have := HL.out; omega) (by simp) ?_; clear hi hy0 hy1 hy2; intro v5 w5 hown hg _; have HW5 := Lib.hid hown; have HK5 := Lib.hid (((Keep.refl [] w).alloc (.cells #[] 94)).trans (Keep.of_grown hg) (fun y hy => .inr (by simp [Value.ownBlock] at hy; omega))); clear hown hg)
    go_ret
    have h5 := HW5.out
    simp only [Nat.zero_add, List.nil_append] at h5
    obtain ⟨A5, c5, rfl⟩ := own_form h5
    exact ⟨HK5.out, A5, c5, rfl, TurnsAt.of_own h5⟩
/-- Something appended to a row of the call's own: it lies anew, and the old row stays as it was; or in the same block, with the same room. -/
theorem run_append_turn {P : Program} (w : World) (base : Nat) (t ty e : TypeId) (i : TypeInfo) (z : Value) (size bytes : Nat) (ht : P.underlying t = some (.slice e)) (hi : P.info? e = some i) (hz : i.zero = some z)
    (hsize : i.size = size) (hby : i.bytes = bytes) (hzs : z.cells.size = size) (hsz : 0 < size)
    (v : Value) (n : Nat) (xs : List Value) (hown : w.ownsRow base e size v n xs)
    (a : Addr) (m c : Nat) (news : List Value) (hl : news.length = m * size) (hnews : ∀ j u, news[j]? = some u → w.cell? (a.add j) = some u) (h1 : ∀ u ∈ news, u.oneCell' = true)
    (h63 : n + m ≤ maxLen) (hbytes : (n + m) * bytes ≤ 140737488355328) (hbase : base ≤ w.heap.size) (hm : 0 < m) :
    ∃ v' w', (Builtin.append_ #[t, t] ty #[v, .slice (some a) m c]).run P w = .ok v' w' ∧ w'.ownsRow base e size v' (n + m) (xs ++ news) ∧ w.grownBy w' v.ownBlock ∧
      ((v'.ownBlock = some w.heap.size ∧ w.grownBy w' none) ∨ ∃ g cap, v = .slice (some ⟨g, 0, none⟩) n cap ∧ v' = .slice (some ⟨g, 0, none⟩) (n + m) cap) := by
  obtain ⟨v', w', hr, h2, h3, h4, h5⟩ := run_append_own_at (P := P) w base t ty e i z size bytes ht hi hz hsize hby hzs hsz v n xs hown a m c news hl hnews h1 h63 hbytes hbase
  refine ⟨v', w', hr, h2, h3, ?_⟩
  rcases hown.2 with ⟨rfl, rfl⟩ | ⟨g, cap, cur, rfl, hbg, hg, hnc, hcm, hcs, htake⟩
  · left
    refine ⟨?_, h3⟩
    rcases h5 with h5 | h5
    · rcases h2.2 with ⟨_, h6⟩ | ⟨g, cap, cur, h6, _⟩
      · omega
      · rw [h6] at h5
        cases h5
    · exact h5
  · by_cases hroom : n + m ≤ cap
    · have hfit : n * i.size + news.length ≤ cur.size := by rw [hl, hcs, hsize, ← Nat.add_mul]; exact Nat.mul_le_mul_right _ hroom
      have hr2 := run_append_room (P := P) w t ty e i ht hi g n cap cur hg a m c news (by rw [hl, hsize]) hnews h1 hroom hfit
      rw [hr2] at hr
      injection hr with e1 e2
      exact .inr ⟨g, cap, rfl, e1.symm⟩
    · have holds : ∀ j u, xs[j]? = some u → w.cell? ((⟨g, 0, none⟩ : Addr).add j) = some u := hown.cells (g := g) rfl
      have hr2 := run_append_grow (P := P) w t ty e i z ht hi hz ⟨g, 0, none⟩ n cap xs (by rw [hown.1, hsize]) holds a m c news (by rw [hl, hsize]) hnews (by omega) (by simp only [maxLen] at h63; omega) (by rw [hby]; exact growslice_fits (by omega) hbytes)
      rw [hr2] at hr
      injection hr with e1 e2
      left
      rw [← e1, ← e2]
      exact ⟨rfl, ⟨rfl, rfl, rfl, by simp, fun k hk _ => Below.heap_alloc w.drew _ k hk⟩⟩
theorem step_append_turn {P : Program} {w : World} {ops : Array Oper} {o : Oper} {a : Act} {K : Act → World → Prop} {Q : Exit → Act → World → Prop} {E : Prop} (hgd : o.guard = none) (s x : Operand) (t : TypeId)
    (ho : o.op = .call { callee := .builtin .append, args := #[s, x], argTypes := #[t, t] })
    (base : Nat) (e : TypeId) (i : TypeInfo) (z : Value) (size bytes : Nat) (ht : P.underlying t = some (.slice e)) (hi : P.info? e = some i) (hz : i.zero = some z)
    (hsize : i.size = size) (hby : i.bytes = bytes) (hzs : z.cells.size = size) (hsz : 0 < size)
    (v : Value) (n : Nat) (xs : List Value) (hs : a.eval s = v) (hown : w.ownsRow base e size v n xs)
    (ad : Addr) (m c : Nat) (news : List Value) (hx : a.eval x = .slice (some ad) m c) (hl : news.length = m * size) (hnews : ∀ j u, news[j]? = some u → w.cell? (ad.add j) = some u) (h1 : ∀ u ∈ news, u.oneCell' = true)
    (h63 : n + m ≤ maxLen) (hbytes : (n + m) * bytes ≤ 140737488355328) (hbase : base ≤ w.heap.size) (hm : 0 < m)
    (h : ∀ v' w', w'.ownsRow base e size v' (n + m) (xs ++ news) → w.grownBy w' v.ownBlock → ((v'.ownBlock = some w.heap.size ∧ w.grownBy w' none) ∨ ∃ g cap, v = .slice (some ⟨g, 0, none⟩) n cap ∧ v' = .slice (some ⟨g, 0, none⟩) (n + m) cap) → K (a.put o.dst v') w') :
    if Region.wanted o (yielded ops a.tmps) = true then Oper.wp P o a w K Q else E := by
  have hw : Region.wanted o (yielded ops a.tmps) = true := by simp [Region.wanted, hgd]
  rw [if_pos hw]
  obtain ⟨v', w', hr, h2, h3, h4⟩ := run_append_turn (P := P) w base t o.type e i z size bytes ht hi hz hsize hby hzs hsz v n xs hown ad m c news hl hnews h1 h63 hbytes hbase hm
  unfold Oper.wp execOp
  simp only [ho, resolve, invoke, builtin, Sem.run_bind, Sem.run_pure, Result.andThen_ok, List.map_toArray, List.map_cons, List.map_nil, hs, hx, hr]
  exact h v' w' h2 h3 h4
/-- The row that was appended to, when what was appended has been used. -/
theorem row_back {w w1 w2 : World} {base size n m : Nat} {e : TypeId} {v v' : Value} {xs news : List Value} {S : List Nat} (hown : w.ownsRow base e size v n xs) (hat : (v'.ownBlock = some w.heap.size ∧ w.grownBy w1 none) ∨ ∃ g cap, v = .slice (some ⟨g, 0, none⟩) n cap ∧ v' = .slice (some ⟨g, 0, none⟩) (n + m) cap)
    (h2 : w2.ownsRow base e size v' (n + m) (xs ++ news)) (hk : Keep S w1 w2) (hs : ∀ x, x ∈ S → v'.ownBlock = some x ∨ v.ownBlock ≠ some x) : w2.ownsRow base e size v n xs := by
  rcases hat with ⟨hn, hg⟩ | ⟨g, cap, rfl, rfl⟩
  · refine own_keep (own_keep hown (Keep.of_grown hg) (by simp)) hk (fun g hg hm => ?_)
    rcases hs g hm with h | h
    · rw [hn] at h
      injection h with h
      have := own_lt hown hg
      omega
    · exact h hg
  · refine ⟨hown.1, .inr ?_⟩
    rcases hown.2 with ⟨h0, _⟩ | ⟨g0, c0, cur0, h0, hb0, hh0, hn0, hm0, _⟩
    · cases h0
    rcases h2.2 with ⟨h0', _⟩ | ⟨g1, c1, cur1, h1, hb1, hh1, hn1, hm1, hs1, ht1⟩
    · cases h0'
    injection h0 with e1 e2 e3
    injection h1 with f1 f2 f3
    subst e3 f3
    refine ⟨g, cap, cur1, rfl, ?_, ?_, hn0, hm0, hs1, ?_⟩
    · obtain rfl : g = g0 := by injection e1 with e1; injection e1
      exact hb0
    · obtain rfl : g = g1 := by injection f1 with f1; injection f1
      exact hh1
    · have := congrArg (List.take (n * size)) ht1
      rw [List.take_take, Nat.min_eq_left (Nat.mul_le_mul_right _ (by omega)), List.take_append_of_le_length (Nat.le_of_eq hown.1.symm), List.take_of_length_le (Nat.le_of_eq hown.1)] at this
      exact this
end Go.Proofs.Ytbhibmimdpodiaa
