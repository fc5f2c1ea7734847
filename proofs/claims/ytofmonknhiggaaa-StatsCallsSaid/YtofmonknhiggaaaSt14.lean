/- stats.Rate's answer; StatsCalls. No condition. -/
import Derived.Test.YtofmonknhiggaaaSt13
import Derived.Test.YtofmonknhiggaaaTill
namespace Go.Proofs.Ytofmonknhiggaaa
open Go.RowKit

def RateOut (w : World) (a b : Int) (r : Ending) (w' : World) : Prop := Keep [] w w' ∧ ∃ q : Int, r = .returned (.tuple #[.int .i64 q, .bool true]) ∧ (0 < a → a ≤ 1000000 → 0 ≤ b → b ≤ a → q = 100 * (a - b) / a)
theorem stats_rate1 (w : World) (xs : List Int) (k : Nat) (hl : xs.length = 42) (hk : k < 15) (h0 : xs.getD k 0 ≠ 0) : Calls Try.prog 13 #[.agg (sumC xs).toArray, .int .i64 (k : Nat)] w (RateOut w (xs.getD k 0) (xs.getD (15 + k) 0)) := by
  have HS : Hid (SumAt (w.alloc (.cells (sumC xs).toArray 29)) 29 w.heap.size xs) := Lib.hid ⟨Blk.new _ _ _, hl⟩
  have HK := Lib.hid ((Keep.refl [] w).alloc (.cells (sumC xs).toArray 29))
  have hz : (0 : Int) ≤ ((k : Nat) : Int) := by omega
  have hz2 : ((k : Nat) : Int) < 15 := by omega
  have KI := stats_in (k : Int) 15 true (by rw [decide_eq_true hz, decide_eq_true hz2]; rfl)
  clear hl
  go_enter Try.func13, Try.ntmps13
  go_upto_region 1 with fail
  generalize w.alloc _ = w1 at HS HK ⊢
  generalize w.heap.size = sb at HS ⊢
  have g1 := HS.out.cell (k := k) (by omega)
  have g2 := HS.out.cell (k := 15 + k) (by omega)
  generalize xs.getD k 0 = a at *
  generalize xs.getD (15 + k) 0 = b at *
  have ha0 : (a == 0) = false := by rw [beq_eq_false_iff_ne]; exact h0
  go_wp2_with fail
  refine (KI _).mono ?_
  clear KI
  rintro r x ⟨rfl, rfl⟩
  by_cases hb : (0 < a ∧ a ≤ 1000000) ∧ 0 ≤ b ∧ b ≤ a
  · obtain ⟨⟨b1, b2⟩, b3, b4⟩ := hb
    go_wp2_with fail
    go_quiet (fail)
    go_wp2_with fail
    go_ret2
    exact ⟨HK.out.trans (Keep.of_drawn (S := []) (Drawn.n _ _)) (by simp), _, rfl, fun _ _ _ _ => by rw [Int.mul_comm]⟩
  · go_wp2_with fail
    go_quiet (fail)
    go_wp2_with fail
    go_ret2
    exact ⟨HK.out.trans (Keep.of_drawn (S := []) (Drawn.n _ _)) (by simp), _, rfl, fun h1 h2 h3 h4 => absurd ⟨⟨h1, h2⟩, h3, h4⟩ hb⟩
/-- What the law's first loop holds. -/
structure WnR (w wr : World) (sb tb wb B2 : Nat) (xs : List Int) (till : Int) (AV : Value) (os : List OpS) (v : Value) (wl : List OpS) : Prop where
  hk : Keep [] w wr
  s : SumAt wr 29 sb xs
  t : Blk wr tb 3 #[.int .i64 till]
  wv : Blk wr wb 33 #[v]
  own : wr.ownsRow B2 41 13 v wl.length (wl.flatMap opC)
  all : wr.ownsRow w.heap.size 41 13 AV os.length (os.flatMap opC)
  lt : ∀ g, AV.ownBlock = some g → g < B2
  nb : w.heap.size ≤ B2
  nw : w.heap.size ≤ wb
section
variable {w wr w6 : World} {sb tb wb B2 : Nat} {xs : List Int} {till : Int} {AV v v' : Value} {os wl : List OpS} {o : Obj} {y : OpS}
theorem WnR.keep0 (h : WnR w wr sb tb wb B2 xs till AV os v wl) (hk : Keep [] wr w6) : WnR w w6 sb tb wb B2 xs till AV os v wl :=
  ⟨h.hk.trans hk (by simp), h.s.keep hk (by simp), h.t.keep hk (by simp), h.wv.keep hk (by simp), own_keep h.own hk (by simp), own_keep h.all hk (by simp), h.lt, h.nb, h.nw⟩
theorem WnR.add {w0 : World} (h : WnR w wr sb tb wb B2 xs till AV os v wl) (hk0 : Keep [] wr w0) (hg : w0.grownBy w6 v.ownBlock) (hown : w6.ownsRow B2 41 13 v' (wl.length + 1) (wl.flatMap opC ++ opC y)) : WnR w (w6.setCell ⟨wb, 0, none⟩ v') sb tb wb B2 xs till AV os v' (wl ++ [y]) := by
  have hk1 : Keep v.ownBlock.toList wr w6 := (hk0.mono (by simp)).trans (Keep.of_grown hg) (fun x hx => .inl hx)
  have hne : ∀ {b t : Nat} {cs : Array Value}, Blk wr b t cs → 41 ≠ t → b ∉ v.ownBlock.toList := fun hb ht hm => own_ne h.own hb ht (by simpa using hm)
  have hk2 : Keep [wb] w6 (w6.setCell ⟨wb, 0, none⟩ v') := (Keep.refl _ _).set_ _ (.inl (by simp))
  have hw6 := h.wv.keep hk1 (hne h.wv (by decide))
  have hall := own_keep h.all hk1 (fun g hg2 hm => by
    have h1 := h.lt g hg2
    have h2 := own_ge h.own (g := g) (by simpa using hm)
    omega)
  refine ⟨(h.hk.trans hk1 (fun x hx => .inr (Nat.le_trans h.nb (own_ge h.own (by simpa using hx))))).trans hk2 (fun x hx => .inr (by rw [List.mem_singleton.1 hx]; exact h.nw)), (h.s.keep hk1 (hne h.s.b (by decide))).keep hk2 (by simpa using (h.s.b.ne_ h.wv (by decide))), (h.t.keep hk1 (hne h.t (by decide))).keep hk2 (by simpa using (h.t.ne_ h.wv (by decide))), hw6.set_ 0 v', ?_, own_keep hall hk2 (fun g hg2 hm => own_ne hall hw6 (by decide) (by rw [hg2, List.mem_singleton.1 hm])), h.lt, h.nb, h.nw⟩
  have e1 : (wl ++ [y]).length = wl.length + 1 := by simp
  have e2 : (wl ++ [y]).flatMap opC = wl.flatMap opC ++ opC y := by simp
  rw [e1, e2]
  exact own_keep hown hk2 (fun g hg2 hm => own_ne hown hw6 (by decide) (by rw [hg2, List.mem_singleton.1 hm]))
theorem WnR.blk {w0 : World} (h : WnR w wr sb tb wb B2 xs till AV os v wl) (hk0 : Keep [] wr w0) (hg : w0.grownBy w6 v.ownBlock) : Blk w6 wb 33 #[v] :=
  h.wv.keep ((hk0.mono (S' := v.ownBlock.toList) (by simp)).trans (Keep.of_grown hg) (fun x hx => .inl hx)) (fun hm => own_ne h.own h.wv (by decide) (by simpa using hm))
theorem WnR.row {w0 : World} {b o n c p : Nat} {cs : List Value} (h : WnR w wr sb tb wb B2 xs till (.slice (some ⟨b, o, none⟩) n c) os v wl) (hk0 : Keep [] wr w0) (hg : w0.grownBy w6 v.ownBlock) (hx : wr.rangeAt b p cs) (hb : b < wr.heap.size) : w6.cell? ⟨wb, 0, none⟩ = some v ∧ w6.rangeAt b p cs :=
  ⟨(h.blk hk0 hg).cell 0, rangeAt_keep hx hb (fun hm => by
    have h1 := h.lt b rfl
    have h2 := own_ge h.own (g := b) (by simpa using hm)
    omega) ((hk0.mono (S' := v.ownBlock.toList) (by simp)).trans (Keep.of_grown hg) (fun x hx => .inl hx))⟩
end
theorem opC_arr (q : OpS) : (opC q).toArray = #[.int .i64 q.thr, .int .i64 q.op, .int .i64 q.key, .int .i64 q.val, .int .i64 q.hi, .int .i64 q.lim, .int .i64 q.kind, .int .i64 q.akey, .int .i64 q.aval, .int .i64 q.an, .slice q.pA q.pn q.pc, .int .i64 q.frm, .int .i64 q.to] := rfl
theorem seq_not_nil (a b : Value) (w : World) : (binOp .eql 43 (.func (.func 19) #[] #[a, b]) .nilFunc).run Try.prog w = .ok (.bool false) w := by kernel_rfl
theorem stats_seq (w : World) (A : Option Addr) (n cap : Nat) (op : Int) : Calls Try.prog 10 #[.slice A n cap, .int .i64 op] w fun r w' => r = .returned (.func (.func 19) #[] #[.pointer (some ⟨w.heap.size, 0, none⟩), .pointer (some ⟨w.heap.size + 1, 0, none⟩)]) ∧ w' = (w.alloc (.cells #[.slice A n cap] 22)).alloc (.cells #[.int .i64 op] 3) := by
  go_enter Try.func10, Try.ntmps10
  go_wp2_with fail
  go_ret
  exact ⟨rfl, rfl⟩
def RateDead (xs : List Int) (op : Int) : Prop := ¬ (0 ≤ op ∧ op < 15) ∨ ∃ k : Nat, op = (k : Int) ∧ k < 15 ∧ xs.getD k 0 = 0
theorem stats_rateA (w : World) (xs : List Int) (op : Int) (hl : xs.length = 42) : Calls Try.prog 13 #[.agg (sumC xs).toArray, .int .i64 op] w fun r w' => Keep [] w w' ∧ ∃ (q : Int) (okb : Bool), r = .returned (.tuple #[.int .i64 q, .bool okb]) ∧ (RateDead xs op → q = 0 ∧ okb = false) ∧ (∀ k : Nat, op = (k : Int) → k < 15 → xs.getD k 0 ≠ 0 → okb = true ∧ (0 < xs.getD k 0 → xs.getD k 0 ≤ 1000000 → 0 ≤ xs.getD (15 + k) 0 → xs.getD (15 + k) 0 ≤ xs.getD k 0 → q = 100 * (xs.getD k 0 - xs.getD (15 + k) 0) / xs.getD k 0)) := by
  by_cases h : RateDead xs op
  · refine (stats_rate0 w xs op hl h).mono ?_
    rintro r x ⟨rfl, hk⟩
    refine ⟨hk, 0, false, rfl, fun _ => ⟨rfl, rfl⟩, fun k h1 h2 h3 => ?_⟩
    rcases h with h | ⟨j, h4, h5, h6⟩
    · exact absurd ⟨by omega, by omega⟩ h
    · obtain rfl : j = k := by omega
      exact absurd h6 h3
  · have h1 : 0 ≤ op ∧ op < 15 := by
      by_cases h2 : 0 ≤ op ∧ op < 15
      · exact h2
      · exact absurd (.inl h2) h
    obtain ⟨k, rfl⟩ : ∃ k : Nat, op = (k : Int) := ⟨op.toNat, by omega⟩
    have hk : k < 15 := by omega
    have h0 : xs.getD k 0 ≠ 0 := fun e => h (.inr ⟨k, rfl, hk, e⟩)
    refine (stats_rate1 w xs k hl hk h0).mono ?_
    rintro r x ⟨hkk, q, rfl, hq⟩
    exact ⟨hkk, q, true, rfl, fun hh => absurd hh h, fun j h1 h2 h3 => by
      obtain rfl : k = j := by omega
      exact ⟨rfl, hq⟩⟩
/-- What the law's last part reads. -/
structure FinS (w wr : World) (sb fb ib : Nat) (xs : List Int) (j : Nat) : Prop where
  hk : Keep [] w wr
  s : SumAt wr 29 sb xs
  f : Blk wr fb 4 #[.bool true]
  i : Blk wr ib 3 #[.int .i64 (j : Nat)]
theorem FinS.keep0 {w wr w2 : World} {sb fb ib : Nat} {xs : List Int} {j : Nat} (h : FinS w wr sb fb ib xs j) (hk : Keep [] wr w2) : FinS w w2 sb fb ib xs j :=
  ⟨h.hk.trans hk (by simp), h.s.keep hk (by simp), h.f.keep hk (by simp), h.i.keep hk (by simp)⟩
set_option maxRecDepth 100000 in
set_option maxHeartbeats 8000000 in
theorem statsCalls_any (w : World) (A : Option Addr) (l : List EvS) (cap : Nat) (xs : List Int) (op till : Int) (hE : ElAt evC w A l) (hl : l.length ≤ maxLen) (hok : ∀ e ∈ l, EvOk w e) (hx : xs.length = 42) : Calls Try.prog 4 #[.slice A l.length cap, .agg (sumC xs).toArray, .agg #[.int .i64 op, .int .i64 till]] w (TrueOut w) := by
  have HE := Lib.hid hE
  have HMX := Lib.hid hl
  have HOK := Lib.hid hok
  have HXL := Lib.hid hx
  clear hE hl hok hx
  go_enter Try.func4, Try.ntmps4
  go_upto_region 1 with fail
  generalize hw2 : (w.alloc _).alloc _ = w2
  have HS : Hid (SumAt w2 29 w.heap.size xs) := Lib.hid (by rw [← hw2]; exact ⟨(Blk.new w _ _).alloc _, HXL.out⟩)
  have HX2 : Hid (Blk w2 (w.heap.size + 1) 32 #[.int .i64 op, .int .i64 till]) := Lib.hid (by
    have := Blk.new (w.alloc (.cells (sumC xs).toArray 29)) 32 #[.int .i64 op, .int .i64 till]
    rw [World.size_alloc] at this
    rw [← hw2]
    exact this)
  have HK2 : Hid (Keep [] w w2) := Lib.hid (by rw [← hw2]; exact ((Keep.refl [] w).alloc _).alloc _)
  clear hw2
  obtain ⟨sb, hsb⟩ : ∃ b, b = w.heap.size := ⟨_, rfl⟩
  rw [← hsb] at HS HX2 ⊢
  have HSB : Hid (w.heap.size ≤ sb) := Lib.hid (by omega)
  clear hsb
  generalize sb + 1 = xb at HX2 ⊢
  have hx0 := HX2.out.cell 0
  have hx1 := HX2.out.cell 1
  refine wp_region_held_drew (S := (fun w' => Blk w' xb 32 #[.int .i64 op, .int .i64 till])) (by kernel_rfl) HX2.out.drew (fun hHeld => ?_)
  refine wpAnyH_take (i := 0) (oi := { dst := some 18, op := Go.Op.indexAddr 32 (Go.Operand.tmp 5) (Go.Operand.const (Go.Value.int Go.IntKind.i64 0)), type := 0, pos := "law.go:38", after := #[], guard := none }) (v := ?_) rfl (by kernel_rfl) (by kernel_rfl) (by kernel_rfl) (fun _ _ _ h => h) (Or.inl ⟨by rfl, ?_⟩) (by assumption) ?_
  rotate_left
  · intro w hSw
    (try dsimp only at hSw)
    go_simp
    all_goals with_reducible rfl
  try simp only [Act.put, List.setIfInBounds_toArray, List.set_cons_zero, List.set_cons_succ]
  refine wpAnyH_take (i := 1) (oi := { dst := some 19, op := Go.Op.load 3 (Go.Operand.tmp 18), type := 3, pos := "law.go:38", after := #[{ on := 0, ground := Go.Ground.data }], guard := none }) (v := ?_) rfl (by kernel_rfl) (by kernel_rfl) (by kernel_rfl) (fun _ _ _ h => h) (Or.inl ⟨by rfl, ?_⟩) (by assumption) ?_
  rotate_left
  · intro w hSw
    have hc := hSw.cell 0
    go_simp
    all_goals with_reducible rfl
  try simp only [Act.put, List.setIfInBounds_toArray, List.set_cons_zero, List.set_cons_succ]
  refine wpAnyH_take (i := 2) (oi := { dst := some 20, op := Go.Op.indexAddr 32 (Go.Operand.tmp 5) (Go.Operand.const (Go.Value.int Go.IntKind.i64 1)), type := 0, pos := "law.go:38", after := #[{ on := 5, ground := Go.Ground.gcOnly Go.Departure.lateStores }], guard := none }) (v := ?_) rfl (by kernel_rfl) (by kernel_rfl) (by kernel_rfl) (fun _ _ _ h => h) (Or.inl ⟨by rfl, ?_⟩) (by assumption) ?_
  rotate_left
  · intro w hSw
    (try dsimp only at hSw)
    go_simp
    all_goals with_reducible rfl
  try simp only [Act.put, List.setIfInBounds_toArray, List.set_cons_zero, List.set_cons_succ]
  refine wpAnyH_take (i := 3) (oi := { dst := some 21, op := Go.Op.load 3 (Go.Operand.tmp 20), type := 3, pos := "law.go:38", after := #[{ on := 2, ground := Go.Ground.data }, { on := 5, ground := Go.Ground.gcOnly Go.Departure.lateStores }], guard := none }) (v := ?_) rfl (by kernel_rfl) (by kernel_rfl) (by kernel_rfl) (fun _ _ _ h => h) (Or.inl ⟨by rfl, ?_⟩) (by assumption) ?_
  rotate_left
  · intro w hSw
    have hc := hSw.cell 1
    go_simp
    all_goals with_reducible rfl
  try simp only [Act.put, List.setIfInBounds_toArray, List.set_cons_zero, List.set_cons_succ]
  refine wpAnyH_ready (rs := [4]) (by kernel_rfl) (by simp) ?_
  refine AllReadyH.cons (o := { dst := some 8, op := Go.Op.alloc 3, type := 0, pos := "law.go:38", after := #[], guard := none }) rfl (fun K hK => ?_) AllReadyH.nil
  go_simp
  refine hK.out _ _ (hHeld.alloc _) (fun hHeld => ?_)
  clear hK K
  try simp only [Act.put, List.setIfInBounds_toArray, List.set_cons_zero, List.set_cons_succ]
  refine wpAnyH_take (i := 5) (oi := { dst := some 7, op := Go.Op.assign (Go.Operand.tmp 19), type := 3, pos := "law.go:38", after := #[{ on := 1, ground := Go.Ground.data }, { on := 0, ground := Go.Ground.phase }, { on := 1, ground := Go.Ground.phase }, { on := 2, ground := Go.Ground.textOnly Go.Departure.lateStores }, { on := 3, ground := Go.Ground.textOnly Go.Departure.lateStores }, { on := 4, ground := Go.Ground.phase }], guard := none }) (v := ?_) rfl (by kernel_rfl) (by kernel_rfl) (by kernel_rfl) (fun _ _ _ h => h) (Or.inl ⟨by rfl, ?_⟩) (by assumption) ?_
  rotate_left
  · intro w hSw
    (try dsimp only at hSw)
    go_simp
    all_goals with_reducible rfl
  try simp only [Act.put, List.setIfInBounds_toArray, List.set_cons_zero, List.set_cons_succ]
  refine wpAnyH_ready (rs := [6]) (by kernel_rfl) (by simp) ?_
  refine AllReadyH.cons (o := { dst := none, op := Go.Op.store 3 (Go.Operand.tmp 8) (Go.Operand.tmp 21), type := 0, pos := "law.go:38", after := #[{ on := 4, ground := Go.Ground.data }, { on := 3, ground := Go.Ground.data }, { on := 5, ground := Go.Ground.chain }, { on := 0, ground := Go.Ground.phase }, { on := 1, ground := Go.Ground.phase }, { on := 2, ground := Go.Ground.phase }, { on := 3, ground := Go.Ground.phase }, { on := 4, ground := Go.Ground.phase }, { on := 5, ground := Go.Ground.phase }], guard := none }) rfl (fun K hK => ?_) AllReadyH.nil
  go_simp
  refine hK.out _ _ ((HX2.out.drew).alloc _) (fun hHeld => ?_)
  clear hK K
  try simp only [Act.put, List.setIfInBounds_toArray, List.set_cons_zero, List.set_cons_succ]
  refine wpAnyH_done (by kernel_rfl) ?_ _
  clear hHeld
  generalize hw3 : (w2.alloc (.cells #[.int .i64 till] 3)).drew = w3
  have HT3 : Hid (Blk w3 w2.heap.size 3 #[.int .i64 till]) := Lib.hid (by rw [← hw3]; exact (Blk.new w2 _ _).drew)
  have HK23 : Hid (Keep [] w2 w3) := Lib.hid (by rw [← hw3]; exact ((Keep.refl [] w2).alloc _).drew)
  clear hw3
  generalize w2.heap.size = tb at HT3 ⊢
  have KG := Lib.hid (law38_great w3 A l cap (HE.out.keep (HK2.out.trans HK23.out (by simp))) HMX.out)
  have HS3 := Lib.hid (HS.out.keep HK23.out (by simp))
  have HK3 := Lib.hid (HK2.out.trans HK23.out (by simp))
  clear HS HX2 hx0 hx1 HK2 HK23
  go_wp2_with fail
  refine KG.out.mono ?_
  clear KG
  rintro r x ⟨hd, b, rfl, hb⟩
  have HKx := Lib.hid (Keep.of_drawn (S := []) hd)
  clear hd
  cases b with
  | true =>
    clear hb
    go_wp2_with fail
    refine (lives38 _).mono ?_
    rintro r y ⟨rfl, hk⟩
    have HK9 := Lib.hid ((HK3.out.trans HKx.out (by simp)).trans hk (by simp))
    clear hk
    go_wp2_with fail
    go_ret
    exact ⟨rfl, HK9.out⟩
  | false =>
    obtain ⟨h1, h2⟩ := hb rfl
    have hpn : ∀ e ∈ l, e.pn ≤ 1500 := fun e he => by
      obtain ⟨k, hk, rfl⟩ := List.getElem_of_mem he
      have := h2 k hk
      rw [List.getD_eq_getElem?_getD, List.getElem?_eq_getElem hk] at this
      exact this
    have HPN := Lib.hid hpn
    have HLN := Lib.hid h1
    have HK4 := Lib.hid (HK3.out.trans HKx.out (by simp))
    have HS4 := Lib.hid (HS3.out.keep HKx.out (by simp))
    have HT4 := Lib.hid (HT3.out.keep HKx.out (by simp))
    have KO := Lib.hid (ref11_opers x A l cap (HE.out.keep HK4.out) (by omega))
    clear hb h1 h2 hpn HS3 HT3 HKx HK3
    go_wp2_with fail
    refine KO.out.mono ?_
    clear KO
    rintro r y ⟨hk, os, v, rfl, hos, hown⟩
    obtain ⟨A3, c3, rfl⟩ := own_form hown
    have HOS := Lib.hid hos
    have HOW := Lib.hid (own_more hown HK4.out.size)
    have HK5 := Lib.hid (HK4.out.trans hk (by simp))
    have HS5 := Lib.hid (HS4.out.keep hk (by simp))
    have HT5 := Lib.hid (HT4.out.keep hk (by simp))
    have HLA : Hid (∀ g, (Value.slice A3 os.length c3).ownBlock = some g → g < y.heap.size) := Lib.hid (fun g hg => own_lt hown hg)
    have HSZ := Lib.hid HK5.out.size
    clear hos hown hk HS4 HT4 HK4
    go_upto_region 6 with fail
    have HW6 : Hid (WnR w (y.alloc (.cells #[.slice none 0 0] 33)) sb tb y.heap.size y.heap.size xs till (.slice A3 os.length c3) os (.slice none 0 0) []) := Lib.hid ⟨HK5.out.alloc _, HS5.out.keep ((Keep.refl [] y).alloc _) (by simp), HT5.out.keep ((Keep.refl [] y).alloc _) (by simp), Blk.new _ _ _, World.ownsRow_nil _ _ _ _, own_keep HOW.out ((Keep.refl [] y).alloc _) (by simp), HLA.out, HSZ.out, HSZ.out⟩
    have HBS : Hid (y.heap.size ≤ (y.alloc (.cells #[.slice none 0 0] 33)).heap.size) := Lib.hid (by rw [World.size_alloc]; omega)
    clear HOW HS5 HT5 HLA HSZ HK5
    generalize (y.alloc (.cells #[.slice none 0 0] 33)) = w6 at HW6 HBS ⊢
    generalize y.heap.size = wb at HW6 HBS ⊢
    have HOL : Hid (os.length ≤ 150) := Lib.hid (Nat.le_trans (opsOut_few HOS.out) HLN.out)
    go_wp2_with fail
    go_loopg [11] os.length (fun g v11 wr => ∃ (k : Nat) (v : Value), k ≤ os.length ∧ g = os.length - k ∧ v11 = .int .i64 (k : Nat) ∧ WnR w wr sb tb wb wb xs till (.slice A3 os.length c3) os v ((os.take k).filter (opIs op)) ∧ wb ≤ wr.heap.size)
    case atStart => exact ⟨0, _, Nat.zero_le _, rfl, rfl, HW6.out, HBS.out⟩
    case round =>
      obtain ⟨k, v, hk, rfl, rfl, hr, hbs⟩ := hrel
      have HR := Lib.hid hr
      have HBR := Lib.hid hbs
      have hk0 : (0 : Int) ≤ ((k : Nat) : Int) := by omega
      have hk9 : ((k : Nat) : Int) ≤ 200 := by have := HOL.out; omega
      clear hr hbs
      by_cases hlt : k < os.length
      · have hz : ((k : Nat) : Int) < ((os.length : Nat) : Int) := by omega
        obtain ⟨b, o, hA, hbl, hcl⟩ := (ElAt.of_own (f := opC) HR.out.all rfl).range 13 (fun _ => rfl) op0 hlt
        subst hA
        have c1 := hcl 1 _ rfl
        have HRX := Lib.hid hcl
        have HBB := Lib.hid hbl
        have HTK := Lib.hid (take_snocO hlt)
        have HTL := Lib.hid (cntF_le os op k)
        clear hlt hcl hbl
        generalize os.getD k op0 = q at *
        by_cases hop : q.op = op
        · have hqb : (q.op == op) = true := by rw [beq_iff_eq]; exact hop
          have HFL : Hid (((os.take (k + 1)).filter (opIs op)) = (os.take k).filter (opIs op) ++ [q]) := Lib.hid (by
            rw [HTK.out, List.filter_append, List.filter_cons, if_pos (by simpa [opIs] using hop)]
            rfl)
          have HLW : Hid (((os.take k).filter (opIs op)).length ≤ 150) := Lib.hid (Nat.le_trans HTL.out (Nat.le_trans (List.length_filter_le _ _) HOL.out))
          clear hop HTK HTL
          generalize (os.take k).filter (opIs op) = wl at HR HFL HLW
          have HKA : Hid (Keep [] wr (wr.alloc (.cells #[.int .i64 q.thr, .int .i64 q.op, .int .i64 q.key, .int .i64 q.val, .int .i64 q.hi, .int .i64 q.lim, .int .i64 q.kind, .int .i64 q.akey, .int .i64 q.aval, .int .i64 q.an, .slice q.pA q.pn q.pc, .int .i64 q.frm, .int .i64 q.to] 41)).drew) := ((Keep.refl [] wr).alloc _).drew
          have HOWA := Lib.hid (own_keep HR.out.own HKA.out (by simp))
          go_upto_region 10 with fail
          refine wp_region_till (S := (fun w' => w'.cell? ⟨wb, 0, none⟩ = some v ∧ w'.rangeAt b (o + k * 13) (opC q))) 7 7 (by kernel_rfl) (by kernel_rfl) ⟨(HR.out.wv.drew).cell 0, rangeAt_keep HRX.out HBB.out (by simp) (Keep.refl [] _).drew⟩ (fun hHeld => ?_)
          refine tillT_take (i := 0) (oi := { dst := some 41, op := Go.Op.load 33 (Go.Operand.tmp 10), type := 33, pos := "law.go:46", after := #[], guard := none }) (v := ?_) rfl (by kernel_rfl) (by kernel_rfl) (by kernel_rfl) (by kernel_rfl) (fun _ _ _ h => h) (Or.inl ⟨by rfl, ?_⟩) (by assumption) ?_
          rotate_left
          · intro w hSw
            have hc := hSw.1
            go_simp
            all_goals with_reducible rfl
          try simp only [Act.put, List.setIfInBounds_toArray, List.set_cons_zero, List.set_cons_succ]
          refine tillT_take (i := 1) (oi := { dst := some 42, op := Go.Op.move (Go.Operand.tmp 9), type := 33, pos := "law.go:46", after := #[], guard := none }) (v := ?_) rfl (by kernel_rfl) (by kernel_rfl) (by kernel_rfl) (by kernel_rfl) (fun _ _ _ h => h) (Or.inl ⟨by rfl, ?_⟩) (by assumption) ?_
          rotate_left
          · intro w hSw
            (try dsimp only at hSw)
            go_simp
            all_goals with_reducible rfl
          try simp only [Act.put, List.setIfInBounds_toArray, List.set_cons_zero, List.set_cons_succ]
          refine tillT_take (i := 2) (oi := { dst := some 43, op := Go.Op.move (Go.Operand.tmp 11), type := 3, pos := "law.go:46", after := #[], guard := none }) (v := ?_) rfl (by kernel_rfl) (by kernel_rfl) (by kernel_rfl) (by kernel_rfl) (fun _ _ _ h => h) (Or.inl ⟨by rfl, ?_⟩) (by assumption) ?_
          rotate_left
          · intro w hSw
            (try dsimp only at hSw)
            go_simp
            all_goals with_reducible rfl
          try simp only [Act.put, List.setIfInBounds_toArray, List.set_cons_zero, List.set_cons_succ]
          refine tillT_take (i := 3) (oi := { dst := some 44, op := Go.Op.indexAddr 33 (Go.Operand.tmp 42) (Go.Operand.tmp 43), type := 0, pos := "law.go:46", after := #[{ on := 1, ground := Go.Ground.data }, { on := 2, ground := Go.Ground.data }], guard := none }) (v := ?_) rfl (by kernel_rfl) (by kernel_rfl) (by kernel_rfl) (by kernel_rfl) (fun _ _ _ h => h) (Or.inl ⟨by rfl, ?_⟩) (by assumption) ?_
          rotate_left
          · intro w hSw
            (try dsimp only at hSw)
            go_simp
            all_goals with_reducible rfl
          try simp only [Act.put, List.setIfInBounds_toArray, List.set_cons_zero, List.set_cons_succ]
          refine tillT_take (i := 4) (oi := { dst := some 45, op := Go.Op.load 41 (Go.Operand.tmp 44), type := 41, pos := "law.go:46", after := #[{ on := 3, ground := Go.Ground.data }], guard := none }) (v := ?_) rfl (by kernel_rfl) (by kernel_rfl) (by kernel_rfl) (by kernel_rfl) (fun _ _ _ h => h) (Or.inl ⟨by rfl, ?_⟩) (by assumption) ?_
          rotate_left
          · intro w hSw
            refine ex_load_mid (o := { dst := some 45, op := Go.Op.load 41 (Go.Operand.tmp 44), type := 41, pos := "law.go:46", after := #[{ on := 3, ground := Go.Ground.data }], guard := none }) rfl ?_ hSw.2 Try.underlying41 rfl sizeOper
            rfl
          try simp only [Act.put, List.setIfInBounds_toArray, List.set_cons_zero, List.set_cons_succ]
          refine tillT_only (i := 5) (o := { dst := some 46, op := Go.Op.buildSlice 33 1 #[(0, Go.Operand.tmp 45)], type := 33, pos := "law.go:46", after := #[{ on := 4, ground := Go.Ground.data }], guard := none }) (by kernel_rfl) rfl (fun K hK => ?_)
          rw [opC_arr]
          go_simp
          refine hK.out _ _ ⟨((HR.out.wv.drew).alloc _).cell 0, rangeAt_keep HRX.out HBB.out (by simp) ((Keep.refl [] _).drew.alloc _)⟩ (fun hHeld => ?_)
          clear hK K
          try simp only [Act.put, List.setIfInBounds_toArray, List.set_cons_zero, List.set_cons_succ]
          refine tillT_only (i := 6) (o := { dst := some 47, op := Go.Op.call { callee := Go.Callee.builtin Go.Builtin.append, args := #[Go.Operand.tmp 41, Go.Operand.tmp 46], argTypes := #[33, 33] }, type := 33, pos := "law.go:46", after := #[{ on := 0, ground := Go.Ground.data }, { on := 5, ground := Go.Ground.data }], guard := none }) (by kernel_rfl) rfl (fun K hK => ?_)
          obtain ⟨i0, hi, hz0, hz1, hz2⟩ := info_parts infoOp
          refine step_append_at rfl (.tmp 41) (.tmp 46) 33 rfl wb 41 i0 (.agg #[.int .i64 0, .int .i64 0, .int .i64 0, .int .i64 0, .int .i64 0, .int .i64 0, .int .i64 0, .int .i64 0, .int .i64 0, .int .i64 0, .slice none 0 0, .int .i64 0, .int .i64 0]) 13 120 Try.underlying33 hi hz0 hz1 hz2 rfl (by decide) v wl.length (wl.flatMap opC) rfl HOWA.out ⟨_, 0, none⟩ 1 1 (opC q) rfl rfl (World.news_of_block (heap_alloc_new _ _)) (by simpa using opC_one [q]) (by have := HLW.out; unfold maxLen; omega) (by have := HLW.out; omega) (Nat.le_trans HBR.out HKA.out.size) ?_
          clear hi hz0 hz1 hz2
          intro v2 w7 hown hg hnil hat
          clear hnil hat
          obtain ⟨A4, c4, rfl⟩ := own_form hown
          have HAD := Lib.hid (HR.out.add HKA.out hg hown)
          have HBW := HR.out.blk HKA.out hg
          have HSW := HR.out.row HKA.out hg HRX.out HBB.out
          have hzw := HBW.frozen 0
          have HLS := Lib.hid (Nat.le_trans HBR.out (Nat.le_trans HKA.out.size (Keep.of_grown hg).size))
          clear hown hg
          refine hK.out _ _ HSW (fun hHeld => ?_)
          clear hK K
          try simp only [Act.put, List.setIfInBounds_toArray, List.set_cons_zero, List.set_cons_succ]
          refine tillT_last (o := { dst := none, op := Go.Op.store 33 (Go.Operand.tmp 10) (Go.Operand.tmp 47), type := 0, pos := "law.go:46", after := #[{ on := 6, ground := Go.Ground.data }, { on := 6, ground := Go.Ground.chain }, { on := 0, ground := Go.Ground.phase }, { on := 1, ground := Go.Ground.phase }, { on := 2, ground := Go.Ground.phase }, { on := 3, ground := Go.Ground.phase }, { on := 4, ground := Go.Ground.phase }, { on := 5, ground := Go.Ground.phase }, { on := 6, ground := Go.Ground.phase }], guard := none }) (by kernel_rfl) (by kernel_rfl) rfl (fun K hK => ?_)
          have hcw := HSW.1
          go_simp
          refine hK.out _ _ ?_
          clear hK K
          clear hHeld HSW HBW hzw hcw
          go_wp2_with fail
          go_roundg (os.length - (k + 1))
          case measure => omega
          case rel => exact ⟨k + 1, _, by omega, rfl, by go_num, by rw [HFL.out]; exact HAD.out, by rw [World.size_setCell]; exact HLS.out⟩
        · have hqb : (q.op == op) = false := by rw [beq_eq_false_iff_ne]; exact hop
          have HWQ : Hid (WnR w wr sb tb wb wb xs till (.slice (some ⟨b, o, none⟩) os.length c3) os v ((os.take (k + 1)).filter (opIs op))) := Lib.hid (by
            rw [HTK.out, List.filter_append, List.filter_cons, if_neg (by simpa [opIs] using hop)]
            simpa using HR.out)
          clear hop
          go_wp2_with fail
          go_roundg (os.length - (k + 1))
          case measure => omega
          case rel => exact ⟨k + 1, v, by omega, rfl, by go_num, HWQ.out, HBR.out⟩
      · have hz : ¬ ((k : Nat) : Int) < ((os.length : Nat) : Int) := by omega
        have HRW : Hid (WnR w wr sb tb wb wb xs till (.slice A3 os.length c3) os v (os.filter (opIs op))) := Lib.hid (by
          have := HR.out
          rw [List.take_of_length_le (by omega)] at this
          exact this)
        clear hlt
        obtain ⟨A5, c5, rfl⟩ := own_form HRW.out.own
        have HLW : Hid ((os.filter (opIs op)).length ≤ 150) := Lib.hid (Nat.le_trans (List.length_filter_le _ _) HOL.out)
        have HPW : Hid (∀ o ∈ os.filter (opIs op), o.pn ≤ 1500) := Lib.hid (fun o ho => opsOut_pn HOS.out HPN.out o (List.mem_filter.1 ho).1)
        have HOW : Hid (∀ o ∈ os.filter (opIs op), OpOk w o) := Lib.hid (fun o ho => opsOut_ok HOS.out HOK.out o (List.mem_filter.1 ho).1)
        clear HR hk hk0 hk9 HW6 HBS HBR
        have KQ := stats_seq wr A l.length cap op
        go_wp2_with fail
        refine KQ.mono ?_
        clear KQ
        rintro r x2 ⟨rfl, hx2⟩
        have HLB : Hid (Blk x2 wr.heap.size 22 #[.slice A l.length cap]) := Lib.hid (by rw [hx2]; exact (Blk.new _ _ _).alloc _)
        have HOB : Hid (Blk x2 (wr.heap.size + 1) 3 #[.int .i64 op]) := Lib.hid (by
          have := Blk.new (wr.alloc (.cells #[.slice A l.length cap] 22)) 3 #[.int .i64 op]
          rw [World.size_alloc] at this
          rw [hx2]
          exact this)
        have HKX : Hid (Keep [] wr x2) := Lib.hid (by rw [hx2]; exact ((Keep.refl [] wr).alloc _).alloc _)
        clear hx2
        have hsn := seq_not_nil (.pointer (some ⟨wr.heap.size, 0, none⟩)) (.pointer (some ⟨wr.heap.size + 1, 0, none⟩)) x2
        generalize wr.heap.size = lb at HLB HOB hsn ⊢
        generalize lb + 1 = ob at HOB hsn ⊢
        have HRX := Lib.hid (HRW.out.keep0 HKX.out)
        clear HRW HKX
        go_upto_region 16 with fail
        generalize hw7 : (x2.alloc _).alloc _ = w7
        have HIB : Hid (Blk w7 x2.heap.size 3 #[.int .i64 (0 : Nat)]) := Lib.hid (by rw [← hw7]; exact (Blk.new _ _ _).alloc _)
        have HFB : Hid (Blk w7 (x2.heap.size + 1) 4 #[.bool true]) := Lib.hid (by
          have := Blk.new (x2.alloc (.cells #[.int .i64 0] 3)) 4 #[.bool true]
          rw [World.size_alloc] at this
          rw [← hw7]
          exact this)
        have HKX : Hid (Keep [] x2 w7) := Lib.hid (by rw [← hw7]; exact ((Keep.refl [] x2).alloc _).alloc _)
        clear hw7
        obtain ⟨ib, hib⟩ : ∃ q, q = x2.heap.size := ⟨_, rfl⟩
        rw [← hib] at HIB HFB ⊢
        generalize hfb : ib + 1 = fb at HFB ⊢
        have HR7 := Lib.hid (HRX.out.keep0 HKX.out)
        have HNI : Hid (ib ≠ tb ∧ ob ≠ ib ∧ sb ≠ ib ∧ sb ≠ fb ∧ w.heap.size ≤ ib ∧ w.heap.size ≤ fb) := Lib.hid (by
          have h1 := HRX.out.t.lt
          have h2 := HOB.out.lt
          have h3 := HRX.out.s.b.lt
          have h4 := HRX.out.hk.size
          subst hfb hib
          omega)
        have HY7 : Hid (YdS w7 fb ib wb tb A5 c5 (os.filter (opIs op)) 0 till) := Lib.hid ⟨HFB.out, HIB.out, HR7.out.wv, HR7.out.t, ElAt.of_own HR7.out.own rfl, fun o ho => (HOW.out o ho).keep HR7.out.hk, HNI.out.1⟩
        have KC := Lib.hid (stats_calls1 w7 fb ib wb tb lb ob A5 A c5 cap l os op till HOS.out HY7.out (HLB.out.keep HKX.out (by simp)) (HOB.out.keep HKX.out (by simp)) (HE.out.keep HR7.out.hk) HLN.out HPN.out HNI.out.2.1)
        clear HIB HFB HKX hib hfb HLB HOB HRX hz HY7
        go_wp2_with fail
        refine KC.out.mono ?_
        clear KC
        rintro r w8 ⟨rfl, hy, hk⟩
        have HF : Hid (FinS w w8 sb fb ib xs (tillN till (os.filter (opIs op)).length)) := Lib.hid ⟨HR7.out.hk.trans hk (fun y hy => .inr (by
          rcases List.mem_cons.1 hy with rfl | hy
          · exact HNI.out.2.2.2.2.2
          · rw [List.mem_singleton.1 hy]; exact HNI.out.2.2.2.2.1)), HR7.out.s.keep hk (by simp only [List.mem_cons, List.not_mem_nil, or_false, not_or]; exact ⟨HNI.out.2.2.2.1, HNI.out.2.2.1⟩), hy.hf, hy.hi⟩
        have hcw : w8.cell? ⟨wb, 0, none⟩ = some (.slice A5 (os.filter (opIs op)).length c5) := hy.hw.cell 0
        have hct : w8.cell? ⟨tb, 0, none⟩ = some (.int .i64 till) := hy.ht.cell 0
        clear hy hk HR7 HNI
        generalize hnw : (os.filter (opIs op)).length = nw at HF HLW hcw
        clear hnw HOW HPW
        have hn0 : (0 : Int) ≤ ((nw : Nat) : Int) := by omega
        go_upto_region 18 with fail
        obtain ⟨c64, hc64⟩ : ∃ c, decide (0 < till ∧ till < (nw : Int)) = c := ⟨_, rfl⟩
        have HC64 := Lib.hid hc64
        clear hc64
        go_cut [64] (fun s64 wx => s64 = .bool c64 ∧ w8 = wx)
        case first =>
          by_cases ht : 0 < till
          · by_cases ht2 : till < ((nw : Nat) : Int)
            · obtain rfl : c64 = true := by rw [← HC64.out]; exact decide_eq_true ⟨ht, ht2⟩
              go_wp2_with fail
              go_meet
              exact ⟨rfl, rfl⟩
            · obtain rfl : c64 = false := by rw [← HC64.out]; exact decide_eq_false (fun h => ht2 h.2)
              go_wp2_with fail
              go_meet
              exact ⟨rfl, rfl⟩
          · obtain rfl : c64 = false := by rw [← HC64.out]; exact decide_eq_false (fun h => ht h.1)
            go_wp2_with fail
            go_meet
            exact ⟨rfl, rfl⟩
        case rest =>
          obtain ⟨rfl, rfl⟩ := hcut
          go_upto_if 64 with fail
          go_cut [15] (fun s15 wx => s15 = .int .i64 (tillN till nw : Nat) ∧ w8 = wx)
          case first =>
            cases c64 with
            | true =>
              have h1 := of_decide_eq_true HC64.out
              have HTN : Hid (((tillN till nw : Nat) : Int) = till) := Lib.hid (by
                unfold tillN
                rw [if_pos h1]
                omega)
              clear h1 HC64
              go_wp2_with fail
              go_meet
              exact ⟨by rw [HTN.out], rfl⟩
            | false =>
              have h1 := of_decide_eq_false HC64.out
              have HTN : Hid (tillN till nw = nw) := Lib.hid (by
                unfold tillN
                rw [if_neg h1])
              clear h1 HC64
              go_wp2_with fail
              go_meet
              exact ⟨by rw [HTN.out], rfl⟩
          case rest =>
            obtain ⟨rfl, rfl⟩ := hcut
            generalize tillN till nw = j at HF ⊢
            clear hcw hct HC64 hn0 HLW
            have KR := Lib.hid (stats_rateA w8 xs op HXL.out)
            go_upto_region 20 with fail
            go_wp2_with (with_reducible refine wpList_load_mid rfl 29 (.tmp 4) rfl sb 0 rfl (sumC xs) _ HF.out.s.b.range Try.underlying29 rfl (by rw [sumC_len, HXL.out]; exact sizeSum) ?_)
            refine KR.out.mono ?_
            clear KR
            rintro r w9 ⟨hk, q, okb, rfl, hdead, hlive⟩
            have HF9 := Lib.hid (HF.out.keep0 hk)
            have HDD := Lib.hid hdead
            have HLV := Lib.hid hlive
            clear hk hdead hlive HF
            have HJJ : Hid (((((j : Nat) : Int)) == ((j : Nat) : Int)) = true) := Lib.hid (by simp)
            have hib9 : w9.cell? ⟨ib, 0, none⟩ = some (.int .i64 (j : Nat)) := HF9.out.i.cell 0
            have hfb9 : w9.cell? ⟨fb, 0, none⟩ = some (.bool true) := HF9.out.f.cell 0
            go_upto_region 21 with fail
            obtain ⟨c84, HC84⟩ : ∃ c : Bool, Hid ((c = true → RateDead xs op) ∧ (c = false → ∃ k : Nat, op = (k : Int) ∧ k < 15 ∧ xs.getD k 0 ≠ 0)) := by
              by_cases h : RateDead xs op
              · exact ⟨true, Lib.hid ⟨fun _ => h, (fun h => by cases h)⟩⟩
              · refine ⟨false, Lib.hid ⟨(fun h => by cases h), fun _ => ?_⟩⟩
                have h1 : 0 ≤ op ∧ op < 15 := by
                  by_cases h2 : 0 ≤ op ∧ op < 15
                  · exact h2
                  · exact absurd (.inl h2) h
                exact ⟨op.toNat, by omega, by omega, fun e => h (.inr ⟨op.toNat, by omega, by omega, e⟩)⟩
            go_cut [84] (fun s84 wx => s84 = .bool c84 ∧ w9 = wx)
            case first =>
              by_cases hneg : op < 0
              · obtain rfl : c84 = true := by
                  cases c84 with
                  | true => rfl
                  | false =>
                    obtain ⟨k, h1, _⟩ := HC84.out.2 rfl
                    omega
                clear HC84 HDD HLV
                go_wp2_with fail
                go_meet
                exact ⟨rfl, rfl⟩
              · by_cases hgt : 14 < op
                · obtain rfl : c84 = true := by
                    cases c84 with
                    | true => rfl
                    | false =>
                      obtain ⟨k, h1, h2, _⟩ := HC84.out.2 rfl
                      omega
                  clear HC84 HDD HLV
                  go_wp2_with fail
                  go_meet
                  exact ⟨rfl, rfl⟩
                · obtain ⟨k, hk⟩ : ∃ k : Nat, op = (k : Int) := ⟨op.toNat, by omega⟩
                  have hzk : (0 : Int) ≤ ((k : Nat) : Int) := by omega
                  have hzk2 : ((k : Nat) : Int) < 15 := by omega
                  have HK15 : Hid (k < 15) := Lib.hid (by omega)
                  have g1 := HF9.out.s.cell (k := k) (by have := HK15.out; omega)
                  have hc : (xs.getD k 0 == 0) = c84 := by
                    cases c84 with
                    | true =>
                      rcases HC84.out.1 rfl with h | ⟨k2, h1, h2, h3⟩
                      · exact absurd ⟨by omega, by omega⟩ h
                      · obtain rfl : k2 = k := by omega
                        rw [h3]
                        rfl
                    | false =>
                      obtain ⟨k2, h1, h2, h3⟩ := HC84.out.2 rfl
                      obtain rfl : k2 = k := by omega
                      rw [beq_eq_false_iff_ne]
                      exact h3
                  have HOPK := Lib.hid hk
                  clear hneg hgt HC84 HDD HLV
                  generalize xs.getD k 0 = a at g1 hc
                  subst hk
                  go_wp2_with fail
                  go_meet
                  exact ⟨by rw [show decide (((k : Nat) : Int) < 0) = false from decide_eq_false (by omega), show decide ((14 : Int) < ((k : Nat) : Int)) = false from decide_eq_false (by have := HK15.out; omega)]; rfl, rfl⟩
            case rest =>
              obtain ⟨rfl, rfl⟩ := hcut
              cases c84 with
              | true =>
                obtain ⟨rfl, rfl⟩ := HDD.out (HC84.out.1 rfl)
                have hjj := HJJ.out
                clear HC84 HLV HDD
                go_wp2_with fail
                refine (lives38 _).mono ?_
                rintro r z ⟨rfl, hk⟩
                have HKZ := Lib.hid (HF9.out.hk.trans hk (by simp))
                clear hk
                go_wp2_with fail
                go_ret
                exact ⟨rfl, HKZ.out⟩
              | false =>
                obtain ⟨k, hk, h15, hne⟩ := HC84.out.2 rfl
                obtain ⟨hok, hq⟩ := HLV.out k hk h15 hne
                have HQ := Lib.hid hq
                have hzk : (0 : Int) ≤ ((k : Nat) : Int) := by omega
                have hzk2 : ((k : Nat) : Int) < 15 := by omega
                have g1 := HF9.out.s.cell (k := k) (by omega)
                have g2 := HF9.out.s.cell (k := 15 + k) (by omega)
                clear HC84 HLV HDD hq h15
                generalize xs.getD k 0 = a at *
                generalize xs.getD (15 + k) 0 = b at *
                subst hk hok
                go_upto_region 23 with fail
                obtain ⟨c131, hc131⟩ : ∃ c : Bool, decide (¬ (0 < a ∧ a ≤ 1000000 ∧ 0 ≤ b ∧ b ≤ a)) = c := ⟨_, rfl⟩
                have HC131 := Lib.hid hc131
                have HNE := Lib.hid hne
                clear hc131 hne
                go_cut [131] (fun s131 wx => s131 = .bool c131 ∧ Keep [] w9 wx)
                case first =>
                  by_cases q1 : a < 0
                  · obtain rfl : c131 = true := by rw [← HC131.out]; exact decide_eq_true (by omega)
                    clear HC131 HQ
                    go_quiet (fail)
                    go_wp2_with fail
                    go_meet
                    exact ⟨rfl, Keep.of_drawn (S := []) (Drawn.n _ _)⟩
                  · by_cases q2 : 1000000 < a
                    · obtain rfl : c131 = true := by rw [← HC131.out]; exact decide_eq_true (by omega)
                      clear HC131 HQ
                      go_quiet (fail)
                      go_wp2_with fail
                      go_meet
                      exact ⟨rfl, Keep.of_drawn (S := []) (Drawn.n _ _)⟩
                    · by_cases q3 : b < 0
                      · obtain rfl : c131 = true := by rw [← HC131.out]; exact decide_eq_true (by omega)
                        clear HC131 HQ
                        go_quiet (fail)
                        go_wp2_with fail
                        go_meet
                        exact ⟨rfl, Keep.of_drawn (S := []) (Drawn.n _ _)⟩
                      · by_cases q4 : a < b
                        · obtain rfl : c131 = true := by rw [← HC131.out]; exact decide_eq_true (by omega)
                          clear HC131 HQ
                          go_quiet (fail)
                          go_wp2_with fail
                          go_meet
                          exact ⟨rfl, Keep.of_drawn (S := []) (Drawn.n _ _)⟩
                        · obtain rfl : c131 = false := by rw [← HC131.out]; exact decide_eq_false (by have := HNE.out; omega)
                          clear HC131 HQ
                          go_quiet (fail)
                          go_wp2_with fail
                          go_meet
                          exact ⟨rfl, Keep.of_drawn (S := []) (Drawn.n _ _)⟩
                case rest =>
                  obtain ⟨rfl, hkx⟩ := hcut
                  rename World => wx
                  have HFX := Lib.hid (HF9.out.keep0 hkx)
                  have gx1 : wx.cell? ⟨sb, k, none⟩ = some (.int .i64 a) := (hkx.cell HF9.out.s.b.lt (by simp)).trans g1
                  have gx2 : wx.cell? ⟨sb, 15 + k, none⟩ = some (.int .i64 b) := (hkx.cell HF9.out.s.b.lt (by simp)).trans g2
                  have hibx : wx.cell? ⟨ib, 0, none⟩ = some (.int .i64 (j : Nat)) := HFX.out.i.cell 0
                  have hfbx : wx.cell? ⟨fb, 0, none⟩ = some (.bool true) := HFX.out.f.cell 0
                  have hjj := HJJ.out
                  clear g1 g2 hib9 hfb9 hkx HF9
                  cases c131 with
                  | true =>
                    clear HQ HC131
                    go_wp2_with fail
                    refine (lives38 _).mono ?_
                    rintro r z ⟨rfl, hk⟩
                    have HKZ := Lib.hid (HFX.out.hk.trans hk (by simp))
                    clear hk
                    go_wp2_with fail
                    go_ret
                    exact ⟨rfl, HKZ.out⟩
                  | false =>
                    have h131 := of_decide_eq_false HC131.out
                    have hb : 0 < a ∧ a ≤ 1000000 ∧ 0 ≤ b ∧ b ≤ a := by omega
                    obtain ⟨b1, b2, b3, b4⟩ := hb
                    have hq := HQ.out b1 b2 b3 b4
                    have ha0 : (a == 0) = false := by rw [beq_eq_false_iff_ne]; omega
                    clear HQ HC131 h131
                    subst hq
                    have hne0 : ¬ a = 0 := by omega
                    have hw1 : IntKind.i64.wrap (a - b) = a - b := IntWalk.i64_in _ (by omega)
                    have hw2 : IntKind.i64.wrap (100 * (a - b)) = 100 * (a - b) := IntWalk.i64_in _ (by omega)
                    have hpos : 0 ≤ 100 * (a - b) := by omega
                    have htd : (100 * (a - b)).tdiv a = 100 * (a - b) / a := Int.tdiv_eq_ediv_of_nonneg hpos
                    have hge : 0 ≤ 100 * (a - b) / a := Int.ediv_nonneg hpos (by omega)
                    have hle : 100 * (a - b) / a ≤ 100 * (a - b) := Int.ediv_le_self _ hpos
                    have hw3 : IntKind.i64.wrap (100 * (a - b) / a) = 100 * (a - b) / a := IntWalk.i64_in _ (by omega)
                    have HH := Lib.hid (And.intro hne0 (And.intro hw1 (And.intro hw2 (And.intro htd hw3))))
                    clear hne0 hw1 hw2 hpos htd hge hle hw3
                    go_upto_region 25 with fail
                    refine wp_region_held_drew (S := (fun w' => FinS w w' sb fb ib xs j ∧ w'.cell? ⟨fb, 0, none⟩ = some (.bool true) ∧ w'.cell? ⟨ib, 0, none⟩ = some (.int .i64 (j : Nat)) ∧ w'.cell? ⟨sb, k, none⟩ = some (.int .i64 a) ∧ w'.cell? ⟨sb, 15 + k, none⟩ = some (.int .i64 b))) (by kernel_rfl) ⟨HFX.out.keep0 (Keep.refl _ _).drew, hfbx, hibx, gx1, gx2⟩ (fun hHeld => ?_)
                    refine wpAnyH_take (i := 0) (oi := { dst := some 141, op := Go.Op.load 4 (Go.Operand.tmp 14), type := 4, pos := "law.go:71", after := #[], guard := none }) (v := ?_) rfl (by kernel_rfl) (by kernel_rfl) (by kernel_rfl) (fun _ _ _ h => h) (Or.inl ⟨by rfl, ?_⟩) (by assumption) ?_
                    rotate_left
                    · intro w hSw
                      have hc := hSw.2.1
                      go_simp
                      all_goals with_reducible rfl
                    try simp only [Act.put, List.setIfInBounds_toArray, List.set_cons_zero, List.set_cons_succ]
                    refine wpAnyH_take (i := 1) (oi := { dst := some 142, op := Go.Op.move (Go.Operand.tmp 141), type := 4, pos := "law.go:71", after := #[{ on := 0, ground := Go.Ground.data }], guard := none }) (v := ?_) rfl (by kernel_rfl) (by kernel_rfl) (by kernel_rfl) (fun _ _ _ h => h) (Or.inl ⟨by rfl, ?_⟩) (by assumption) ?_
                    rotate_left
                    · intro w hSw
                      (try dsimp only at hSw)
                      go_simp
                      all_goals with_reducible rfl
                    try simp only [Act.put, List.setIfInBounds_toArray, List.set_cons_zero, List.set_cons_succ]
                    refine wpAnyH_take (i := 2) (oi := { dst := some 143, op := Go.Op.load 3 (Go.Operand.tmp 13), type := 3, pos := "law.go:71", after := #[{ on := 1, ground := Go.Ground.guard }], guard := some (1, true) }) (v := ?_) rfl (by kernel_rfl) (by kernel_rfl) (by kernel_rfl) (fun _ _ _ h => h) (Or.inl ⟨by rfl, ?_⟩) (by assumption) ?_
                    rotate_left
                    · intro w hSw
                      have hc := hSw.2.2.1
                      go_simp
                      all_goals with_reducible rfl
                    try simp only [Act.put, List.setIfInBounds_toArray, List.set_cons_zero, List.set_cons_succ]
                    refine wpAnyH_take (i := 3) (oi := { dst := some 144, op := Go.Op.move (Go.Operand.tmp 15), type := 3, pos := "law.go:71", after := #[{ on := 1, ground := Go.Ground.guard }], guard := some (1, true) }) (v := ?_) rfl (by kernel_rfl) (by kernel_rfl) (by kernel_rfl) (fun _ _ _ h => h) (Or.inl ⟨by rfl, ?_⟩) (by assumption) ?_
                    rotate_left
                    · intro w hSw
                      (try dsimp only at hSw)
                      go_simp
                      all_goals with_reducible rfl
                    try simp only [Act.put, List.setIfInBounds_toArray, List.set_cons_zero, List.set_cons_succ]
                    refine wpAnyH_take (i := 4) (oi := { dst := some 145, op := Go.Op.binOp Go.BinOp.eql 3 (Go.Operand.tmp 143) (Go.Operand.tmp 144) 3, type := 4, pos := "law.go:71", after := #[{ on := 2, ground := Go.Ground.data }, { on := 3, ground := Go.Ground.data }, { on := 1, ground := Go.Ground.guard }], guard := some (1, true) }) (v := ?_) rfl (by kernel_rfl) (by kernel_rfl) (by kernel_rfl) (fun _ _ _ h => h) (Or.inl ⟨by rfl, ?_⟩) (by assumption) ?_
                    rotate_left
                    · intro w hSw
                      (try dsimp only at hSw)
                      go_simp
                      all_goals with_reducible rfl
                    try simp only [Act.put, List.setIfInBounds_toArray, List.set_cons_zero, List.set_cons_succ]
                    refine wpAnyH_take (i := 5) (oi := { dst := some 146, op := Go.Op.pick (Go.Operand.tmp 142) (Go.Operand.tmp 145) (Go.Operand.const (Go.Value.bool false)), type := 4, pos := "law.go:71", after := #[{ on := 1, ground := Go.Ground.data }, { on := 4, ground := Go.Ground.data }], guard := none }) (v := ?_) rfl (by kernel_rfl) (by kernel_rfl) (by kernel_rfl) (fun _ _ _ h => h) (Or.inl ⟨by rfl, ?_⟩) (by assumption) ?_
                    rotate_left
                    · intro w hSw
                      (try dsimp only at hSw)
                      go_simp
                      all_goals with_reducible rfl
                    try simp only [Act.put, List.setIfInBounds_toArray, List.set_cons_zero, List.set_cons_succ]
                    refine wpAnyH_take (i := 6) (oi := { dst := some 147, op := Go.Op.move (Go.Operand.tmp 146), type := 4, pos := "law.go:71", after := #[{ on := 5, ground := Go.Ground.data }, { on := 1, ground := Go.Ground.chain }], guard := none }) (v := ?_) rfl (by kernel_rfl) (by kernel_rfl) (by kernel_rfl) (fun _ _ _ h => h) (Or.inl ⟨by rfl, ?_⟩) (by assumption) ?_
                    rotate_left
                    · intro w hSw
                      (try dsimp only at hSw)
                      go_simp
                      all_goals with_reducible rfl
                    try simp only [Act.put, List.setIfInBounds_toArray, List.set_cons_zero, List.set_cons_succ]
                    refine wpAnyH_take (i := 7) (oi := { dst := some 148, op := Go.Op.move (Go.Operand.tmp 17), type := 4, pos := "law.go:71", after := #[{ on := 6, ground := Go.Ground.guard }], guard := some (6, true) }) (v := ?_) rfl (by kernel_rfl) (by kernel_rfl) (by kernel_rfl) (fun _ _ _ h => h) (Or.inl ⟨by rfl, ?_⟩) (by assumption) ?_
                    rotate_left
                    · intro w hSw
                      (try dsimp only at hSw)
                      go_simp
                      all_goals with_reducible rfl
                    try simp only [Act.put, List.setIfInBounds_toArray, List.set_cons_zero, List.set_cons_succ]
                    refine wpAnyH_take (i := 8) (oi := { dst := some 149, op := Go.Op.pick (Go.Operand.tmp 147) (Go.Operand.tmp 148) (Go.Operand.const (Go.Value.bool false)), type := 4, pos := "law.go:71", after := #[{ on := 6, ground := Go.Ground.data }, { on := 7, ground := Go.Ground.data }], guard := none }) (v := ?_) rfl (by kernel_rfl) (by kernel_rfl) (by kernel_rfl) (fun _ _ _ h => h) (Or.inl ⟨by rfl, ?_⟩) (by assumption) ?_
                    rotate_left
                    · intro w hSw
                      (try dsimp only at hSw)
                      go_simp
                      all_goals with_reducible rfl
                    try simp only [Act.put, List.setIfInBounds_toArray, List.set_cons_zero, List.set_cons_succ]
                    refine wpAnyH_take (i := 9) (oi := { dst := some 150, op := Go.Op.move (Go.Operand.tmp 149), type := 4, pos := "law.go:71", after := #[{ on := 8, ground := Go.Ground.data }, { on := 6, ground := Go.Ground.chain }], guard := none }) (v := ?_) rfl (by kernel_rfl) (by kernel_rfl) (by kernel_rfl) (fun _ _ _ h => h) (Or.inl ⟨by rfl, ?_⟩) (by assumption) ?_
                    rotate_left
                    · intro w hSw
                      (try dsimp only at hSw)
                      go_simp
                      all_goals with_reducible rfl
                    try simp only [Act.put, List.setIfInBounds_toArray, List.set_cons_zero, List.set_cons_succ]
                    refine wpAnyH_take (i := 10) (oi := { dst := some 151, op := Go.Op.move (Go.Operand.tmp 16), type := 3, pos := "law.go:71", after := #[{ on := 9, ground := Go.Ground.guard }], guard := some (9, true) }) (v := ?_) rfl (by kernel_rfl) (by kernel_rfl) (by kernel_rfl) (fun _ _ _ h => h) (Or.inl ⟨by rfl, ?_⟩) (by assumption) ?_
                    rotate_left
                    · intro w hSw
                      (try dsimp only at hSw)
                      go_simp
                      all_goals with_reducible rfl
                    try simp only [Act.put, List.setIfInBounds_toArray, List.set_cons_zero, List.set_cons_succ]
                    refine wpAnyH_take (i := 11) (oi := { dst := some 152, op := Go.Op.move (Go.Operand.tmp 7), type := 3, pos := "law.go:71", after := #[{ on := 9, ground := Go.Ground.guard }], guard := some (9, true) }) (v := ?_) rfl (by kernel_rfl) (by kernel_rfl) (by kernel_rfl) (fun _ _ _ h => h) (Or.inl ⟨by rfl, ?_⟩) (by assumption) ?_
                    rotate_left
                    · intro w hSw
                      (try dsimp only at hSw)
                      go_simp
                      all_goals with_reducible rfl
                    try simp only [Act.put, List.setIfInBounds_toArray, List.set_cons_zero, List.set_cons_succ]
                    refine wpAnyH_take (i := 12) (oi := { dst := some 153, op := Go.Op.fieldAddr 29 (Go.Operand.tmp 4) 0, type := 0, pos := "law.go:71", after := #[{ on := 9, ground := Go.Ground.guard }], guard := some (9, true) }) (v := ?_) rfl (by kernel_rfl) (by kernel_rfl) (by kernel_rfl) (fun _ _ _ h => h) (Or.inl ⟨by rfl, ?_⟩) (by assumption) ?_
                    rotate_left
                    · intro w hSw
                      (try dsimp only at hSw)
                      go_simp
                      all_goals with_reducible rfl
                    try simp only [Act.put, List.setIfInBounds_toArray, List.set_cons_zero, List.set_cons_succ]
                    refine wpAnyH_take (i := 13) (oi := { dst := some 154, op := Go.Op.indexAddr 25 (Go.Operand.tmp 153) (Go.Operand.tmp 152), type := 0, pos := "law.go:71", after := #[{ on := 12, ground := Go.Ground.data }, { on := 11, ground := Go.Ground.data }, { on := 9, ground := Go.Ground.guard }], guard := some (9, true) }) (v := ?_) rfl (by kernel_rfl) (by kernel_rfl) (by kernel_rfl) (fun _ _ _ h => h) (Or.inl ⟨by rfl, ?_⟩) (by assumption) ?_
                    rotate_left
                    · intro w hSw
                      (try dsimp only at hSw)
                      go_simp
                      all_goals with_reducible rfl
                    try simp only [Act.put, List.setIfInBounds_toArray, List.set_cons_zero, List.set_cons_succ]
                    refine wpAnyH_take (i := 14) (oi := { dst := some 155, op := Go.Op.load 3 (Go.Operand.tmp 154), type := 3, pos := "law.go:71", after := #[{ on := 13, ground := Go.Ground.data }, { on := 9, ground := Go.Ground.guard }], guard := some (9, true) }) (v := ?_) rfl (by kernel_rfl) (by kernel_rfl) (by kernel_rfl) (fun _ _ _ h => h) (Or.inl ⟨by rfl, ?_⟩) (by assumption) ?_
                    rotate_left
                    · intro w hSw
                      have hc := hSw.2.2.2.1
                      go_simp
                      all_goals with_reducible rfl
                    try simp only [Act.put, List.setIfInBounds_toArray, List.set_cons_zero, List.set_cons_succ]
                    refine wpAnyH_take (i := 15) (oi := { dst := some 156, op := Go.Op.move (Go.Operand.tmp 7), type := 3, pos := "law.go:71", after := #[{ on := 9, ground := Go.Ground.guard }], guard := some (9, true) }) (v := ?_) rfl (by kernel_rfl) (by kernel_rfl) (by kernel_rfl) (fun _ _ _ h => h) (Or.inl ⟨by rfl, ?_⟩) (by assumption) ?_
                    rotate_left
                    · intro w hSw
                      (try dsimp only at hSw)
                      go_simp
                      all_goals with_reducible rfl
                    try simp only [Act.put, List.setIfInBounds_toArray, List.set_cons_zero, List.set_cons_succ]
                    refine wpAnyH_take (i := 16) (oi := { dst := some 157, op := Go.Op.fieldAddr 29 (Go.Operand.tmp 4) 1, type := 0, pos := "law.go:71", after := #[{ on := 9, ground := Go.Ground.guard }], guard := some (9, true) }) (v := ?_) rfl (by kernel_rfl) (by kernel_rfl) (by kernel_rfl) (fun _ _ _ h => h) (Or.inl ⟨by rfl, ?_⟩) (by assumption) ?_
                    rotate_left
                    · intro w hSw
                      (try dsimp only at hSw)
                      go_simp
                      all_goals with_reducible rfl
                    try simp only [Act.put, List.setIfInBounds_toArray, List.set_cons_zero, List.set_cons_succ]
                    refine wpAnyH_take (i := 17) (oi := { dst := some 158, op := Go.Op.indexAddr 25 (Go.Operand.tmp 157) (Go.Operand.tmp 156), type := 0, pos := "law.go:71", after := #[{ on := 16, ground := Go.Ground.data }, { on := 15, ground := Go.Ground.data }, { on := 9, ground := Go.Ground.guard }], guard := some (9, true) }) (v := ?_) rfl (by kernel_rfl) (by kernel_rfl) (by kernel_rfl) (fun _ _ _ h => h) (Or.inl ⟨by rfl, ?_⟩) (by assumption) ?_
                    rotate_left
                    · intro w hSw
                      (try dsimp only at hSw)
                      go_simp
                      all_goals with_reducible rfl
                    try simp only [Act.put, List.setIfInBounds_toArray, List.set_cons_zero, List.set_cons_succ]
                    refine wpAnyH_take (i := 18) (oi := { dst := some 159, op := Go.Op.load 3 (Go.Operand.tmp 158), type := 3, pos := "law.go:71", after := #[{ on := 17, ground := Go.Ground.data }, { on := 9, ground := Go.Ground.guard }], guard := some (9, true) }) (v := ?_) rfl (by kernel_rfl) (by kernel_rfl) (by kernel_rfl) (fun _ _ _ h => h) (Or.inl ⟨by rfl, ?_⟩) (by assumption) ?_
                    rotate_left
                    · intro w hSw
                      have hc := hSw.2.2.2.2
                      go_simp
                      all_goals with_reducible rfl
                    try simp only [Act.put, List.setIfInBounds_toArray, List.set_cons_zero, List.set_cons_succ]
                    refine wpAnyH_take (i := 19) (oi := { dst := some 160, op := Go.Op.binOp Go.BinOp.sub 3 (Go.Operand.tmp 155) (Go.Operand.tmp 159) 3, type := 3, pos := "law.go:71", after := #[{ on := 14, ground := Go.Ground.data }, { on := 18, ground := Go.Ground.data }, { on := 9, ground := Go.Ground.guard }], guard := some (9, true) }) (v := ?_) rfl (by kernel_rfl) (by kernel_rfl) (by kernel_rfl) (fun _ _ _ h => h) (Or.inl ⟨by rfl, ?_⟩) (by assumption) ?_
                    rotate_left
                    · intro w hSw
                      obtain ⟨hne0, hw1, hw2, htd, hw3⟩ := HH.out
                      go_simp
                      all_goals (try rw [hw1])
                      all_goals with_reducible rfl
                    try simp only [Act.put, List.setIfInBounds_toArray, List.set_cons_zero, List.set_cons_succ]
                    refine wpAnyH_take (i := 20) (oi := { dst := some 161, op := Go.Op.binOp Go.BinOp.mul 3 (Go.Operand.const (Go.Value.int Go.IntKind.i64 100)) (Go.Operand.tmp 160) 3, type := 3, pos := "law.go:71", after := #[{ on := 19, ground := Go.Ground.data }, { on := 9, ground := Go.Ground.guard }], guard := some (9, true) }) (v := ?_) rfl (by kernel_rfl) (by kernel_rfl) (by kernel_rfl) (fun _ _ _ h => h) (Or.inl ⟨by rfl, ?_⟩) (by assumption) ?_
                    rotate_left
                    · intro w hSw
                      obtain ⟨hne0, hw1, hw2, htd, hw3⟩ := HH.out
                      go_simp
                      all_goals (try rw [hw1])
                      all_goals (try rw [hw2])
                      all_goals with_reducible rfl
                    try simp only [Act.put, List.setIfInBounds_toArray, List.set_cons_zero, List.set_cons_succ]
                    refine wpAnyH_take (i := 21) (oi := { dst := some 162, op := Go.Op.move (Go.Operand.tmp 7), type := 3, pos := "law.go:71", after := #[{ on := 9, ground := Go.Ground.guard }], guard := some (9, true) }) (v := ?_) rfl (by kernel_rfl) (by kernel_rfl) (by kernel_rfl) (fun _ _ _ h => h) (Or.inl ⟨by rfl, ?_⟩) (by assumption) ?_
                    rotate_left
                    · intro w hSw
                      (try dsimp only at hSw)
                      go_simp
                      all_goals with_reducible rfl
                    try simp only [Act.put, List.setIfInBounds_toArray, List.set_cons_zero, List.set_cons_succ]
                    refine wpAnyH_take (i := 22) (oi := { dst := some 163, op := Go.Op.fieldAddr 29 (Go.Operand.tmp 4) 0, type := 0, pos := "law.go:71", after := #[{ on := 9, ground := Go.Ground.guard }], guard := some (9, true) }) (v := ?_) rfl (by kernel_rfl) (by kernel_rfl) (by kernel_rfl) (fun _ _ _ h => h) (Or.inl ⟨by rfl, ?_⟩) (by assumption) ?_
                    rotate_left
                    · intro w hSw
                      (try dsimp only at hSw)
                      go_simp
                      all_goals with_reducible rfl
                    try simp only [Act.put, List.setIfInBounds_toArray, List.set_cons_zero, List.set_cons_succ]
                    refine wpAnyH_take (i := 23) (oi := { dst := some 164, op := Go.Op.indexAddr 25 (Go.Operand.tmp 163) (Go.Operand.tmp 162), type := 0, pos := "law.go:71", after := #[{ on := 22, ground := Go.Ground.data }, { on := 21, ground := Go.Ground.data }, { on := 9, ground := Go.Ground.guard }], guard := some (9, true) }) (v := ?_) rfl (by kernel_rfl) (by kernel_rfl) (by kernel_rfl) (fun _ _ _ h => h) (Or.inl ⟨by rfl, ?_⟩) (by assumption) ?_
                    rotate_left
                    · intro w hSw
                      (try dsimp only at hSw)
                      go_simp
                      all_goals with_reducible rfl
                    try simp only [Act.put, List.setIfInBounds_toArray, List.set_cons_zero, List.set_cons_succ]
                    refine wpAnyH_take (i := 24) (oi := { dst := some 165, op := Go.Op.load 3 (Go.Operand.tmp 164), type := 3, pos := "law.go:71", after := #[{ on := 23, ground := Go.Ground.data }, { on := 9, ground := Go.Ground.guard }], guard := some (9, true) }) (v := ?_) rfl (by kernel_rfl) (by kernel_rfl) (by kernel_rfl) (fun _ _ _ h => h) (Or.inl ⟨by rfl, ?_⟩) (by assumption) ?_
                    rotate_left
                    · intro w hSw
                      have hc := hSw.2.2.2.1
                      go_simp
                      all_goals with_reducible rfl
                    try simp only [Act.put, List.setIfInBounds_toArray, List.set_cons_zero, List.set_cons_succ]
                    refine wpAnyH_take (i := 25) (oi := { dst := some 166, op := Go.Op.binOp Go.BinOp.quo 3 (Go.Operand.tmp 161) (Go.Operand.tmp 165) 3, type := 3, pos := "law.go:71", after := #[{ on := 20, ground := Go.Ground.data }, { on := 24, ground := Go.Ground.data }, { on := 9, ground := Go.Ground.guard }], guard := some (9, true) }) (v := ?_) rfl (by kernel_rfl) (by kernel_rfl) (by kernel_rfl) (fun _ _ _ h => h) (Or.inl ⟨by rfl, ?_⟩) (by assumption) ?_
                    rotate_left
                    · intro w hSw
                      obtain ⟨hne0, hw1, hw2, htd, hw3⟩ := HH.out
                      go_simp
                      all_goals (try rw [if_neg hne0])
                      all_goals (try rw [hw1])
                      all_goals (try rw [hw2])
                      all_goals (try rw [htd])
                      all_goals (try rw [hw3])
                      all_goals with_reducible rfl
                    try simp only [Act.put, List.setIfInBounds_toArray, List.set_cons_zero, List.set_cons_succ]
                    refine wpAnyH_take (i := 26) (oi := { dst := some 167, op := Go.Op.binOp Go.BinOp.eql 3 (Go.Operand.tmp 151) (Go.Operand.tmp 166) 3, type := 4, pos := "law.go:71", after := #[{ on := 10, ground := Go.Ground.data }, { on := 25, ground := Go.Ground.data }, { on := 9, ground := Go.Ground.guard }], guard := some (9, true) }) (v := ?_) rfl (by kernel_rfl) (by kernel_rfl) (by kernel_rfl) (fun _ _ _ h => h) (Or.inl ⟨by rfl, ?_⟩) (by assumption) ?_
                    rotate_left
                    · intro w hSw
                      (try dsimp only at hSw)
                      go_simp
                      all_goals with_reducible rfl
                    try simp only [Act.put, List.setIfInBounds_toArray, List.set_cons_zero, List.set_cons_succ]
                    refine wpAnyH_take (i := 27) (oi := { dst := some 168, op := Go.Op.pick (Go.Operand.tmp 150) (Go.Operand.tmp 167) (Go.Operand.const (Go.Value.bool false)), type := 4, pos := "law.go:71", after := #[{ on := 9, ground := Go.Ground.data }, { on := 26, ground := Go.Ground.data }], guard := none }) (v := ?_) rfl (by kernel_rfl) (by kernel_rfl) (by kernel_rfl) (fun _ _ _ h => h) (Or.inl ⟨by rfl, ?_⟩) (by assumption) ?_
                    rotate_left
                    · intro w hSw
                      (try dsimp only at hSw)
                      go_simp
                      all_goals with_reducible rfl
                    try simp only [Act.put, List.setIfInBounds_toArray, List.set_cons_zero, List.set_cons_succ]
                    refine wpAnyH_take (i := 28) (oi := { dst := some 169, op := Go.Op.move (Go.Operand.tmp 168), type := 4, pos := "law.go:71", after := #[{ on := 27, ground := Go.Ground.data }, { on := 9, ground := Go.Ground.chain }], guard := none }) (v := ?_) rfl (by kernel_rfl) (by kernel_rfl) (by kernel_rfl) (fun _ _ _ h => h) (Or.inl ⟨by rfl, ?_⟩) (by assumption) ?_
                    rotate_left
                    · intro w hSw
                      (try dsimp only at hSw)
                      go_simp
                      all_goals with_reducible rfl
                    try simp only [Act.put, List.setIfInBounds_toArray, List.set_cons_zero, List.set_cons_succ]
                    refine wpAnyH_ready (rs := [29]) (by kernel_rfl) (by simp) ?_
                    refine AllReadyH.cons (o := { dst := some 170, op := Go.Op.call { callee := Go.Callee.value (Go.Operand.func 6), args := #[], argTypes := #[] }, type := 4, pos := "law.go:71", after := #[{ on := 28, ground := Go.Ground.chain }, { on := 28, ground := Go.Ground.guard }], guard := some (28, true) }) rfl (fun K hK => ?_) AllReadyH.nil
                    go_simp
                    refine (lives38 _).mono ?_
                    rintro r z ⟨rfl, hk⟩
                    try simp only []
                    refine hK.out _ _ ⟨hHeld.1.keep0 hk, (hk.cell hHeld.1.f.lt (by simp)).trans hHeld.2.1, (hk.cell hHeld.1.i.lt (by simp)).trans hHeld.2.2.1, (hk.cell hHeld.1.s.b.lt (by simp)).trans hHeld.2.2.2.1, (hk.cell hHeld.1.s.b.lt (by simp)).trans hHeld.2.2.2.2⟩ (fun hHeld => ?_)
                    clear hK K
                    try simp only [Act.put, List.setIfInBounds_toArray, List.set_cons_zero, List.set_cons_succ]
                    refine wpAnyH_take (i := 30) (oi := { dst := some 171, op := Go.Op.pick (Go.Operand.tmp 169) (Go.Operand.tmp 170) (Go.Operand.const (Go.Value.bool false)), type := 4, pos := "law.go:71", after := #[{ on := 28, ground := Go.Ground.data }, { on := 29, ground := Go.Ground.data }], guard := none }) (v := ?_) rfl (by kernel_rfl) (by kernel_rfl) (by kernel_rfl) (fun _ _ _ h => h) (Or.inl ⟨by rfl, ?_⟩) (by assumption) ?_
                    rotate_left
                    · intro w hSw
                      (try dsimp only at hSw)
                      go_simp
                      all_goals with_reducible rfl
                    try simp only [Act.put, List.setIfInBounds_toArray, List.set_cons_zero, List.set_cons_succ]
                    refine wpAnyH_take (i := 31) (oi := { dst := some 6, op := Go.Op.assign (Go.Operand.tmp 171), type := 4, pos := "law.go:71", after := #[{ on := 30, ground := Go.Ground.data }, { on := 29, ground := Go.Ground.chain }, { on := 0, ground := Go.Ground.phase }, { on := 1, ground := Go.Ground.phase }, { on := 2, ground := Go.Ground.phase }, { on := 3, ground := Go.Ground.phase }, { on := 4, ground := Go.Ground.phase }, { on := 5, ground := Go.Ground.phase }, { on := 6, ground := Go.Ground.phase }, { on := 7, ground := Go.Ground.phase }, { on := 8, ground := Go.Ground.phase }, { on := 9, ground := Go.Ground.phase }, { on := 10, ground := Go.Ground.phase }, { on := 11, ground := Go.Ground.phase }, { on := 12, ground := Go.Ground.phase }, { on := 13, ground := Go.Ground.phase }, { on := 14, ground := Go.Ground.phase }, { on := 15, ground := Go.Ground.phase }, { on := 16, ground := Go.Ground.phase }, { on := 17, ground := Go.Ground.phase }, { on := 18, ground := Go.Ground.phase }, { on := 19, ground := Go.Ground.phase }, { on := 20, ground := Go.Ground.phase }, { on := 21, ground := Go.Ground.phase }, { on := 22, ground := Go.Ground.phase }, { on := 23, ground := Go.Ground.phase }, { on := 24, ground := Go.Ground.phase }, { on := 25, ground := Go.Ground.phase }, { on := 26, ground := Go.Ground.phase }, { on := 27, ground := Go.Ground.phase }, { on := 28, ground := Go.Ground.phase }, { on := 29, ground := Go.Ground.phase }, { on := 30, ground := Go.Ground.phase }], guard := none }) (v := ?_) rfl (by kernel_rfl) (by kernel_rfl) (by kernel_rfl) (fun _ _ _ h => h) (Or.inl ⟨by rfl, ?_⟩) (by assumption) ?_
                    rotate_left
                    · intro w hSw
                      (try dsimp only at hSw)
                      go_simp
                      all_goals with_reducible rfl
                    try simp only [Act.put, List.setIfInBounds_toArray, List.set_cons_zero, List.set_cons_succ]
                    refine wpAnyH_done (by kernel_rfl) ?_ _
                    go_wp2_with fail
                    go_ret
                    exact ⟨rfl, hHeld.1.hk⟩
end Go.Proofs.Ytofmonknhiggaaa
