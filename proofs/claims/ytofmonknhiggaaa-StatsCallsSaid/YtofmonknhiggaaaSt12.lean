/- StatsCalls: what the law's yield does at each oper. Conditions: it is told those that it waits for. -/
import Derived.Test.YtofmonknhiggaaaSt11
namespace Go.Proofs.Ytofmonknhiggaaa
open Go.RowKit

/-- A row of elements of two cells at least lies in no block of one cell. -/
theorem ElAt.ne1 {α : Type} {f : α → List Value} {size : Nat} (hf : ∀ a, (f a).length = size) (h2 : 2 ≤ size) {w : World} {A : Option Addr} {l : List α} (h : ElAt f w A l) (h0 : 0 < l.length) {S : List Nat} (hS : ∀ g ∈ S, ∃ t v, Blk w g t #[v]) : ∃ b o, A = some ⟨b, o, none⟩ ∧ b < w.heap.size ∧ b ∉ S ∧ ∀ j u, (l.flatMap f)[j]? = some u → w.cell? ⟨b, o + j, none⟩ = some u := by
  obtain ⟨b, o, h1, hb, h3⟩ := h h0
  refine ⟨b, o, h1, hb, fun hm => ?_, h3⟩
  obtain ⟨t, v, hg⟩ := hS b hm
  have hl : 2 ≤ (l.flatMap f).length := by
    rw [flat_len f size hf]
    have : 1 * size ≤ l.length * size := Nat.mul_le_mul_right _ h0
    omega
  have h4 := h3 1 _ (List.getElem?_eq_getElem (by omega))
  rw [hg.cell] at h4
  rw [Array.getElem?_eq_none (by simp)] at h4
  cases h4
theorem ElAt.keep1 {α : Type} {f : α → List Value} {size : Nat} (hf : ∀ a, (f a).length = size) (h2 : 2 ≤ size) {w w' : World} {A : Option Addr} {l : List α} (h : ElAt f w A l) {S : List Nat} (hS : ∀ g ∈ S, ∃ t v, Blk w g t #[v]) (hk : Keep S w w') : ElAt f w' A l := fun h0 => by
  obtain ⟨b, o, h1, hb, hn, h3⟩ := h.ne1 hf h2 h0 hS
  exact ⟨b, o, h1, Nat.lt_of_lt_of_le hb hk.size, fun j u hj => (hk.cell hb hn).trans (h3 j u hj)⟩
theorem OpOk.keep1 {w w' : World} {o : OpS} (h : OpOk w o) {S : List Nat} (hS : ∀ g ∈ S, ∃ t v, Blk w g t #[v]) (hk : Keep S w w') : OpOk w' o := by
  obtain ⟨ps, h1, h2⟩ := h
  exact ⟨ps, h1, h2.keep1 (size := 2) (fun _ => rfl) (by decide) hS hk⟩
/-- The law's variables, as the yield captures them. -/
structure YdS (w : World) (fb ib wb tb : Nat) (WA : Option Addr) (cap : Nat) (wl : List OpS) (j : Nat) (till : Int) : Prop where
  hf : Blk w fb 4 #[.bool true]
  hi : Blk w ib 3 #[.int .i64 (j : Nat)]
  hw : Blk w wb 33 #[.slice WA wl.length cap]
  ht : Blk w tb 3 #[.int .i64 till]
  el : ElAt opC w WA wl
  ok : ∀ o ∈ wl, OpOk w o
  nit : ib ≠ tb
section
variable {w w' : World} {fb ib wb tb : Nat} {WA : Option Addr} {cap : Nat} {wl : List OpS} {j : Nat} {till : Int}
theorem YdS.keep0 (h : YdS w fb ib wb tb WA cap wl j till) (hk : Keep [] w w') : YdS w' fb ib wb tb WA cap wl j till :=
  ⟨h.hf.keep hk (by simp), h.hi.keep hk (by simp), h.hw.keep hk (by simp), h.ht.keep hk (by simp), h.el.keep hk, fun o ho => (h.ok o ho).keep hk, h.nit⟩
theorem YdS.fine (h : YdS w fb ib wb tb WA cap wl j till) : YdS (w.setCell ⟨fb, 0, none⟩ (.bool true)) fb ib wb tb WA cap wl j till := by
  have hk : Keep [fb] w (w.setCell ⟨fb, 0, none⟩ (.bool true)) := (Keep.refl _ _).set_ _ (.inl (by simp))
  have hS : ∀ g ∈ [fb], ∃ t v, Blk w g t #[v] := fun g hg => by rw [List.mem_singleton.1 hg]; exact ⟨_, _, h.hf⟩
  exact ⟨h.hf.set_ 0 _, h.hi.keep hk (by simpa using h.hi.ne_ h.hf (by decide)), h.hw.keep hk (by simpa using h.hw.ne_ h.hf (by decide)), h.ht.keep hk (by simpa using h.ht.ne_ h.hf (by decide)), h.el.keep1 (size := 13) (fun _ => rfl) (by decide) hS hk, fun o ho => (h.ok o ho).keep1 hS hk, h.nit⟩
theorem YdS.next (h : YdS w fb ib wb tb WA cap wl j till) : YdS (w.setCell ⟨ib, 0, none⟩ (.int .i64 (j + 1 : Nat))) fb ib wb tb WA cap wl (j + 1) till := by
  have hk : Keep [ib] w (w.setCell ⟨ib, 0, none⟩ (.int .i64 (j + 1 : Nat))) := (Keep.refl _ _).set_ _ (.inl (by simp))
  have hS : ∀ g ∈ [ib], ∃ t v, Blk w g t #[v] := fun g hg => by rw [List.mem_singleton.1 hg]; exact ⟨_, _, h.hi⟩
  exact ⟨h.hf.keep hk (by simpa using h.hf.ne_ h.hi (by decide)), h.hi.set_ 0 _, h.hw.keep hk (by simpa using h.hw.ne_ h.hi (by decide)), h.ht.keep hk (by simpa using h.nit.symm), h.el.keep1 (size := 13) (fun _ => rfl) (by decide) hS hk, fun o ho => (h.ok o ho).keep1 hS hk, h.nit⟩
end
/-- The same, with the oper that was told, in a box. -/
structure YdB (w0 w : World) (fb ib wb tb bb b o cap : Nat) (wl : List OpS) (j : Nat) (till : Int) (x : OpS) : Prop where
  y : YdS w fb ib wb tb (some ⟨b, o, none⟩) cap wl j till
  rb : w.rangeAt bb 0 (opC x)
  lb : bb < w.heap.size
  nb : bb ≠ fb
  rx : w.rangeAt b (o + j * 13) (opC x)
  lx : b < w.heap.size
  nx : b ≠ fb
  hk : Keep [fb, ib] w0 w
section
variable {w0 w w' : World} {fb ib wb tb bb b o cap : Nat} {wl : List OpS} {j : Nat} {till : Int} {x : OpS}
theorem YdB.keep0 (h : YdB w0 w fb ib wb tb bb b o cap wl j till x) (hk : Keep [] w w') : YdB w0 w' fb ib wb tb bb b o cap wl j till x :=
  ⟨h.y.keep0 hk, rangeAt_keep h.rb h.lb (by simp) hk, Nat.lt_of_lt_of_le h.lb hk.size, h.nb, rangeAt_keep h.rx h.lx (by simp) hk, Nat.lt_of_lt_of_le h.lx hk.size, h.nx, h.hk.trans hk (by simp)⟩
theorem YdB.fine (h : YdB w0 w fb ib wb tb bb b o cap wl j till x) : YdB w0 (w.setCell ⟨fb, 0, none⟩ (.bool true)) fb ib wb tb bb b o cap wl j till x := by
  have hk : Keep [fb] w (w.setCell ⟨fb, 0, none⟩ (.bool true)) := (Keep.refl _ _).set_ _ (.inl (by simp))
  exact ⟨h.y.fine, rangeAt_keep h.rb h.lb (by simpa using h.nb) hk, Nat.lt_of_lt_of_le h.lb hk.size, h.nb, rangeAt_keep h.rx h.lx (by simpa using h.nx) hk, Nat.lt_of_lt_of_le h.lx hk.size, h.nx, h.hk.trans hk (fun y hy => .inl (by rw [List.mem_singleton.1 hy]; simp))⟩
theorem YdB.cf (h : YdB w0 w fb ib wb tb bb b o cap wl j till x) : w.cell? ⟨fb, 0, none⟩ = some (.bool true) := h.y.hf.cell 0
theorem YdB.ci (h : YdB w0 w fb ib wb tb bb b o cap wl j till x) : w.cell? ⟨ib, 0, none⟩ = some (.int .i64 (j : Nat)) := h.y.hi.cell 0
theorem YdB.cw (h : YdB w0 w fb ib wb tb bb b o cap wl j till x) : w.cell? ⟨wb, 0, none⟩ = some (.slice (some ⟨b, o, none⟩) wl.length cap) := h.y.hw.cell 0
theorem YdB.ct (h : YdB w0 w fb ib wb tb bb b o cap wl j till x) : w.cell? ⟨tb, 0, none⟩ = some (.int .i64 till) := h.y.ht.cell 0
end
def YieldOut (w : World) (fb ib wb tb : Nat) (WA : Option Addr) (cap : Nat) (wl : List OpS) (j : Nat) (till : Int) (r : Ending) (w' : World) : Prop :=
  r = .returned (.bool ((((j : Nat) : Int) + 1) != till)) ∧ YdS w' fb ib wb tb WA cap wl (j + 1) till ∧ Keep [fb, ib] w w'
set_option maxHeartbeats 2000000 in
theorem law38_yield (w : World) (fb ib wb tb : Nat) (WA : Option Addr) (cap : Nat) (wl : List OpS) (j : Nat) (till : Int) (h : YdS w fb ib wb tb WA cap wl j till) (hj : j < wl.length) (hl : wl.length ≤ 200) (hp : ∀ o ∈ wl, o.pn ≤ 1500) :
    Calls Try.prog 11 #[opV (wl.getD j op0), .pointer (some ⟨fb, 0, none⟩), .pointer (some ⟨ib, 0, none⟩), .pointer (some ⟨wb, 0, none⟩), .pointer (some ⟨tb, 0, none⟩)] w (YieldOut w fb ib wb tb WA cap wl j till) := by
  have hS : ∀ g ∈ [fb], ∃ t v, Blk w g t #[v] := fun g hg => by rw [List.mem_singleton.1 hg]; exact ⟨_, _, h.hf⟩
  obtain ⟨b, o, rfl, hb, hbn, hcl⟩ := h.el.ne1 (size := 13) (fun _ => rfl) (by decide) (by omega) hS
  have hx : wl.getD j op0 ∈ wl := by rw [List.getD_eq_getElem?_getD, List.getElem?_eq_getElem hj]; exact List.getElem_mem hj
  have HOK := Lib.hid (h.ok _ hx)
  have HPX := Lib.hid (hp _ hx)
  have hrx : w.rangeAt b (o + j * 13) (opC (wl.getD j op0)) := fun q v hv => by rw [Nat.add_assoc]; exact hcl _ _ (flat_at opC 13 (fun _ => rfl) wl j q v op0 hj hv)
  have H := Lib.hid h
  have hj0 : (0 : Int) ≤ ((j : Nat) : Int) := by omega
  have hj1 : ((j : Nat) : Int) < ((wl.length : Nat) : Int) := by omega
  have hj9 : ((j : Nat) : Int) ≤ 200 := by omega
  generalize wl.getD j op0 = x at *
  have HRX := Lib.hid hrx
  have HBL := Lib.hid hb
  have HBN : Hid (b ≠ fb) := Lib.hid (by simpa using hbn)
  clear h hj hl hp hx hrx hb hbn hcl hS
  unfold opV
  go_enter Try.func11, Try.ntmps11
  go_upto_region 1 with fail
  generalize hw2 : w.alloc _ = w2
  have HB0 : Hid (Blk w2 w.heap.size 41 (opC x).toArray) := Lib.hid (by rw [← hw2]; exact (Blk.new w _ _))
  have HK2 : Hid (Keep [] w w2) := Lib.hid (by rw [← hw2]; exact (Keep.refl [] w).alloc _)
  clear hw2
  have HNB : Hid (w.heap.size ≠ fb) := Lib.hid (by have := H.out.hf.lt; omega)
  generalize w.heap.size = bb at HB0 HNB ⊢
  have HY := Lib.hid (show YdB w w2 fb ib wb tb bb b o cap wl j till x from ⟨H.out.keep0 HK2.out, HB0.out.range, HB0.out.lt, HNB.out, rangeAt_keep HRX.out HBL.out (by simp) HK2.out, Nat.lt_of_lt_of_le HBL.out HK2.out.size, HBN.out, HK2.out.mono (by simp)⟩)
  have HOK2 := Lib.hid (HOK.out.keep HK2.out)
  clear HB0 HNB HRX HBL HBN H HOK
  have KS := Lib.hid (fun (y : World) (hk : Keep [] w2 y) => ref11_self y x (HOK2.out.keep hk) HPX.out)
  have HKD : Hid (Keep [] w2 w2.drew) := Lib.hid (Keep.refl _ _).drew
  refine wp_region_held_drew (S := (fun w' => YdB w w' fb ib wb tb bb b o cap wl j till x)) (by kernel_rfl) (HY.out.keep0 HKD.out) (fun hHeld => ?_)
  refine wpAnyH_take (i := 0) (oi := { dst := some 7, op := Go.Op.load 4 (Go.Operand.tmp 1), type := 4, pos := "law.go:56", after := #[], guard := none }) (v := ?_) rfl (by kernel_rfl) (by kernel_rfl) (by kernel_rfl) (fun _ _ _ h => h) (Or.inl ⟨by rfl, ?_⟩) (by assumption) ?_
  rotate_left
  · intro w hSw
    have hc := hSw.cf
    go_simp
    all_goals with_reducible rfl
  try simp only [Act.put, List.setIfInBounds_toArray, List.set_cons_zero, List.set_cons_succ]
  refine wpAnyH_take (i := 1) (oi := { dst := some 8, op := Go.Op.move (Go.Operand.tmp 7), type := 4, pos := "law.go:56", after := #[{ on := 0, ground := Go.Ground.data }], guard := none }) (v := ?_) rfl (by kernel_rfl) (by kernel_rfl) (by kernel_rfl) (fun _ _ _ h => h) (Or.inl ⟨by rfl, ?_⟩) (by assumption) ?_
  rotate_left
  · intro w hSw
    (try dsimp only at hSw)
    go_simp
    all_goals with_reducible rfl
  try simp only [Act.put, List.setIfInBounds_toArray, List.set_cons_zero, List.set_cons_succ]
  refine wpAnyH_take (i := 2) (oi := { dst := some 9, op := Go.Op.load 3 (Go.Operand.tmp 2), type := 3, pos := "law.go:56", after := #[{ on := 1, ground := Go.Ground.guard }], guard := some (1, true) }) (v := ?_) rfl (by kernel_rfl) (by kernel_rfl) (by kernel_rfl) (fun _ _ _ h => h) (Or.inl ⟨by rfl, ?_⟩) (by assumption) ?_
  rotate_left
  · intro w hSw
    have hc := hSw.ci
    go_simp
    all_goals with_reducible rfl
  try simp only [Act.put, List.setIfInBounds_toArray, List.set_cons_zero, List.set_cons_succ]
  refine wpAnyH_take (i := 3) (oi := { dst := some 10, op := Go.Op.load 33 (Go.Operand.tmp 3), type := 33, pos := "law.go:56", after := #[{ on := 1, ground := Go.Ground.guard }], guard := some (1, true) }) (v := ?_) rfl (by kernel_rfl) (by kernel_rfl) (by kernel_rfl) (fun _ _ _ h => h) (Or.inl ⟨by rfl, ?_⟩) (by assumption) ?_
  rotate_left
  · intro w hSw
    have hc := hSw.cw
    go_simp
    all_goals with_reducible rfl
  try simp only [Act.put, List.setIfInBounds_toArray, List.set_cons_zero, List.set_cons_succ]
  refine wpAnyH_take (i := 4) (oi := { dst := some 11, op := Go.Op.call { callee := Go.Callee.builtin Go.Builtin.len, args := #[Go.Operand.tmp 10], argTypes := #[33] }, type := 3, pos := "law.go:56", after := #[{ on := 3, ground := Go.Ground.data }, { on := 1, ground := Go.Ground.guard }], guard := some (1, true) }) (v := ?_) rfl (by kernel_rfl) (by kernel_rfl) (by kernel_rfl) (fun _ _ _ h => h) (Or.inl ⟨by rfl, ?_⟩) (by assumption) ?_
  rotate_left
  · intro w hSw
    (try dsimp only at hSw)
    go_simp
    all_goals with_reducible rfl
  try simp only [Act.put, List.setIfInBounds_toArray, List.set_cons_zero, List.set_cons_succ]
  refine wpAnyH_take (i := 5) (oi := { dst := some 12, op := Go.Op.binOp Go.BinOp.lss 3 (Go.Operand.tmp 9) (Go.Operand.tmp 11) 3, type := 4, pos := "law.go:56", after := #[{ on := 2, ground := Go.Ground.data }, { on := 4, ground := Go.Ground.data }, { on := 1, ground := Go.Ground.guard }], guard := some (1, true) }) (v := ?_) rfl (by kernel_rfl) (by kernel_rfl) (by kernel_rfl) (fun _ _ _ h => h) (Or.inl ⟨by rfl, ?_⟩) (by assumption) ?_
  rotate_left
  · intro w hSw
    (try dsimp only at hSw)
    go_simp
    all_goals with_reducible rfl
  try simp only [Act.put, List.setIfInBounds_toArray, List.set_cons_zero, List.set_cons_succ]
  refine wpAnyH_take (i := 6) (oi := { dst := some 13, op := Go.Op.pick (Go.Operand.tmp 8) (Go.Operand.tmp 12) (Go.Operand.const (Go.Value.bool false)), type := 4, pos := "law.go:56", after := #[{ on := 1, ground := Go.Ground.data }, { on := 5, ground := Go.Ground.data }], guard := none }) (v := ?_) rfl (by kernel_rfl) (by kernel_rfl) (by kernel_rfl) (fun _ _ _ h => h) (Or.inl ⟨by rfl, ?_⟩) (by assumption) ?_
  rotate_left
  · intro w hSw
    (try dsimp only at hSw)
    go_simp
    all_goals with_reducible rfl
  try simp only [Act.put, List.setIfInBounds_toArray, List.set_cons_zero, List.set_cons_succ]
  refine wpAnyH_take (i := 7) (oi := { dst := some 14, op := Go.Op.move (Go.Operand.tmp 13), type := 4, pos := "law.go:56", after := #[{ on := 6, ground := Go.Ground.data }, { on := 1, ground := Go.Ground.chain }], guard := none }) (v := ?_) rfl (by kernel_rfl) (by kernel_rfl) (by kernel_rfl) (fun _ _ _ h => h) (Or.inl ⟨by rfl, ?_⟩) (by assumption) ?_
  rotate_left
  · intro w hSw
    (try dsimp only at hSw)
    go_simp
    all_goals with_reducible rfl
  try simp only [Act.put, List.setIfInBounds_toArray, List.set_cons_zero, List.set_cons_succ]
  refine wpAnyH_take (i := 8) (oi := { dst := some 15, op := Go.Op.load 41 (Go.Operand.tmp 5), type := 41, pos := "law.go:56", after := #[{ on := 7, ground := Go.Ground.guard }], guard := some (7, true) }) (v := ?_) rfl (by kernel_rfl) (by kernel_rfl) (by kernel_rfl) (fun _ _ _ h => h) (Or.inl ⟨by rfl, ?_⟩) (by assumption) ?_
  rotate_left
  · intro w hSw
    refine ex_load_mid (o := { dst := some 15, op := Go.Op.load 41 (Go.Operand.tmp 5), type := 41, pos := "law.go:56", after := #[{ on := 7, ground := Go.Ground.guard }], guard := some (7, true) }) rfl ?_ hSw.rb Try.underlying41 rfl sizeOper
    rfl
  try simp only [Act.put, List.setIfInBounds_toArray, List.set_cons_zero, List.set_cons_succ]
  refine wpAnyH_take (i := 9) (oi := { dst := some 16, op := Go.Op.load 33 (Go.Operand.tmp 3), type := 33, pos := "law.go:56", after := #[{ on := 7, ground := Go.Ground.guard }], guard := some (7, true) }) (v := ?_) rfl (by kernel_rfl) (by kernel_rfl) (by kernel_rfl) (fun _ _ _ h => h) (Or.inl ⟨by rfl, ?_⟩) (by assumption) ?_
  rotate_left
  · intro w hSw
    have hc := hSw.cw
    go_simp
    all_goals with_reducible rfl
  try simp only [Act.put, List.setIfInBounds_toArray, List.set_cons_zero, List.set_cons_succ]
  refine wpAnyH_take (i := 10) (oi := { dst := some 17, op := Go.Op.load 3 (Go.Operand.tmp 2), type := 3, pos := "law.go:56", after := #[{ on := 7, ground := Go.Ground.guard }], guard := some (7, true) }) (v := ?_) rfl (by kernel_rfl) (by kernel_rfl) (by kernel_rfl) (fun _ _ _ h => h) (Or.inl ⟨by rfl, ?_⟩) (by assumption) ?_
  rotate_left
  · intro w hSw
    have hc := hSw.ci
    go_simp
    all_goals with_reducible rfl
  try simp only [Act.put, List.setIfInBounds_toArray, List.set_cons_zero, List.set_cons_succ]
  refine wpAnyH_take (i := 11) (oi := { dst := some 18, op := Go.Op.indexAddr 33 (Go.Operand.tmp 16) (Go.Operand.tmp 17), type := 0, pos := "law.go:56", after := #[{ on := 9, ground := Go.Ground.data }, { on := 10, ground := Go.Ground.data }, { on := 7, ground := Go.Ground.guard }], guard := some (7, true) }) (v := ?_) rfl (by kernel_rfl) (by kernel_rfl) (by kernel_rfl) (fun _ _ _ h => h) (Or.inl ⟨by rfl, ?_⟩) (by assumption) ?_
  rotate_left
  · intro w hSw
    (try dsimp only at hSw)
    go_simp
    all_goals with_reducible rfl
  try simp only [Act.put, List.setIfInBounds_toArray, List.set_cons_zero, List.set_cons_succ]
  refine wpAnyH_take (i := 12) (oi := { dst := some 19, op := Go.Op.load 41 (Go.Operand.tmp 18), type := 41, pos := "law.go:56", after := #[{ on := 11, ground := Go.Ground.data }, { on := 7, ground := Go.Ground.guard }], guard := some (7, true) }) (v := ?_) rfl (by kernel_rfl) (by kernel_rfl) (by kernel_rfl) (fun _ _ _ h => h) (Or.inl ⟨by rfl, ?_⟩) (by assumption) ?_
  rotate_left
  · intro w hSw
    refine ex_load_mid (o := { dst := some 19, op := Go.Op.load 41 (Go.Operand.tmp 18), type := 41, pos := "law.go:56", after := #[{ on := 11, ground := Go.Ground.data }, { on := 7, ground := Go.Ground.guard }], guard := some (7, true) }) rfl ?_ hSw.rx Try.underlying41 rfl sizeOper
    rfl
  try simp only [Act.put, List.setIfInBounds_toArray, List.set_cons_zero, List.set_cons_succ]
  refine wpAnyH_ready (rs := [13]) (by kernel_rfl) (by simp) ?_
  refine AllReadyH.cons (o := { dst := some 20, op := Go.Op.call { callee := Go.Callee.value (Go.Operand.func 12), args := #[Go.Operand.tmp 15, Go.Operand.tmp 19], argTypes := #[41, 41] }, type := 4, pos := "law.go:56", after := #[{ on := 8, ground := Go.Ground.data }, { on := 12, ground := Go.Ground.data }, { on := 7, ground := Go.Ground.chain }, { on := 7, ground := Go.Ground.guard }], guard := some (7, true) }) rfl (fun K hK => ?_) AllReadyH.nil
  go_simp
  refine (KS.out _ HKD.out).mono ?_
  rintro r z ⟨rfl, hk⟩
  try simp only []
  refine hK.out _ _ (hHeld.keep0 hk) (fun hHeld => ?_)
  clear hK K
  try simp only [Act.put, List.setIfInBounds_toArray, List.set_cons_zero, List.set_cons_succ]
  refine wpAnyH_take (i := 14) (oi := { dst := some 21, op := Go.Op.pick (Go.Operand.tmp 14) (Go.Operand.tmp 20) (Go.Operand.const (Go.Value.bool false)), type := 4, pos := "law.go:56", after := #[{ on := 7, ground := Go.Ground.data }, { on := 13, ground := Go.Ground.data }], guard := none }) (v := ?_) rfl (by kernel_rfl) (by kernel_rfl) (by kernel_rfl) (fun _ _ _ h => h) (Or.inl ⟨by rfl, ?_⟩) (by assumption) ?_
  rotate_left
  · intro w hSw
    (try dsimp only at hSw)
    go_simp
    all_goals with_reducible rfl
  try simp only [Act.put, List.setIfInBounds_toArray, List.set_cons_zero, List.set_cons_succ]
  refine wpAnyH_ready (rs := [15]) (by kernel_rfl) (by simp) ?_
  refine AllReadyH.cons (o := { dst := none, op := Go.Op.store 4 (Go.Operand.tmp 1) (Go.Operand.tmp 21), type := 0, pos := "law.go:56", after := #[{ on := 14, ground := Go.Ground.data }, { on := 13, ground := Go.Ground.chain }, { on := 0, ground := Go.Ground.phase }, { on := 1, ground := Go.Ground.phase }, { on := 2, ground := Go.Ground.phase }, { on := 3, ground := Go.Ground.phase }, { on := 4, ground := Go.Ground.phase }, { on := 5, ground := Go.Ground.phase }, { on := 6, ground := Go.Ground.phase }, { on := 7, ground := Go.Ground.phase }, { on := 8, ground := Go.Ground.phase }, { on := 9, ground := Go.Ground.phase }, { on := 10, ground := Go.Ground.phase }, { on := 11, ground := Go.Ground.phase }, { on := 12, ground := Go.Ground.phase }, { on := 13, ground := Go.Ground.phase }, { on := 14, ground := Go.Ground.phase }], guard := none }) rfl (fun K hK => ?_) AllReadyH.nil
  have hc := hHeld.cf
  have hz := hHeld.y.hf.frozen 0
  go_simp
  refine hK.out _ _ hHeld.fine (fun hHeld => ?_)
  clear hK K
  try simp only [Act.put, List.setIfInBounds_toArray, List.set_cons_zero, List.set_cons_succ]
  refine wpAnyH_done (by kernel_rfl) ?_ _
  have HZ := Lib.hid hHeld
  clear hHeld
  generalize (World.setCell _ ⟨fb, 0, none⟩ (.bool true)) = w4 at HZ ⊢
  have hc := HZ.out.ci
  have hz := HZ.out.y.hi.frozen 0
  go_upto_region 3 with fail
  have HQ : Hid (YdS (w4.setCell ⟨ib, 0, none⟩ (.int .i64 (j + 1 : Nat))) fb ib wb tb (some ⟨b, o, none⟩) cap wl (j + 1) till ∧ Keep [fb, ib] w (w4.setCell ⟨ib, 0, none⟩ (.int .i64 (j + 1 : Nat)))) := Lib.hid ⟨HZ.out.y.next, HZ.out.hk.set_ _ (.inl (by simp))⟩
  have e : (Value.int .i64 ((j + 1 : Nat) : Int)) = .int .i64 ((j : Int) + 1) := by simp
  rw [e] at HQ
  clear hc hz e
  generalize (w4.setCell ⟨ib, 0, none⟩ (.int .i64 ((j : Int) + 1))) = w5 at HQ ⊢
  have hc : w5.cell? ⟨ib, 0, none⟩ = some (.int .i64 (j + 1 : Nat)) := HQ.out.1.hi.cell 0
  have ht : w5.cell? ⟨tb, 0, none⟩ = some (.int .i64 till) := HQ.out.1.ht.cell 0
  go_wp2_with fail
  go_ret
  exact ⟨by rfl, HQ.out.1, HQ.out.2⟩
end Go.Proofs.Ytofmonknhiggaaa
