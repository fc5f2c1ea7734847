/- epoch's run: its box, what it reads; Enter's steps. Conditions: the machine in memory; the thread is there. -/
import Derived.Test.YtoghcikfkkmfkaaGreatW0
namespace Go.Proofs.YtoghcikfkkmfkaaGreat
open Go.RowKit

def runE (i : PI) (k : Nat) : Value := .agg #[ptr i.m, .int .i64 (k : Nat), ptr i.ti.tb, ptr i.ti.topB]
structure Box4 (w w1 : World) (nb k : Nat) (i : PI) (s : PS) : Prop where
  hB : Blk w1 nb 161 #[.pointer (some ⟨i.m, 0, none⟩), .int .i64 (k : Nat), .pointer (some ⟨i.ti.tb, 0, none⟩), .pointer (some ⟨i.ti.topB, 0, none⟩)]
  hS : Stay w w1 i s
section
variable {w w1 w2 : World} {nb k : Nat} {i : PI} {s : PS}
theorem Box4.b0 (h : Box4 w w1 nb k i s) : w1.cell? ⟨nb, 0, none⟩ = some (.pointer (some ⟨i.m, 0, none⟩)) := h.hB.cell 0
theorem Box4.b1 (h : Box4 w w1 nb k i s) : w1.cell? ⟨nb, 1, none⟩ = some (.int .i64 (k : Nat)) := h.hB.cell 1
theorem Box4.b2 (h : Box4 w w1 nb k i s) : w1.cell? ⟨nb, 2, none⟩ = some (.pointer (some ⟨i.ti.tb, 0, none⟩)) := h.hB.cell 2
theorem Box4.b3 (h : Box4 w w1 nb k i s) : w1.cell? ⟨nb, 3, none⟩ = some (.pointer (some ⟨i.ti.topB, 0, none⟩)) := h.hB.cell 3
theorem Box4.reg (h : Box4 w w1 nb k i s) (hp : 0 < s.th.frs.length) (j : Nat) (hj : j < 24) : w1.cell? ⟨i.ti.topB, 2 + j, none⟩ = some (.int .u64 (s.th.top.reg j : Nat)) := (h.hS.at_.frame hp).reg j hj
theorem Box4.r0 (h : Box4 w w1 nb k i s) (hp : 0 < s.th.frs.length) : w1.cell? ⟨i.ti.topB, 2, none⟩ = some (.int .u64 (s.th.top.reg 0 : Nat)) := h.reg hp 0 (by decide)
theorem Box4.r1 (h : Box4 w w1 nb k i s) (hp : 0 < s.th.frs.length) : w1.cell? ⟨i.ti.topB, 3, none⟩ = some (.int .u64 (s.th.top.reg 1 : Nat)) := h.reg hp 1 (by decide)
theorem Box4.pc (h : Box4 w w1 nb k i s) (hp : 0 < s.th.frs.length) : w1.cell? ⟨i.ti.topB, 1, none⟩ = some (.int .i64 s.th.top.pc) := (h.hS.at_.frame hp).c1
theorem Box4.fr (h : Box4 w w1 nb k i s) (hp : 0 < s.th.frs.length) (j : Nat) : w1.frozen? ⟨i.ti.topB, j, none⟩ = false := (h.hS.at_.frame hp).1.frozen j
theorem Box4.ne_ (h : Box4 w w1 nb k i s) (hp : 0 < s.th.frs.length) : nb ≠ i.ti.topB := h.hB.ne_ (h.hS.at_.frame hp).1 (by decide)
theorem Box4.ses (h : Box4 w w1 nb k i s) (j : Nat) : w1.cell? ⟨i.ti.tb, 12 + j, none⟩ = (s.th.ses.cells ++ [i.ti.fv, i.ti.rv, i.ti.sv])[j]? := th_cell h.hS.at_.hTh j
theorem Box4.pin (h : Box4 w w1 nb k i s) : w1.cell? ⟨i.ti.tb, 13, none⟩ = some (.bool s.th.ses.pinned) := h.ses 1
theorem Box4.past (h : Box4 w w1 nb k i s) : w1.cell? ⟨i.ti.tb, 15, none⟩ = some (.int .u64 s.th.ses.past) := h.ses 3
theorem Box4.stay {s2 : PS} (h : Box4 w w1 nb k i s) (hs : Stay w1 w2 i s2) : Box4 w w2 nb k i s2 := ⟨hs.blk h.hS.at_ h.hB (by decide), h.hS.trans hs⟩
theorem Box4.new (h : PAt w i s) (k : Nat) : Box4 w (w.alloc (.cells #[.pointer (some ⟨i.m, 0, none⟩), .int .i64 (k : Nat), .pointer (some ⟨i.ti.tb, 0, none⟩), .pointer (some ⟨i.ti.topB, 0, none⟩)] 161)) w.heap.size k i s := ⟨Blk.new _ _ _, (Stay.refl h).alloc _⟩
theorem Box4.drew (h : Box4 w w1 nb k i s) : Box4 w w1.drew nb k i s := ⟨h.hB.drew, h.hS.drew⟩
theorem Box4.keep0 (h : Box4 w w1 nb k i s) (hk : Keep [] w1 w2) : Box4 w w2 nb k i s := ⟨h.hB.keep hk (by simp), h.hS.keep0 hk⟩
end
def actI (k : Nat) : Int := 3 + 8 * (k : Int)
theorem p_active {w : World} {i : PI} {s : PS} (h : PAt w i s) (k : Nat) (hk : (k : Int) < s.conf.thr) : Calls Tryz.prog 128 #[.pointer (some ⟨i.p, 0, none⟩), .int .i64 (k : Nat)] w fun r w' => r = .returned (.int .i64 (actI k)) ∧ w = w' := plan_active s.conf i.p k w h.hP h.ok (by omega) hk
set_option maxRecDepth 100000 in
theorem ep_now (w : World) (i : PI) (s : PS) (h : PAt w i s) (hf : Few s) (k : Nat) :
    Calls Tryz.prog 127 #[.agg #[.pointer (some ⟨i.m, 0, none⟩), .int .i64 (k : Nat), .pointer (some ⟨i.ti.tb, 0, none⟩), .pointer (some ⟨i.ti.topB, 0, none⟩)]] w fun r w' => r = .returned (.int .u64 (s.mem.rd 1 : Nat)) ∧ Stay w w' i (s.touch 1) := by
  have HX := Lib.hid (Box4.new h k)
  have HF := Lib.hid hf
  clear h hf
  go_enter Tryz.func127, Tryz.ntmps127
  go_upto_region 1 with fail
  generalize w.heap.size = nb at HX ⊢
  generalize w.alloc (.cells #[.pointer (some ⟨i.m, 0, none⟩), .int .i64 (k : Nat), .pointer (some ⟨i.ti.tb, 0, none⟩), .pointer (some ⟨i.ti.topB, 0, none⟩)] 161) = w1 at HX ⊢
  have hb0 := HX.out.b0
  go_wp2_with fail
  refine (p_mem w1 i s HX.out.hS.at_).mono ?_
  rintro r x ⟨rfl, rfl⟩
  go_wp2_with fail
  refine (p_load w1 i s HX.out.hS.at_ HF.out 1).mono ?_
  rintro r x ⟨rfl, hst⟩
  have H2 := Lib.hid (HX.out.hS.trans hst)
  clear hst
  go_wp2_with fail
  go_ret
  exact ⟨rfl, H2.out⟩
end Go.Proofs.YtoghcikfkkmfkaaGreat
