/- A step under way: how the thread's view goes on from access to access. Plain lemmas over the words of memory. -/
import Derived.Test.YtoghcikfkkmfkaaGreatEpDo
namespace Go.Proofs.YtoghcikfkkmfkaaGreat
open Go.RowKit

/-- From w on the step has come to x: the machine as the thread sees it is s, and it is within a routine. -/
structure At (w x : World) (i : PI) (s : PS) : Prop where
  st : Stay w x i s
  deep : 0 < s.th.frs.length
section
variable {w x y : World} {i : PI} {s s2 : PS}
theorem At.pc (h : At w x i s) : x.cell? ⟨i.ti.topB, 1, none⟩ = some (.int .i64 s.th.top.pc) := (h.st.at_.frame h.deep).c1
theorem At.fn (h : At w x i s) : x.cell? ⟨i.ti.topB, 0, none⟩ = some (.int .i64 s.th.top.fn) := (h.st.at_.frame h.deep).c0
theorem At.fz (h : At w x i s) (j : Nat) : x.frozen? ⟨i.ti.topB, j, none⟩ = false := (h.st.at_.frame h.deep).1.frozen j
theorem At.reg (h : At w x i s) (k : Nat) (hk : k < 24) : x.cell? ⟨i.ti.topB, 2 + k, none⟩ = some (.int .u64 (s.th.top.reg k : Nat)) := (h.st.at_.frame h.deep).reg k hk
theorem At.r0 (h : At w x i s) : x.cell? ⟨i.ti.topB, 2, none⟩ = some (.int .u64 (s.th.top.reg 0 : Nat)) := h.reg 0 (by decide)
theorem At.r1 (h : At w x i s) : x.cell? ⟨i.ti.topB, 3, none⟩ = some (.int .u64 (s.th.top.reg 1 : Nat)) := h.reg 1 (by decide)
theorem At.r2 (h : At w x i s) : x.cell? ⟨i.ti.topB, 4, none⟩ = some (.int .u64 (s.th.top.reg 2 : Nat)) := h.reg 2 (by decide)
theorem At.r3 (h : At w x i s) : x.cell? ⟨i.ti.topB, 5, none⟩ = some (.int .u64 (s.th.top.reg 3 : Nat)) := h.reg 3 (by decide)
theorem At.r4 (h : At w x i s) : x.cell? ⟨i.ti.topB, 6, none⟩ = some (.int .u64 (s.th.top.reg 4 : Nat)) := h.reg 4 (by decide)
theorem At.r5 (h : At w x i s) : x.cell? ⟨i.ti.topB, 7, none⟩ = some (.int .u64 (s.th.top.reg 5 : Nat)) := h.reg 5 (by decide)
theorem At.r6 (h : At w x i s) : x.cell? ⟨i.ti.topB, 8, none⟩ = some (.int .u64 (s.th.top.reg 6 : Nat)) := h.reg 6 (by decide)
theorem At.r7 (h : At w x i s) : x.cell? ⟨i.ti.topB, 9, none⟩ = some (.int .u64 (s.th.top.reg 7 : Nat)) := h.reg 7 (by decide)
theorem At.r8 (h : At w x i s) : x.cell? ⟨i.ti.topB, 10, none⟩ = some (.int .u64 (s.th.top.reg 8 : Nat)) := h.reg 8 (by decide)
theorem At.r9 (h : At w x i s) : x.cell? ⟨i.ti.topB, 11, none⟩ = some (.int .u64 (s.th.top.reg 9 : Nat)) := h.reg 9 (by decide)
theorem At.len (h : At w x i s) : s.th.top.r.length = 24 := (h.st.at_.frame h.deep).2
theorem At.drew (h : At w x i s) : At w x.drew i s := ⟨h.st.drew, h.deep⟩
theorem At.drawn (h : At w x i s) (hd : Drawn x y) : At w y i s := ⟨h.st.drawn hd, h.deep⟩
theorem At.keep0 (h : At w x i s) (hk : Keep [] x y) : At w y i s := ⟨h.st.keep0 hk, h.deep⟩
theorem At.alloc (h : At w x i s) (o : Obj) : At w (x.alloc o) i s := h.keep0 ((Keep.refl _ _).alloc o)
theorem At.stay (h : At w x i s) (hs : Stay x y i s2) (hd : 0 < s2.th.frs.length) : At w y i s2 := ⟨h.st.trans hs, hd⟩
theorem At.setReg (h : At w x i s) (k v : Nat) : At w (x.setCell ⟨i.ti.topB, 2 + k, none⟩ (.int .u64 (v : Nat))) i (s.setReg k v) := ⟨h.st.setReg h.deep k v, by rw [PS.setReg_len]; exact h.deep⟩
theorem At.setPc (h : At w x i s) (v : Int) : At w (x.setCell ⟨i.ti.topB, 1, none⟩ (.int .i64 v)) i (s.setPc v) := ⟨h.st.setPc h.deep v, by rw [PS.setPc_len]; exact h.deep⟩
theorem At.to (h : At w x i s) : PTo w x i i.ti s := h.st.to
theorem At.reg_set (h : At w x i s) {k : Nat} (v : Nat) (hk : k < 24) : (s.setReg k v).th.top.reg k = v := setReg_reg h.deep (by rw [h.len]; exact hk)
theorem At.reg_set_ne (h : At w x i s) {k j : Nat} (v : Nat) (hne : k ≠ j) : (s.setReg k v).th.top.reg j = s.th.top.reg j := by
  unfold PS.setReg
  show (ThS.setTop s.th { s.th.top with r := s.th.top.r.set k v }).top.reg j = _
  rw [ThS.top_setTop _ _ h.deep]
  show (s.th.top.r.set k v).getD j 0 = s.th.top.r.getD j 0
  rw [List.getD_eq_getElem?_getD, List.getElem?_set_ne hne, ← List.getD_eq_getElem?_getD]
theorem At.reg_pc (h : At w x i s) (v : Int) (j : Nat) : (s.setPc v).th.top.reg j = s.th.top.reg j := by
  unfold PS.setPc
  show (ThS.setTop s.th { s.th.top with pc := v }).top.reg j = _
  rw [ThS.top_setTop _ _ h.deep]
  rfl
theorem At.pc_pc (h : At w x i s) (v : Int) : (s.setPc v).th.top.pc = v := by
  unfold PS.setPc
  show (ThS.setTop s.th { s.th.top with pc := v }).top.pc = _
  rw [ThS.top_setTop _ _ h.deep]
theorem At.pc_set (h : At w x i s) (k v : Nat) : (s.setReg k v).th.top.pc = s.th.top.pc := by
  unfold PS.setReg
  show (ThS.setTop s.th { s.th.top with r := s.th.top.r.set k v }).top.pc = _
  rw [ThS.top_setTop _ _ h.deep]
/-- The step's end by Back. -/
theorem At.back {l : List Nat} {ti' : ThI} (h : At w x i s) (hto : PTo x y i ti' (s.back l)) : PTo w y i ti' (s.back l) := PTo.of_stay h.st hto
/-- What the session keeps. -/
theorem At.ses (h : At w x i s) (j : Nat) : x.cell? ⟨i.ti.tb, 12 + j, none⟩ = (s.th.ses.cells ++ [i.ti.fv, i.ti.rv, i.ti.sv])[j]? := th_cell h.st.at_.hTh j
theorem At.ret (h : At w x i s) {j : Nat} (hj : j < 12) : x.cell? ⟨i.ti.tb, j, none⟩ = some (.int .u64 (s.th.ret.getD j 0 : Nat)) := by
  have hth := h.st.at_.hTh
  rw [hth.ht.cell]
  simp only [thCells, List.getElem?_toArray]
  rw [List.getElem?_append_left (by rw [u64s_length, hth.rl]; exact hj)]
  unfold u64s
  rw [List.getElem?_map, List.getD_eq_getElem?_getD, List.getElem?_eq_getElem (by rw [hth.rl]; exact hj)]
  rfl
theorem At.tfz (h : At w x i s) (j : Nat) : x.frozen? ⟨i.ti.tb, j, none⟩ = false := h.st.at_.hTh.ht.frozen j
end
theorem conf_f0 (a b c : Int) : ∀ w, (Instr.field 24 (.agg #[.int .i64 a, .int .i64 b, .int .u64 c]) 0).run Tryz.prog w = .ok (.int .i64 a) w := by
  intro w
  kernel_rfl
theorem conf_f1 (a b c : Int) : ∀ w, (Instr.field 24 (.agg #[.int .i64 a, .int .i64 b, .int .u64 c]) 1).run Tryz.prog w = .ok (.int .i64 b) w := by
  intro w
  kernel_rfl
theorem conf_f2 (a b c : Int) : ∀ w, (Instr.field 24 (.agg #[.int .i64 a, .int .i64 b, .int .u64 c]) 2).run Tryz.prog w = .ok (.int .u64 c) w := by
  intro w
  kernel_rfl
/-- The machine opened at one of its threads: the two calls with which every routine begins. -/
structure Opened (w x : World) (i : MI) (s : MS) (k : Nat) (ti : ThI) (t : ThS) : Prop where
  hm : MachAt x i s
  at_ : At w x (i.part ti) (s.part t)
  h1 : i.tis[k]? = some ti
  h2 : s.ths[k]? = some t
theorem Opened.start {w : World} {i : MI} {s : MS} {k : Nat} {ti : ThI} {t : ThS} (h : MachAt w i s) (h1 : i.tis[k]? = some ti) (h2 : s.ths[k]? = some t) (hp : 0 < t.frs.length) : Opened w w i s k ti t := ⟨h, ⟨Stay.refl (h.part h1 h2), hp⟩, h1, h2⟩
section
variable {w x y : World} {i : MI} {s : MS} {k : Nat} {ti : ThI} {t : ThS}
theorem Opened.drawn (h : Opened w x i s k ti t) (hd : Drawn x y) : Opened w y i s k ti t := ⟨h.hm.drawn hd, h.at_.drawn hd, h.h1, h.h2⟩
theorem Opened.keep0 (h : Opened w x i s k ti t) (hk : Keep [] x y) : Opened w y i s k ti t := ⟨h.hm.keep0 hk, h.at_.keep0 hk, h.h1, h.h2⟩
theorem Opened.thread (h : Opened w x i s k ti t) : Calls Tryz.prog 11 #[.pointer (some ⟨i.m, 0, none⟩), .int .i64 (k : Nat)] x fun r w' => r = .returned (.pointer (some ⟨ti.tb, 0, none⟩)) ∧ x = w' := m_thread h.hm k ti h.h1
theorem Opened.top (h : Opened w x i s k ti t) : Calls Tryz.prog 16 #[.pointer (some ⟨ti.tb, 0, none⟩)] x fun r w' => r = .returned (.pointer (some ⟨ti.topB, 0, none⟩)) ∧ Drawn x w' := t_top h.hm h.h1 h.h2 h.at_.deep
end
end Go.Proofs.YtoghcikfkkmfkaaGreat
