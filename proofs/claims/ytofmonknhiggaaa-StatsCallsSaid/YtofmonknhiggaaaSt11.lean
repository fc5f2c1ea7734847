/- The reference's Same of opers, of one with itself. Conditions: its pairs can be read. -/
import Derived.Test.YtofmonknhiggaaaSt10
import Derived.Test.YtofmonknhiggaaaOpn4
namespace Go.Proofs.Ytofmonknhiggaaa
open Go.RowKit

theorem PairsAt.keep {w w' : World} {A : Option Addr} {n : Nat} {ps : List (Int × Int)} (h : PairsAt w A n ps) (hk : Keep [] w w') : PairsAt w' A n ps := ⟨h.1, h.2.keep hk⟩
def OpOk (w : World) (o : OpS) : Prop := ∃ ps, PairsAt w o.pA o.pn ps
theorem OpOk.keep {w w' : World} {o : OpS} (h : OpOk w o) (hk : Keep [] w w') : OpOk w' o := by
  obtain ⟨ps, hp⟩ := h
  exact ⟨ps, hp.keep hk⟩
theorem opersR_ok {w : World} : ∀ (l : List EvS) (i : Nat), (∀ e ∈ l, EvOk w e) → ∀ o ∈ opersR l i, OpOk w o
  | [], _, _, o, h => by cases h
  | e :: l, i, hl, o, h => by
    replace h : o ∈ (if e.back = true then opersR l (i + 1) else mkOp e i (nextBack e.thr l (i + 1)) :: opersR l (i + 1)) := h
    have ih := opersR_ok l (i + 1) (fun e he => hl e (List.mem_cons_of_mem _ he))
    split at h
    · exact ih o h
    · rcases List.mem_cons.1 h with rfl | h
      · cases hn : nextBack e.thr l (i + 1) with
        | none => exact ⟨[], rfl, fun h => by simp at h⟩
        | some z =>
          obtain ⟨k, y⟩ := z
          exact hl y (List.mem_cons_of_mem _ (nextBack_pn _ _ _ _ _ hn))
      · exact ih o h
theorem opsOut_ok {w : World} {l : List EvS} {os : List OpS} (h : opsOut l os) (hp : ∀ e ∈ l, EvOk w e) : ∀ o ∈ os, OpOk w o := by
  by_cases hm : MayP l l.length
  · rw [h.1 hm]
    exact opersR_ok l 0 hp
  · rw [h.2 hm]
    intro o ho
    cases ho
theorem pair_same (a b : Int) (w : World) : (binOp .neq 62 (.agg #[.int .i64 a, .int .i64 b]) (.agg #[.int .i64 a, .int .i64 b])).run Try.prog w = .ok (.bool false) w := by
  have : (Op.equalIn 10000 62 (.agg #[.int .i64 a, .int .i64 b]) (.agg #[.int .i64 a, .int .i64 b])).run Try.prog w = .ok true w := by
    simp [go_sem, Try.underlying62, Try.underlying2]
  rw [run_neq_struct, this]
  rfl
theorem call_same (a b c d e : Int) (w : World) : (binOp .eql 36 (.agg #[.int .i64 a, .int .i64 b, .int .i64 c, .int .i64 d, .int .i64 e]) (.agg #[.int .i64 a, .int .i64 b, .int .i64 c, .int .i64 d, .int .i64 e])).run Try.prog w = .ok (.bool true) w := by
  have : (Op.equalIn 10000 36 (.agg #[.int .i64 a, .int .i64 b, .int .i64 c, .int .i64 d, .int .i64 e]) (.agg #[.int .i64 a, .int .i64 b, .int .i64 c, .int .i64 d, .int .i64 e])).run Try.prog w = .ok true w := by
    simp [go_sem, Try.underlying36, Try.underlying2, Try.underlying3]
  rw [run_eql_struct, this]
  rfl
set_option maxHeartbeats 1000000 in
theorem ref08_self (w : World) (A : Option Addr) (n c : Nat) (ps : List (Int × Int)) (h : PairsAt w A n ps) (hn : n ≤ 1500) : Calls Try.prog 24 #[.slice A n c, .slice A n c] w fun r w' => r = .returned (.bool true) ∧ Drawn w w' := by
  obtain ⟨rfl, hE⟩ := h
  have HE := Lib.hid hE
  have HN := Lib.hid hn
  clear hE hn
  go_enter Try.func24, Try.ntmps24
  go_wp2_with fail
  go_loopg [5] ps.length (fun g v5 wr => ∃ k : Nat, k ≤ ps.length ∧ g = ps.length - k ∧ v5 = .int .i64 (k : Nat) ∧ Drawn w wr)
  case atStart => exact ⟨0, Nat.zero_le _, rfl, rfl, Drawn.refl _⟩
  case round =>
    obtain ⟨k, hk, rfl, rfl, hd⟩ := hrel
    have HD := Lib.hid hd
    have hk0 : (0 : Int) ≤ ((k : Nat) : Int) := by omega
    have hk9 : ((k : Nat) : Int) ≤ 1500 := by have := HN.out; omega
    clear hd
    by_cases hlt : k < ps.length
    · have hz : ((k : Nat) : Int) < ((ps.length : Nat) : Int) := by omega
      obtain ⟨b, o, h1, h2, h3⟩ := (HE.out.keep (Keep.of_drawn HD.out)).range 2 (fun _ => rfl) (0, 0) hlt
      subst h1
      generalize ps.getD k (0, 0) = p at h3
      have c0 := h3 0 _ rfl
      have c1 := h3 1 _ rfl
      simp only [Nat.add_zero] at c0
      have hq := pair_same p.1 p.2
      clear h3 h2 hlt
      go_wp2_with fail
      go_quiet (fail)
      go_wp2_with fail
      go_roundg (ps.length - (k + 1))
      case measure => omega
      case rel => exact ⟨k + 1, by omega, rfl, by go_num, HD.out.trans (Drawn.n _ _)⟩
    · have hz : ¬ ((k : Nat) : Int) < ((ps.length : Nat) : Int) := by omega
      clear hlt
      go_wp2_with fail
      go_ret
      exact ⟨rfl, HD.out⟩
def ansV (o : OpS) : Value := .agg #[.int .i64 o.kind, .int .i64 o.akey, .int .i64 o.aval, .int .i64 o.an, .slice o.pA o.pn o.pc]
set_option maxHeartbeats 1000000 in
theorem ref09_self (w : World) (x : OpS) (h : OpOk w x) (hn : x.pn ≤ 1500) : Calls Try.prog 20 #[ansV x, ansV x] w fun r w' => r = .returned (.bool true) ∧ Keep [] w w' := by
  have HO := Lib.hid h
  have HN := Lib.hid hn
  clear h hn
  unfold ansV
  go_enter Try.func20, Try.ntmps20
  go_upto_region 1 with fail
  generalize hw2 : (w.alloc _).alloc _ = w2
  have HB0 : Hid (Blk w2 w.heap.size 39 #[.int .i64 x.kind, .int .i64 x.akey, .int .i64 x.aval, .int .i64 x.an, .slice x.pA x.pn x.pc]) := Lib.hid (by rw [← hw2]; exact (Blk.new w _ _).alloc _)
  have HB1 : Hid (Blk w2 (w.heap.size + 1) 39 #[.int .i64 x.kind, .int .i64 x.akey, .int .i64 x.aval, .int .i64 x.an, .slice x.pA x.pn x.pc]) := Lib.hid (by
    have := Blk.new (w.alloc (.cells #[.int .i64 x.kind, .int .i64 x.akey, .int .i64 x.aval, .int .i64 x.an, .slice x.pA x.pn x.pc] 39)) 39 #[.int .i64 x.kind, .int .i64 x.akey, .int .i64 x.aval, .int .i64 x.an, .slice x.pA x.pn x.pc]
    rw [World.size_alloc] at this
    rw [← hw2]
    exact this)
  have HK2 : Hid (Keep [] w w2) := Lib.hid (by rw [← hw2]; exact ((Keep.refl [] w).alloc _).alloc _)
  clear hw2
  generalize w.heap.size + 1 = b1 at HB1 ⊢
  generalize w.heap.size = b0 at HB0 ⊢
  have a0 := HB0.out.cell 0
  have a1 := HB0.out.cell 1
  have a2 := HB0.out.cell 2
  have a3 := HB0.out.cell 3
  have a4 := HB0.out.cell 4
  have d0 := HB1.out.cell 0
  have d1 := HB1.out.cell 1
  have d2 := HB1.out.cell 2
  have d3 := HB1.out.cell 3
  have d4 := HB1.out.cell 4
  obtain ⟨ps, hps⟩ := HO.out.keep HK2.out
  have KS := Lib.hid (ref08_self w2 x.pA x.pn x.pc ps hps HN.out)
  have e0 : (x.kind == x.kind) = true := by simp
  have e1 : (x.akey == x.akey) = true := by simp
  have e2 : (x.aval == x.aval) = true := by simp
  have e3 : (x.an == x.an) = true := by simp
  clear hps
  go_wp2_with fail
  refine KS.out.mono ?_
  rintro r y ⟨rfl, hd⟩
  have HD := Lib.hid (HK2.out.trans (Keep.of_drawn (S := []) hd) (by simp))
  clear hd KS
  go_wp2_with fail
  go_ret
  exact ⟨rfl, HD.out⟩
set_option maxHeartbeats 2000000 in
theorem ref11_self (w : World) (x : OpS) (h : OpOk w x) (hn : x.pn ≤ 1500) : Calls Try.prog 12 #[opV x, opV x] w fun r w' => r = .returned (.bool true) ∧ Keep [] w w' := by
  have HO := Lib.hid h
  have HN := Lib.hid hn
  clear h hn
  unfold opV
  go_enter Try.func12, Try.ntmps12
  go_upto_region 1 with fail
  generalize hw2 : (w.alloc _).alloc _ = w2
  have HB0 : Hid (Blk w2 w.heap.size 41 (opC x).toArray) := Lib.hid (by rw [← hw2]; exact (Blk.new w _ _).alloc _)
  have HB1 : Hid (Blk w2 (w.heap.size + 1) 41 (opC x).toArray) := Lib.hid (by
    have := Blk.new (w.alloc (.cells (opC x).toArray 41)) 41 (opC x).toArray
    rw [World.size_alloc] at this
    rw [← hw2]
    exact this)
  have HK2 : Hid (Keep [] w w2) := Lib.hid (by rw [← hw2]; exact ((Keep.refl [] w).alloc _).alloc _)
  clear hw2
  generalize w.heap.size + 1 = b1 at HB1 ⊢
  generalize w.heap.size = b0 at HB0 ⊢
  obtain ⟨a0, a1, a2, a3, a4, a5, a6, a7, a8, a9, a10, a11, a12⟩ : w2.cell? ⟨b0, 0, none⟩ = some (.int .i64 x.thr) ∧ w2.cell? ⟨b0, 1, none⟩ = some (.int .i64 x.op) ∧ w2.cell? ⟨b0, 2, none⟩ = some (.int .i64 x.key) ∧ w2.cell? ⟨b0, 3, none⟩ = some (.int .i64 x.val) ∧ w2.cell? ⟨b0, 4, none⟩ = some (.int .i64 x.hi) ∧ w2.cell? ⟨b0, 5, none⟩ = some (.int .i64 x.lim) ∧ w2.cell? ⟨b0, 6, none⟩ = some (.int .i64 x.kind) ∧ w2.cell? ⟨b0, 7, none⟩ = some (.int .i64 x.akey) ∧ w2.cell? ⟨b0, 8, none⟩ = some (.int .i64 x.aval) ∧ w2.cell? ⟨b0, 9, none⟩ = some (.int .i64 x.an) ∧ w2.cell? ⟨b0, 10, none⟩ = some (.slice x.pA x.pn x.pc) ∧ w2.cell? ⟨b0, 11, none⟩ = some (.int .i64 x.frm) ∧ w2.cell? ⟨b0, 12, none⟩ = some (.int .i64 x.to) := ⟨HB0.out.cell 0, HB0.out.cell 1, HB0.out.cell 2, HB0.out.cell 3, HB0.out.cell 4, HB0.out.cell 5, HB0.out.cell 6, HB0.out.cell 7, HB0.out.cell 8, HB0.out.cell 9, HB0.out.cell 10, HB0.out.cell 11, HB0.out.cell 12⟩
  obtain ⟨d0, d1, d2, d3, d4, d5, d6, d7, d8, d9, d10, d11, d12⟩ : w2.cell? ⟨b1, 0, none⟩ = some (.int .i64 x.thr) ∧ w2.cell? ⟨b1, 1, none⟩ = some (.int .i64 x.op) ∧ w2.cell? ⟨b1, 2, none⟩ = some (.int .i64 x.key) ∧ w2.cell? ⟨b1, 3, none⟩ = some (.int .i64 x.val) ∧ w2.cell? ⟨b1, 4, none⟩ = some (.int .i64 x.hi) ∧ w2.cell? ⟨b1, 5, none⟩ = some (.int .i64 x.lim) ∧ w2.cell? ⟨b1, 6, none⟩ = some (.int .i64 x.kind) ∧ w2.cell? ⟨b1, 7, none⟩ = some (.int .i64 x.akey) ∧ w2.cell? ⟨b1, 8, none⟩ = some (.int .i64 x.aval) ∧ w2.cell? ⟨b1, 9, none⟩ = some (.int .i64 x.an) ∧ w2.cell? ⟨b1, 10, none⟩ = some (.slice x.pA x.pn x.pc) ∧ w2.cell? ⟨b1, 11, none⟩ = some (.int .i64 x.frm) ∧ w2.cell? ⟨b1, 12, none⟩ = some (.int .i64 x.to) := ⟨HB1.out.cell 0, HB1.out.cell 1, HB1.out.cell 2, HB1.out.cell 3, HB1.out.cell 4, HB1.out.cell 5, HB1.out.cell 6, HB1.out.cell 7, HB1.out.cell 8, HB1.out.cell 9, HB1.out.cell 10, HB1.out.cell 11, HB1.out.cell 12⟩
  have HO2 := Lib.hid (HO.out.keep HK2.out)
  have KS : Hid (Calls Try.prog 20 #[.agg #[.int .i64 x.kind, .int .i64 x.akey, .int .i64 x.aval, .int .i64 x.an, .slice x.pA x.pn x.pc], .agg #[.int .i64 x.kind, .int .i64 x.akey, .int .i64 x.aval, .int .i64 x.an, .slice x.pA x.pn x.pc]] w2 fun r w' => r = .returned (.bool true) ∧ Keep [] w2 w') := Lib.hid (ref09_self w2 x HO2.out HN.out)
  have hcs := call_same x.op x.key x.val x.hi x.lim
  have e0 : (x.thr == x.thr) = true := by simp
  have e1 : (x.frm == x.frm) = true := by simp
  have e2 : (x.to == x.to) = true := by simp
  go_wp2_with fail
  refine KS.out.mono ?_
  rintro r y ⟨rfl, hk⟩
  have HK3 := Lib.hid (HK2.out.trans hk (by simp))
  have f0 : y.cell? ⟨b0, 11, none⟩ = some (.int .i64 x.frm) := (hk.cell HB0.out.lt (by simp)).trans a11
  have f1 : y.cell? ⟨b1, 11, none⟩ = some (.int .i64 x.frm) := (hk.cell HB1.out.lt (by simp)).trans d11
  have f2 : y.cell? ⟨b0, 12, none⟩ = some (.int .i64 x.to) := (hk.cell HB0.out.lt (by simp)).trans a12
  have f3 : y.cell? ⟨b1, 12, none⟩ = some (.int .i64 x.to) := (hk.cell HB1.out.lt (by simp)).trans d12
  clear hk KS a0 a1 a2 a3 a4 a5 a6 a7 a8 a9 a10 a11 a12 d0 d1 d2 d3 d4 d5 d6 d7 d8 d9 d10 d11 d12
  go_wp2_with fail
  go_ret
  exact ⟨rfl, HK3.out⟩
end Go.Proofs.Ytofmonknhiggaaa
