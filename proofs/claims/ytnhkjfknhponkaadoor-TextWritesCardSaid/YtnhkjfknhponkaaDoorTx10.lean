/- TextWrites: the law's walk. Conditions: the library's table is as it was laid; what comes in is events. -/
import Derived.Test.YtnhkjfknhponkaaDoorTx9
namespace Go.Proofs.YtnhkjfknhponkaaDoor
open Go.RowKit

/-- What the law holds: the event's box. -/
structure LwR (w wr : World) (eb : Nat) (e : EvX) : Prop where
  hk : Keep [] w wr
  b : Blk wr eb 53 #[.int .i64 e.thr, .bool e.back, .int .i64 e.c.op, .int .i64 e.c.key, .int .i64 e.c.val, .int .i64 e.c.hi, .int .i64 e.c.lim, .int .i64 e.a.kind, .int .i64 e.a.key, .int .i64 e.a.val, .int .i64 e.a.n, .slice e.a.pA e.a.ps.length e.a.pc]
theorem LwR.keep {w wr w2 : World} {eb : Nat} {e : EvX} (h : LwR w wr eb e) (hk : Keep [] wr w2) : LwR w w2 eb e := ⟨h.hk.trans hk (by simp), h.b.keep hk (by simp)⟩
set_option maxHeartbeats 8000000 in
theorem text_writes (e : EvX) (w : World) (A : Option Addr) (l : List EvX) (cap : Nat) (he : EvIn w e) (hE : ElAt evL w A l) (hi : ∀ x ∈ l, EvIn w x) (ht : TabOk w) : Calls Tryd.prog 5 #[.agg e.cells, .slice A l.length cap] w (TrueOut w) := by
  have HB := Lib.hid (Blk.new w 53 e.cells)
  have HK0 := Lib.hid ((Keep.refl [] w).alloc (.cells e.cells 53))
  have KV := Lib.hid (fun (W : World) (hk : Keep [] w W) => law35_lives W (ht.keep hk))
  unfold TrueOut at KV
  rw [show e.cells = #[.int .i64 e.thr, .bool e.back, .int .i64 e.c.op, .int .i64 e.c.key, .int .i64 e.c.val, .int .i64 e.c.hi, .int .i64 e.c.lim, .int .i64 e.a.kind, .int .i64 e.a.key, .int .i64 e.a.val, .int .i64 e.a.n, .slice e.a.pA e.a.ps.length e.a.pc] from rfl] at HB HK0 ⊢
  have HR0 : Hid (LwR w (w.alloc (.cells #[.int .i64 e.thr, .bool e.back, .int .i64 e.c.op, .int .i64 e.c.key, .int .i64 e.c.val, .int .i64 e.c.hi, .int .i64 e.c.lim, .int .i64 e.a.kind, .int .i64 e.a.key, .int .i64 e.a.val, .int .i64 e.a.n, .slice e.a.pA e.a.ps.length e.a.pc] 53)) w.heap.size e) := Lib.hid ⟨HK0.out, HB.out⟩
  have HE := Lib.hid hE
  have HI := Lib.hid hi
  have HT := Lib.hid ht
  have HV := Lib.hid he
  clear HB HK0 he hE hi ht
  by_cases h60 : 60 < l.length
  · have hz : (60 : Int) < ((l.length : Nat) : Int) := by omega
    go_enter Tryd.func5, Tryd.ntmps5
    go_wp2_with fail
    refine (KV.out _ HR0.out.hk).mono ?_
    rintro r x ⟨rfl, hk⟩
    have HK := Lib.hid (HR0.out.hk.trans hk (by simp))
    clear hk
    go_wp2_with fail
    go_ret
    exact ⟨rfl, HK.out⟩
  have hz60 : ¬ (60 : Int) < ((l.length : Nat) : Int) := by omega
  have HL : Hid (l.length ≤ 60) := Lib.hid (by omega)
  clear h60
  by_cases h200 : 200 < e.a.ps.length
  · have hz : (200 : Int) < ((e.a.ps.length : Nat) : Int) := by omega
    clear h200
    go_enter Tryd.func5, Tryd.ntmps5
    go_upto_region 1 with fail
    generalize w.heap.size = eb at HR0 ⊢
    generalize w.alloc _ = w1 at HR0 ⊢
    have hc11 : w1.cell? ⟨eb, 11, none⟩ = some (.slice e.a.pA e.a.ps.length e.a.pc) := HR0.out.b.cell 11
    go_wp2_with fail
    refine (KV.out _ HR0.out.hk).mono ?_
    rintro r x ⟨rfl, hk⟩
    have HK := Lib.hid (HR0.out.hk.trans hk (by simp))
    clear hk
    go_wp2_with fail
    go_ret
    exact ⟨rfl, HK.out⟩
  have hz200 : ¬ (200 : Int) < ((e.a.ps.length : Nat) : Int) := by omega
  have HPL : Hid (e.a.ps.length ≤ 200) := Lib.hid (by omega)
  clear h200
  have hl0 : ((l.length : Nat) : Int) ≤ 60 := by have := HL.out; omega
  go_enter Tryd.func5, Tryd.ntmps5
  go_upto_region 1 with fail
  generalize w.heap.size = eb at HR0 ⊢
  generalize w.alloc _ = w1 at HR0 ⊢
  have hc11 : w1.cell? ⟨eb, 11, none⟩ = some (.slice e.a.pA e.a.ps.length e.a.pc) := HR0.out.b.cell 11
  go_wp2_with fail
  clear hc11
  go_loopg [5, 6] l.length (fun g v5 v6 wr => ∃ k : Nat, k ≤ l.length ∧ g = l.length - k ∧ v6 = .int .i64 (k : Nat) ∧ LwR w wr eb e ∧ v5 = .string ⟨(histZ (l.take k)).toArray⟩ ∧ ∀ x ∈ l.take k, x.a.ps.length ≤ 200)
  case atStart => exact ⟨0, Nat.zero_le _, rfl, rfl, HR0.out, rfl, fun x hx => by simp at hx⟩
  case round =>
    obtain ⟨k, hk, rfl, rfl, hr, rfl, hlow⟩ := hrel
    have HR := Lib.hid hr
    have HLW := Lib.hid hlow
    clear hr hlow HR0
    have hk0 : (0 : Int) ≤ ((k : Nat) : Int) := by omega
    have hk6 : ((k : Nat) : Int) ≤ 60 := by omega
    have HHL : Hid ((histZ (l.take k)).length ≤ 700000) := Lib.hid (by
      have h1 := histZ_len (l.take k) (fun e he => ⟨(HI.out e (List.mem_of_mem_take he)).fit, HLW.out e he⟩)
      have h2 := HL.out
      rw [List.length_take] at h1
      omega)
    by_cases hlt : k < l.length
    · have hz : ((k : Nat) : Int) < ((l.length : Nat) : Int) := by omega
      obtain ⟨b, o, hA, _, c0, c1, c2, c3, c4, c5, c6, c7, c8, c9, c10, c11⟩ := (HE.out.keep HR.out.hk).at_evx hlt
      subst hA
      have HTK := Lib.hid (histZ_take hlt)
      have HXI := Lib.hid (HI.out (l.getD k ev0) (by rw [List.getD_eq_getElem?_getD, List.getElem?_eq_getElem hlt]; exact List.getElem_mem hlt))
      have HLN : Hid ((l.getD k ev0).a.ps.length ≤ 200 → ∀ x ∈ l.take (k + 1), x.a.ps.length ≤ 200) := Lib.hid (fun h x hx => by
        rw [take_snoc l ev0 hlt] at hx
        rcases List.mem_append.1 hx with h1 | h1
        · exact HLW.out x h1
        · rw [List.mem_singleton.1 h1]; exact h)
      have HLT := Lib.hid hlt
      clear hlt
      generalize hs2 : histZ (l.take (k + 1)) = s2 at HTK
      have HS := Lib.hid hs2
      clear hs2
      generalize histZ (l.take k) = s1 at *
      generalize l.getD k ev0 = q at *
      by_cases hq : 200 < q.a.ps.length
      · have hz2 : (200 : Int) < ((q.a.ps.length : Nat) : Int) := by omega
        clear hq
        go_wp2_with fail
        refine (KV.out _ HR.out.hk).mono ?_
        rintro r x ⟨rfl, hk⟩
        have HK := Lib.hid (HR.out.hk.trans hk (by simp))
        clear hk
        go_wp2_with fail
        go_ret
        exact ⟨rfl, HK.out⟩
      · have hz2 : ¬ (200 : Int) < ((q.a.ps.length : Nat) : Int) := by omega
        have hq2 : q.a.ps.length ≤ 200 := by omega
        have HLN2 := Lib.hid (HLN.out hq2)
        have KE := Lib.hid (ref35_event q wr (HXI.out.keep HR.out.hk) hq2)
        rw [show q.cells = #[.int .i64 q.thr, .bool q.back, .int .i64 q.c.op, .int .i64 q.c.key, .int .i64 q.c.val, .int .i64 q.c.hi, .int .i64 q.c.lim, .int .i64 q.a.kind, .int .i64 q.a.key, .int .i64 q.a.val, .int .i64 q.a.n, .slice q.a.pA q.a.ps.length q.a.pc] from rfl] at KE
        unfold TextOut at KE
        have hel := evZ_len q HXI.out.fit hq2
        have HCQ : Hid ((⟨s1.toArray⟩ : ByteArray) ++ ⟨(evZ q).toArray⟩ ++ ⟨#[10]⟩ = ⟨s2.toArray⟩) := Lib.hid (by rw [HTK.out, ← List.append_assoc, ← catL, ← catL])
        generalize evZ q = qz at *
        have hsl := HHL.out
        have hn1 : ¬ 9223372036854775807 < s1.length + qz.length := by omega
        have hn2 : ¬ 9223372036854775807 < s1.length + qz.length + 1 := by omega
        clear hq hq2 hel hsl HTK HLN
        go_wp2_with fail
        refine KE.out.mono ?_
        rintro r x ⟨rfl, hk⟩
        have HR2 := Lib.hid (HR.out.keep hk)
        clear hk c0 c1 c2 c3 c4 c5 c6 c7 c8 c9 c10 c11
        go_wp2_with fail
        go_roundg (l.length - (k + 1))
        case measure => have := HLT.out; omega
        case rel => exact ⟨k + 1, HLT.out, rfl, by go_num, HR2.out, by rw [HS.out]; exact congrArg Value.string HCQ.out, HLN2.out⟩
    · have hz : ¬ ((k : Nat) : Int) < ((l.length : Nat) : Int) := by omega
      obtain rfl : k = l.length := by omega
      rw [List.take_length] at HLW HHL ⊢
      have hnn : ∀ l : List UInt8, (l == l) = true := fun l => beq_self_eq_true l
      have KTC := Lib.hid (fun (W : World) (hk : Keep [] w W) => text_call e.c HV.out.fit.c W (HT.out.keep hk))
      have KRC := Lib.hid (fun (W : World) => ref35_call e.c HV.out.fit.c W)
      have KTA := Lib.hid (fun (W : World) (hk : Keep [] w W) => text_answer e.a HV.out.fit.a W (HV.out.row.keep hk) HPL.out (HT.out.keep hk))
      have KRA := Lib.hid (fun (W : World) (hk : Keep [] w W) => ref35_answer e.a HV.out.fit.a W (HV.out.row.keep hk) HPL.out)
      have KTE := Lib.hid (fun (W : World) (hk : Keep [] w W) => text_event e W (HV.out.keep hk) HPL.out (HT.out.keep hk))
      have KRE := Lib.hid (fun (W : World) (hk : Keep [] w W) => ref35_event e W (HV.out.keep hk) HPL.out)
      have KTH := Lib.hid (fun (W : World) (hk : Keep [] w W) => text_history W A l cap (HE.out.keep hk) HL.out (fun x hx => ⟨(HI.out x hx).keep hk, HLW.out x hx⟩) (HT.out.keep hk))
      rw [show e.c.cells = #[.int .i64 e.c.op, .int .i64 e.c.key, .int .i64 e.c.val, .int .i64 e.c.hi, .int .i64 e.c.lim] from rfl] at KTC KRC
      rw [show e.a.cells = #[.int .i64 e.a.kind, .int .i64 e.a.key, .int .i64 e.a.val, .int .i64 e.a.n, .slice e.a.pA e.a.ps.length e.a.pc] from rfl] at KTA KRA
      rw [show e.cells = #[.int .i64 e.thr, .bool e.back, .int .i64 e.c.op, .int .i64 e.c.key, .int .i64 e.c.val, .int .i64 e.c.hi, .int .i64 e.c.lim, .int .i64 e.a.kind, .int .i64 e.a.key, .int .i64 e.a.val, .int .i64 e.a.n, .slice e.a.pA e.a.ps.length e.a.pc] from rfl] at KTE KRE
      unfold TextOut at KTC KRC KTA KRA KTE KRE KTH
      generalize callZ e.c = cz at *
      generalize ansZ e.a = az at *
      generalize evZ e = ez at *
      generalize histZ l = hz1 at *
      clear hlt HE HI HT HV HL HPL HLW HHL
      go_upto_region 10 with fail
      refine wp_region_held_drew (S := (fun w' => LwR w w' eb e)) (by kernel_rfl) (HR.out.keep (Keep.refl _ _).drew) (fun hHeld => ?_)
      refine wpAnyH_take (i := 0) (oi := { dst := some 41, op := Go.Op.fieldAddr 53 (Go.Operand.tmp 2) 2, type := 0, pos := "law.go:31", after := #[], guard := none }) (v := ?_) rfl (by kernel_rfl) (by kernel_rfl) (by kernel_rfl) (fun _ _ _ h => h) (Or.inl ⟨by rfl, ?_⟩) (by assumption) ?_
      rotate_left
      · intro w hSw
        (try dsimp only at hSw)
        go_simp
        all_goals with_reducible rfl
      try simp only [Act.put, List.setIfInBounds_toArray, List.set_cons_zero, List.set_cons_succ]
      refine wpAnyH_take (i := 1) (oi := { dst := some 42, op := Go.Op.load 48 (Go.Operand.tmp 41), type := 48, pos := "law.go:31", after := #[{ on := 0, ground := Go.Ground.data }], guard := none }) (v := ?_) rfl (by kernel_rfl) (by kernel_rfl) (by kernel_rfl) (fun _ _ _ h => h) (Or.inl ⟨by rfl, ?_⟩) (by assumption) ?_
      rotate_left
      · intro w hSw
        have hc2 : w.cell? ⟨eb, 2, none⟩ = some (.int .i64 e.c.op) := hSw.b.cell 2
        have hc3 : w.cell? ⟨eb, 3, none⟩ = some (.int .i64 e.c.key) := hSw.b.cell 3
        have hc4 : w.cell? ⟨eb, 4, none⟩ = some (.int .i64 e.c.val) := hSw.b.cell 4
        have hc5 : w.cell? ⟨eb, 5, none⟩ = some (.int .i64 e.c.hi) := hSw.b.cell 5
        have hc6 : w.cell? ⟨eb, 6, none⟩ = some (.int .i64 e.c.lim) := hSw.b.cell 6
        go_simp
        all_goals with_reducible rfl
      try simp only [Act.put, List.setIfInBounds_toArray, List.set_cons_zero, List.set_cons_succ]
      refine wpAnyH_take (i := 3) (oi := { dst := some 44, op := Go.Op.fieldAddr 53 (Go.Operand.tmp 2) 2, type := 0, pos := "law.go:31", after := #[], guard := none }) (v := ?_) rfl (by kernel_rfl) (by kernel_rfl) (by kernel_rfl) (fun _ _ _ h => h) (Or.inl ⟨by rfl, ?_⟩) (by assumption) ?_
      rotate_left
      · intro w hSw
        (try dsimp only at hSw)
        go_simp
        all_goals with_reducible rfl
      try simp only [Act.put, List.setIfInBounds_toArray, List.set_cons_zero, List.set_cons_succ]
      refine wpAnyH_take (i := 4) (oi := { dst := some 45, op := Go.Op.load 48 (Go.Operand.tmp 44), type := 48, pos := "law.go:31", after := #[{ on := 3, ground := Go.Ground.data }], guard := none }) (v := ?_) rfl (by kernel_rfl) (by kernel_rfl) (by kernel_rfl) (fun _ _ _ h => h) (Or.inl ⟨by rfl, ?_⟩) (by assumption) ?_
      rotate_left
      · intro w hSw
        have hc2 : w.cell? ⟨eb, 2, none⟩ = some (.int .i64 e.c.op) := hSw.b.cell 2
        have hc3 : w.cell? ⟨eb, 3, none⟩ = some (.int .i64 e.c.key) := hSw.b.cell 3
        have hc4 : w.cell? ⟨eb, 4, none⟩ = some (.int .i64 e.c.val) := hSw.b.cell 4
        have hc5 : w.cell? ⟨eb, 5, none⟩ = some (.int .i64 e.c.hi) := hSw.b.cell 5
        have hc6 : w.cell? ⟨eb, 6, none⟩ = some (.int .i64 e.c.lim) := hSw.b.cell 6
        go_simp
        all_goals with_reducible rfl
      try simp only [Act.put, List.setIfInBounds_toArray, List.set_cons_zero, List.set_cons_succ]
      refine wpAnyH_ready (rs := [2]) (by kernel_rfl) (by simp) ?_
      refine AllReadyH.cons (o := { dst := some 43, op := Go.Op.call { callee := Go.Callee.value (Go.Operand.func 19), args := #[Go.Operand.tmp 42], argTypes := #[48] }, type := 9, pos := "law.go:31", after := #[{ on := 1, ground := Go.Ground.data }], guard := none }) rfl (fun K hK => ?_) AllReadyH.nil
      go_simp
      refine (KTC.out _ hHeld.hk).mono ?_
      rintro r z ⟨rfl, hk⟩
      try simp only []
      refine hK.out _ _ (hHeld.keep hk) (fun hHeld => ?_)
      clear hK K
      try simp only [Act.put, List.setIfInBounds_toArray, List.set_cons_zero, List.set_cons_succ]
      refine wpAnyH_ready (rs := [5]) (by kernel_rfl) (by simp) ?_
      refine AllReadyH.cons (o := { dst := some 46, op := Go.Op.call { callee := Go.Callee.value (Go.Operand.func 20), args := #[Go.Operand.tmp 45], argTypes := #[48] }, type := 9, pos := "law.go:31", after := #[{ on := 4, ground := Go.Ground.data }, { on := 2, ground := Go.Ground.chain }], guard := none }) rfl (fun K hK => ?_) AllReadyH.nil
      go_simp
      refine (KRC.out _).mono ?_
      rintro r z ⟨rfl, hk⟩
      try simp only []
      refine hK.out _ _ (hHeld.keep hk) (fun hHeld => ?_)
      clear hK K
      try simp only [Act.put, List.setIfInBounds_toArray, List.set_cons_zero, List.set_cons_succ]
      refine wpAnyH_take (i := 6) (oi := { dst := some 47, op := Go.Op.binOp Go.BinOp.eql 9 (Go.Operand.tmp 43) (Go.Operand.tmp 46) 9, type := 4, pos := "law.go:31", after := #[{ on := 2, ground := Go.Ground.data }, { on := 5, ground := Go.Ground.data }], guard := none }) (v := ?_) rfl (by kernel_rfl) (by kernel_rfl) (by kernel_rfl) (fun _ _ _ h => h) (Or.inl ⟨by rfl, ?_⟩) (by assumption) ?_
      rotate_left
      · intro w hSw
        (try dsimp only at hSw)
        go_simp
        all_goals with_reducible rfl
      try simp only [Act.put, List.setIfInBounds_toArray, List.set_cons_zero, List.set_cons_succ]
      refine wpAnyH_take (i := 7) (oi := { dst := some 48, op := Go.Op.move (Go.Operand.tmp 47), type := 4, pos := "law.go:31", after := #[{ on := 6, ground := Go.Ground.data }, { on := 5, ground := Go.Ground.chain }], guard := none }) (v := ?_) rfl (by kernel_rfl) (by kernel_rfl) (by kernel_rfl) (fun _ _ _ h => h) (Or.inl ⟨by rfl, ?_⟩) (by assumption) ?_
      rotate_left
      · intro w hSw
        (try dsimp only at hSw)
        go_simp
        all_goals with_reducible rfl
      try simp only [Act.put, List.setIfInBounds_toArray, List.set_cons_zero, List.set_cons_succ]
      refine wpAnyH_take (i := 8) (oi := { dst := some 49, op := Go.Op.fieldAddr 53 (Go.Operand.tmp 2) 3, type := 0, pos := "law.go:31", after := #[{ on := 7, ground := Go.Ground.guard }], guard := some (7, true) }) (v := ?_) rfl (by kernel_rfl) (by kernel_rfl) (by kernel_rfl) (fun _ _ _ h => h) (Or.inl ⟨by rfl, ?_⟩) (by assumption) ?_
      rotate_left
      · intro w hSw
        (try dsimp only at hSw)
        go_simp
        all_goals with_reducible rfl
      try simp only [Act.put, List.setIfInBounds_toArray, List.set_cons_zero, List.set_cons_succ]
      refine wpAnyH_take (i := 9) (oi := { dst := some 50, op := Go.Op.load 51 (Go.Operand.tmp 49), type := 51, pos := "law.go:31", after := #[{ on := 8, ground := Go.Ground.data }, { on := 7, ground := Go.Ground.guard }], guard := some (7, true) }) (v := ?_) rfl (by kernel_rfl) (by kernel_rfl) (by kernel_rfl) (fun _ _ _ h => h) (Or.inl ⟨by rfl, ?_⟩) (by assumption) ?_
      rotate_left
      · intro w hSw
        have hc7 : w.cell? ⟨eb, 7, none⟩ = some (.int .i64 e.a.kind) := hSw.b.cell 7
        have hc8 : w.cell? ⟨eb, 8, none⟩ = some (.int .i64 e.a.key) := hSw.b.cell 8
        have hc9 : w.cell? ⟨eb, 9, none⟩ = some (.int .i64 e.a.val) := hSw.b.cell 9
        have hc10 : w.cell? ⟨eb, 10, none⟩ = some (.int .i64 e.a.n) := hSw.b.cell 10
        have hc11 : w.cell? ⟨eb, 11, none⟩ = some (.slice e.a.pA e.a.ps.length e.a.pc) := hSw.b.cell 11
        go_simp
        all_goals with_reducible rfl
      try simp only [Act.put, List.setIfInBounds_toArray, List.set_cons_zero, List.set_cons_succ]
      refine wpAnyH_take (i := 11) (oi := { dst := some 52, op := Go.Op.fieldAddr 53 (Go.Operand.tmp 2) 3, type := 0, pos := "law.go:31", after := #[{ on := 7, ground := Go.Ground.guard }], guard := some (7, true) }) (v := ?_) rfl (by kernel_rfl) (by kernel_rfl) (by kernel_rfl) (fun _ _ _ h => h) (Or.inl ⟨by rfl, ?_⟩) (by assumption) ?_
      rotate_left
      · intro w hSw
        (try dsimp only at hSw)
        go_simp
        all_goals with_reducible rfl
      try simp only [Act.put, List.setIfInBounds_toArray, List.set_cons_zero, List.set_cons_succ]
      refine wpAnyH_take (i := 12) (oi := { dst := some 53, op := Go.Op.load 51 (Go.Operand.tmp 52), type := 51, pos := "law.go:31", after := #[{ on := 11, ground := Go.Ground.data }, { on := 7, ground := Go.Ground.guard }], guard := some (7, true) }) (v := ?_) rfl (by kernel_rfl) (by kernel_rfl) (by kernel_rfl) (fun _ _ _ h => h) (Or.inl ⟨by rfl, ?_⟩) (by assumption) ?_
      rotate_left
      · intro w hSw
        have hc7 : w.cell? ⟨eb, 7, none⟩ = some (.int .i64 e.a.kind) := hSw.b.cell 7
        have hc8 : w.cell? ⟨eb, 8, none⟩ = some (.int .i64 e.a.key) := hSw.b.cell 8
        have hc9 : w.cell? ⟨eb, 9, none⟩ = some (.int .i64 e.a.val) := hSw.b.cell 9
        have hc10 : w.cell? ⟨eb, 10, none⟩ = some (.int .i64 e.a.n) := hSw.b.cell 10
        have hc11 : w.cell? ⟨eb, 11, none⟩ = some (.slice e.a.pA e.a.ps.length e.a.pc) := hSw.b.cell 11
        go_simp
        all_goals with_reducible rfl
      try simp only [Act.put, List.setIfInBounds_toArray, List.set_cons_zero, List.set_cons_succ]
      refine wpAnyH_ready (rs := [10]) (by kernel_rfl) (by simp) ?_
      refine AllReadyH.cons (o := { dst := some 51, op := Go.Op.call { callee := Go.Callee.value (Go.Operand.func 21), args := #[Go.Operand.tmp 50], argTypes := #[51] }, type := 9, pos := "law.go:31", after := #[{ on := 9, ground := Go.Ground.data }, { on := 7, ground := Go.Ground.chain }, { on := 7, ground := Go.Ground.guard }], guard := some (7, true) }) rfl (fun K hK => ?_) AllReadyH.nil
      go_simp
      refine (KTA.out _ hHeld.hk).mono ?_
      rintro r z ⟨rfl, hk⟩
      try simp only []
      refine hK.out _ _ (hHeld.keep hk) (fun hHeld => ?_)
      clear hK K
      try simp only [Act.put, List.setIfInBounds_toArray, List.set_cons_zero, List.set_cons_succ]
      refine wpAnyH_ready (rs := [13]) (by kernel_rfl) (by simp) ?_
      refine AllReadyH.cons (o := { dst := some 54, op := Go.Op.call { callee := Go.Callee.value (Go.Operand.func 22), args := #[Go.Operand.tmp 53], argTypes := #[51] }, type := 9, pos := "law.go:31", after := #[{ on := 12, ground := Go.Ground.data }, { on := 10, ground := Go.Ground.chain }, { on := 7, ground := Go.Ground.guard }], guard := some (7, true) }) rfl (fun K hK => ?_) AllReadyH.nil
      go_simp
      refine (KRA.out _ hHeld.hk).mono ?_
      rintro r z ⟨rfl, hk⟩
      try simp only []
      refine hK.out _ _ (hHeld.keep hk) (fun hHeld => ?_)
      clear hK K
      try simp only [Act.put, List.setIfInBounds_toArray, List.set_cons_zero, List.set_cons_succ]
      refine wpAnyH_take (i := 14) (oi := { dst := some 55, op := Go.Op.binOp Go.BinOp.eql 9 (Go.Operand.tmp 51) (Go.Operand.tmp 54) 9, type := 4, pos := "law.go:31", after := #[{ on := 10, ground := Go.Ground.data }, { on := 13, ground := Go.Ground.data }, { on := 7, ground := Go.Ground.guard }], guard := some (7, true) }) (v := ?_) rfl (by kernel_rfl) (by kernel_rfl) (by kernel_rfl) (fun _ _ _ h => h) (Or.inl ⟨by rfl, ?_⟩) (by assumption) ?_
      rotate_left
      · intro w hSw
        (try dsimp only at hSw)
        go_simp
        all_goals with_reducible rfl
      try simp only [Act.put, List.setIfInBounds_toArray, List.set_cons_zero, List.set_cons_succ]
      refine wpAnyH_take (i := 15) (oi := { dst := some 56, op := Go.Op.pick (Go.Operand.tmp 48) (Go.Operand.tmp 55) (Go.Operand.const (Go.Value.bool false)), type := 4, pos := "law.go:31", after := #[{ on := 7, ground := Go.Ground.data }, { on := 14, ground := Go.Ground.data }], guard := none }) (v := ?_) rfl (by kernel_rfl) (by kernel_rfl) (by kernel_rfl) (fun _ _ _ h => h) (Or.inl ⟨by rfl, ?_⟩) (by assumption) ?_
      rotate_left
      · intro w hSw
        (try dsimp only at hSw)
        go_simp
        all_goals with_reducible rfl
      try simp only [Act.put, List.setIfInBounds_toArray, List.set_cons_zero, List.set_cons_succ]
      refine wpAnyH_take (i := 16) (oi := { dst := some 57, op := Go.Op.move (Go.Operand.tmp 56), type := 4, pos := "law.go:31", after := #[{ on := 15, ground := Go.Ground.data }, { on := 13, ground := Go.Ground.chain }], guard := none }) (v := ?_) rfl (by kernel_rfl) (by kernel_rfl) (by kernel_rfl) (fun _ _ _ h => h) (Or.inl ⟨by rfl, ?_⟩) (by assumption) ?_
      rotate_left
      · intro w hSw
        (try dsimp only at hSw)
        go_simp
        all_goals with_reducible rfl
      try simp only [Act.put, List.setIfInBounds_toArray, List.set_cons_zero, List.set_cons_succ]
      refine wpAnyH_take (i := 17) (oi := { dst := some 58, op := Go.Op.load 53 (Go.Operand.tmp 2), type := 53, pos := "law.go:31", after := #[{ on := 16, ground := Go.Ground.guard }], guard := some (16, true) }) (v := ?_) rfl (by kernel_rfl) (by kernel_rfl) (by kernel_rfl) (fun _ _ _ h => h) (Or.inl ⟨by rfl, ?_⟩) (by assumption) ?_
      rotate_left
      · intro w hSw
        have hc0 : w.cell? ⟨eb, 0, none⟩ = some (.int .i64 e.thr) := hSw.b.cell 0
        have hc1 : w.cell? ⟨eb, 1, none⟩ = some (.bool e.back) := hSw.b.cell 1
        have hc2 : w.cell? ⟨eb, 2, none⟩ = some (.int .i64 e.c.op) := hSw.b.cell 2
        have hc3 : w.cell? ⟨eb, 3, none⟩ = some (.int .i64 e.c.key) := hSw.b.cell 3
        have hc4 : w.cell? ⟨eb, 4, none⟩ = some (.int .i64 e.c.val) := hSw.b.cell 4
        have hc5 : w.cell? ⟨eb, 5, none⟩ = some (.int .i64 e.c.hi) := hSw.b.cell 5
        have hc6 : w.cell? ⟨eb, 6, none⟩ = some (.int .i64 e.c.lim) := hSw.b.cell 6
        have hc7 : w.cell? ⟨eb, 7, none⟩ = some (.int .i64 e.a.kind) := hSw.b.cell 7
        have hc8 : w.cell? ⟨eb, 8, none⟩ = some (.int .i64 e.a.key) := hSw.b.cell 8
        have hc9 : w.cell? ⟨eb, 9, none⟩ = some (.int .i64 e.a.val) := hSw.b.cell 9
        have hc10 : w.cell? ⟨eb, 10, none⟩ = some (.int .i64 e.a.n) := hSw.b.cell 10
        have hc11 : w.cell? ⟨eb, 11, none⟩ = some (.slice e.a.pA e.a.ps.length e.a.pc) := hSw.b.cell 11
        go_simp
        all_goals with_reducible rfl
      try simp only [Act.put, List.setIfInBounds_toArray, List.set_cons_zero, List.set_cons_succ]
      refine wpAnyH_take (i := 19) (oi := { dst := some 60, op := Go.Op.load 53 (Go.Operand.tmp 2), type := 53, pos := "law.go:31", after := #[{ on := 16, ground := Go.Ground.guard }], guard := some (16, true) }) (v := ?_) rfl (by kernel_rfl) (by kernel_rfl) (by kernel_rfl) (fun _ _ _ h => h) (Or.inl ⟨by rfl, ?_⟩) (by assumption) ?_
      rotate_left
      · intro w hSw
        have hc0 : w.cell? ⟨eb, 0, none⟩ = some (.int .i64 e.thr) := hSw.b.cell 0
        have hc1 : w.cell? ⟨eb, 1, none⟩ = some (.bool e.back) := hSw.b.cell 1
        have hc2 : w.cell? ⟨eb, 2, none⟩ = some (.int .i64 e.c.op) := hSw.b.cell 2
        have hc3 : w.cell? ⟨eb, 3, none⟩ = some (.int .i64 e.c.key) := hSw.b.cell 3
        have hc4 : w.cell? ⟨eb, 4, none⟩ = some (.int .i64 e.c.val) := hSw.b.cell 4
        have hc5 : w.cell? ⟨eb, 5, none⟩ = some (.int .i64 e.c.hi) := hSw.b.cell 5
        have hc6 : w.cell? ⟨eb, 6, none⟩ = some (.int .i64 e.c.lim) := hSw.b.cell 6
        have hc7 : w.cell? ⟨eb, 7, none⟩ = some (.int .i64 e.a.kind) := hSw.b.cell 7
        have hc8 : w.cell? ⟨eb, 8, none⟩ = some (.int .i64 e.a.key) := hSw.b.cell 8
        have hc9 : w.cell? ⟨eb, 9, none⟩ = some (.int .i64 e.a.val) := hSw.b.cell 9
        have hc10 : w.cell? ⟨eb, 10, none⟩ = some (.int .i64 e.a.n) := hSw.b.cell 10
        have hc11 : w.cell? ⟨eb, 11, none⟩ = some (.slice e.a.pA e.a.ps.length e.a.pc) := hSw.b.cell 11
        go_simp
        all_goals with_reducible rfl
      try simp only [Act.put, List.setIfInBounds_toArray, List.set_cons_zero, List.set_cons_succ]
      refine wpAnyH_ready (rs := [18]) (by kernel_rfl) (by simp) ?_
      refine AllReadyH.cons (o := { dst := some 59, op := Go.Op.call { callee := Go.Callee.value (Go.Operand.func 23), args := #[Go.Operand.tmp 58], argTypes := #[53] }, type := 9, pos := "law.go:31", after := #[{ on := 17, ground := Go.Ground.data }, { on := 16, ground := Go.Ground.chain }, { on := 16, ground := Go.Ground.guard }], guard := some (16, true) }) rfl (fun K hK => ?_) AllReadyH.nil
      go_simp
      refine (KTE.out _ hHeld.hk).mono ?_
      rintro r z ⟨rfl, hk⟩
      try simp only []
      refine hK.out _ _ (hHeld.keep hk) (fun hHeld => ?_)
      clear hK K
      try simp only [Act.put, List.setIfInBounds_toArray, List.set_cons_zero, List.set_cons_succ]
      refine wpAnyH_ready (rs := [20]) (by kernel_rfl) (by simp) ?_
      refine AllReadyH.cons (o := { dst := some 61, op := Go.Op.call { callee := Go.Callee.value (Go.Operand.func 18), args := #[Go.Operand.tmp 60], argTypes := #[53] }, type := 9, pos := "law.go:31", after := #[{ on := 19, ground := Go.Ground.data }, { on := 18, ground := Go.Ground.chain }, { on := 16, ground := Go.Ground.guard }], guard := some (16, true) }) rfl (fun K hK => ?_) AllReadyH.nil
      go_simp
      refine (KRE.out _ hHeld.hk).mono ?_
      rintro r z ⟨rfl, hk⟩
      try simp only []
      refine hK.out _ _ (hHeld.keep hk) (fun hHeld => ?_)
      clear hK K
      try simp only [Act.put, List.setIfInBounds_toArray, List.set_cons_zero, List.set_cons_succ]
      refine wpAnyH_take (i := 21) (oi := { dst := some 62, op := Go.Op.binOp Go.BinOp.eql 9 (Go.Operand.tmp 59) (Go.Operand.tmp 61) 9, type := 4, pos := "law.go:31", after := #[{ on := 18, ground := Go.Ground.data }, { on := 20, ground := Go.Ground.data }, { on := 16, ground := Go.Ground.guard }], guard := some (16, true) }) (v := ?_) rfl (by kernel_rfl) (by kernel_rfl) (by kernel_rfl) (fun _ _ _ h => h) (Or.inl ⟨by rfl, ?_⟩) (by assumption) ?_
      rotate_left
      · intro w hSw
        (try dsimp only at hSw)
        go_simp
        all_goals with_reducible rfl
      try simp only [Act.put, List.setIfInBounds_toArray, List.set_cons_zero, List.set_cons_succ]
      refine wpAnyH_take (i := 22) (oi := { dst := some 63, op := Go.Op.pick (Go.Operand.tmp 57) (Go.Operand.tmp 62) (Go.Operand.const (Go.Value.bool false)), type := 4, pos := "law.go:31", after := #[{ on := 16, ground := Go.Ground.data }, { on := 21, ground := Go.Ground.data }], guard := none }) (v := ?_) rfl (by kernel_rfl) (by kernel_rfl) (by kernel_rfl) (fun _ _ _ h => h) (Or.inl ⟨by rfl, ?_⟩) (by assumption) ?_
      rotate_left
      · intro w hSw
        (try dsimp only at hSw)
        go_simp
        all_goals with_reducible rfl
      try simp only [Act.put, List.setIfInBounds_toArray, List.set_cons_zero, List.set_cons_succ]
      refine wpAnyH_take (i := 23) (oi := { dst := some 64, op := Go.Op.move (Go.Operand.tmp 63), type := 4, pos := "law.go:31", after := #[{ on := 22, ground := Go.Ground.data }, { on := 20, ground := Go.Ground.chain }], guard := none }) (v := ?_) rfl (by kernel_rfl) (by kernel_rfl) (by kernel_rfl) (fun _ _ _ h => h) (Or.inl ⟨by rfl, ?_⟩) (by assumption) ?_
      rotate_left
      · intro w hSw
        (try dsimp only at hSw)
        go_simp
        all_goals with_reducible rfl
      try simp only [Act.put, List.setIfInBounds_toArray, List.set_cons_zero, List.set_cons_succ]
      refine wpAnyH_take (i := 24) (oi := { dst := some 65, op := Go.Op.move (Go.Operand.tmp 1), type := 54, pos := "law.go:31", after := #[{ on := 23, ground := Go.Ground.guard }], guard := some (23, true) }) (v := ?_) rfl (by kernel_rfl) (by kernel_rfl) (by kernel_rfl) (fun _ _ _ h => h) (Or.inl ⟨by rfl, ?_⟩) (by assumption) ?_
      rotate_left
      · intro w hSw
        (try dsimp only at hSw)
        go_simp
        all_goals with_reducible rfl
      try simp only [Act.put, List.setIfInBounds_toArray, List.set_cons_zero, List.set_cons_succ]
      refine wpAnyH_take (i := 26) (oi := { dst := some 67, op := Go.Op.move (Go.Operand.tmp 5), type := 9, pos := "law.go:31", after := #[{ on := 23, ground := Go.Ground.guard }], guard := some (23, true) }) (v := ?_) rfl (by kernel_rfl) (by kernel_rfl) (by kernel_rfl) (fun _ _ _ h => h) (Or.inl ⟨by rfl, ?_⟩) (by assumption) ?_
      rotate_left
      · intro w hSw
        (try dsimp only at hSw)
        go_simp
        all_goals with_reducible rfl
      try simp only [Act.put, List.setIfInBounds_toArray, List.set_cons_zero, List.set_cons_succ]
      refine wpAnyH_ready (rs := [25]) (by kernel_rfl) (by simp) ?_
      refine AllReadyH.cons (o := { dst := some 66, op := Go.Op.call { callee := Go.Callee.value (Go.Operand.func 24), args := #[Go.Operand.tmp 65], argTypes := #[54] }, type := 9, pos := "law.go:31", after := #[{ on := 24, ground := Go.Ground.data }, { on := 23, ground := Go.Ground.chain }, { on := 23, ground := Go.Ground.guard }], guard := some (23, true) }) rfl (fun K hK => ?_) AllReadyH.nil
      go_simp
      refine (KTH.out _ hHeld.hk).mono ?_
      rintro r z ⟨rfl, hk⟩
      try simp only []
      refine hK.out _ _ (hHeld.keep hk) (fun hHeld => ?_)
      clear hK K
      try simp only [Act.put, List.setIfInBounds_toArray, List.set_cons_zero, List.set_cons_succ]
      refine wpAnyH_take (i := 27) (oi := { dst := some 68, op := Go.Op.binOp Go.BinOp.eql 9 (Go.Operand.tmp 66) (Go.Operand.tmp 67) 9, type := 4, pos := "law.go:31", after := #[{ on := 25, ground := Go.Ground.data }, { on := 26, ground := Go.Ground.data }, { on := 23, ground := Go.Ground.guard }], guard := some (23, true) }) (v := ?_) rfl (by kernel_rfl) (by kernel_rfl) (by kernel_rfl) (fun _ _ _ h => h) (Or.inl ⟨by rfl, ?_⟩) (by assumption) ?_
      rotate_left
      · intro w hSw
        (try dsimp only at hSw)
        go_simp
        all_goals with_reducible rfl
      try simp only [Act.put, List.setIfInBounds_toArray, List.set_cons_zero, List.set_cons_succ]
      refine wpAnyH_take (i := 28) (oi := { dst := some 69, op := Go.Op.pick (Go.Operand.tmp 64) (Go.Operand.tmp 68) (Go.Operand.const (Go.Value.bool false)), type := 4, pos := "law.go:31", after := #[{ on := 23, ground := Go.Ground.data }, { on := 27, ground := Go.Ground.data }], guard := none }) (v := ?_) rfl (by kernel_rfl) (by kernel_rfl) (by kernel_rfl) (fun _ _ _ h => h) (Or.inl ⟨by rfl, ?_⟩) (by assumption) ?_
      rotate_left
      · intro w hSw
        (try dsimp only at hSw)
        go_simp
        all_goals with_reducible rfl
      try simp only [Act.put, List.setIfInBounds_toArray, List.set_cons_zero, List.set_cons_succ]
      refine wpAnyH_take (i := 29) (oi := { dst := some 70, op := Go.Op.move (Go.Operand.tmp 69), type := 4, pos := "law.go:31", after := #[{ on := 28, ground := Go.Ground.data }, { on := 25, ground := Go.Ground.chain }], guard := none }) (v := ?_) rfl (by kernel_rfl) (by kernel_rfl) (by kernel_rfl) (fun _ _ _ h => h) (Or.inl ⟨by rfl, ?_⟩) (by assumption) ?_
      rotate_left
      · intro w hSw
        (try dsimp only at hSw)
        go_simp
        all_goals with_reducible rfl
      try simp only [Act.put, List.setIfInBounds_toArray, List.set_cons_zero, List.set_cons_succ]
      refine wpAnyH_ready (rs := [30]) (by kernel_rfl) (by simp) ?_
      refine AllReadyH.cons (o := { dst := some 71, op := Go.Op.call { callee := Go.Callee.value (Go.Operand.func 17), args := #[], argTypes := #[] }, type := 4, pos := "law.go:31", after := #[{ on := 29, ground := Go.Ground.chain }, { on := 29, ground := Go.Ground.guard }], guard := some (29, true) }) rfl (fun K hK => ?_) AllReadyH.nil
      go_simp
      refine (KV.out _ hHeld.hk).mono ?_
      rintro r z ⟨rfl, hk⟩
      try simp only []
      refine hK.out _ _ (hHeld.keep hk) (fun hHeld => ?_)
      clear hK K
      try simp only [Act.put, List.setIfInBounds_toArray, List.set_cons_zero, List.set_cons_succ]
      refine wpAnyH_take (i := 31) (oi := { dst := some 72, op := Go.Op.pick (Go.Operand.tmp 70) (Go.Operand.tmp 71) (Go.Operand.const (Go.Value.bool false)), type := 4, pos := "law.go:31", after := #[{ on := 29, ground := Go.Ground.data }, { on := 30, ground := Go.Ground.data }], guard := none }) (v := ?_) rfl (by kernel_rfl) (by kernel_rfl) (by kernel_rfl) (fun _ _ _ h => h) (Or.inl ⟨by rfl, ?_⟩) (by assumption) ?_
      rotate_left
      · intro w hSw
        (try dsimp only at hSw)
        go_simp
        all_goals with_reducible rfl
      try simp only [Act.put, List.setIfInBounds_toArray, List.set_cons_zero, List.set_cons_succ]
      refine wpAnyH_take (i := 32) (oi := { dst := some 4, op := Go.Op.assign (Go.Operand.tmp 72), type := 4, pos := "law.go:31", after := #[{ on := 31, ground := Go.Ground.data }, { on := 30, ground := Go.Ground.chain }, { on := 0, ground := Go.Ground.phase }, { on := 1, ground := Go.Ground.phase }, { on := 2, ground := Go.Ground.phase }, { on := 3, ground := Go.Ground.phase }, { on := 4, ground := Go.Ground.phase }, { on := 5, ground := Go.Ground.phase }, { on := 6, ground := Go.Ground.phase }, { on := 7, ground := Go.Ground.phase }, { on := 8, ground := Go.Ground.phase }, { on := 9, ground := Go.Ground.phase }, { on := 10, ground := Go.Ground.phase }, { on := 11, ground := Go.Ground.phase }, { on := 12, ground := Go.Ground.phase }, { on := 13, ground := Go.Ground.phase }, { on := 14, ground := Go.Ground.phase }, { on := 15, ground := Go.Ground.phase }, { on := 16, ground := Go.Ground.phase }, { on := 17, ground := Go.Ground.phase }, { on := 18, ground := Go.Ground.phase }, { on := 19, ground := Go.Ground.phase }, { on := 20, ground := Go.Ground.phase }, { on := 21, ground := Go.Ground.phase }, { on := 22, ground := Go.Ground.phase }, { on := 23, ground := Go.Ground.phase }, { on := 24, ground := Go.Ground.phase }, { on := 25, ground := Go.Ground.phase }, { on := 26, ground := Go.Ground.phase }, { on := 27, ground := Go.Ground.phase }, { on := 28, ground := Go.Ground.phase }, { on := 29, ground := Go.Ground.phase }, { on := 30, ground := Go.Ground.phase }, { on := 31, ground := Go.Ground.phase }], guard := none }) (v := ?_) rfl (by kernel_rfl) (by kernel_rfl) (by kernel_rfl) (fun _ _ _ h => h) (Or.inl ⟨by rfl, ?_⟩) (by assumption) ?_
      rotate_left
      · intro w hSw
        (try dsimp only at hSw)
        go_simp
        all_goals with_reducible rfl
      try simp only [Act.put, List.setIfInBounds_toArray, List.set_cons_zero, List.set_cons_succ]
      refine wpAnyH_done (by kernel_rfl) ?_ _
      have HRF := Lib.hid hHeld
      clear hHeld KTC KRC KTA KRA KTE KRE KTH KV
      go_wp2_with fail
      go_ret
      exact ⟨rfl, HRF.out.hk⟩
end Go.Proofs.YtnhkjfknhponkaaDoor
