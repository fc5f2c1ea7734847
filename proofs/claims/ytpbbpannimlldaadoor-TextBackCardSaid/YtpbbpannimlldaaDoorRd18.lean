/- TextBack: the law's walk. Conditions: the library's tables and errors are as they were laid; what comes in is events. -/
import Derived.Test.YtpbbpannimlldaaDoorRd17
import Derived.Test.YtpbbpannimlldaaDoorRdK
import Derived.Test.YtpbbpannimlldaaDoorTx9
namespace Go.Proofs.YtpbbpannimlldaaDoor
open Go.RowKit

def BkS (w wx : World) : Prop := Keep [] w wx
theorem hisR_err : ∀ {ls : List (List UInt8)} {k : Int}, hisR ls = .error k → k ≠ 0
  | [], k, h => by cases h
  | [x], k, h => by
    rw [hisR_one] at h
    by_cases hx : x = []
    · rw [if_pos hx] at h; cases h
    · rw [if_neg hx] at h
      cases hv : evR x with
      | ok e => rw [hv] at h; injection h with h; subst h; decide
      | error k2 => rw [hv] at h; injection h with h; subst h; exact evR_err hv
  | x :: y :: r, k, h => by
    rw [hisR_more] at h
    cases hv : evR x with
    | error k2 => rw [hv] at h; injection h with h; subst h; exact evR_err hv
    | ok e =>
      rw [hv] at h
      cases hr : hisR (y :: r) with
      | error k2 => rw [hr] at h; injection h with h; subst h; exact hisR_err hr
      | ok l => rw [hr] at h; cases h
theorem readH_err {s : List UInt8} {k : Int} (h : readH s = .error k) : k ≠ 0 := hisR_err h
theorem ansZ_len2 (a : AnsX) (h : a.Fit) (hl : a.ps.length ≤ 200) : (ansZ a).length ≤ 9000 := by
  rw [ansZ_eq, List.length_append]
  have h1 := kindB_len a.kind
  have h2 := pairsB_len a.ps h.ps
  have h3 := numsB_len [a.key, a.val] (fun m hm => by
    simp only [List.mem_cons, List.not_mem_nil, or_false] at hm
    rcases hm with rfl | rfl
    · exact h.key
    · exact h.val)
  have h4 := numsB_len [a.n] (fun m hm => by rw [List.mem_singleton.1 hm]; exact h.n)
  simp only [List.length_cons, List.length_nil] at h3 h4
  split
  · omega
  · split
    · omega
    · split
      · omega
      · rw [List.length_nil]; omega
theorem histZ_bare (l : List EvX) : histZ (l.map bareE) = histZ l := by
  unfold histZ
  rw [List.flatMap_map]
  rfl
set_option maxRecDepth 100000 in
set_option maxHeartbeats 8000000 in
theorem text_back (w : World) (A : Option Addr) (l : List EvX) (cap : Nat) (s : List UInt8) (hE : ElAt evL w A l) (hi : ∀ x ∈ l, EvIn w x) (ht : TabsOk w) : Calls Tryd.prog 5 #[.slice A l.length cap, .string ⟨s.toArray⟩] w (TrueOut w) := by
  have KV := Lib.hid (fun (W : World) (hk : Keep [] w W) => law35_lives W (ht.tab.keep hk))
  unfold TrueOut at KV
  have HE := Lib.hid hE
  have HI := Lib.hid hi
  have HT := Lib.hid ht
  clear hE hi ht
  by_cases h60 : 60 < l.length
  · have hz : (60 : Int) < ((l.length : Nat) : Int) := by omega
    clear h60
    go_enter Tryd.func5, Tryd.ntmps5
    go_wp2_with fail
    refine (KV.out _ (Keep.refl _ _)).mono ?_
    rintro r x ⟨rfl, hk⟩
    have HK := Lib.hid hk
    clear hk
    go_wp2_with fail
    go_ret
    exact ⟨rfl, HK.out⟩
  have hz60 : ¬ (60 : Int) < ((l.length : Nat) : Int) := by omega
  have HL : Hid (l.length ≤ 60) := Lib.hid (by omega)
  clear h60
  by_cases h4 : 4000 < s.length
  · have hz : (4000 : Int) < ((s.length : Nat) : Int) := by omega
    clear h4
    go_enter Tryd.func5, Tryd.ntmps5
    go_wp2_with fail
    refine (KV.out _ (Keep.refl _ _)).mono ?_
    rintro r x ⟨rfl, hk⟩
    have HK := Lib.hid hk
    clear hk
    go_wp2_with fail
    go_ret
    exact ⟨rfl, HK.out⟩
  have hz4 : ¬ (4000 : Int) < ((s.length : Nat) : Int) := by omega
  have HS4 : Hid (s.length ≤ 4000) := Lib.hid (by omega)
  clear h4
  have KH := Lib.hid (text_readHistory s w (by have := HS4.out; omega) HT.out)
  unfold ReadHOut at KH
  have hl0 : ((l.length : Nat) : Int) ≤ 60 := by have := HL.out; omega
  have hnb : ∀ x : List UInt8, (x != x) = false := fun x => bne_self_eq_false x
  have hnn : ∀ x : List UInt8, (x == x) = true := fun x => beq_self_eq_true x
  have hnk : ∀ x : Int, (x != x) = false := fun x => bne_self_eq_false x
  go_enter Tryd.func5, Tryd.ntmps5
  go_wp2_with fail
  clear hz60 hz4
  refine KH.out.mono ?_
  rintro r w1 ⟨hk, hout⟩
  have HK1 := Lib.hid hk
  clear KH
  cases hr : readH s with
  | error k =>
    rw [hr] at hout
    subst hout
    have hk0 : (k == 0) = false := by rw [beq_eq_false_iff_ne]; exact readH_err hr
    clear hk hr
    go_wp2_with fail
    clear hk0
    go_loopg [7] l.length (fun g v7 wr => ∃ k : Nat, k ≤ l.length ∧ g = l.length - k ∧ v7 = .int .i64 (k : Nat) ∧ Keep [] w wr)
    case atStart => exact ⟨0, Nat.zero_le _, rfl, rfl, HK1.out⟩
    case round =>
      obtain ⟨k, hk, rfl, rfl, hkw⟩ := hrel
      have HR := Lib.hid hkw
      clear hkw HK1
      have hk0 : (0 : Int) ≤ ((k : Nat) : Int) := by omega
      have hk6 : ((k : Nat) : Int) ≤ 60 := by omega
      by_cases hlt : k < l.length
      · have hz : ((k : Nat) : Int) < ((l.length : Nat) : Int) := by omega
        obtain ⟨b, o, hA, _, c0, c1, c2, c3, c4, c5, c6, c7, c8, c9, c10, c11⟩ := (HE.out.keep HR.out).at_evx hlt
        subst hA
        have HXI := Lib.hid (HI.out (l.getD k ev0) (by rw [List.getD_eq_getElem?_getD, List.getElem?_eq_getElem hlt]; exact List.getElem_mem hlt))
        have HLT := Lib.hid hlt
        clear hlt
        generalize l.getD k ev0 = q at *
        by_cases hq : 200 < q.a.ps.length
        · have hz2 : (200 : Int) < ((q.a.ps.length : Nat) : Int) := by omega
          clear hq
          go_wp2_with fail
          refine (KV.out _ HR.out).mono ?_
          rintro r x ⟨rfl, hk⟩
          have HK := Lib.hid (HR.out.trans hk (by simp))
          clear hk
          go_wp2_with fail
          go_ret
          exact ⟨rfl, HK.out⟩
        have hz2 : ¬ (200 : Int) < ((q.a.ps.length : Nat) : Int) := by omega
        have HPL : Hid (q.a.ps.length ≤ 200) := Lib.hid (by omega)
        clear hq
        go_upto_region 11 with fail
        clear hz2
        have KA : Hid (∀ W, Keep [] w W → Calls Tryd.prog 17 #[.agg #[.int .i64 q.a.kind, .int .i64 q.a.key, .int .i64 q.a.val, .int .i64 q.a.n, .slice q.a.pA q.a.ps.length q.a.pc]] W (TextOut (ansZ q.a) W)) := Lib.hid (fun W hk => text_answer q.a HXI.out.fit.a W (HXI.out.row.keep hk) (by have := HPL.out; omega) (HT.out.tab.keep hk))
        have KC : Hid (∀ W, Keep [] w W → Calls Tryd.prog 18 #[.agg #[.int .i64 q.c.op, .int .i64 q.c.key, .int .i64 q.c.val, .int .i64 q.c.hi, .int .i64 q.c.lim]] W (TextOut (callZ q.c) W)) := Lib.hid (fun W hk => text_call q.c HXI.out.fit.c W (HT.out.tab.keep hk))
        have HAL := Lib.hid (ansZ_len q.a HXI.out.fit.a (by have := HPL.out; omega))
        have HAL2 := Lib.hid (ansZ_len2 q.a HXI.out.fit.a HPL.out)
        have HCL := Lib.hid (callZ_len q.c HXI.out.fit.c)
        have HFA := Lib.hid HXI.out.fit.a
        have HFC := Lib.hid HXI.out.fit.c
        unfold TextOut at KA KC
        go_upto_region 12 with fail
        have HA1 := Lib.hid (Blk.new wr 33 #[.int .i64 q.a.kind, .int .i64 q.a.key, .int .i64 q.a.val, .int .i64 q.a.n, .slice q.a.pA q.a.ps.length q.a.pc])
        have HK1_ := Lib.hid ((Keep.refl [] wr).alloc (.cells #[.int .i64 q.a.kind, .int .i64 q.a.key, .int .i64 q.a.val, .int .i64 q.a.n, .slice q.a.pA q.a.ps.length q.a.pc] 33))
        generalize wr.heap.size = ab at HA1 ⊢
        generalize wr.alloc _ = w3 at HA1 HK1_ ⊢
        have e0 : w3.cell? ⟨ab, 0, none⟩ = some (.int .i64 q.a.kind) := HA1.out.cell 0
        have e1 : w3.cell? ⟨ab, 1, none⟩ = some (.int .i64 q.a.key) := HA1.out.cell 1
        have e2 : w3.cell? ⟨ab, 2, none⟩ = some (.int .i64 q.a.val) := HA1.out.cell 2
        have e3 : w3.cell? ⟨ab, 3, none⟩ = some (.int .i64 q.a.n) := HA1.out.cell 3
        have e4 : w3.cell? ⟨ab, 4, none⟩ = some (.slice q.a.pA q.a.ps.length q.a.pc) := HA1.out.cell 4
        by_cases haz : ansZ q.a = []
        · rw [haz] at KA
          go_wp2_with fail
          refine (KA.out _ (HR.out.trans HK1_.out (by simp))).mono ?_
          rintro r w4 ⟨rfl, hk⟩
          have HK4_ := Lib.hid (HK1_.out.trans hk (by simp))
          clear hk HK1_ HA1 e0 e1 e2 e3 e4
          have c2_ := cell_keep0 c2 HK4_.out
          have c3_ := cell_keep0 c3 HK4_.out
          have c4_ := cell_keep0 c4 HK4_.out
          have c5_ := cell_keep0 c5 HK4_.out
          have c6_ := cell_keep0 c6 HK4_.out
          go_upto_region 17 with fail
          clear c2_ c3_ c4_ c5_ c6_
          have HC1 := Lib.hid (Blk.new w4 26 #[.int .i64 q.c.op, .int .i64 q.c.key, .int .i64 q.c.val, .int .i64 q.c.hi, .int .i64 q.c.lim])
          have HK3 := Lib.hid (HK4_.out.alloc (.cells #[.int .i64 q.c.op, .int .i64 q.c.key, .int .i64 q.c.val, .int .i64 q.c.hi, .int .i64 q.c.lim] 26))
          generalize w4.heap.size = cb at HC1 ⊢
          generalize w4.alloc _ = v1 at HC1 HK3 ⊢
          clear HK4_
          have d0 : v1.cell? ⟨cb, 0, none⟩ = some (.int .i64 q.c.op) := HC1.out.cell 0
          have d1 : v1.cell? ⟨cb, 1, none⟩ = some (.int .i64 q.c.key) := HC1.out.cell 1
          have d2 : v1.cell? ⟨cb, 2, none⟩ = some (.int .i64 q.c.val) := HC1.out.cell 2
          have d3 : v1.cell? ⟨cb, 3, none⟩ = some (.int .i64 q.c.hi) := HC1.out.cell 3
          have d4 : v1.cell? ⟨cb, 4, none⟩ = some (.int .i64 q.c.lim) := HC1.out.cell 4
          by_cases hcz : callZ q.c = []
          · rw [hcz] at KC
            go_wp2_with fail
            refine (KC.out _ (HR.out.trans HK3.out (by simp))).mono ?_
            rintro r v2 ⟨rfl, hk⟩
            have HK4 := Lib.hid (HK3.out.trans hk (by simp))
            clear hk HK3 HC1
            go_wp2_with fail
            go_roundg (l.length - (k + 1))
            case measure => have := HLT.out; omega
            case rel => exact ⟨k + 1, HLT.out, rfl, by go_num, HR.out.trans HK4.out (by simp)⟩
          · obtain ⟨c2, hrd, hop⟩ := callZ_back HFC.out hcz
            obtain ⟨hb, hf2⟩ := readC_back hrd
            rw [jn_cut] at hb
            have HCL3 := HCL.out
            obtain ⟨x0, xt, hxz⟩ := List.exists_cons_of_ne_nil hcz
            have HOP := Lib.hid hop
            have hcp : callPair (callZ q.c) = (c2, 0) := by unfold callPair; rw [hrd]
            have KR := Lib.hid (fun (W : World) (hk : Keep [] w W) => text_readCall (callZ q.c) W (by omega) (HT.out.keep hk))
            unfold ReadCOut at KR
            rw [hcp] at KR
            dsimp only at KR
            rw [show c2.cells = #[.int .i64 c2.op, .int .i64 c2.key, .int .i64 c2.val, .int .i64 c2.hi, .int .i64 c2.lim] from rfl, hop] at KR
            have hcx : callZ ⟨q.c.op, c2.key, c2.val, c2.hi, c2.lim⟩ = callZ q.c := by
              rw [← hop]
              exact hb
            have KY := Lib.hid (fun (W : World) (hk : Keep [] w W) => text_call ⟨q.c.op, c2.key, c2.val, c2.hi, c2.lim⟩ ⟨hf2.key, hf2.val, hf2.hi, hf2.lim⟩ W (HT.out.tab.keep hk))
            unfold TextOut at KY
            rw [hcx, show CallX.cells ⟨q.c.op, c2.key, c2.val, c2.hi, c2.lim⟩ = #[.int .i64 q.c.op, .int .i64 c2.key, .int .i64 c2.val, .int .i64 c2.hi, .int .i64 c2.lim] from rfl] at KY
            rw [hxz] at KC KR KY
            clear hrd hop hb hf2 hcp hcx hxz HCL3 hcz
            go_wp2_with fail
            refine (KC.out _ (HR.out.trans HK3.out (by simp))).mono ?_
            rintro r v2 ⟨rfl, hk⟩
            have HK4 := Lib.hid (HK3.out.trans hk (by simp))
            have HC2 := Lib.hid (HC1.out.keep hk (by simp))
            clear hk HK3 HC1
            have d0 : v2.cell? ⟨cb, 0, none⟩ = some (.int .i64 q.c.op) := HC2.out.cell 0
            have d1 : v2.cell? ⟨cb, 1, none⟩ = some (.int .i64 q.c.key) := HC2.out.cell 1
            have d2 : v2.cell? ⟨cb, 2, none⟩ = some (.int .i64 q.c.val) := HC2.out.cell 2
            have d3 : v2.cell? ⟨cb, 3, none⟩ = some (.int .i64 q.c.hi) := HC2.out.cell 3
            have d4 : v2.cell? ⟨cb, 4, none⟩ = some (.int .i64 q.c.lim) := HC2.out.cell 4
            go_wp2_with fail
            refine (KC.out _ (HR.out.trans HK4.out (by simp))).mono ?_
            rintro r v3 ⟨rfl, hk⟩
            have HK5 := Lib.hid (HK4.out.trans hk (by simp))
            have HC3 := Lib.hid (HC2.out.keep hk (by simp))
            clear hk HK4 HC2
            go_wp2_with fail
            refine (KR.out _ (HR.out.trans HK5.out (by simp))).mono ?_
            rintro r v4 ⟨rfl, hk⟩
            have HK6 := Lib.hid (HK5.out.trans hk (by simp))
            have HC4 := Lib.hid (HC3.out.keep hk (by simp))
            clear hk HK5 HC3
            go_upto_region 19 with fail
            have HD7 := Lib.hid (Blk.new v4 26 #[.int .i64 q.c.op, .int .i64 c2.key, .int .i64 c2.val, .int .i64 c2.hi, .int .i64 c2.lim])
            have HC7 := Lib.hid (HC4.out.alloc (.cells #[.int .i64 q.c.op, .int .i64 c2.key, .int .i64 c2.val, .int .i64 c2.hi, .int .i64 c2.lim] 26))
            have HK7 := Lib.hid (HK6.out.alloc (.cells #[.int .i64 q.c.op, .int .i64 c2.key, .int .i64 c2.val, .int .i64 c2.hi, .int .i64 c2.lim] 26))
            generalize v4.heap.size = db at HD7 ⊢
            generalize v4.alloc _ = v5 at HD7 HC7 HK7 ⊢
            clear HK6 HC4
            have KCW := Lib.hid (fun (W : World) (hk : Keep [] wr W) => KC.out W (HR.out.trans hk (by simp)))
            have KYW := Lib.hid (fun (W : World) (hk : Keep [] wr W) => KY.out W (HR.out.trans hk (by simp)))
            refine wp_region_held_drew (S := (fun w' => Blk w' db 26 #[.int .i64 q.c.op, .int .i64 c2.key, .int .i64 c2.val, .int .i64 c2.hi, .int .i64 c2.lim] ∧ Blk w' cb 26 #[.int .i64 q.c.op, .int .i64 q.c.key, .int .i64 q.c.val, .int .i64 q.c.hi, .int .i64 q.c.lim] ∧ Keep [] wr w')) (by kernel_rfl) ⟨HD7.out.drew, HC7.out.drew, HK7.out.drew⟩ (fun hHeld => ?_)
            refine wpAnyH_take (i := 0) (oi := { dst := some 95, op := Go.Op.move (Go.Operand.tmp 13), type := 27, pos := "law.go:80", after := #[], guard := none }) (v := ?_) rfl (by kernel_rfl) (by kernel_rfl) (by kernel_rfl) (fun _ _ _ h => h) (Or.inl ⟨by rfl, ?_⟩) (by assumption) ?_
            rotate_left
            · intro w hSw
              (try dsimp only at hSw)
              go_simp
              all_goals with_reducible rfl
            try simp only [Act.put, List.setIfInBounds_toArray, List.set_cons_zero, List.set_cons_succ]
            refine wpAnyH_take (i := 1) (oi := { dst := some 96, op := Go.Op.binOp Go.BinOp.neq 27 (Go.Operand.tmp 95) (Go.Operand.const (Go.Value.int Go.IntKind.i64 0)) 27, type := 4, pos := "law.go:80", after := #[{ on := 0, ground := Go.Ground.data }], guard := none }) (v := ?_) rfl (by kernel_rfl) (by kernel_rfl) (by kernel_rfl) (fun _ _ _ h => h) (Or.inl ⟨by rfl, ?_⟩) (by assumption) ?_
            rotate_left
            · intro w hSw
              (try dsimp only at hSw)
              go_simp
              all_goals with_reducible rfl
            try simp only [Act.put, List.setIfInBounds_toArray, List.set_cons_zero, List.set_cons_succ]
            refine wpAnyH_take (i := 2) (oi := { dst := some 97, op := Go.Op.move (Go.Operand.tmp 96), type := 4, pos := "law.go:80", after := #[{ on := 1, ground := Go.Ground.data }], guard := none }) (v := ?_) rfl (by kernel_rfl) (by kernel_rfl) (by kernel_rfl) (fun _ _ _ h => h) (Or.inl ⟨by rfl, ?_⟩) (by assumption) ?_
            rotate_left
            · intro w hSw
              (try dsimp only at hSw)
              go_simp
              all_goals with_reducible rfl
            try simp only [Act.put, List.setIfInBounds_toArray, List.set_cons_zero, List.set_cons_succ]
            refine wpAnyH_take (i := 3) (oi := { dst := some 98, op := Go.Op.fieldAddr 26 (Go.Operand.tmp 12) 0, type := 0, pos := "law.go:80", after := #[{ on := 2, ground := Go.Ground.guard }], guard := some (2, false) }) (v := ?_) rfl (by kernel_rfl) (by kernel_rfl) (by kernel_rfl) (fun _ _ _ h => h) (Or.inl ⟨by rfl, ?_⟩) (by assumption) ?_
            rotate_left
            · intro w hSw
              (try dsimp only at hSw)
              go_simp
              all_goals with_reducible rfl
            try simp only [Act.put, List.setIfInBounds_toArray, List.set_cons_zero, List.set_cons_succ]
            refine wpAnyH_take (i := 4) (oi := { dst := some 99, op := Go.Op.load 3 (Go.Operand.tmp 98), type := 3, pos := "law.go:80", after := #[{ on := 3, ground := Go.Ground.data }, { on := 2, ground := Go.Ground.guard }], guard := some (2, false) }) (v := ?_) rfl (by kernel_rfl) (by kernel_rfl) (by kernel_rfl) (fun _ _ _ h => h) (Or.inl ⟨by rfl, ?_⟩) (by assumption) ?_
            rotate_left
            · intro w hSw
              have hc : w.cell? ⟨db, 0, none⟩ = some (.int .i64 q.c.op) := hSw.1.cell 0
              go_simp
              all_goals with_reducible rfl
            try simp only [Act.put, List.setIfInBounds_toArray, List.set_cons_zero, List.set_cons_succ]
            refine wpAnyH_take (i := 5) (oi := { dst := some 100, op := Go.Op.fieldAddr 26 (Go.Operand.tmp 11) 0, type := 0, pos := "law.go:80", after := #[{ on := 2, ground := Go.Ground.guard }], guard := some (2, false) }) (v := ?_) rfl (by kernel_rfl) (by kernel_rfl) (by kernel_rfl) (fun _ _ _ h => h) (Or.inl ⟨by rfl, ?_⟩) (by assumption) ?_
            rotate_left
            · intro w hSw
              (try dsimp only at hSw)
              go_simp
              all_goals with_reducible rfl
            try simp only [Act.put, List.setIfInBounds_toArray, List.set_cons_zero, List.set_cons_succ]
            refine wpAnyH_take (i := 6) (oi := { dst := some 101, op := Go.Op.load 3 (Go.Operand.tmp 100), type := 3, pos := "law.go:80", after := #[{ on := 5, ground := Go.Ground.data }, { on := 2, ground := Go.Ground.guard }], guard := some (2, false) }) (v := ?_) rfl (by kernel_rfl) (by kernel_rfl) (by kernel_rfl) (fun _ _ _ h => h) (Or.inl ⟨by rfl, ?_⟩) (by assumption) ?_
            rotate_left
            · intro w hSw
              have hc : w.cell? ⟨cb, 0, none⟩ = some (.int .i64 q.c.op) := hSw.2.1.cell 0
              go_simp
              all_goals with_reducible rfl
            try simp only [Act.put, List.setIfInBounds_toArray, List.set_cons_zero, List.set_cons_succ]
            refine wpAnyH_take (i := 7) (oi := { dst := some 102, op := Go.Op.binOp Go.BinOp.neq 3 (Go.Operand.tmp 99) (Go.Operand.tmp 101) 3, type := 4, pos := "law.go:80", after := #[{ on := 4, ground := Go.Ground.data }, { on := 6, ground := Go.Ground.data }, { on := 2, ground := Go.Ground.guard }], guard := some (2, false) }) (v := ?_) rfl (by kernel_rfl) (by kernel_rfl) (by kernel_rfl) (fun _ _ _ h => h) (Or.inl ⟨by rfl, ?_⟩) (by assumption) ?_
            rotate_left
            · intro w hSw
              (try dsimp only at hSw)
              go_simp
              all_goals with_reducible rfl
            try simp only [Act.put, List.setIfInBounds_toArray, List.set_cons_zero, List.set_cons_succ]
            refine wpAnyH_take (i := 8) (oi := { dst := some 103, op := Go.Op.pick (Go.Operand.tmp 97) (Go.Operand.const (Go.Value.bool true)) (Go.Operand.tmp 102), type := 4, pos := "law.go:80", after := #[{ on := 2, ground := Go.Ground.data }, { on := 7, ground := Go.Ground.data }], guard := none }) (v := ?_) rfl (by kernel_rfl) (by kernel_rfl) (by kernel_rfl) (fun _ _ _ h => h) (Or.inl ⟨by rfl, ?_⟩) (by assumption) ?_
            rotate_left
            · intro w hSw
              (try dsimp only at hSw)
              go_simp
              all_goals with_reducible rfl
            try simp only [Act.put, List.setIfInBounds_toArray, List.set_cons_zero, List.set_cons_succ]
            refine wpAnyH_take (i := 9) (oi := { dst := some 104, op := Go.Op.move (Go.Operand.tmp 103), type := 4, pos := "law.go:80", after := #[{ on := 8, ground := Go.Ground.data }, { on := 2, ground := Go.Ground.chain }], guard := none }) (v := ?_) rfl (by kernel_rfl) (by kernel_rfl) (by kernel_rfl) (fun _ _ _ h => h) (Or.inl ⟨by rfl, ?_⟩) (by assumption) ?_
            rotate_left
            · intro w hSw
              (try dsimp only at hSw)
              go_simp
              all_goals with_reducible rfl
            try simp only [Act.put, List.setIfInBounds_toArray, List.set_cons_zero, List.set_cons_succ]
            refine wpAnyH_take (i := 10) (oi := { dst := some 105, op := Go.Op.load 26 (Go.Operand.tmp 12), type := 26, pos := "law.go:80", after := #[{ on := 9, ground := Go.Ground.guard }], guard := some (9, false) }) (v := ?_) rfl (by kernel_rfl) (by kernel_rfl) (by kernel_rfl) (fun _ _ _ h => h) (Or.inl ⟨by rfl, ?_⟩) (by assumption) ?_
            rotate_left
            · intro w hSw
              have hc0 : w.cell? ⟨db, 0, none⟩ = some (.int .i64 q.c.op) := hSw.1.cell 0
              have hc1 : w.cell? ⟨db, 1, none⟩ = some (.int .i64 c2.key) := hSw.1.cell 1
              have hc2 : w.cell? ⟨db, 2, none⟩ = some (.int .i64 c2.val) := hSw.1.cell 2
              have hc3 : w.cell? ⟨db, 3, none⟩ = some (.int .i64 c2.hi) := hSw.1.cell 3
              have hc4 : w.cell? ⟨db, 4, none⟩ = some (.int .i64 c2.lim) := hSw.1.cell 4
              go_simp
              all_goals with_reducible rfl
            try simp only [Act.put, List.setIfInBounds_toArray, List.set_cons_zero, List.set_cons_succ]
            refine wpAnyH_take (i := 12) (oi := { dst := some 107, op := Go.Op.load 26 (Go.Operand.tmp 11), type := 26, pos := "law.go:80", after := #[{ on := 9, ground := Go.Ground.guard }], guard := some (9, false) }) (v := ?_) rfl (by kernel_rfl) (by kernel_rfl) (by kernel_rfl) (fun _ _ _ h => h) (Or.inl ⟨by rfl, ?_⟩) (by assumption) ?_
            rotate_left
            · intro w hSw
              have hc0 : w.cell? ⟨cb, 0, none⟩ = some (.int .i64 q.c.op) := hSw.2.1.cell 0
              have hc1 : w.cell? ⟨cb, 1, none⟩ = some (.int .i64 q.c.key) := hSw.2.1.cell 1
              have hc2 : w.cell? ⟨cb, 2, none⟩ = some (.int .i64 q.c.val) := hSw.2.1.cell 2
              have hc3 : w.cell? ⟨cb, 3, none⟩ = some (.int .i64 q.c.hi) := hSw.2.1.cell 3
              have hc4 : w.cell? ⟨cb, 4, none⟩ = some (.int .i64 q.c.lim) := hSw.2.1.cell 4
              go_simp
              all_goals with_reducible rfl
            try simp only [Act.put, List.setIfInBounds_toArray, List.set_cons_zero, List.set_cons_succ]
            refine wpAnyH_ready (rs := [11]) (by kernel_rfl) (by simp) ?_
            refine AllReadyH.cons (o := { dst := some 106, op := Go.Op.call { callee := Go.Callee.value (Go.Operand.func 18), args := #[Go.Operand.tmp 105], argTypes := #[26] }, type := 9, pos := "law.go:80", after := #[{ on := 10, ground := Go.Ground.data }, { on := 9, ground := Go.Ground.chain }, { on := 9, ground := Go.Ground.guard }], guard := some (9, false) }) rfl (fun K hK => ?_) AllReadyH.nil
            go_simp
            refine (KYW.out _ hHeld.2.2).mono ?_
            rintro r z ⟨rfl, hk⟩
            try simp only []
            refine hK.out _ _ ⟨hHeld.1.keep hk (by simp), hHeld.2.1.keep hk (by simp), hHeld.2.2.trans hk (by simp)⟩ (fun hHeld => ?_)
            clear hK K
            try simp only [Act.put, List.setIfInBounds_toArray, List.set_cons_zero, List.set_cons_succ]
            refine wpAnyH_ready (rs := [13]) (by kernel_rfl) (by simp) ?_
            refine AllReadyH.cons (o := { dst := some 108, op := Go.Op.call { callee := Go.Callee.value (Go.Operand.func 18), args := #[Go.Operand.tmp 107], argTypes := #[26] }, type := 9, pos := "law.go:80", after := #[{ on := 12, ground := Go.Ground.data }, { on := 11, ground := Go.Ground.chain }, { on := 9, ground := Go.Ground.guard }], guard := some (9, false) }) rfl (fun K hK => ?_) AllReadyH.nil
            go_simp
            refine (KCW.out _ hHeld.2.2).mono ?_
            rintro r z ⟨rfl, hk⟩
            try simp only []
            refine hK.out _ _ ⟨hHeld.1.keep hk (by simp), hHeld.2.1.keep hk (by simp), hHeld.2.2.trans hk (by simp)⟩ (fun hHeld => ?_)
            clear hK K
            try simp only [Act.put, List.setIfInBounds_toArray, List.set_cons_zero, List.set_cons_succ]
            refine wpAnyH_take (i := 14) (oi := { dst := some 109, op := Go.Op.binOp Go.BinOp.neq 9 (Go.Operand.tmp 106) (Go.Operand.tmp 108) 9, type := 4, pos := "law.go:80", after := #[{ on := 11, ground := Go.Ground.data }, { on := 13, ground := Go.Ground.data }, { on := 9, ground := Go.Ground.guard }], guard := some (9, false) }) (v := ?_) rfl (by kernel_rfl) (by kernel_rfl) (by kernel_rfl) (fun _ _ _ h => h) (Or.inl ⟨by rfl, ?_⟩) (by assumption) ?_
            rotate_left
            · intro w hSw
              (try dsimp only at hSw)
              go_simp
              all_goals with_reducible rfl
            try simp only [Act.put, List.setIfInBounds_toArray, List.set_cons_zero, List.set_cons_succ]
            refine wpAnyH_take (i := 15) (oi := { dst := some 110, op := Go.Op.pick (Go.Operand.tmp 104) (Go.Operand.const (Go.Value.bool true)) (Go.Operand.tmp 109), type := 4, pos := "law.go:80", after := #[{ on := 9, ground := Go.Ground.data }, { on := 14, ground := Go.Ground.data }], guard := none }) (v := ?_) rfl (by kernel_rfl) (by kernel_rfl) (by kernel_rfl) (fun _ _ _ h => h) (Or.inl ⟨by rfl, ?_⟩) (by assumption) ?_
            rotate_left
            · intro w hSw
              (try dsimp only at hSw)
              go_simp
              all_goals with_reducible rfl
            try simp only [Act.put, List.setIfInBounds_toArray, List.set_cons_zero, List.set_cons_succ]
            refine wpAnyH_done (by kernel_rfl) ?_ _
            have HKF := Lib.hid hHeld.2.2
            clear hHeld KCW KYW HD7 HC7 HK7
            go_wp2_with fail
            go_roundg (l.length - (k + 1))
            case measure => have := HLT.out; omega
            case rel => exact ⟨k + 1, HLT.out, rfl, by go_num, HR.out.trans HKF.out (by simp)⟩
        · obtain ⟨a2, hrd, hkd, hpl⟩ := ansZ_back HFA.out haz
          obtain ⟨hb, hf2, _⟩ := readA_back hrd
          rw [jn_cut] at hb
          have HAL3 := HAL2.out
          obtain ⟨x0, xt, hxz⟩ := List.exists_cons_of_ne_nil haz
          have KR := Lib.hid (fun (W : World) (hk : Keep [] w W) => text_readAnswer (ansZ q.a) W (by omega) (HT.out.keep hk))
          unfold ReadAOut at KR
          rw [hrd] at KR
          dsimp only at KR
          rw [hkd] at KR
          have HX2 : Hid (∀ (W : World) (A1 : Option Addr) (p1 : Nat), Keep [] w W → ElAt pairC W A1 a2.ps → Calls Tryd.prog 17 #[.agg #[.int .i64 q.a.kind, .int .i64 a2.key, .int .i64 a2.val, .int .i64 a2.n, .slice A1 a2.ps.length p1]] W (TextOut (ansZ q.a) W)) := Lib.hid (fun W A1 p1 hk hp => by
            have h1 := text_answer ⟨q.a.kind, a2.key, a2.val, a2.n, a2.ps, A1, p1⟩ ⟨hf2.key, hf2.val, hf2.n, hf2.ps⟩ W hp (by show a2.ps.length ≤ 4100; have := HPL.out; omega) (HT.out.tab.keep hk)
            have h2 : ansZ ⟨q.a.kind, a2.key, a2.val, a2.n, a2.ps, A1, p1⟩ = ansZ q.a := by
              rw [← hkd]
              exact hb
            rw [h2] at h1
            exact h1)
          unfold TextOut at HX2
          rw [hxz] at KA KR HX2
          clear hrd hkd hpl hb hf2 HAL3 hxz haz
          go_wp2_with fail
          refine (KA.out _ (HR.out.trans HK1_.out (by simp))).mono ?_
          rintro r w4 ⟨rfl, hk⟩
          have HK4_ := Lib.hid (HK1_.out.trans hk (by simp))
          have HA4 := Lib.hid (HA1.out.keep hk (by simp))
          clear hk HK1_ HA1 e0 e1 e2 e3 e4
          have e0 : w4.cell? ⟨ab, 0, none⟩ = some (.int .i64 q.a.kind) := HA4.out.cell 0
          have e1 : w4.cell? ⟨ab, 1, none⟩ = some (.int .i64 q.a.key) := HA4.out.cell 1
          have e2 : w4.cell? ⟨ab, 2, none⟩ = some (.int .i64 q.a.val) := HA4.out.cell 2
          have e3 : w4.cell? ⟨ab, 3, none⟩ = some (.int .i64 q.a.n) := HA4.out.cell 3
          have e4 : w4.cell? ⟨ab, 4, none⟩ = some (.slice q.a.pA q.a.ps.length q.a.pc) := HA4.out.cell 4
          go_wp2_with fail
          refine (KA.out _ (HR.out.trans HK4_.out (by simp))).mono ?_
          rintro r w5 ⟨rfl, hk⟩
          have HK5_ := Lib.hid (HK4_.out.trans hk (by simp))
          have HA5 := Lib.hid (HA4.out.keep hk (by simp))
          clear hk HK4_ HA4 e0 e1 e2 e3 e4
          go_wp2_with fail
          refine (KR.out _ (HR.out.trans HK5_.out (by simp))).mono ?_
          rintro r w6 ⟨hk, A1, p1, rfl, ho⟩
          have HK6_ := Lib.hid (HK5_.out.trans hk (by simp))
          have HA6 := Lib.hid (HA5.out.keep hk (by simp))
          have HP6 := Lib.hid (ElAt.of_own ho rfl)
          clear hk ho HK5_ HA5
          go_upto_region 14 with fail
          have HX7 := Lib.hid (Blk.new w6 33 #[.int .i64 q.a.kind, .int .i64 a2.key, .int .i64 a2.val, .int .i64 a2.n, .slice A1 a2.ps.length p1])
          have HA7 := Lib.hid (HA6.out.alloc (.cells #[.int .i64 q.a.kind, .int .i64 a2.key, .int .i64 a2.val, .int .i64 a2.n, .slice A1 a2.ps.length p1] 33))
          have HK7_ := Lib.hid (HK6_.out.alloc (.cells #[.int .i64 q.a.kind, .int .i64 a2.key, .int .i64 a2.val, .int .i64 a2.n, .slice A1 a2.ps.length p1] 33))
          have HP7 := Lib.hid (HP6.out.keep ((Keep.refl [] w6).alloc (.cells #[.int .i64 q.a.kind, .int .i64 a2.key, .int .i64 a2.val, .int .i64 a2.n, .slice A1 a2.ps.length p1] 33)))
          generalize w6.heap.size = xb at HX7 ⊢
          generalize w6.alloc _ = w7 at HX7 HA7 HK7_ HP7 ⊢
          clear HK6_ HA6 HP6
          have KAW := Lib.hid (fun (W : World) (hk : Keep [] w7 W) => KA.out W (HR.out.trans (HK7_.out.trans hk (by simp)) (by simp)))
          have KXW := Lib.hid (fun (W : World) (hk : Keep [] w7 W) => HX2.out W A1 p1 (HR.out.trans (HK7_.out.trans hk (by simp)) (by simp)) (HP7.out.keep hk))
          refine wp_region_held_drew (S := (fun w' => Blk w' xb 33 #[.int .i64 q.a.kind, .int .i64 a2.key, .int .i64 a2.val, .int .i64 a2.n, .slice A1 a2.ps.length p1] ∧ Blk w' ab 33 #[.int .i64 q.a.kind, .int .i64 q.a.key, .int .i64 q.a.val, .int .i64 q.a.n, .slice q.a.pA q.a.ps.length q.a.pc] ∧ Keep [] w7 w')) (by kernel_rfl) ⟨HX7.out.drew, HA7.out.drew, (Keep.refl _ _).drew⟩ (fun hHeld => ?_)
          refine wpAnyH_take (i := 0) (oi := { dst := some 65, op := Go.Op.move (Go.Operand.tmp 10), type := 27, pos := "law.go:73", after := #[], guard := none }) (v := ?_) rfl (by kernel_rfl) (by kernel_rfl) (by kernel_rfl) (fun _ _ _ h => h) (Or.inl ⟨by rfl, ?_⟩) (by assumption) ?_
          rotate_left
          · intro w hSw
            (try dsimp only at hSw)
            go_simp
            all_goals with_reducible rfl
          try simp only [Act.put, List.setIfInBounds_toArray, List.set_cons_zero, List.set_cons_succ]
          refine wpAnyH_take (i := 1) (oi := { dst := some 66, op := Go.Op.binOp Go.BinOp.neq 27 (Go.Operand.tmp 65) (Go.Operand.const (Go.Value.int Go.IntKind.i64 0)) 27, type := 4, pos := "law.go:73", after := #[{ on := 0, ground := Go.Ground.data }], guard := none }) (v := ?_) rfl (by kernel_rfl) (by kernel_rfl) (by kernel_rfl) (fun _ _ _ h => h) (Or.inl ⟨by rfl, ?_⟩) (by assumption) ?_
          rotate_left
          · intro w hSw
            (try dsimp only at hSw)
            go_simp
            all_goals with_reducible rfl
          try simp only [Act.put, List.setIfInBounds_toArray, List.set_cons_zero, List.set_cons_succ]
          refine wpAnyH_take (i := 2) (oi := { dst := some 67, op := Go.Op.move (Go.Operand.tmp 66), type := 4, pos := "law.go:73", after := #[{ on := 1, ground := Go.Ground.data }], guard := none }) (v := ?_) rfl (by kernel_rfl) (by kernel_rfl) (by kernel_rfl) (fun _ _ _ h => h) (Or.inl ⟨by rfl, ?_⟩) (by assumption) ?_
          rotate_left
          · intro w hSw
            (try dsimp only at hSw)
            go_simp
            all_goals with_reducible rfl
          try simp only [Act.put, List.setIfInBounds_toArray, List.set_cons_zero, List.set_cons_succ]
          refine wpAnyH_take (i := 3) (oi := { dst := some 68, op := Go.Op.fieldAddr 33 (Go.Operand.tmp 9) 0, type := 0, pos := "law.go:73", after := #[{ on := 2, ground := Go.Ground.guard }], guard := some (2, false) }) (v := ?_) rfl (by kernel_rfl) (by kernel_rfl) (by kernel_rfl) (fun _ _ _ h => h) (Or.inl ⟨by rfl, ?_⟩) (by assumption) ?_
          rotate_left
          · intro w hSw
            (try dsimp only at hSw)
            go_simp
            all_goals with_reducible rfl
          try simp only [Act.put, List.setIfInBounds_toArray, List.set_cons_zero, List.set_cons_succ]
          refine wpAnyH_take (i := 4) (oi := { dst := some 69, op := Go.Op.load 3 (Go.Operand.tmp 68), type := 3, pos := "law.go:73", after := #[{ on := 3, ground := Go.Ground.data }, { on := 2, ground := Go.Ground.guard }], guard := some (2, false) }) (v := ?_) rfl (by kernel_rfl) (by kernel_rfl) (by kernel_rfl) (fun _ _ _ h => h) (Or.inl ⟨by rfl, ?_⟩) (by assumption) ?_
          rotate_left
          · intro w hSw
            have hc : w.cell? ⟨xb, 0, none⟩ = some (.int .i64 q.a.kind) := hSw.1.cell 0
            go_simp
            all_goals with_reducible rfl
          try simp only [Act.put, List.setIfInBounds_toArray, List.set_cons_zero, List.set_cons_succ]
          refine wpAnyH_take (i := 5) (oi := { dst := some 70, op := Go.Op.fieldAddr 33 (Go.Operand.tmp 8) 0, type := 0, pos := "law.go:73", after := #[{ on := 2, ground := Go.Ground.guard }], guard := some (2, false) }) (v := ?_) rfl (by kernel_rfl) (by kernel_rfl) (by kernel_rfl) (fun _ _ _ h => h) (Or.inl ⟨by rfl, ?_⟩) (by assumption) ?_
          rotate_left
          · intro w hSw
            (try dsimp only at hSw)
            go_simp
            all_goals with_reducible rfl
          try simp only [Act.put, List.setIfInBounds_toArray, List.set_cons_zero, List.set_cons_succ]
          refine wpAnyH_take (i := 6) (oi := { dst := some 71, op := Go.Op.load 3 (Go.Operand.tmp 70), type := 3, pos := "law.go:73", after := #[{ on := 5, ground := Go.Ground.data }, { on := 2, ground := Go.Ground.guard }], guard := some (2, false) }) (v := ?_) rfl (by kernel_rfl) (by kernel_rfl) (by kernel_rfl) (fun _ _ _ h => h) (Or.inl ⟨by rfl, ?_⟩) (by assumption) ?_
          rotate_left
          · intro w hSw
            have hc : w.cell? ⟨ab, 0, none⟩ = some (.int .i64 q.a.kind) := hSw.2.1.cell 0
            go_simp
            all_goals with_reducible rfl
          try simp only [Act.put, List.setIfInBounds_toArray, List.set_cons_zero, List.set_cons_succ]
          refine wpAnyH_take (i := 7) (oi := { dst := some 72, op := Go.Op.binOp Go.BinOp.neq 3 (Go.Operand.tmp 69) (Go.Operand.tmp 71) 3, type := 4, pos := "law.go:73", after := #[{ on := 4, ground := Go.Ground.data }, { on := 6, ground := Go.Ground.data }, { on := 2, ground := Go.Ground.guard }], guard := some (2, false) }) (v := ?_) rfl (by kernel_rfl) (by kernel_rfl) (by kernel_rfl) (fun _ _ _ h => h) (Or.inl ⟨by rfl, ?_⟩) (by assumption) ?_
          rotate_left
          · intro w hSw
            (try dsimp only at hSw)
            go_simp
            all_goals with_reducible rfl
          try simp only [Act.put, List.setIfInBounds_toArray, List.set_cons_zero, List.set_cons_succ]
          refine wpAnyH_take (i := 8) (oi := { dst := some 73, op := Go.Op.pick (Go.Operand.tmp 67) (Go.Operand.const (Go.Value.bool true)) (Go.Operand.tmp 72), type := 4, pos := "law.go:73", after := #[{ on := 2, ground := Go.Ground.data }, { on := 7, ground := Go.Ground.data }], guard := none }) (v := ?_) rfl (by kernel_rfl) (by kernel_rfl) (by kernel_rfl) (fun _ _ _ h => h) (Or.inl ⟨by rfl, ?_⟩) (by assumption) ?_
          rotate_left
          · intro w hSw
            (try dsimp only at hSw)
            go_simp
            all_goals with_reducible rfl
          try simp only [Act.put, List.setIfInBounds_toArray, List.set_cons_zero, List.set_cons_succ]
          refine wpAnyH_take (i := 9) (oi := { dst := some 74, op := Go.Op.move (Go.Operand.tmp 73), type := 4, pos := "law.go:73", after := #[{ on := 8, ground := Go.Ground.data }, { on := 2, ground := Go.Ground.chain }], guard := none }) (v := ?_) rfl (by kernel_rfl) (by kernel_rfl) (by kernel_rfl) (fun _ _ _ h => h) (Or.inl ⟨by rfl, ?_⟩) (by assumption) ?_
          rotate_left
          · intro w hSw
            (try dsimp only at hSw)
            go_simp
            all_goals with_reducible rfl
          try simp only [Act.put, List.setIfInBounds_toArray, List.set_cons_zero, List.set_cons_succ]
          refine wpAnyH_take (i := 10) (oi := { dst := some 75, op := Go.Op.load 33 (Go.Operand.tmp 9), type := 33, pos := "law.go:73", after := #[{ on := 9, ground := Go.Ground.guard }], guard := some (9, false) }) (v := ?_) rfl (by kernel_rfl) (by kernel_rfl) (by kernel_rfl) (fun _ _ _ h => h) (Or.inl ⟨by rfl, ?_⟩) (by assumption) ?_
          rotate_left
          · intro w hSw
            have hc0 : w.cell? ⟨xb, 0, none⟩ = some (.int .i64 q.a.kind) := hSw.1.cell 0
            have hc1 : w.cell? ⟨xb, 1, none⟩ = some (.int .i64 a2.key) := hSw.1.cell 1
            have hc2 : w.cell? ⟨xb, 2, none⟩ = some (.int .i64 a2.val) := hSw.1.cell 2
            have hc3 : w.cell? ⟨xb, 3, none⟩ = some (.int .i64 a2.n) := hSw.1.cell 3
            have hc4 : w.cell? ⟨xb, 4, none⟩ = some (.slice A1 a2.ps.length p1) := hSw.1.cell 4
            go_simp
            all_goals with_reducible rfl
          try simp only [Act.put, List.setIfInBounds_toArray, List.set_cons_zero, List.set_cons_succ]
          refine wpAnyH_take (i := 12) (oi := { dst := some 77, op := Go.Op.load 33 (Go.Operand.tmp 8), type := 33, pos := "law.go:73", after := #[{ on := 9, ground := Go.Ground.guard }], guard := some (9, false) }) (v := ?_) rfl (by kernel_rfl) (by kernel_rfl) (by kernel_rfl) (fun _ _ _ h => h) (Or.inl ⟨by rfl, ?_⟩) (by assumption) ?_
          rotate_left
          · intro w hSw
            have hc0 : w.cell? ⟨ab, 0, none⟩ = some (.int .i64 q.a.kind) := hSw.2.1.cell 0
            have hc1 : w.cell? ⟨ab, 1, none⟩ = some (.int .i64 q.a.key) := hSw.2.1.cell 1
            have hc2 : w.cell? ⟨ab, 2, none⟩ = some (.int .i64 q.a.val) := hSw.2.1.cell 2
            have hc3 : w.cell? ⟨ab, 3, none⟩ = some (.int .i64 q.a.n) := hSw.2.1.cell 3
            have hc4 : w.cell? ⟨ab, 4, none⟩ = some (.slice q.a.pA q.a.ps.length q.a.pc) := hSw.2.1.cell 4
            go_simp
            all_goals with_reducible rfl
          try simp only [Act.put, List.setIfInBounds_toArray, List.set_cons_zero, List.set_cons_succ]
          refine wpAnyH_ready (rs := [11]) (by kernel_rfl) (by simp) ?_
          refine AllReadyH.cons (o := { dst := some 76, op := Go.Op.call { callee := Go.Callee.value (Go.Operand.func 17), args := #[Go.Operand.tmp 75], argTypes := #[33] }, type := 9, pos := "law.go:73", after := #[{ on := 10, ground := Go.Ground.data }, { on := 9, ground := Go.Ground.chain }, { on := 9, ground := Go.Ground.guard }], guard := some (9, false) }) rfl (fun K hK => ?_) AllReadyH.nil
          go_simp
          refine (KXW.out _ hHeld.2.2).mono ?_
          rintro r z ⟨rfl, hk⟩
          try simp only []
          refine hK.out _ _ ⟨hHeld.1.keep hk (by simp), hHeld.2.1.keep hk (by simp), hHeld.2.2.trans hk (by simp)⟩ (fun hHeld => ?_)
          clear hK K
          try simp only [Act.put, List.setIfInBounds_toArray, List.set_cons_zero, List.set_cons_succ]
          refine wpAnyH_ready (rs := [13]) (by kernel_rfl) (by simp) ?_
          refine AllReadyH.cons (o := { dst := some 78, op := Go.Op.call { callee := Go.Callee.value (Go.Operand.func 17), args := #[Go.Operand.tmp 77], argTypes := #[33] }, type := 9, pos := "law.go:73", after := #[{ on := 12, ground := Go.Ground.data }, { on := 11, ground := Go.Ground.chain }, { on := 9, ground := Go.Ground.guard }], guard := some (9, false) }) rfl (fun K hK => ?_) AllReadyH.nil
          go_simp
          refine (KAW.out _ hHeld.2.2).mono ?_
          rintro r z ⟨rfl, hk⟩
          try simp only []
          refine hK.out _ _ ⟨hHeld.1.keep hk (by simp), hHeld.2.1.keep hk (by simp), hHeld.2.2.trans hk (by simp)⟩ (fun hHeld => ?_)
          clear hK K
          try simp only [Act.put, List.setIfInBounds_toArray, List.set_cons_zero, List.set_cons_succ]
          refine wpAnyH_take (i := 14) (oi := { dst := some 79, op := Go.Op.binOp Go.BinOp.neq 9 (Go.Operand.tmp 76) (Go.Operand.tmp 78) 9, type := 4, pos := "law.go:73", after := #[{ on := 11, ground := Go.Ground.data }, { on := 13, ground := Go.Ground.data }, { on := 9, ground := Go.Ground.guard }], guard := some (9, false) }) (v := ?_) rfl (by kernel_rfl) (by kernel_rfl) (by kernel_rfl) (fun _ _ _ h => h) (Or.inl ⟨by rfl, ?_⟩) (by assumption) ?_
          rotate_left
          · intro w hSw
            (try dsimp only at hSw)
            go_simp
            all_goals with_reducible rfl
          try simp only [Act.put, List.setIfInBounds_toArray, List.set_cons_zero, List.set_cons_succ]
          refine wpAnyH_take (i := 15) (oi := { dst := some 80, op := Go.Op.pick (Go.Operand.tmp 74) (Go.Operand.const (Go.Value.bool true)) (Go.Operand.tmp 79), type := 4, pos := "law.go:73", after := #[{ on := 9, ground := Go.Ground.data }, { on := 14, ground := Go.Ground.data }], guard := none }) (v := ?_) rfl (by kernel_rfl) (by kernel_rfl) (by kernel_rfl) (fun _ _ _ h => h) (Or.inl ⟨by rfl, ?_⟩) (by assumption) ?_
          rotate_left
          · intro w hSw
            (try dsimp only at hSw)
            go_simp
            all_goals with_reducible rfl
          try simp only [Act.put, List.setIfInBounds_toArray, List.set_cons_zero, List.set_cons_succ]
          refine wpAnyH_done (by kernel_rfl) ?_ _
          have HKG := Lib.hid (HK7_.out.trans hHeld.2.2 (by simp))
          clear hHeld KAW KXW HX7 HA7 HK7_ HP7 HX2
          have c2_ := cell_keep0 c2 HKG.out
          have c3_ := cell_keep0 c3 HKG.out
          have c4_ := cell_keep0 c4 HKG.out
          have c5_ := cell_keep0 c5 HKG.out
          have c6_ := cell_keep0 c6 HKG.out
          go_upto_region 17 with fail
          clear c2_ c3_ c4_ c5_ c6_
          have HC1 := Lib.hid (Blk.new z 26 #[.int .i64 q.c.op, .int .i64 q.c.key, .int .i64 q.c.val, .int .i64 q.c.hi, .int .i64 q.c.lim])
          have HK3 := Lib.hid (HKG.out.alloc (.cells #[.int .i64 q.c.op, .int .i64 q.c.key, .int .i64 q.c.val, .int .i64 q.c.hi, .int .i64 q.c.lim] 26))
          generalize z.heap.size = cb at HC1 ⊢
          generalize z.alloc _ = v1 at HC1 HK3 ⊢
          clear HKG
          have d0 : v1.cell? ⟨cb, 0, none⟩ = some (.int .i64 q.c.op) := HC1.out.cell 0
          have d1 : v1.cell? ⟨cb, 1, none⟩ = some (.int .i64 q.c.key) := HC1.out.cell 1
          have d2 : v1.cell? ⟨cb, 2, none⟩ = some (.int .i64 q.c.val) := HC1.out.cell 2
          have d3 : v1.cell? ⟨cb, 3, none⟩ = some (.int .i64 q.c.hi) := HC1.out.cell 3
          have d4 : v1.cell? ⟨cb, 4, none⟩ = some (.int .i64 q.c.lim) := HC1.out.cell 4
          by_cases hcz : callZ q.c = []
          · rw [hcz] at KC
            go_wp2_with fail
            refine (KC.out _ (HR.out.trans HK3.out (by simp))).mono ?_
            rintro r v2 ⟨rfl, hk⟩
            have HK4 := Lib.hid (HK3.out.trans hk (by simp))
            clear hk HK3 HC1
            go_wp2_with fail
            go_roundg (l.length - (k + 1))
            case measure => have := HLT.out; omega
            case rel => exact ⟨k + 1, HLT.out, rfl, by go_num, HR.out.trans HK4.out (by simp)⟩
          · obtain ⟨c2, hrd, hop⟩ := callZ_back HFC.out hcz
            obtain ⟨hb, hf2⟩ := readC_back hrd
            rw [jn_cut] at hb
            have HCL3 := HCL.out
            obtain ⟨x0, xt, hxz⟩ := List.exists_cons_of_ne_nil hcz
            have HOP := Lib.hid hop
            have hcp : callPair (callZ q.c) = (c2, 0) := by unfold callPair; rw [hrd]
            have KR := Lib.hid (fun (W : World) (hk : Keep [] w W) => text_readCall (callZ q.c) W (by omega) (HT.out.keep hk))
            unfold ReadCOut at KR
            rw [hcp] at KR
            dsimp only at KR
            rw [show c2.cells = #[.int .i64 c2.op, .int .i64 c2.key, .int .i64 c2.val, .int .i64 c2.hi, .int .i64 c2.lim] from rfl, hop] at KR
            have hcx : callZ ⟨q.c.op, c2.key, c2.val, c2.hi, c2.lim⟩ = callZ q.c := by
              rw [← hop]
              exact hb
            have KY := Lib.hid (fun (W : World) (hk : Keep [] w W) => text_call ⟨q.c.op, c2.key, c2.val, c2.hi, c2.lim⟩ ⟨hf2.key, hf2.val, hf2.hi, hf2.lim⟩ W (HT.out.tab.keep hk))
            unfold TextOut at KY
            rw [hcx, show CallX.cells ⟨q.c.op, c2.key, c2.val, c2.hi, c2.lim⟩ = #[.int .i64 q.c.op, .int .i64 c2.key, .int .i64 c2.val, .int .i64 c2.hi, .int .i64 c2.lim] from rfl] at KY
            rw [hxz] at KC KR KY
            clear hrd hop hb hf2 hcp hcx hxz HCL3 hcz
            go_wp2_with fail
            refine (KC.out _ (HR.out.trans HK3.out (by simp))).mono ?_
            rintro r v2 ⟨rfl, hk⟩
            have HK4 := Lib.hid (HK3.out.trans hk (by simp))
            have HC2 := Lib.hid (HC1.out.keep hk (by simp))
            clear hk HK3 HC1
            have d0 : v2.cell? ⟨cb, 0, none⟩ = some (.int .i64 q.c.op) := HC2.out.cell 0
            have d1 : v2.cell? ⟨cb, 1, none⟩ = some (.int .i64 q.c.key) := HC2.out.cell 1
            have d2 : v2.cell? ⟨cb, 2, none⟩ = some (.int .i64 q.c.val) := HC2.out.cell 2
            have d3 : v2.cell? ⟨cb, 3, none⟩ = some (.int .i64 q.c.hi) := HC2.out.cell 3
            have d4 : v2.cell? ⟨cb, 4, none⟩ = some (.int .i64 q.c.lim) := HC2.out.cell 4
            go_wp2_with fail
            refine (KC.out _ (HR.out.trans HK4.out (by simp))).mono ?_
            rintro r v3 ⟨rfl, hk⟩
            have HK5 := Lib.hid (HK4.out.trans hk (by simp))
            have HC3 := Lib.hid (HC2.out.keep hk (by simp))
            clear hk HK4 HC2
            go_wp2_with fail
            refine (KR.out _ (HR.out.trans HK5.out (by simp))).mono ?_
            rintro r v4 ⟨rfl, hk⟩
            have HK6 := Lib.hid (HK5.out.trans hk (by simp))
            have HC4 := Lib.hid (HC3.out.keep hk (by simp))
            clear hk HK5 HC3
            go_upto_region 19 with fail
            have HD7 := Lib.hid (Blk.new v4 26 #[.int .i64 q.c.op, .int .i64 c2.key, .int .i64 c2.val, .int .i64 c2.hi, .int .i64 c2.lim])
            have HC7 := Lib.hid (HC4.out.alloc (.cells #[.int .i64 q.c.op, .int .i64 c2.key, .int .i64 c2.val, .int .i64 c2.hi, .int .i64 c2.lim] 26))
            have HK7 := Lib.hid (HK6.out.alloc (.cells #[.int .i64 q.c.op, .int .i64 c2.key, .int .i64 c2.val, .int .i64 c2.hi, .int .i64 c2.lim] 26))
            generalize v4.heap.size = db at HD7 ⊢
            generalize v4.alloc _ = v5 at HD7 HC7 HK7 ⊢
            clear HK6 HC4
            have KCW := Lib.hid (fun (W : World) (hk : Keep [] wr W) => KC.out W (HR.out.trans hk (by simp)))
            have KYW := Lib.hid (fun (W : World) (hk : Keep [] wr W) => KY.out W (HR.out.trans hk (by simp)))
            refine wp_region_held_drew (S := (fun w' => Blk w' db 26 #[.int .i64 q.c.op, .int .i64 c2.key, .int .i64 c2.val, .int .i64 c2.hi, .int .i64 c2.lim] ∧ Blk w' cb 26 #[.int .i64 q.c.op, .int .i64 q.c.key, .int .i64 q.c.val, .int .i64 q.c.hi, .int .i64 q.c.lim] ∧ Keep [] wr w')) (by kernel_rfl) ⟨HD7.out.drew, HC7.out.drew, HK7.out.drew⟩ (fun hHeld => ?_)
            refine wpAnyH_take (i := 0) (oi := { dst := some 95, op := Go.Op.move (Go.Operand.tmp 13), type := 27, pos := "law.go:80", after := #[], guard := none }) (v := ?_) rfl (by kernel_rfl) (by kernel_rfl) (by kernel_rfl) (fun _ _ _ h => h) (Or.inl ⟨by rfl, ?_⟩) (by assumption) ?_
            rotate_left
            · intro w hSw
              (try dsimp only at hSw)
              go_simp
              all_goals with_reducible rfl
            try simp only [Act.put, List.setIfInBounds_toArray, List.set_cons_zero, List.set_cons_succ]
            refine wpAnyH_take (i := 1) (oi := { dst := some 96, op := Go.Op.binOp Go.BinOp.neq 27 (Go.Operand.tmp 95) (Go.Operand.const (Go.Value.int Go.IntKind.i64 0)) 27, type := 4, pos := "law.go:80", after := #[{ on := 0, ground := Go.Ground.data }], guard := none }) (v := ?_) rfl (by kernel_rfl) (by kernel_rfl) (by kernel_rfl) (fun _ _ _ h => h) (Or.inl ⟨by rfl, ?_⟩) (by assumption) ?_
            rotate_left
            · intro w hSw
              (try dsimp only at hSw)
              go_simp
              all_goals with_reducible rfl
            try simp only [Act.put, List.setIfInBounds_toArray, List.set_cons_zero, List.set_cons_succ]
            refine wpAnyH_take (i := 2) (oi := { dst := some 97, op := Go.Op.move (Go.Operand.tmp 96), type := 4, pos := "law.go:80", after := #[{ on := 1, ground := Go.Ground.data }], guard := none }) (v := ?_) rfl (by kernel_rfl) (by kernel_rfl) (by kernel_rfl) (fun _ _ _ h => h) (Or.inl ⟨by rfl, ?_⟩) (by assumption) ?_
            rotate_left
            · intro w hSw
              (try dsimp only at hSw)
              go_simp
              all_goals with_reducible rfl
            try simp only [Act.put, List.setIfInBounds_toArray, List.set_cons_zero, List.set_cons_succ]
            refine wpAnyH_take (i := 3) (oi := { dst := some 98, op := Go.Op.fieldAddr 26 (Go.Operand.tmp 12) 0, type := 0, pos := "law.go:80", after := #[{ on := 2, ground := Go.Ground.guard }], guard := some (2, false) }) (v := ?_) rfl (by kernel_rfl) (by kernel_rfl) (by kernel_rfl) (fun _ _ _ h => h) (Or.inl ⟨by rfl, ?_⟩) (by assumption) ?_
            rotate_left
            · intro w hSw
              (try dsimp only at hSw)
              go_simp
              all_goals with_reducible rfl
            try simp only [Act.put, List.setIfInBounds_toArray, List.set_cons_zero, List.set_cons_succ]
            refine wpAnyH_take (i := 4) (oi := { dst := some 99, op := Go.Op.load 3 (Go.Operand.tmp 98), type := 3, pos := "law.go:80", after := #[{ on := 3, ground := Go.Ground.data }, { on := 2, ground := Go.Ground.guard }], guard := some (2, false) }) (v := ?_) rfl (by kernel_rfl) (by kernel_rfl) (by kernel_rfl) (fun _ _ _ h => h) (Or.inl ⟨by rfl, ?_⟩) (by assumption) ?_
            rotate_left
            · intro w hSw
              have hc : w.cell? ⟨db, 0, none⟩ = some (.int .i64 q.c.op) := hSw.1.cell 0
              go_simp
              all_goals with_reducible rfl
            try simp only [Act.put, List.setIfInBounds_toArray, List.set_cons_zero, List.set_cons_succ]
            refine wpAnyH_take (i := 5) (oi := { dst := some 100, op := Go.Op.fieldAddr 26 (Go.Operand.tmp 11) 0, type := 0, pos := "law.go:80", after := #[{ on := 2, ground := Go.Ground.guard }], guard := some (2, false) }) (v := ?_) rfl (by kernel_rfl) (by kernel_rfl) (by kernel_rfl) (fun _ _ _ h => h) (Or.inl ⟨by rfl, ?_⟩) (by assumption) ?_
            rotate_left
            · intro w hSw
              (try dsimp only at hSw)
              go_simp
              all_goals with_reducible rfl
            try simp only [Act.put, List.setIfInBounds_toArray, List.set_cons_zero, List.set_cons_succ]
            refine wpAnyH_take (i := 6) (oi := { dst := some 101, op := Go.Op.load 3 (Go.Operand.tmp 100), type := 3, pos := "law.go:80", after := #[{ on := 5, ground := Go.Ground.data }, { on := 2, ground := Go.Ground.guard }], guard := some (2, false) }) (v := ?_) rfl (by kernel_rfl) (by kernel_rfl) (by kernel_rfl) (fun _ _ _ h => h) (Or.inl ⟨by rfl, ?_⟩) (by assumption) ?_
            rotate_left
            · intro w hSw
              have hc : w.cell? ⟨cb, 0, none⟩ = some (.int .i64 q.c.op) := hSw.2.1.cell 0
              go_simp
              all_goals with_reducible rfl
            try simp only [Act.put, List.setIfInBounds_toArray, List.set_cons_zero, List.set_cons_succ]
            refine wpAnyH_take (i := 7) (oi := { dst := some 102, op := Go.Op.binOp Go.BinOp.neq 3 (Go.Operand.tmp 99) (Go.Operand.tmp 101) 3, type := 4, pos := "law.go:80", after := #[{ on := 4, ground := Go.Ground.data }, { on := 6, ground := Go.Ground.data }, { on := 2, ground := Go.Ground.guard }], guard := some (2, false) }) (v := ?_) rfl (by kernel_rfl) (by kernel_rfl) (by kernel_rfl) (fun _ _ _ h => h) (Or.inl ⟨by rfl, ?_⟩) (by assumption) ?_
            rotate_left
            · intro w hSw
              (try dsimp only at hSw)
              go_simp
              all_goals with_reducible rfl
            try simp only [Act.put, List.setIfInBounds_toArray, List.set_cons_zero, List.set_cons_succ]
            refine wpAnyH_take (i := 8) (oi := { dst := some 103, op := Go.Op.pick (Go.Operand.tmp 97) (Go.Operand.const (Go.Value.bool true)) (Go.Operand.tmp 102), type := 4, pos := "law.go:80", after := #[{ on := 2, ground := Go.Ground.data }, { on := 7, ground := Go.Ground.data }], guard := none }) (v := ?_) rfl (by kernel_rfl) (by kernel_rfl) (by kernel_rfl) (fun _ _ _ h => h) (Or.inl ⟨by rfl, ?_⟩) (by assumption) ?_
            rotate_left
            · intro w hSw
              (try dsimp only at hSw)
              go_simp
              all_goals with_reducible rfl
            try simp only [Act.put, List.setIfInBounds_toArray, List.set_cons_zero, List.set_cons_succ]
            refine wpAnyH_take (i := 9) (oi := { dst := some 104, op := Go.Op.move (Go.Operand.tmp 103), type := 4, pos := "law.go:80", after := #[{ on := 8, ground := Go.Ground.data }, { on := 2, ground := Go.Ground.chain }], guard := none }) (v := ?_) rfl (by kernel_rfl) (by kernel_rfl) (by kernel_rfl) (fun _ _ _ h => h) (Or.inl ⟨by rfl, ?_⟩) (by assumption) ?_
            rotate_left
            · intro w hSw
              (try dsimp only at hSw)
              go_simp
              all_goals with_reducible rfl
            try simp only [Act.put, List.setIfInBounds_toArray, List.set_cons_zero, List.set_cons_succ]
            refine wpAnyH_take (i := 10) (oi := { dst := some 105, op := Go.Op.load 26 (Go.Operand.tmp 12), type := 26, pos := "law.go:80", after := #[{ on := 9, ground := Go.Ground.guard }], guard := some (9, false) }) (v := ?_) rfl (by kernel_rfl) (by kernel_rfl) (by kernel_rfl) (fun _ _ _ h => h) (Or.inl ⟨by rfl, ?_⟩) (by assumption) ?_
            rotate_left
            · intro w hSw
              have hc0 : w.cell? ⟨db, 0, none⟩ = some (.int .i64 q.c.op) := hSw.1.cell 0
              have hc1 : w.cell? ⟨db, 1, none⟩ = some (.int .i64 c2.key) := hSw.1.cell 1
              have hc2 : w.cell? ⟨db, 2, none⟩ = some (.int .i64 c2.val) := hSw.1.cell 2
              have hc3 : w.cell? ⟨db, 3, none⟩ = some (.int .i64 c2.hi) := hSw.1.cell 3
              have hc4 : w.cell? ⟨db, 4, none⟩ = some (.int .i64 c2.lim) := hSw.1.cell 4
              go_simp
              all_goals with_reducible rfl
            try simp only [Act.put, List.setIfInBounds_toArray, List.set_cons_zero, List.set_cons_succ]
            refine wpAnyH_take (i := 12) (oi := { dst := some 107, op := Go.Op.load 26 (Go.Operand.tmp 11), type := 26, pos := "law.go:80", after := #[{ on := 9, ground := Go.Ground.guard }], guard := some (9, false) }) (v := ?_) rfl (by kernel_rfl) (by kernel_rfl) (by kernel_rfl) (fun _ _ _ h => h) (Or.inl ⟨by rfl, ?_⟩) (by assumption) ?_
            rotate_left
            · intro w hSw
              have hc0 : w.cell? ⟨cb, 0, none⟩ = some (.int .i64 q.c.op) := hSw.2.1.cell 0
              have hc1 : w.cell? ⟨cb, 1, none⟩ = some (.int .i64 q.c.key) := hSw.2.1.cell 1
              have hc2 : w.cell? ⟨cb, 2, none⟩ = some (.int .i64 q.c.val) := hSw.2.1.cell 2
              have hc3 : w.cell? ⟨cb, 3, none⟩ = some (.int .i64 q.c.hi) := hSw.2.1.cell 3
              have hc4 : w.cell? ⟨cb, 4, none⟩ = some (.int .i64 q.c.lim) := hSw.2.1.cell 4
              go_simp
              all_goals with_reducible rfl
            try simp only [Act.put, List.setIfInBounds_toArray, List.set_cons_zero, List.set_cons_succ]
            refine wpAnyH_ready (rs := [11]) (by kernel_rfl) (by simp) ?_
            refine AllReadyH.cons (o := { dst := some 106, op := Go.Op.call { callee := Go.Callee.value (Go.Operand.func 18), args := #[Go.Operand.tmp 105], argTypes := #[26] }, type := 9, pos := "law.go:80", after := #[{ on := 10, ground := Go.Ground.data }, { on := 9, ground := Go.Ground.chain }, { on := 9, ground := Go.Ground.guard }], guard := some (9, false) }) rfl (fun K hK => ?_) AllReadyH.nil
            go_simp
            refine (KYW.out _ hHeld.2.2).mono ?_
            rintro r z ⟨rfl, hk⟩
            try simp only []
            refine hK.out _ _ ⟨hHeld.1.keep hk (by simp), hHeld.2.1.keep hk (by simp), hHeld.2.2.trans hk (by simp)⟩ (fun hHeld => ?_)
            clear hK K
            try simp only [Act.put, List.setIfInBounds_toArray, List.set_cons_zero, List.set_cons_succ]
            refine wpAnyH_ready (rs := [13]) (by kernel_rfl) (by simp) ?_
            refine AllReadyH.cons (o := { dst := some 108, op := Go.Op.call { callee := Go.Callee.value (Go.Operand.func 18), args := #[Go.Operand.tmp 107], argTypes := #[26] }, type := 9, pos := "law.go:80", after := #[{ on := 12, ground := Go.Ground.data }, { on := 11, ground := Go.Ground.chain }, { on := 9, ground := Go.Ground.guard }], guard := some (9, false) }) rfl (fun K hK => ?_) AllReadyH.nil
            go_simp
            refine (KCW.out _ hHeld.2.2).mono ?_
            rintro r z ⟨rfl, hk⟩
            try simp only []
            refine hK.out _ _ ⟨hHeld.1.keep hk (by simp), hHeld.2.1.keep hk (by simp), hHeld.2.2.trans hk (by simp)⟩ (fun hHeld => ?_)
            clear hK K
            try simp only [Act.put, List.setIfInBounds_toArray, List.set_cons_zero, List.set_cons_succ]
            refine wpAnyH_take (i := 14) (oi := { dst := some 109, op := Go.Op.binOp Go.BinOp.neq 9 (Go.Operand.tmp 106) (Go.Operand.tmp 108) 9, type := 4, pos := "law.go:80", after := #[{ on := 11, ground := Go.Ground.data }, { on := 13, ground := Go.Ground.data }, { on := 9, ground := Go.Ground.guard }], guard := some (9, false) }) (v := ?_) rfl (by kernel_rfl) (by kernel_rfl) (by kernel_rfl) (fun _ _ _ h => h) (Or.inl ⟨by rfl, ?_⟩) (by assumption) ?_
            rotate_left
            · intro w hSw
              (try dsimp only at hSw)
              go_simp
              all_goals with_reducible rfl
            try simp only [Act.put, List.setIfInBounds_toArray, List.set_cons_zero, List.set_cons_succ]
            refine wpAnyH_take (i := 15) (oi := { dst := some 110, op := Go.Op.pick (Go.Operand.tmp 104) (Go.Operand.const (Go.Value.bool true)) (Go.Operand.tmp 109), type := 4, pos := "law.go:80", after := #[{ on := 9, ground := Go.Ground.data }, { on := 14, ground := Go.Ground.data }], guard := none }) (v := ?_) rfl (by kernel_rfl) (by kernel_rfl) (by kernel_rfl) (fun _ _ _ h => h) (Or.inl ⟨by rfl, ?_⟩) (by assumption) ?_
            rotate_left
            · intro w hSw
              (try dsimp only at hSw)
              go_simp
              all_goals with_reducible rfl
            try simp only [Act.put, List.setIfInBounds_toArray, List.set_cons_zero, List.set_cons_succ]
            refine wpAnyH_done (by kernel_rfl) ?_ _
            have HKF := Lib.hid hHeld.2.2
            clear hHeld KCW KYW HD7 HC7 HK7
            go_wp2_with fail
            go_roundg (l.length - (k + 1))
            case measure => have := HLT.out; omega
            case rel => exact ⟨k + 1, HLT.out, rfl, by go_num, HR.out.trans HKF.out (by simp)⟩
      · have hz : ¬ ((k : Nat) : Int) < ((l.length : Nat) : Int) := by omega
        obtain rfl : k = l.length := by omega
        clear hlt
        go_wp2_with fail
        refine (KV.out _ HR.out).mono ?_
        rintro r x ⟨rfl, hk⟩
        have HK := Lib.hid (HR.out.trans hk (by simp))
        clear hk
        go_wp2_with fail
        go_ret
        exact ⟨rfl, HK.out⟩
  | ok es =>
    rw [hr] at hout
    obtain ⟨B, bc, evs, rfl, hev, hmap⟩ := hout
    obtain ⟨hhz, hfit, hlen⟩ := readH_back hr
    have hz2 : histZ evs = s := by rw [← histZ_bare, hmap, histZ_bare, hhz]
    have hel : ElAt evL w1 B evs := ElAt.of_own hev.own rfl
    have hin : ∀ x ∈ evs, EvIn w1 x ∧ x.a.ps.length ≤ 4100 := fun x hx => by
      have h1 : bareE x ∈ es.map bareE := by rw [← hmap]; exact List.mem_map_of_mem hx
      obtain ⟨y, hy, hye⟩ := List.mem_map.1 h1
      obtain ⟨f1, f2⟩ := hfit y hy
      have g1 := congrArg EvX.thr hye
      have g2 := congrArg EvX.c hye
      have g3 := congrArg (fun e => e.a.key) hye
      have g4 := congrArg (fun e => e.a.val) hye
      have g5 := congrArg (fun e => e.a.n) hye
      have g6 := congrArg (fun e => e.a.ps) hye
      dsimp only [bareE] at g1 g2 g3 g4 g5 g6
      refine ⟨⟨⟨g1 ▸ f1.thr, g2 ▸ f1.c, ⟨g3 ▸ f1.a.key, g4 ▸ f1.a.val, g5 ▸ f1.a.n, g6 ▸ f1.a.ps⟩⟩, ElAt.of_own (hev.rows x hx) rfl⟩, ?_⟩
      rw [← g6]
      have := HS4.out
      omega
    have hle : evs.length ≤ 4100 := by
      have h1 := congrArg List.length hmap
      rw [List.length_map, List.length_map] at h1
      have := HS4.out
      omega
    have KT := Lib.hid (text_history w1 B evs bc hel hle hin (HT.out.keep hk).tab)
    unfold TextOut at KT
    rw [hz2] at KT
    clear hk hr hev hmap hhz hfit hlen hz2 hel hin hle
    go_wp2_with fail
    refine KT.out.mono ?_
    rintro r w2 ⟨rfl, hk⟩
    have HK2 := Lib.hid (HK1.out.trans hk (by simp))
    clear hk KT HK1
    go_wp2_with fail
    go_loopg [7] l.length (fun g v7 wr => ∃ k : Nat, k ≤ l.length ∧ g = l.length - k ∧ v7 = .int .i64 (k : Nat) ∧ Keep [] w wr)
    case atStart => exact ⟨0, Nat.zero_le _, rfl, rfl, HK2.out⟩
    case round =>
      obtain ⟨k, hk, rfl, rfl, hkw⟩ := hrel
      have HR := Lib.hid hkw
      clear hkw HK2
      have hk0 : (0 : Int) ≤ ((k : Nat) : Int) := by omega
      have hk6 : ((k : Nat) : Int) ≤ 60 := by omega
      by_cases hlt : k < l.length
      · have hz : ((k : Nat) : Int) < ((l.length : Nat) : Int) := by omega
        obtain ⟨b, o, hA, _, c0, c1, c2, c3, c4, c5, c6, c7, c8, c9, c10, c11⟩ := (HE.out.keep HR.out).at_evx hlt
        subst hA
        have HXI := Lib.hid (HI.out (l.getD k ev0) (by rw [List.getD_eq_getElem?_getD, List.getElem?_eq_getElem hlt]; exact List.getElem_mem hlt))
        have HLT := Lib.hid hlt
        clear hlt
        generalize l.getD k ev0 = q at *
        by_cases hq : 200 < q.a.ps.length
        · have hz2 : (200 : Int) < ((q.a.ps.length : Nat) : Int) := by omega
          clear hq
          go_wp2_with fail
          refine (KV.out _ HR.out).mono ?_
          rintro r x ⟨rfl, hk⟩
          have HK := Lib.hid (HR.out.trans hk (by simp))
          clear hk
          go_wp2_with fail
          go_ret
          exact ⟨rfl, HK.out⟩
        have hz2 : ¬ (200 : Int) < ((q.a.ps.length : Nat) : Int) := by omega
        have HPL : Hid (q.a.ps.length ≤ 200) := Lib.hid (by omega)
        clear hq
        go_upto_region 11 with fail
        clear hz2
        have KA : Hid (∀ W, Keep [] w W → Calls Tryd.prog 17 #[.agg #[.int .i64 q.a.kind, .int .i64 q.a.key, .int .i64 q.a.val, .int .i64 q.a.n, .slice q.a.pA q.a.ps.length q.a.pc]] W (TextOut (ansZ q.a) W)) := Lib.hid (fun W hk => text_answer q.a HXI.out.fit.a W (HXI.out.row.keep hk) (by have := HPL.out; omega) (HT.out.tab.keep hk))
        have KC : Hid (∀ W, Keep [] w W → Calls Tryd.prog 18 #[.agg #[.int .i64 q.c.op, .int .i64 q.c.key, .int .i64 q.c.val, .int .i64 q.c.hi, .int .i64 q.c.lim]] W (TextOut (callZ q.c) W)) := Lib.hid (fun W hk => text_call q.c HXI.out.fit.c W (HT.out.tab.keep hk))
        have HAL := Lib.hid (ansZ_len q.a HXI.out.fit.a (by have := HPL.out; omega))
        have HAL2 := Lib.hid (ansZ_len2 q.a HXI.out.fit.a HPL.out)
        have HCL := Lib.hid (callZ_len q.c HXI.out.fit.c)
        have HFA := Lib.hid HXI.out.fit.a
        have HFC := Lib.hid HXI.out.fit.c
        unfold TextOut at KA KC
        go_upto_region 12 with fail
        have HA1 := Lib.hid (Blk.new wr 33 #[.int .i64 q.a.kind, .int .i64 q.a.key, .int .i64 q.a.val, .int .i64 q.a.n, .slice q.a.pA q.a.ps.length q.a.pc])
        have HK1_ := Lib.hid ((Keep.refl [] wr).alloc (.cells #[.int .i64 q.a.kind, .int .i64 q.a.key, .int .i64 q.a.val, .int .i64 q.a.n, .slice q.a.pA q.a.ps.length q.a.pc] 33))
        generalize wr.heap.size = ab at HA1 ⊢
        generalize wr.alloc _ = w3 at HA1 HK1_ ⊢
        have e0 : w3.cell? ⟨ab, 0, none⟩ = some (.int .i64 q.a.kind) := HA1.out.cell 0
        have e1 : w3.cell? ⟨ab, 1, none⟩ = some (.int .i64 q.a.key) := HA1.out.cell 1
        have e2 : w3.cell? ⟨ab, 2, none⟩ = some (.int .i64 q.a.val) := HA1.out.cell 2
        have e3 : w3.cell? ⟨ab, 3, none⟩ = some (.int .i64 q.a.n) := HA1.out.cell 3
        have e4 : w3.cell? ⟨ab, 4, none⟩ = some (.slice q.a.pA q.a.ps.length q.a.pc) := HA1.out.cell 4
        by_cases haz : ansZ q.a = []
        · rw [haz] at KA
          go_wp2_with fail
          refine (KA.out _ (HR.out.trans HK1_.out (by simp))).mono ?_
          rintro r w4 ⟨rfl, hk⟩
          have HK4_ := Lib.hid (HK1_.out.trans hk (by simp))
          clear hk HK1_ HA1 e0 e1 e2 e3 e4
          have c2_ := cell_keep0 c2 HK4_.out
          have c3_ := cell_keep0 c3 HK4_.out
          have c4_ := cell_keep0 c4 HK4_.out
          have c5_ := cell_keep0 c5 HK4_.out
          have c6_ := cell_keep0 c6 HK4_.out
          go_upto_region 17 with fail
          clear c2_ c3_ c4_ c5_ c6_
          have HC1 := Lib.hid (Blk.new w4 26 #[.int .i64 q.c.op, .int .i64 q.c.key, .int .i64 q.c.val, .int .i64 q.c.hi, .int .i64 q.c.lim])
          have HK3 := Lib.hid (HK4_.out.alloc (.cells #[.int .i64 q.c.op, .int .i64 q.c.key, .int .i64 q.c.val, .int .i64 q.c.hi, .int .i64 q.c.lim] 26))
          generalize w4.heap.size = cb at HC1 ⊢
          generalize w4.alloc _ = v1 at HC1 HK3 ⊢
          clear HK4_
          have d0 : v1.cell? ⟨cb, 0, none⟩ = some (.int .i64 q.c.op) := HC1.out.cell 0
          have d1 : v1.cell? ⟨cb, 1, none⟩ = some (.int .i64 q.c.key) := HC1.out.cell 1
          have d2 : v1.cell? ⟨cb, 2, none⟩ = some (.int .i64 q.c.val) := HC1.out.cell 2
          have d3 : v1.cell? ⟨cb, 3, none⟩ = some (.int .i64 q.c.hi) := HC1.out.cell 3
          have d4 : v1.cell? ⟨cb, 4, none⟩ = some (.int .i64 q.c.lim) := HC1.out.cell 4
          by_cases hcz : callZ q.c = []
          · rw [hcz] at KC
            go_wp2_with fail
            refine (KC.out _ (HR.out.trans HK3.out (by simp))).mono ?_
            rintro r v2 ⟨rfl, hk⟩
            have HK4 := Lib.hid (HK3.out.trans hk (by simp))
            clear hk HK3 HC1
            go_wp2_with fail
            go_roundg (l.length - (k + 1))
            case measure => have := HLT.out; omega
            case rel => exact ⟨k + 1, HLT.out, rfl, by go_num, HR.out.trans HK4.out (by simp)⟩
          · obtain ⟨c2, hrd, hop⟩ := callZ_back HFC.out hcz
            obtain ⟨hb, hf2⟩ := readC_back hrd
            rw [jn_cut] at hb
            have HCL3 := HCL.out
            obtain ⟨x0, xt, hxz⟩ := List.exists_cons_of_ne_nil hcz
            have HOP := Lib.hid hop
            have hcp : callPair (callZ q.c) = (c2, 0) := by unfold callPair; rw [hrd]
            have KR := Lib.hid (fun (W : World) (hk : Keep [] w W) => text_readCall (callZ q.c) W (by omega) (HT.out.keep hk))
            unfold ReadCOut at KR
            rw [hcp] at KR
            dsimp only at KR
            rw [show c2.cells = #[.int .i64 c2.op, .int .i64 c2.key, .int .i64 c2.val, .int .i64 c2.hi, .int .i64 c2.lim] from rfl, hop] at KR
            have hcx : callZ ⟨q.c.op, c2.key, c2.val, c2.hi, c2.lim⟩ = callZ q.c := by
              rw [← hop]
              exact hb
            have KY := Lib.hid (fun (W : World) (hk : Keep [] w W) => text_call ⟨q.c.op, c2.key, c2.val, c2.hi, c2.lim⟩ ⟨hf2.key, hf2.val, hf2.hi, hf2.lim⟩ W (HT.out.tab.keep hk))
            unfold TextOut at KY
            rw [hcx, show CallX.cells ⟨q.c.op, c2.key, c2.val, c2.hi, c2.lim⟩ = #[.int .i64 q.c.op, .int .i64 c2.key, .int .i64 c2.val, .int .i64 c2.hi, .int .i64 c2.lim] from rfl] at KY
            rw [hxz] at KC KR KY
            clear hrd hop hb hf2 hcp hcx hxz HCL3 hcz
            go_wp2_with fail
            refine (KC.out _ (HR.out.trans HK3.out (by simp))).mono ?_
            rintro r v2 ⟨rfl, hk⟩
            have HK4 := Lib.hid (HK3.out.trans hk (by simp))
            have HC2 := Lib.hid (HC1.out.keep hk (by simp))
            clear hk HK3 HC1
            have d0 : v2.cell? ⟨cb, 0, none⟩ = some (.int .i64 q.c.op) := HC2.out.cell 0
            have d1 : v2.cell? ⟨cb, 1, none⟩ = some (.int .i64 q.c.key) := HC2.out.cell 1
            have d2 : v2.cell? ⟨cb, 2, none⟩ = some (.int .i64 q.c.val) := HC2.out.cell 2
            have d3 : v2.cell? ⟨cb, 3, none⟩ = some (.int .i64 q.c.hi) := HC2.out.cell 3
            have d4 : v2.cell? ⟨cb, 4, none⟩ = some (.int .i64 q.c.lim) := HC2.out.cell 4
            go_wp2_with fail
            refine (KC.out _ (HR.out.trans HK4.out (by simp))).mono ?_
            rintro r v3 ⟨rfl, hk⟩
            have HK5 := Lib.hid (HK4.out.trans hk (by simp))
            have HC3 := Lib.hid (HC2.out.keep hk (by simp))
            clear hk HK4 HC2
            go_wp2_with fail
            refine (KR.out _ (HR.out.trans HK5.out (by simp))).mono ?_
            rintro r v4 ⟨rfl, hk⟩
            have HK6 := Lib.hid (HK5.out.trans hk (by simp))
            have HC4 := Lib.hid (HC3.out.keep hk (by simp))
            clear hk HK5 HC3
            go_upto_region 19 with fail
            have HD7 := Lib.hid (Blk.new v4 26 #[.int .i64 q.c.op, .int .i64 c2.key, .int .i64 c2.val, .int .i64 c2.hi, .int .i64 c2.lim])
            have HC7 := Lib.hid (HC4.out.alloc (.cells #[.int .i64 q.c.op, .int .i64 c2.key, .int .i64 c2.val, .int .i64 c2.hi, .int .i64 c2.lim] 26))
            have HK7 := Lib.hid (HK6.out.alloc (.cells #[.int .i64 q.c.op, .int .i64 c2.key, .int .i64 c2.val, .int .i64 c2.hi, .int .i64 c2.lim] 26))
            generalize v4.heap.size = db at HD7 ⊢
            generalize v4.alloc _ = v5 at HD7 HC7 HK7 ⊢
            clear HK6 HC4
            have KCW := Lib.hid (fun (W : World) (hk : Keep [] wr W) => KC.out W (HR.out.trans hk (by simp)))
            have KYW := Lib.hid (fun (W : World) (hk : Keep [] wr W) => KY.out W (HR.out.trans hk (by simp)))
            refine wp_region_held_drew (S := (fun w' => Blk w' db 26 #[.int .i64 q.c.op, .int .i64 c2.key, .int .i64 c2.val, .int .i64 c2.hi, .int .i64 c2.lim] ∧ Blk w' cb 26 #[.int .i64 q.c.op, .int .i64 q.c.key, .int .i64 q.c.val, .int .i64 q.c.hi, .int .i64 q.c.lim] ∧ Keep [] wr w')) (by kernel_rfl) ⟨HD7.out.drew, HC7.out.drew, HK7.out.drew⟩ (fun hHeld => ?_)
            refine wpAnyH_take (i := 0) (oi := { dst := some 95, op := Go.Op.move (Go.Operand.tmp 13), type := 27, pos := "law.go:80", after := #[], guard := none }) (v := ?_) rfl (by kernel_rfl) (by kernel_rfl) (by kernel_rfl) (fun _ _ _ h => h) (Or.inl ⟨by rfl, ?_⟩) (by assumption) ?_
            rotate_left
            · intro w hSw
              (try dsimp only at hSw)
              go_simp
              all_goals with_reducible rfl
            try simp only [Act.put, List.setIfInBounds_toArray, List.set_cons_zero, List.set_cons_succ]
            refine wpAnyH_take (i := 1) (oi := { dst := some 96, op := Go.Op.binOp Go.BinOp.neq 27 (Go.Operand.tmp 95) (Go.Operand.const (Go.Value.int Go.IntKind.i64 0)) 27, type := 4, pos := "law.go:80", after := #[{ on := 0, ground := Go.Ground.data }], guard := none }) (v := ?_) rfl (by kernel_rfl) (by kernel_rfl) (by kernel_rfl) (fun _ _ _ h => h) (Or.inl ⟨by rfl, ?_⟩) (by assumption) ?_
            rotate_left
            · intro w hSw
              (try dsimp only at hSw)
              go_simp
              all_goals with_reducible rfl
            try simp only [Act.put, List.setIfInBounds_toArray, List.set_cons_zero, List.set_cons_succ]
            refine wpAnyH_take (i := 2) (oi := { dst := some 97, op := Go.Op.move (Go.Operand.tmp 96), type := 4, pos := "law.go:80", after := #[{ on := 1, ground := Go.Ground.data }], guard := none }) (v := ?_) rfl (by kernel_rfl) (by kernel_rfl) (by kernel_rfl) (fun _ _ _ h => h) (Or.inl ⟨by rfl, ?_⟩) (by assumption) ?_
            rotate_left
            · intro w hSw
              (try dsimp only at hSw)
              go_simp
              all_goals with_reducible rfl
            try simp only [Act.put, List.setIfInBounds_toArray, List.set_cons_zero, List.set_cons_succ]
            refine wpAnyH_take (i := 3) (oi := { dst := some 98, op := Go.Op.fieldAddr 26 (Go.Operand.tmp 12) 0, type := 0, pos := "law.go:80", after := #[{ on := 2, ground := Go.Ground.guard }], guard := some (2, false) }) (v := ?_) rfl (by kernel_rfl) (by kernel_rfl) (by kernel_rfl) (fun _ _ _ h => h) (Or.inl ⟨by rfl, ?_⟩) (by assumption) ?_
            rotate_left
            · intro w hSw
              (try dsimp only at hSw)
              go_simp
              all_goals with_reducible rfl
            try simp only [Act.put, List.setIfInBounds_toArray, List.set_cons_zero, List.set_cons_succ]
            refine wpAnyH_take (i := 4) (oi := { dst := some 99, op := Go.Op.load 3 (Go.Operand.tmp 98), type := 3, pos := "law.go:80", after := #[{ on := 3, ground := Go.Ground.data }, { on := 2, ground := Go.Ground.guard }], guard := some (2, false) }) (v := ?_) rfl (by kernel_rfl) (by kernel_rfl) (by kernel_rfl) (fun _ _ _ h => h) (Or.inl ⟨by rfl, ?_⟩) (by assumption) ?_
            rotate_left
            · intro w hSw
              have hc : w.cell? ⟨db, 0, none⟩ = some (.int .i64 q.c.op) := hSw.1.cell 0
              go_simp
              all_goals with_reducible rfl
            try simp only [Act.put, List.setIfInBounds_toArray, List.set_cons_zero, List.set_cons_succ]
            refine wpAnyH_take (i := 5) (oi := { dst := some 100, op := Go.Op.fieldAddr 26 (Go.Operand.tmp 11) 0, type := 0, pos := "law.go:80", after := #[{ on := 2, ground := Go.Ground.guard }], guard := some (2, false) }) (v := ?_) rfl (by kernel_rfl) (by kernel_rfl) (by kernel_rfl) (fun _ _ _ h => h) (Or.inl ⟨by rfl, ?_⟩) (by assumption) ?_
            rotate_left
            · intro w hSw
              (try dsimp only at hSw)
              go_simp
              all_goals with_reducible rfl
            try simp only [Act.put, List.setIfInBounds_toArray, List.set_cons_zero, List.set_cons_succ]
            refine wpAnyH_take (i := 6) (oi := { dst := some 101, op := Go.Op.load 3 (Go.Operand.tmp 100), type := 3, pos := "law.go:80", after := #[{ on := 5, ground := Go.Ground.data }, { on := 2, ground := Go.Ground.guard }], guard := some (2, false) }) (v := ?_) rfl (by kernel_rfl) (by kernel_rfl) (by kernel_rfl) (fun _ _ _ h => h) (Or.inl ⟨by rfl, ?_⟩) (by assumption) ?_
            rotate_left
            · intro w hSw
              have hc : w.cell? ⟨cb, 0, none⟩ = some (.int .i64 q.c.op) := hSw.2.1.cell 0
              go_simp
              all_goals with_reducible rfl
            try simp only [Act.put, List.setIfInBounds_toArray, List.set_cons_zero, List.set_cons_succ]
            refine wpAnyH_take (i := 7) (oi := { dst := some 102, op := Go.Op.binOp Go.BinOp.neq 3 (Go.Operand.tmp 99) (Go.Operand.tmp 101) 3, type := 4, pos := "law.go:80", after := #[{ on := 4, ground := Go.Ground.data }, { on := 6, ground := Go.Ground.data }, { on := 2, ground := Go.Ground.guard }], guard := some (2, false) }) (v := ?_) rfl (by kernel_rfl) (by kernel_rfl) (by kernel_rfl) (fun _ _ _ h => h) (Or.inl ⟨by rfl, ?_⟩) (by assumption) ?_
            rotate_left
            · intro w hSw
              (try dsimp only at hSw)
              go_simp
              all_goals with_reducible rfl
            try simp only [Act.put, List.setIfInBounds_toArray, List.set_cons_zero, List.set_cons_succ]
            refine wpAnyH_take (i := 8) (oi := { dst := some 103, op := Go.Op.pick (Go.Operand.tmp 97) (Go.Operand.const (Go.Value.bool true)) (Go.Operand.tmp 102), type := 4, pos := "law.go:80", after := #[{ on := 2, ground := Go.Ground.data }, { on := 7, ground := Go.Ground.data }], guard := none }) (v := ?_) rfl (by kernel_rfl) (by kernel_rfl) (by kernel_rfl) (fun _ _ _ h => h) (Or.inl ⟨by rfl, ?_⟩) (by assumption) ?_
            rotate_left
            · intro w hSw
              (try dsimp only at hSw)
              go_simp
              all_goals with_reducible rfl
            try simp only [Act.put, List.setIfInBounds_toArray, List.set_cons_zero, List.set_cons_succ]
            refine wpAnyH_take (i := 9) (oi := { dst := some 104, op := Go.Op.move (Go.Operand.tmp 103), type := 4, pos := "law.go:80", after := #[{ on := 8, ground := Go.Ground.data }, { on := 2, ground := Go.Ground.chain }], guard := none }) (v := ?_) rfl (by kernel_rfl) (by kernel_rfl) (by kernel_rfl) (fun _ _ _ h => h) (Or.inl ⟨by rfl, ?_⟩) (by assumption) ?_
            rotate_left
            · intro w hSw
              (try dsimp only at hSw)
              go_simp
              all_goals with_reducible rfl
            try simp only [Act.put, List.setIfInBounds_toArray, List.set_cons_zero, List.set_cons_succ]
            refine wpAnyH_take (i := 10) (oi := { dst := some 105, op := Go.Op.load 26 (Go.Operand.tmp 12), type := 26, pos := "law.go:80", after := #[{ on := 9, ground := Go.Ground.guard }], guard := some (9, false) }) (v := ?_) rfl (by kernel_rfl) (by kernel_rfl) (by kernel_rfl) (fun _ _ _ h => h) (Or.inl ⟨by rfl, ?_⟩) (by assumption) ?_
            rotate_left
            · intro w hSw
              have hc0 : w.cell? ⟨db, 0, none⟩ = some (.int .i64 q.c.op) := hSw.1.cell 0
              have hc1 : w.cell? ⟨db, 1, none⟩ = some (.int .i64 c2.key) := hSw.1.cell 1
              have hc2 : w.cell? ⟨db, 2, none⟩ = some (.int .i64 c2.val) := hSw.1.cell 2
              have hc3 : w.cell? ⟨db, 3, none⟩ = some (.int .i64 c2.hi) := hSw.1.cell 3
              have hc4 : w.cell? ⟨db, 4, none⟩ = some (.int .i64 c2.lim) := hSw.1.cell 4
              go_simp
              all_goals with_reducible rfl
            try simp only [Act.put, List.setIfInBounds_toArray, List.set_cons_zero, List.set_cons_succ]
            refine wpAnyH_take (i := 12) (oi := { dst := some 107, op := Go.Op.load 26 (Go.Operand.tmp 11), type := 26, pos := "law.go:80", after := #[{ on := 9, ground := Go.Ground.guard }], guard := some (9, false) }) (v := ?_) rfl (by kernel_rfl) (by kernel_rfl) (by kernel_rfl) (fun _ _ _ h => h) (Or.inl ⟨by rfl, ?_⟩) (by assumption) ?_
            rotate_left
            · intro w hSw
              have hc0 : w.cell? ⟨cb, 0, none⟩ = some (.int .i64 q.c.op) := hSw.2.1.cell 0
              have hc1 : w.cell? ⟨cb, 1, none⟩ = some (.int .i64 q.c.key) := hSw.2.1.cell 1
              have hc2 : w.cell? ⟨cb, 2, none⟩ = some (.int .i64 q.c.val) := hSw.2.1.cell 2
              have hc3 : w.cell? ⟨cb, 3, none⟩ = some (.int .i64 q.c.hi) := hSw.2.1.cell 3
              have hc4 : w.cell? ⟨cb, 4, none⟩ = some (.int .i64 q.c.lim) := hSw.2.1.cell 4
              go_simp
              all_goals with_reducible rfl
            try simp only [Act.put, List.setIfInBounds_toArray, List.set_cons_zero, List.set_cons_succ]
            refine wpAnyH_ready (rs := [11]) (by kernel_rfl) (by simp) ?_
            refine AllReadyH.cons (o := { dst := some 106, op := Go.Op.call { callee := Go.Callee.value (Go.Operand.func 18), args := #[Go.Operand.tmp 105], argTypes := #[26] }, type := 9, pos := "law.go:80", after := #[{ on := 10, ground := Go.Ground.data }, { on := 9, ground := Go.Ground.chain }, { on := 9, ground := Go.Ground.guard }], guard := some (9, false) }) rfl (fun K hK => ?_) AllReadyH.nil
            go_simp
            refine (KYW.out _ hHeld.2.2).mono ?_
            rintro r z ⟨rfl, hk⟩
            try simp only []
            refine hK.out _ _ ⟨hHeld.1.keep hk (by simp), hHeld.2.1.keep hk (by simp), hHeld.2.2.trans hk (by simp)⟩ (fun hHeld => ?_)
            clear hK K
            try simp only [Act.put, List.setIfInBounds_toArray, List.set_cons_zero, List.set_cons_succ]
            refine wpAnyH_ready (rs := [13]) (by kernel_rfl) (by simp) ?_
            refine AllReadyH.cons (o := { dst := some 108, op := Go.Op.call { callee := Go.Callee.value (Go.Operand.func 18), args := #[Go.Operand.tmp 107], argTypes := #[26] }, type := 9, pos := "law.go:80", after := #[{ on := 12, ground := Go.Ground.data }, { on := 11, ground := Go.Ground.chain }, { on := 9, ground := Go.Ground.guard }], guard := some (9, false) }) rfl (fun K hK => ?_) AllReadyH.nil
            go_simp
            refine (KCW.out _ hHeld.2.2).mono ?_
            rintro r z ⟨rfl, hk⟩
            try simp only []
            refine hK.out _ _ ⟨hHeld.1.keep hk (by simp), hHeld.2.1.keep hk (by simp), hHeld.2.2.trans hk (by simp)⟩ (fun hHeld => ?_)
            clear hK K
            try simp only [Act.put, List.setIfInBounds_toArray, List.set_cons_zero, List.set_cons_succ]
            refine wpAnyH_take (i := 14) (oi := { dst := some 109, op := Go.Op.binOp Go.BinOp.neq 9 (Go.Operand.tmp 106) (Go.Operand.tmp 108) 9, type := 4, pos := "law.go:80", after := #[{ on := 11, ground := Go.Ground.data }, { on := 13, ground := Go.Ground.data }, { on := 9, ground := Go.Ground.guard }], guard := some (9, false) }) (v := ?_) rfl (by kernel_rfl) (by kernel_rfl) (by kernel_rfl) (fun _ _ _ h => h) (Or.inl ⟨by rfl, ?_⟩) (by assumption) ?_
            rotate_left
            · intro w hSw
              (try dsimp only at hSw)
              go_simp
              all_goals with_reducible rfl
            try simp only [Act.put, List.setIfInBounds_toArray, List.set_cons_zero, List.set_cons_succ]
            refine wpAnyH_take (i := 15) (oi := { dst := some 110, op := Go.Op.pick (Go.Operand.tmp 104) (Go.Operand.const (Go.Value.bool true)) (Go.Operand.tmp 109), type := 4, pos := "law.go:80", after := #[{ on := 9, ground := Go.Ground.data }, { on := 14, ground := Go.Ground.data }], guard := none }) (v := ?_) rfl (by kernel_rfl) (by kernel_rfl) (by kernel_rfl) (fun _ _ _ h => h) (Or.inl ⟨by rfl, ?_⟩) (by assumption) ?_
            rotate_left
            · intro w hSw
              (try dsimp only at hSw)
              go_simp
              all_goals with_reducible rfl
            try simp only [Act.put, List.setIfInBounds_toArray, List.set_cons_zero, List.set_cons_succ]
            refine wpAnyH_done (by kernel_rfl) ?_ _
            have HKF := Lib.hid hHeld.2.2
            clear hHeld KCW KYW HD7 HC7 HK7
            go_wp2_with fail
            go_roundg (l.length - (k + 1))
            case measure => have := HLT.out; omega
            case rel => exact ⟨k + 1, HLT.out, rfl, by go_num, HR.out.trans HKF.out (by simp)⟩
        · obtain ⟨a2, hrd, hkd, hpl⟩ := ansZ_back HFA.out haz
          obtain ⟨hb, hf2, _⟩ := readA_back hrd
          rw [jn_cut] at hb
          have HAL3 := HAL2.out
          obtain ⟨x0, xt, hxz⟩ := List.exists_cons_of_ne_nil haz
          have KR := Lib.hid (fun (W : World) (hk : Keep [] w W) => text_readAnswer (ansZ q.a) W (by omega) (HT.out.keep hk))
          unfold ReadAOut at KR
          rw [hrd] at KR
          dsimp only at KR
          rw [hkd] at KR
          have HX2 : Hid (∀ (W : World) (A1 : Option Addr) (p1 : Nat), Keep [] w W → ElAt pairC W A1 a2.ps → Calls Tryd.prog 17 #[.agg #[.int .i64 q.a.kind, .int .i64 a2.key, .int .i64 a2.val, .int .i64 a2.n, .slice A1 a2.ps.length p1]] W (TextOut (ansZ q.a) W)) := Lib.hid (fun W A1 p1 hk hp => by
            have h1 := text_answer ⟨q.a.kind, a2.key, a2.val, a2.n, a2.ps, A1, p1⟩ ⟨hf2.key, hf2.val, hf2.n, hf2.ps⟩ W hp (by show a2.ps.length ≤ 4100; have := HPL.out; omega) (HT.out.tab.keep hk)
            have h2 : ansZ ⟨q.a.kind, a2.key, a2.val, a2.n, a2.ps, A1, p1⟩ = ansZ q.a := by
              rw [← hkd]
              exact hb
            rw [h2] at h1
            exact h1)
          unfold TextOut at HX2
          rw [hxz] at KA KR HX2
          clear hrd hkd hpl hb hf2 HAL3 hxz haz
          go_wp2_with fail
          refine (KA.out _ (HR.out.trans HK1_.out (by simp))).mono ?_
          rintro r w4 ⟨rfl, hk⟩
          have HK4_ := Lib.hid (HK1_.out.trans hk (by simp))
          have HA4 := Lib.hid (HA1.out.keep hk (by simp))
          clear hk HK1_ HA1 e0 e1 e2 e3 e4
          have e0 : w4.cell? ⟨ab, 0, none⟩ = some (.int .i64 q.a.kind) := HA4.out.cell 0
          have e1 : w4.cell? ⟨ab, 1, none⟩ = some (.int .i64 q.a.key) := HA4.out.cell 1
          have e2 : w4.cell? ⟨ab, 2, none⟩ = some (.int .i64 q.a.val) := HA4.out.cell 2
          have e3 : w4.cell? ⟨ab, 3, none⟩ = some (.int .i64 q.a.n) := HA4.out.cell 3
          have e4 : w4.cell? ⟨ab, 4, none⟩ = some (.slice q.a.pA q.a.ps.length q.a.pc) := HA4.out.cell 4
          go_wp2_with fail
          refine (KA.out _ (HR.out.trans HK4_.out (by simp))).mono ?_
          rintro r w5 ⟨rfl, hk⟩
          have HK5_ := Lib.hid (HK4_.out.trans hk (by simp))
          have HA5 := Lib.hid (HA4.out.keep hk (by simp))
          clear hk HK4_ HA4 e0 e1 e2 e3 e4
          go_wp2_with fail
          refine (KR.out _ (HR.out.trans HK5_.out (by simp))).mono ?_
          rintro r w6 ⟨hk, A1, p1, rfl, ho⟩
          have HK6_ := Lib.hid (HK5_.out.trans hk (by simp))
          have HA6 := Lib.hid (HA5.out.keep hk (by simp))
          have HP6 := Lib.hid (ElAt.of_own ho rfl)
          clear hk ho HK5_ HA5
          go_upto_region 14 with fail
          have HX7 := Lib.hid (Blk.new w6 33 #[.int .i64 q.a.kind, .int .i64 a2.key, .int .i64 a2.val, .int .i64 a2.n, .slice A1 a2.ps.length p1])
          have HA7 := Lib.hid (HA6.out.alloc (.cells #[.int .i64 q.a.kind, .int .i64 a2.key, .int .i64 a2.val, .int .i64 a2.n, .slice A1 a2.ps.length p1] 33))
          have HK7_ := Lib.hid (HK6_.out.alloc (.cells #[.int .i64 q.a.kind, .int .i64 a2.key, .int .i64 a2.val, .int .i64 a2.n, .slice A1 a2.ps.length p1] 33))
          have HP7 := Lib.hid (HP6.out.keep ((Keep.refl [] w6).alloc (.cells #[.int .i64 q.a.kind, .int .i64 a2.key, .int .i64 a2.val, .int .i64 a2.n, .slice A1 a2.ps.length p1] 33)))
          generalize w6.heap.size = xb at HX7 ⊢
          generalize w6.alloc _ = w7 at HX7 HA7 HK7_ HP7 ⊢
          clear HK6_ HA6 HP6
          have KAW := Lib.hid (fun (W : World) (hk : Keep [] w7 W) => KA.out W (HR.out.trans (HK7_.out.trans hk (by simp)) (by simp)))
          have KXW := Lib.hid (fun (W : World) (hk : Keep [] w7 W) => HX2.out W A1 p1 (HR.out.trans (HK7_.out.trans hk (by simp)) (by simp)) (HP7.out.keep hk))
          refine wp_region_held_drew (S := (fun w' => Blk w' xb 33 #[.int .i64 q.a.kind, .int .i64 a2.key, .int .i64 a2.val, .int .i64 a2.n, .slice A1 a2.ps.length p1] ∧ Blk w' ab 33 #[.int .i64 q.a.kind, .int .i64 q.a.key, .int .i64 q.a.val, .int .i64 q.a.n, .slice q.a.pA q.a.ps.length q.a.pc] ∧ Keep [] w7 w')) (by kernel_rfl) ⟨HX7.out.drew, HA7.out.drew, (Keep.refl _ _).drew⟩ (fun hHeld => ?_)
          refine wpAnyH_take (i := 0) (oi := { dst := some 65, op := Go.Op.move (Go.Operand.tmp 10), type := 27, pos := "law.go:73", after := #[], guard := none }) (v := ?_) rfl (by kernel_rfl) (by kernel_rfl) (by kernel_rfl) (fun _ _ _ h => h) (Or.inl ⟨by rfl, ?_⟩) (by assumption) ?_
          rotate_left
          · intro w hSw
            (try dsimp only at hSw)
            go_simp
            all_goals with_reducible rfl
          try simp only [Act.put, List.setIfInBounds_toArray, List.set_cons_zero, List.set_cons_succ]
          refine wpAnyH_take (i := 1) (oi := { dst := some 66, op := Go.Op.binOp Go.BinOp.neq 27 (Go.Operand.tmp 65) (Go.Operand.const (Go.Value.int Go.IntKind.i64 0)) 27, type := 4, pos := "law.go:73", after := #[{ on := 0, ground := Go.Ground.data }], guard := none }) (v := ?_) rfl (by kernel_rfl) (by kernel_rfl) (by kernel_rfl) (fun _ _ _ h => h) (Or.inl ⟨by rfl, ?_⟩) (by assumption) ?_
          rotate_left
          · intro w hSw
            (try dsimp only at hSw)
            go_simp
            all_goals with_reducible rfl
          try simp only [Act.put, List.setIfInBounds_toArray, List.set_cons_zero, List.set_cons_succ]
          refine wpAnyH_take (i := 2) (oi := { dst := some 67, op := Go.Op.move (Go.Operand.tmp 66), type := 4, pos := "law.go:73", after := #[{ on := 1, ground := Go.Ground.data }], guard := none }) (v := ?_) rfl (by kernel_rfl) (by kernel_rfl) (by kernel_rfl) (fun _ _ _ h => h) (Or.inl ⟨by rfl, ?_⟩) (by assumption) ?_
          rotate_left
          · intro w hSw
            (try dsimp only at hSw)
            go_simp
            all_goals with_reducible rfl
          try simp only [Act.put, List.setIfInBounds_toArray, List.set_cons_zero, List.set_cons_succ]
          refine wpAnyH_take (i := 3) (oi := { dst := some 68, op := Go.Op.fieldAddr 33 (Go.Operand.tmp 9) 0, type := 0, pos := "law.go:73", after := #[{ on := 2, ground := Go.Ground.guard }], guard := some (2, false) }) (v := ?_) rfl (by kernel_rfl) (by kernel_rfl) (by kernel_rfl) (fun _ _ _ h => h) (Or.inl ⟨by rfl, ?_⟩) (by assumption) ?_
          rotate_left
          · intro w hSw
            (try dsimp only at hSw)
            go_simp
            all_goals with_reducible rfl
          try simp only [Act.put, List.setIfInBounds_toArray, List.set_cons_zero, List.set_cons_succ]
          refine wpAnyH_take (i := 4) (oi := { dst := some 69, op := Go.Op.load 3 (Go.Operand.tmp 68), type := 3, pos := "law.go:73", after := #[{ on := 3, ground := Go.Ground.data }, { on := 2, ground := Go.Ground.guard }], guard := some (2, false) }) (v := ?_) rfl (by kernel_rfl) (by kernel_rfl) (by kernel_rfl) (fun _ _ _ h => h) (Or.inl ⟨by rfl, ?_⟩) (by assumption) ?_
          rotate_left
          · intro w hSw
            have hc : w.cell? ⟨xb, 0, none⟩ = some (.int .i64 q.a.kind) := hSw.1.cell 0
            go_simp
            all_goals with_reducible rfl
          try simp only [Act.put, List.setIfInBounds_toArray, List.set_cons_zero, List.set_cons_succ]
          refine wpAnyH_take (i := 5) (oi := { dst := some 70, op := Go.Op.fieldAddr 33 (Go.Operand.tmp 8) 0, type := 0, pos := "law.go:73", after := #[{ on := 2, ground := Go.Ground.guard }], guard := some (2, false) }) (v := ?_) rfl (by kernel_rfl) (by kernel_rfl) (by kernel_rfl) (fun _ _ _ h => h) (Or.inl ⟨by rfl, ?_⟩) (by assumption) ?_
          rotate_left
          · intro w hSw
            (try dsimp only at hSw)
            go_simp
            all_goals with_reducible rfl
          try simp only [Act.put, List.setIfInBounds_toArray, List.set_cons_zero, List.set_cons_succ]
          refine wpAnyH_take (i := 6) (oi := { dst := some 71, op := Go.Op.load 3 (Go.Operand.tmp 70), type := 3, pos := "law.go:73", after := #[{ on := 5, ground := Go.Ground.data }, { on := 2, ground := Go.Ground.guard }], guard := some (2, false) }) (v := ?_) rfl (by kernel_rfl) (by kernel_rfl) (by kernel_rfl) (fun _ _ _ h => h) (Or.inl ⟨by rfl, ?_⟩) (by assumption) ?_
          rotate_left
          · intro w hSw
            have hc : w.cell? ⟨ab, 0, none⟩ = some (.int .i64 q.a.kind) := hSw.2.1.cell 0
            go_simp
            all_goals with_reducible rfl
          try simp only [Act.put, List.setIfInBounds_toArray, List.set_cons_zero, List.set_cons_succ]
          refine wpAnyH_take (i := 7) (oi := { dst := some 72, op := Go.Op.binOp Go.BinOp.neq 3 (Go.Operand.tmp 69) (Go.Operand.tmp 71) 3, type := 4, pos := "law.go:73", after := #[{ on := 4, ground := Go.Ground.data }, { on := 6, ground := Go.Ground.data }, { on := 2, ground := Go.Ground.guard }], guard := some (2, false) }) (v := ?_) rfl (by kernel_rfl) (by kernel_rfl) (by kernel_rfl) (fun _ _ _ h => h) (Or.inl ⟨by rfl, ?_⟩) (by assumption) ?_
          rotate_left
          · intro w hSw
            (try dsimp only at hSw)
            go_simp
            all_goals with_reducible rfl
          try simp only [Act.put, List.setIfInBounds_toArray, List.set_cons_zero, List.set_cons_succ]
          refine wpAnyH_take (i := 8) (oi := { dst := some 73, op := Go.Op.pick (Go.Operand.tmp 67) (Go.Operand.const (Go.Value.bool true)) (Go.Operand.tmp 72), type := 4, pos := "law.go:73", after := #[{ on := 2, ground := Go.Ground.data }, { on := 7, ground := Go.Ground.data }], guard := none }) (v := ?_) rfl (by kernel_rfl) (by kernel_rfl) (by kernel_rfl) (fun _ _ _ h => h) (Or.inl ⟨by rfl, ?_⟩) (by assumption) ?_
          rotate_left
          · intro w hSw
            (try dsimp only at hSw)
            go_simp
            all_goals with_reducible rfl
          try simp only [Act.put, List.setIfInBounds_toArray, List.set_cons_zero, List.set_cons_succ]
          refine wpAnyH_take (i := 9) (oi := { dst := some 74, op := Go.Op.move (Go.Operand.tmp 73), type := 4, pos := "law.go:73", after := #[{ on := 8, ground := Go.Ground.data }, { on := 2, ground := Go.Ground.chain }], guard := none }) (v := ?_) rfl (by kernel_rfl) (by kernel_rfl) (by kernel_rfl) (fun _ _ _ h => h) (Or.inl ⟨by rfl, ?_⟩) (by assumption) ?_
          rotate_left
          · intro w hSw
            (try dsimp only at hSw)
            go_simp
            all_goals with_reducible rfl
          try simp only [Act.put, List.setIfInBounds_toArray, List.set_cons_zero, List.set_cons_succ]
          refine wpAnyH_take (i := 10) (oi := { dst := some 75, op := Go.Op.load 33 (Go.Operand.tmp 9), type := 33, pos := "law.go:73", after := #[{ on := 9, ground := Go.Ground.guard }], guard := some (9, false) }) (v := ?_) rfl (by kernel_rfl) (by kernel_rfl) (by kernel_rfl) (fun _ _ _ h => h) (Or.inl ⟨by rfl, ?_⟩) (by assumption) ?_
          rotate_left
          · intro w hSw
            have hc0 : w.cell? ⟨xb, 0, none⟩ = some (.int .i64 q.a.kind) := hSw.1.cell 0
            have hc1 : w.cell? ⟨xb, 1, none⟩ = some (.int .i64 a2.key) := hSw.1.cell 1
            have hc2 : w.cell? ⟨xb, 2, none⟩ = some (.int .i64 a2.val) := hSw.1.cell 2
            have hc3 : w.cell? ⟨xb, 3, none⟩ = some (.int .i64 a2.n) := hSw.1.cell 3
            have hc4 : w.cell? ⟨xb, 4, none⟩ = some (.slice A1 a2.ps.length p1) := hSw.1.cell 4
            go_simp
            all_goals with_reducible rfl
          try simp only [Act.put, List.setIfInBounds_toArray, List.set_cons_zero, List.set_cons_succ]
          refine wpAnyH_take (i := 12) (oi := { dst := some 77, op := Go.Op.load 33 (Go.Operand.tmp 8), type := 33, pos := "law.go:73", after := #[{ on := 9, ground := Go.Ground.guard }], guard := some (9, false) }) (v := ?_) rfl (by kernel_rfl) (by kernel_rfl) (by kernel_rfl) (fun _ _ _ h => h) (Or.inl ⟨by rfl, ?_⟩) (by assumption) ?_
          rotate_left
          · intro w hSw
            have hc0 : w.cell? ⟨ab, 0, none⟩ = some (.int .i64 q.a.kind) := hSw.2.1.cell 0
            have hc1 : w.cell? ⟨ab, 1, none⟩ = some (.int .i64 q.a.key) := hSw.2.1.cell 1
            have hc2 : w.cell? ⟨ab, 2, none⟩ = some (.int .i64 q.a.val) := hSw.2.1.cell 2
            have hc3 : w.cell? ⟨ab, 3, none⟩ = some (.int .i64 q.a.n) := hSw.2.1.cell 3
            have hc4 : w.cell? ⟨ab, 4, none⟩ = some (.slice q.a.pA q.a.ps.length q.a.pc) := hSw.2.1.cell 4
            go_simp
            all_goals with_reducible rfl
          try simp only [Act.put, List.setIfInBounds_toArray, List.set_cons_zero, List.set_cons_succ]
          refine wpAnyH_ready (rs := [11]) (by kernel_rfl) (by simp) ?_
          refine AllReadyH.cons (o := { dst := some 76, op := Go.Op.call { callee := Go.Callee.value (Go.Operand.func 17), args := #[Go.Operand.tmp 75], argTypes := #[33] }, type := 9, pos := "law.go:73", after := #[{ on := 10, ground := Go.Ground.data }, { on := 9, ground := Go.Ground.chain }, { on := 9, ground := Go.Ground.guard }], guard := some (9, false) }) rfl (fun K hK => ?_) AllReadyH.nil
          go_simp
          refine (KXW.out _ hHeld.2.2).mono ?_
          rintro r z ⟨rfl, hk⟩
          try simp only []
          refine hK.out _ _ ⟨hHeld.1.keep hk (by simp), hHeld.2.1.keep hk (by simp), hHeld.2.2.trans hk (by simp)⟩ (fun hHeld => ?_)
          clear hK K
          try simp only [Act.put, List.setIfInBounds_toArray, List.set_cons_zero, List.set_cons_succ]
          refine wpAnyH_ready (rs := [13]) (by kernel_rfl) (by simp) ?_
          refine AllReadyH.cons (o := { dst := some 78, op := Go.Op.call { callee := Go.Callee.value (Go.Operand.func 17), args := #[Go.Operand.tmp 77], argTypes := #[33] }, type := 9, pos := "law.go:73", after := #[{ on := 12, ground := Go.Ground.data }, { on := 11, ground := Go.Ground.chain }, { on := 9, ground := Go.Ground.guard }], guard := some (9, false) }) rfl (fun K hK => ?_) AllReadyH.nil
          go_simp
          refine (KAW.out _ hHeld.2.2).mono ?_
          rintro r z ⟨rfl, hk⟩
          try simp only []
          refine hK.out _ _ ⟨hHeld.1.keep hk (by simp), hHeld.2.1.keep hk (by simp), hHeld.2.2.trans hk (by simp)⟩ (fun hHeld => ?_)
          clear hK K
          try simp only [Act.put, List.setIfInBounds_toArray, List.set_cons_zero, List.set_cons_succ]
          refine wpAnyH_take (i := 14) (oi := { dst := some 79, op := Go.Op.binOp Go.BinOp.neq 9 (Go.Operand.tmp 76) (Go.Operand.tmp 78) 9, type := 4, pos := "law.go:73", after := #[{ on := 11, ground := Go.Ground.data }, { on := 13, ground := Go.Ground.data }, { on := 9, ground := Go.Ground.guard }], guard := some (9, false) }) (v := ?_) rfl (by kernel_rfl) (by kernel_rfl) (by kernel_rfl) (fun _ _ _ h => h) (Or.inl ⟨by rfl, ?_⟩) (by assumption) ?_
          rotate_left
          · intro w hSw
            (try dsimp only at hSw)
            go_simp
            all_goals with_reducible rfl
          try simp only [Act.put, List.setIfInBounds_toArray, List.set_cons_zero, List.set_cons_succ]
          refine wpAnyH_take (i := 15) (oi := { dst := some 80, op := Go.Op.pick (Go.Operand.tmp 74) (Go.Operand.const (Go.Value.bool true)) (Go.Operand.tmp 79), type := 4, pos := "law.go:73", after := #[{ on := 9, ground := Go.Ground.data }, { on := 14, ground := Go.Ground.data }], guard := none }) (v := ?_) rfl (by kernel_rfl) (by kernel_rfl) (by kernel_rfl) (fun _ _ _ h => h) (Or.inl ⟨by rfl, ?_⟩) (by assumption) ?_
          rotate_left
          · intro w hSw
            (try dsimp only at hSw)
            go_simp
            all_goals with_reducible rfl
          try simp only [Act.put, List.setIfInBounds_toArray, List.set_cons_zero, List.set_cons_succ]
          refine wpAnyH_done (by kernel_rfl) ?_ _
          have HKG := Lib.hid (HK7_.out.trans hHeld.2.2 (by simp))
          clear hHeld KAW KXW HX7 HA7 HK7_ HP7 HX2
          have c2_ := cell_keep0 c2 HKG.out
          have c3_ := cell_keep0 c3 HKG.out
          have c4_ := cell_keep0 c4 HKG.out
          have c5_ := cell_keep0 c5 HKG.out
          have c6_ := cell_keep0 c6 HKG.out
          go_upto_region 17 with fail
          clear c2_ c3_ c4_ c5_ c6_
          have HC1 := Lib.hid (Blk.new z 26 #[.int .i64 q.c.op, .int .i64 q.c.key, .int .i64 q.c.val, .int .i64 q.c.hi, .int .i64 q.c.lim])
          have HK3 := Lib.hid (HKG.out.alloc (.cells #[.int .i64 q.c.op, .int .i64 q.c.key, .int .i64 q.c.val, .int .i64 q.c.hi, .int .i64 q.c.lim] 26))
          generalize z.heap.size = cb at HC1 ⊢
          generalize z.alloc _ = v1 at HC1 HK3 ⊢
          clear HKG
          have d0 : v1.cell? ⟨cb, 0, none⟩ = some (.int .i64 q.c.op) := HC1.out.cell 0
          have d1 : v1.cell? ⟨cb, 1, none⟩ = some (.int .i64 q.c.key) := HC1.out.cell 1
          have d2 : v1.cell? ⟨cb, 2, none⟩ = some (.int .i64 q.c.val) := HC1.out.cell 2
          have d3 : v1.cell? ⟨cb, 3, none⟩ = some (.int .i64 q.c.hi) := HC1.out.cell 3
          have d4 : v1.cell? ⟨cb, 4, none⟩ = some (.int .i64 q.c.lim) := HC1.out.cell 4
          by_cases hcz : callZ q.c = []
          · rw [hcz] at KC
            go_wp2_with fail
            refine (KC.out _ (HR.out.trans HK3.out (by simp))).mono ?_
            rintro r v2 ⟨rfl, hk⟩
            have HK4 := Lib.hid (HK3.out.trans hk (by simp))
            clear hk HK3 HC1
            go_wp2_with fail
            go_roundg (l.length - (k + 1))
            case measure => have := HLT.out; omega
            case rel => exact ⟨k + 1, HLT.out, rfl, by go_num, HR.out.trans HK4.out (by simp)⟩
          · obtain ⟨c2, hrd, hop⟩ := callZ_back HFC.out hcz
            obtain ⟨hb, hf2⟩ := readC_back hrd
            rw [jn_cut] at hb
            have HCL3 := HCL.out
            obtain ⟨x0, xt, hxz⟩ := List.exists_cons_of_ne_nil hcz
            have HOP := Lib.hid hop
            have hcp : callPair (callZ q.c) = (c2, 0) := by unfold callPair; rw [hrd]
            have KR := Lib.hid (fun (W : World) (hk : Keep [] w W) => text_readCall (callZ q.c) W (by omega) (HT.out.keep hk))
            unfold ReadCOut at KR
            rw [hcp] at KR
            dsimp only at KR
            rw [show c2.cells = #[.int .i64 c2.op, .int .i64 c2.key, .int .i64 c2.val, .int .i64 c2.hi, .int .i64 c2.lim] from rfl, hop] at KR
            have hcx : callZ ⟨q.c.op, c2.key, c2.val, c2.hi, c2.lim⟩ = callZ q.c := by
              rw [← hop]
              exact hb
            have KY := Lib.hid (fun (W : World) (hk : Keep [] w W) => text_call ⟨q.c.op, c2.key, c2.val, c2.hi, c2.lim⟩ ⟨hf2.key, hf2.val, hf2.hi, hf2.lim⟩ W (HT.out.tab.keep hk))
            unfold TextOut at KY
            rw [hcx, show CallX.cells ⟨q.c.op, c2.key, c2.val, c2.hi, c2.lim⟩ = #[.int .i64 q.c.op, .int .i64 c2.key, .int .i64 c2.val, .int .i64 c2.hi, .int .i64 c2.lim] from rfl] at KY
            rw [hxz] at KC KR KY
            clear hrd hop hb hf2 hcp hcx hxz HCL3 hcz
            go_wp2_with fail
            refine (KC.out _ (HR.out.trans HK3.out (by simp))).mono ?_
            rintro r v2 ⟨rfl, hk⟩
            have HK4 := Lib.hid (HK3.out.trans hk (by simp))
            have HC2 := Lib.hid (HC1.out.keep hk (by simp))
            clear hk HK3 HC1
            have d0 : v2.cell? ⟨cb, 0, none⟩ = some (.int .i64 q.c.op) := HC2.out.cell 0
            have d1 : v2.cell? ⟨cb, 1, none⟩ = some (.int .i64 q.c.key) := HC2.out.cell 1
            have d2 : v2.cell? ⟨cb, 2, none⟩ = some (.int .i64 q.c.val) := HC2.out.cell 2
            have d3 : v2.cell? ⟨cb, 3, none⟩ = some (.int .i64 q.c.hi) := HC2.out.cell 3
            have d4 : v2.cell? ⟨cb, 4, none⟩ = some (.int .i64 q.c.lim) := HC2.out.cell 4
            go_wp2_with fail
            refine (KC.out _ (HR.out.trans HK4.out (by simp))).mono ?_
            rintro r v3 ⟨rfl, hk⟩
            have HK5 := Lib.hid (HK4.out.trans hk (by simp))
            have HC3 := Lib.hid (HC2.out.keep hk (by simp))
            clear hk HK4 HC2
            go_wp2_with fail
            refine (KR.out _ (HR.out.trans HK5.out (by simp))).mono ?_
            rintro r v4 ⟨rfl, hk⟩
            have HK6 := Lib.hid (HK5.out.trans hk (by simp))
            have HC4 := Lib.hid (HC3.out.keep hk (by simp))
            clear hk HK5 HC3
            go_upto_region 19 with fail
            have HD7 := Lib.hid (Blk.new v4 26 #[.int .i64 q.c.op, .int .i64 c2.key, .int .i64 c2.val, .int .i64 c2.hi, .int .i64 c2.lim])
            have HC7 := Lib.hid (HC4.out.alloc (.cells #[.int .i64 q.c.op, .int .i64 c2.key, .int .i64 c2.val, .int .i64 c2.hi, .int .i64 c2.lim] 26))
            have HK7 := Lib.hid (HK6.out.alloc (.cells #[.int .i64 q.c.op, .int .i64 c2.key, .int .i64 c2.val, .int .i64 c2.hi, .int .i64 c2.lim] 26))
            generalize v4.heap.size = db at HD7 ⊢
            generalize v4.alloc _ = v5 at HD7 HC7 HK7 ⊢
            clear HK6 HC4
            have KCW := Lib.hid (fun (W : World) (hk : Keep [] wr W) => KC.out W (HR.out.trans hk (by simp)))
            have KYW := Lib.hid (fun (W : World) (hk : Keep [] wr W) => KY.out W (HR.out.trans hk (by simp)))
            refine wp_region_held_drew (S := (fun w' => Blk w' db 26 #[.int .i64 q.c.op, .int .i64 c2.key, .int .i64 c2.val, .int .i64 c2.hi, .int .i64 c2.lim] ∧ Blk w' cb 26 #[.int .i64 q.c.op, .int .i64 q.c.key, .int .i64 q.c.val, .int .i64 q.c.hi, .int .i64 q.c.lim] ∧ Keep [] wr w')) (by kernel_rfl) ⟨HD7.out.drew, HC7.out.drew, HK7.out.drew⟩ (fun hHeld => ?_)
            refine wpAnyH_take (i := 0) (oi := { dst := some 95, op := Go.Op.move (Go.Operand.tmp 13), type := 27, pos := "law.go:80", after := #[], guard := none }) (v := ?_) rfl (by kernel_rfl) (by kernel_rfl) (by kernel_rfl) (fun _ _ _ h => h) (Or.inl ⟨by rfl, ?_⟩) (by assumption) ?_
            rotate_left
            · intro w hSw
              (try dsimp only at hSw)
              go_simp
              all_goals with_reducible rfl
            try simp only [Act.put, List.setIfInBounds_toArray, List.set_cons_zero, List.set_cons_succ]
            refine wpAnyH_take (i := 1) (oi := { dst := some 96, op := Go.Op.binOp Go.BinOp.neq 27 (Go.Operand.tmp 95) (Go.Operand.const (Go.Value.int Go.IntKind.i64 0)) 27, type := 4, pos := "law.go:80", after := #[{ on := 0, ground := Go.Ground.data }], guard := none }) (v := ?_) rfl (by kernel_rfl) (by kernel_rfl) (by kernel_rfl) (fun _ _ _ h => h) (Or.inl ⟨by rfl, ?_⟩) (by assumption) ?_
            rotate_left
            · intro w hSw
              (try dsimp only at hSw)
              go_simp
              all_goals with_reducible rfl
            try simp only [Act.put, List.setIfInBounds_toArray, List.set_cons_zero, List.set_cons_succ]
            refine wpAnyH_take (i := 2) (oi := { dst := some 97, op := Go.Op.move (Go.Operand.tmp 96), type := 4, pos := "law.go:80", after := #[{ on := 1, ground := Go.Ground.data }], guard := none }) (v := ?_) rfl (by kernel_rfl) (by kernel_rfl) (by kernel_rfl) (fun _ _ _ h => h) (Or.inl ⟨by rfl, ?_⟩) (by assumption) ?_
            rotate_left
            · intro w hSw
              (try dsimp only at hSw)
              go_simp
              all_goals with_reducible rfl
            try simp only [Act.put, List.setIfInBounds_toArray, List.set_cons_zero, List.set_cons_succ]
            refine wpAnyH_take (i := 3) (oi := { dst := some 98, op := Go.Op.fieldAddr 26 (Go.Operand.tmp 12) 0, type := 0, pos := "law.go:80", after := #[{ on := 2, ground := Go.Ground.guard }], guard := some (2, false) }) (v := ?_) rfl (by kernel_rfl) (by kernel_rfl) (by kernel_rfl) (fun _ _ _ h => h) (Or.inl ⟨by rfl, ?_⟩) (by assumption) ?_
            rotate_left
            · intro w hSw
              (try dsimp only at hSw)
              go_simp
              all_goals with_reducible rfl
            try simp only [Act.put, List.setIfInBounds_toArray, List.set_cons_zero, List.set_cons_succ]
            refine wpAnyH_take (i := 4) (oi := { dst := some 99, op := Go.Op.load 3 (Go.Operand.tmp 98), type := 3, pos := "law.go:80", after := #[{ on := 3, ground := Go.Ground.data }, { on := 2, ground := Go.Ground.guard }], guard := some (2, false) }) (v := ?_) rfl (by kernel_rfl) (by kernel_rfl) (by kernel_rfl) (fun _ _ _ h => h) (Or.inl ⟨by rfl, ?_⟩) (by assumption) ?_
            rotate_left
            · intro w hSw
              have hc : w.cell? ⟨db, 0, none⟩ = some (.int .i64 q.c.op) := hSw.1.cell 0
              go_simp
              all_goals with_reducible rfl
            try simp only [Act.put, List.setIfInBounds_toArray, List.set_cons_zero, List.set_cons_succ]
            refine wpAnyH_take (i := 5) (oi := { dst := some 100, op := Go.Op.fieldAddr 26 (Go.Operand.tmp 11) 0, type := 0, pos := "law.go:80", after := #[{ on := 2, ground := Go.Ground.guard }], guard := some (2, false) }) (v := ?_) rfl (by kernel_rfl) (by kernel_rfl) (by kernel_rfl) (fun _ _ _ h => h) (Or.inl ⟨by rfl, ?_⟩) (by assumption) ?_
            rotate_left
            · intro w hSw
              (try dsimp only at hSw)
              go_simp
              all_goals with_reducible rfl
            try simp only [Act.put, List.setIfInBounds_toArray, List.set_cons_zero, List.set_cons_succ]
            refine wpAnyH_take (i := 6) (oi := { dst := some 101, op := Go.Op.load 3 (Go.Operand.tmp 100), type := 3, pos := "law.go:80", after := #[{ on := 5, ground := Go.Ground.data }, { on := 2, ground := Go.Ground.guard }], guard := some (2, false) }) (v := ?_) rfl (by kernel_rfl) (by kernel_rfl) (by kernel_rfl) (fun _ _ _ h => h) (Or.inl ⟨by rfl, ?_⟩) (by assumption) ?_
            rotate_left
            · intro w hSw
              have hc : w.cell? ⟨cb, 0, none⟩ = some (.int .i64 q.c.op) := hSw.2.1.cell 0
              go_simp
              all_goals with_reducible rfl
            try simp only [Act.put, List.setIfInBounds_toArray, List.set_cons_zero, List.set_cons_succ]
            refine wpAnyH_take (i := 7) (oi := { dst := some 102, op := Go.Op.binOp Go.BinOp.neq 3 (Go.Operand.tmp 99) (Go.Operand.tmp 101) 3, type := 4, pos := "law.go:80", after := #[{ on := 4, ground := Go.Ground.data }, { on := 6, ground := Go.Ground.data }, { on := 2, ground := Go.Ground.guard }], guard := some (2, false) }) (v := ?_) rfl (by kernel_rfl) (by kernel_rfl) (by kernel_rfl) (fun _ _ _ h => h) (Or.inl ⟨by rfl, ?_⟩) (by assumption) ?_
            rotate_left
            · intro w hSw
              (try dsimp only at hSw)
              go_simp
              all_goals with_reducible rfl
            try simp only [Act.put, List.setIfInBounds_toArray, List.set_cons_zero, List.set_cons_succ]
            refine wpAnyH_take (i := 8) (oi := { dst := some 103, op := Go.Op.pick (Go.Operand.tmp 97) (Go.Operand.const (Go.Value.bool true)) (Go.Operand.tmp 102), type := 4, pos := "law.go:80", after := #[{ on := 2, ground := Go.Ground.data }, { on := 7, ground := Go.Ground.data }], guard := none }) (v := ?_) rfl (by kernel_rfl) (by kernel_rfl) (by kernel_rfl) (fun _ _ _ h => h) (Or.inl ⟨by rfl, ?_⟩) (by assumption) ?_
            rotate_left
            · intro w hSw
              (try dsimp only at hSw)
              go_simp
              all_goals with_reducible rfl
            try simp only [Act.put, List.setIfInBounds_toArray, List.set_cons_zero, List.set_cons_succ]
            refine wpAnyH_take (i := 9) (oi := { dst := some 104, op := Go.Op.move (Go.Operand.tmp 103), type := 4, pos := "law.go:80", after := #[{ on := 8, ground := Go.Ground.data }, { on := 2, ground := Go.Ground.chain }], guard := none }) (v := ?_) rfl (by kernel_rfl) (by kernel_rfl) (by kernel_rfl) (fun _ _ _ h => h) (Or.inl ⟨by rfl, ?_⟩) (by assumption) ?_
            rotate_left
            · intro w hSw
              (try dsimp only at hSw)
              go_simp
              all_goals with_reducible rfl
            try simp only [Act.put, List.setIfInBounds_toArray, List.set_cons_zero, List.set_cons_succ]
            refine wpAnyH_take (i := 10) (oi := { dst := some 105, op := Go.Op.load 26 (Go.Operand.tmp 12), type := 26, pos := "law.go:80", after := #[{ on := 9, ground := Go.Ground.guard }], guard := some (9, false) }) (v := ?_) rfl (by kernel_rfl) (by kernel_rfl) (by kernel_rfl) (fun _ _ _ h => h) (Or.inl ⟨by rfl, ?_⟩) (by assumption) ?_
            rotate_left
            · intro w hSw
              have hc0 : w.cell? ⟨db, 0, none⟩ = some (.int .i64 q.c.op) := hSw.1.cell 0
              have hc1 : w.cell? ⟨db, 1, none⟩ = some (.int .i64 c2.key) := hSw.1.cell 1
              have hc2 : w.cell? ⟨db, 2, none⟩ = some (.int .i64 c2.val) := hSw.1.cell 2
              have hc3 : w.cell? ⟨db, 3, none⟩ = some (.int .i64 c2.hi) := hSw.1.cell 3
              have hc4 : w.cell? ⟨db, 4, none⟩ = some (.int .i64 c2.lim) := hSw.1.cell 4
              go_simp
              all_goals with_reducible rfl
            try simp only [Act.put, List.setIfInBounds_toArray, List.set_cons_zero, List.set_cons_succ]
            refine wpAnyH_take (i := 12) (oi := { dst := some 107, op := Go.Op.load 26 (Go.Operand.tmp 11), type := 26, pos := "law.go:80", after := #[{ on := 9, ground := Go.Ground.guard }], guard := some (9, false) }) (v := ?_) rfl (by kernel_rfl) (by kernel_rfl) (by kernel_rfl) (fun _ _ _ h => h) (Or.inl ⟨by rfl, ?_⟩) (by assumption) ?_
            rotate_left
            · intro w hSw
              have hc0 : w.cell? ⟨cb, 0, none⟩ = some (.int .i64 q.c.op) := hSw.2.1.cell 0
              have hc1 : w.cell? ⟨cb, 1, none⟩ = some (.int .i64 q.c.key) := hSw.2.1.cell 1
              have hc2 : w.cell? ⟨cb, 2, none⟩ = some (.int .i64 q.c.val) := hSw.2.1.cell 2
              have hc3 : w.cell? ⟨cb, 3, none⟩ = some (.int .i64 q.c.hi) := hSw.2.1.cell 3
              have hc4 : w.cell? ⟨cb, 4, none⟩ = some (.int .i64 q.c.lim) := hSw.2.1.cell 4
              go_simp
              all_goals with_reducible rfl
            try simp only [Act.put, List.setIfInBounds_toArray, List.set_cons_zero, List.set_cons_succ]
            refine wpAnyH_ready (rs := [11]) (by kernel_rfl) (by simp) ?_
            refine AllReadyH.cons (o := { dst := some 106, op := Go.Op.call { callee := Go.Callee.value (Go.Operand.func 18), args := #[Go.Operand.tmp 105], argTypes := #[26] }, type := 9, pos := "law.go:80", after := #[{ on := 10, ground := Go.Ground.data }, { on := 9, ground := Go.Ground.chain }, { on := 9, ground := Go.Ground.guard }], guard := some (9, false) }) rfl (fun K hK => ?_) AllReadyH.nil
            go_simp
            refine (KYW.out _ hHeld.2.2).mono ?_
            rintro r z ⟨rfl, hk⟩
            try simp only []
            refine hK.out _ _ ⟨hHeld.1.keep hk (by simp), hHeld.2.1.keep hk (by simp), hHeld.2.2.trans hk (by simp)⟩ (fun hHeld => ?_)
            clear hK K
            try simp only [Act.put, List.setIfInBounds_toArray, List.set_cons_zero, List.set_cons_succ]
            refine wpAnyH_ready (rs := [13]) (by kernel_rfl) (by simp) ?_
            refine AllReadyH.cons (o := { dst := some 108, op := Go.Op.call { callee := Go.Callee.value (Go.Operand.func 18), args := #[Go.Operand.tmp 107], argTypes := #[26] }, type := 9, pos := "law.go:80", after := #[{ on := 12, ground := Go.Ground.data }, { on := 11, ground := Go.Ground.chain }, { on := 9, ground := Go.Ground.guard }], guard := some (9, false) }) rfl (fun K hK => ?_) AllReadyH.nil
            go_simp
            refine (KCW.out _ hHeld.2.2).mono ?_
            rintro r z ⟨rfl, hk⟩
            try simp only []
            refine hK.out _ _ ⟨hHeld.1.keep hk (by simp), hHeld.2.1.keep hk (by simp), hHeld.2.2.trans hk (by simp)⟩ (fun hHeld => ?_)
            clear hK K
            try simp only [Act.put, List.setIfInBounds_toArray, List.set_cons_zero, List.set_cons_succ]
            refine wpAnyH_take (i := 14) (oi := { dst := some 109, op := Go.Op.binOp Go.BinOp.neq 9 (Go.Operand.tmp 106) (Go.Operand.tmp 108) 9, type := 4, pos := "law.go:80", after := #[{ on := 11, ground := Go.Ground.data }, { on := 13, ground := Go.Ground.data }, { on := 9, ground := Go.Ground.guard }], guard := some (9, false) }) (v := ?_) rfl (by kernel_rfl) (by kernel_rfl) (by kernel_rfl) (fun _ _ _ h => h) (Or.inl ⟨by rfl, ?_⟩) (by assumption) ?_
            rotate_left
            · intro w hSw
              (try dsimp only at hSw)
              go_simp
              all_goals with_reducible rfl
            try simp only [Act.put, List.setIfInBounds_toArray, List.set_cons_zero, List.set_cons_succ]
            refine wpAnyH_take (i := 15) (oi := { dst := some 110, op := Go.Op.pick (Go.Operand.tmp 104) (Go.Operand.const (Go.Value.bool true)) (Go.Operand.tmp 109), type := 4, pos := "law.go:80", after := #[{ on := 9, ground := Go.Ground.data }, { on := 14, ground := Go.Ground.data }], guard := none }) (v := ?_) rfl (by kernel_rfl) (by kernel_rfl) (by kernel_rfl) (fun _ _ _ h => h) (Or.inl ⟨by rfl, ?_⟩) (by assumption) ?_
            rotate_left
            · intro w hSw
              (try dsimp only at hSw)
              go_simp
              all_goals with_reducible rfl
            try simp only [Act.put, List.setIfInBounds_toArray, List.set_cons_zero, List.set_cons_succ]
            refine wpAnyH_done (by kernel_rfl) ?_ _
            have HKF := Lib.hid hHeld.2.2
            clear hHeld KCW KYW HD7 HC7 HK7
            go_wp2_with fail
            go_roundg (l.length - (k + 1))
            case measure => have := HLT.out; omega
            case rel => exact ⟨k + 1, HLT.out, rfl, by go_num, HR.out.trans HKF.out (by simp)⟩
      · have hz : ¬ ((k : Nat) : Int) < ((l.length : Nat) : Int) := by omega
        obtain rfl : k = l.length := by omega
        clear hlt
        go_wp2_with fail
        refine (KV.out _ HR.out).mono ?_
        rintro r x ⟨rfl, hk⟩
        have HK := Lib.hid (HR.out.trans hk (by simp))
        clear hk
        go_wp2_with fail
        go_ret
        exact ⟨rfl, HK.out⟩
end Go.Proofs.YtpbbpannimlldaaDoor
