/- The reference's ReadAnswer by its contract. Condition: at most 20001 words of at most 20000 bytes. -/
import Derived.Test.YtpbbpannimlldaaDoorRd10
import Derived.Test.YtpbbpannimlldaaDoorRdC
namespace Go.Proofs.YtpbbpannimlldaaDoor
open Go.RowKit

def RAnsOut (ws : List (List UInt8)) (w : World) (r : Ending) (w' : World) : Prop := Keep [] w w' ∧ match readA ws with
  | .ok a => ∃ A cap, r = .returned (.tuple #[.agg #[.int .i64 a.kind, .int .i64 a.key, .int .i64 a.val, .int .i64 a.n, .slice A a.ps.length cap], .int .i64 0]) ∧ w'.ownsRow w.heap.size 51 2 (.slice A a.ps.length cap) a.ps.length (a.ps.flatMap pairC)
  | .error k => r = .returned (.tuple #[.agg zeroA, .int .i64 k])
def i64L (l : List Int) : List Value := l.map fun n => .int .i64 n
/-- What the reference's ReadAnswer holds while it gathers. -/
structure GaR (w wr : World) (rb ab : Nat) (k : Int) (v : Value) (ns : List Int) : Prop where
  hk : Keep [] w wr
  r : Blk wr rb 33 #[.int .i64 0, .int .i64 0, .int .i64 0, .int .i64 0, .slice none 0 0]
  b : Blk wr ab 33 #[.int .i64 k, .int .i64 0, .int .i64 0, .int .i64 0, .slice none 0 0]
  own : wr.ownsRow w.heap.size 2 1 v ns.length (i64L ns)
theorem GaR.keep {w wr w2 : World} {rb ab : Nat} {k : Int} {v : Value} {ns : List Int} (h : GaR w wr rb ab k v ns) (hk : Keep [] wr w2) : GaR w w2 rb ab k v ns := ⟨h.hk.trans hk (by simp), h.r.keep hk (by simp), h.b.keep hk (by simp), own_keep h.own hk (by simp)⟩
theorem GaR.add {w w1 w2 : World} {rb ab : Nat} {k n : Int} {v v2 : Value} {ns : List Int} (h : GaR w w1 rb ab k v ns) (hown : w2.ownsRow w.heap.size 2 1 v2 (ns.length + 1) (i64L ns ++ [.int .i64 n])) (hg : w1.grownBy w2 v.ownBlock) : GaR w w2 rb ab k v2 (ns ++ [n]) := by
  have hk : Keep v.ownBlock.toList w1 w2 := Keep.of_grown hg
  have hin : ∀ b, b ∈ v.ownBlock.toList → v.ownBlock = some b := fun b hb => by simpa using hb
  refine ⟨h.hk.trans hk (fun x hx => .inr (own_ge h.own (hin x hx))), h.r.keep hk (fun hm => own_ne h.own h.r (by decide) (hin _ hm)), h.b.keep hk (fun hm => own_ne h.own h.b (by decide) (hin _ hm)), ?_⟩
  rw [List.length_append, List.length_singleton]
  unfold i64L at *
  rw [List.map_append]
  exact hown
theorem own_aside {w1 w2 : World} {B B2 s2 : Nat} {t2 : TypeId} {v vp : Value} {n m : Nat} {xs ys : List Value} (h : w1.ownsRow B 2 1 v n xs) (hp : w1.ownsRow B2 t2 s2 vp m ys) (hne : t2 ≠ 2) (hg : w1.grownBy w2 v.ownBlock) : w2.ownsRow B2 t2 s2 vp m ys :=
  own_keep hp (Keep.of_grown hg) (fun g hgp hm => by
    obtain ⟨cs, hb⟩ := own_blk h (g := g) (by simpa using hm)
    exact own_ne hp hb hne hgp)
theorem infoI64 : (Tryd.prog.info? 2).map (fun i => (i.zero, i.size, i.bytes)) = some (some (.int .i64 0), 1, 8) := by kernel_rfl
set_option maxRecDepth 100000 in
set_option maxHeartbeats 8000000 in
theorem ref35_readAnswer (w : World) (A : Option Addr) (cap : Nat) (s : List UInt8) (t : List (List UInt8)) (h : WsOk w A (s :: t)) : Calls Tryd.prog 11 #[.slice A (s :: t).length cap] w (RAnsOut (s :: t) w) := by
  have HWS := Lib.hid h
  have HOUT : Hid (∀ (e : Ending) (W : World), Keep [] w W → (match readA (s :: t) with | .ok a => ∃ A cap, e = .returned (.tuple #[.agg #[.int .i64 a.kind, .int .i64 a.key, .int .i64 a.val, .int .i64 a.n, .slice A a.ps.length cap], .int .i64 0]) ∧ W.ownsRow w.heap.size 51 2 (.slice A a.ps.length cap) a.ps.length (a.ps.flatMap pairC) | .error k => e = .returned (.tuple #[.agg zeroA, .int .i64 k])) → RAnsOut (s :: t) w e W) := Lib.hid (fun e W h1 h2 => ⟨h1, h2⟩)
  have HRB := Lib.hid (Blk.new w 33 zeroA)
  have HK1 := Lib.hid ((Keep.refl [] w).alloc (.cells zeroA 33))
  rw [show zeroA = #[.int .i64 0, .int .i64 0, .int .i64 0, .int .i64 0, .slice none 0 0] from rfl] at HRB HK1
  have hn : (s :: t).length = t.length + 1 := rfl
  rw [hn]
  have hl0 : (0 : Int) < ((t.length + 1 : Nat) : Int) := by omega
  have hl1 : ((t.length + 1 : Nat) : Int) ≤ 20001 := by have := h.num; rw [hn] at this; omega
  clear h hn
  go_enter Tryd.func11, Tryd.ntmps11
  go_upto_region 1 with fail
  generalize hrb : w.heap.size = rb at HRB ⊢
  have HRN := Lib.hid hrb
  clear hrb
  generalize w.alloc _ = w1 at HRB HK1 ⊢
  go_wp2_with fail
  go_loopg [4, 5] 9 (fun g v4 v5 wr => ∃ (k : Nat) (op : Int), k ≤ 9 ∧ g = 9 - k ∧ v5 = .int .i64 (k : Nat) ∧ v4 = .int .i64 op ∧ Keep [] w1 wr ∧ LastR kindL s k op)
  case atStart => exact ⟨0, -1, Nat.zero_le _, rfl, rfl, rfl, Keep.refl _ _, .inl ⟨rfl, fun j hj => by omega⟩⟩
  case round =>
    obtain ⟨k, op, hk, rfl, rfl, rfl, hkw, hla⟩ := hrel
    have HKW := Lib.hid hkw
    have HLA := Lib.hid hla
    have hk0 : (0 : Int) ≤ ((k : Nat) : Int) := by omega
    have hk9 : ((k : Nat) : Int) ≤ 9 := by omega
    clear hkw hla
    by_cases hlt : k < 9
    · have hz : ((k : Nat) : Int) < 9 := by omega
      obtain ⟨b, o, hA, hbl, hc⟩ := (HWS.out.keep (HK1.out.trans HKW.out (by simp))).at_.at_str (k := 0) (by simp)
      subst hA
      have HBL := Lib.hid hbl
      rw [List.getD_cons_zero, Nat.add_zero] at hc
      have KW := Lib.hid (fun W => ref35_kind ((k : Nat) : Int) W)
      unfold TextOut at KW
      rw [kindB_nat hlt] at KW
      have HLT := Lib.hid hlt
      clear hlt hbl
      have HHM : Hid ((kindL.getD k [] = s → LastR kindL s (k + 1) (k : Nat)) ∧ (kindL.getD k [] ≠ s → LastR kindL s (k + 1) op)) := Lib.hid ⟨fun h => LastR.hit h, fun h => HLA.out.miss h⟩
      obtain ⟨bb, hbb⟩ : ∃ b, (kindL.getD k [] == s) = b := ⟨_, rfl⟩
      have HNX : Hid (LastR kindL s (k + 1) (if bb then ((k : Nat) : Int) else op)) := Lib.hid (by
        cases bb with
        | true => exact HHM.out.1 (by simpa using hbb)
        | false => exact HHM.out.2 (by simpa using hbb))
      clear HHM
      generalize kindL.getD k [] = L at *
      go_upto_region 5 with fail
      refine wp_region_held_drew (S := (fun w' => w'.cell? ⟨b, o, none⟩ = some (.string ⟨s.toArray⟩) ∧ b < w'.heap.size ∧ Keep [] w1 w')) (by kernel_rfl) ⟨hc, HBL.out, HKW.out.drew⟩ (fun hHeld => ?_)
      refine wpAnyH_take (i := 0) (oi := { dst := some 19, op := Go.Op.move (Go.Operand.tmp 0), type := 23, pos := "ref.go:165", after := #[], guard := none }) (v := ?_) rfl (by kernel_rfl) (by kernel_rfl) (by kernel_rfl) (fun _ _ _ h => h) (Or.inl ⟨by rfl, ?_⟩) (by assumption) ?_
      rotate_left
      · intro w hSw
        (try dsimp only at hSw)
        go_simp
        all_goals with_reducible rfl
      try simp only [Act.put, List.setIfInBounds_toArray, List.set_cons_zero, List.set_cons_succ]
      refine wpAnyH_take (i := 1) (oi := { dst := some 20, op := Go.Op.call { callee := Go.Callee.builtin Go.Builtin.len, args := #[Go.Operand.tmp 19], argTypes := #[23] }, type := 3, pos := "ref.go:165", after := #[{ on := 0, ground := Go.Ground.data }], guard := none }) (v := ?_) rfl (by kernel_rfl) (by kernel_rfl) (by kernel_rfl) (fun _ _ _ h => h) (Or.inl ⟨by rfl, ?_⟩) (by assumption) ?_
      rotate_left
      · intro w hSw
        (try dsimp only at hSw)
        go_simp
        all_goals with_reducible rfl
      try simp only [Act.put, List.setIfInBounds_toArray, List.set_cons_zero, List.set_cons_succ]
      refine wpAnyH_take (i := 2) (oi := { dst := some 21, op := Go.Op.binOp Go.BinOp.gtr 3 (Go.Operand.tmp 20) (Go.Operand.const (Go.Value.int Go.IntKind.i64 0)) 3, type := 4, pos := "ref.go:165", after := #[{ on := 1, ground := Go.Ground.data }], guard := none }) (v := ?_) rfl (by kernel_rfl) (by kernel_rfl) (by kernel_rfl) (fun _ _ _ h => h) (Or.inl ⟨by rfl, ?_⟩) (by assumption) ?_
      rotate_left
      · intro w hSw
        (try dsimp only at hSw)
        go_simp
        all_goals with_reducible rfl
      try simp only [Act.put, List.setIfInBounds_toArray, List.set_cons_zero, List.set_cons_succ]
      refine wpAnyH_take (i := 3) (oi := { dst := some 22, op := Go.Op.move (Go.Operand.tmp 21), type := 4, pos := "ref.go:165", after := #[{ on := 2, ground := Go.Ground.data }], guard := none }) (v := ?_) rfl (by kernel_rfl) (by kernel_rfl) (by kernel_rfl) (fun _ _ _ h => h) (Or.inl ⟨by rfl, ?_⟩) (by assumption) ?_
      rotate_left
      · intro w hSw
        (try dsimp only at hSw)
        go_simp
        all_goals with_reducible rfl
      try simp only [Act.put, List.setIfInBounds_toArray, List.set_cons_zero, List.set_cons_succ]
      refine wpAnyH_take (i := 4) (oi := { dst := some 23, op := Go.Op.move (Go.Operand.tmp 5), type := 3, pos := "ref.go:165", after := #[{ on := 3, ground := Go.Ground.guard }], guard := some (3, true) }) (v := ?_) rfl (by kernel_rfl) (by kernel_rfl) (by kernel_rfl) (fun _ _ _ h => h) (Or.inl ⟨by rfl, ?_⟩) (by assumption) ?_
      rotate_left
      · intro w hSw
        (try dsimp only at hSw)
        go_simp
        all_goals with_reducible rfl
      try simp only [Act.put, List.setIfInBounds_toArray, List.set_cons_zero, List.set_cons_succ]
      refine wpAnyH_take (i := 6) (oi := { dst := some 25, op := Go.Op.move (Go.Operand.tmp 0), type := 23, pos := "ref.go:165", after := #[{ on := 3, ground := Go.Ground.guard }], guard := some (3, true) }) (v := ?_) rfl (by kernel_rfl) (by kernel_rfl) (by kernel_rfl) (fun _ _ _ h => h) (Or.inl ⟨by rfl, ?_⟩) (by assumption) ?_
      rotate_left
      · intro w hSw
        (try dsimp only at hSw)
        go_simp
        all_goals with_reducible rfl
      try simp only [Act.put, List.setIfInBounds_toArray, List.set_cons_zero, List.set_cons_succ]
      refine wpAnyH_take (i := 7) (oi := { dst := some 26, op := Go.Op.indexAddr 23 (Go.Operand.tmp 25) (Go.Operand.const (Go.Value.int Go.IntKind.i64 0)), type := 0, pos := "ref.go:165", after := #[{ on := 6, ground := Go.Ground.data }, { on := 3, ground := Go.Ground.guard }], guard := some (3, true) }) (v := ?_) rfl (by kernel_rfl) (by kernel_rfl) (by kernel_rfl) (fun _ _ _ h => h) (Or.inl ⟨by rfl, ?_⟩) (by assumption) ?_
      rotate_left
      · intro w hSw
        (try dsimp only at hSw)
        go_simp
        all_goals with_reducible rfl
      try simp only [Act.put, List.setIfInBounds_toArray, List.set_cons_zero, List.set_cons_succ]
      refine wpAnyH_take (i := 8) (oi := { dst := some 27, op := Go.Op.load 9 (Go.Operand.tmp 26), type := 9, pos := "ref.go:165", after := #[{ on := 7, ground := Go.Ground.data }, { on := 3, ground := Go.Ground.guard }], guard := some (3, true) }) (v := ?_) rfl (by kernel_rfl) (by kernel_rfl) (by kernel_rfl) (fun _ _ _ h => h) (Or.inl ⟨by rfl, ?_⟩) (by assumption) ?_
      rotate_left
      · intro w hSw
        have hc := hSw.1
        go_simp
        all_goals with_reducible rfl
      try simp only [Act.put, List.setIfInBounds_toArray, List.set_cons_zero, List.set_cons_succ]
      refine wpAnyH_ready (rs := [5]) (by kernel_rfl) (by simp) ?_
      refine AllReadyH.cons (o := { dst := some 24, op := Go.Op.call { callee := Go.Callee.value (Go.Operand.func 29), args := #[Go.Operand.tmp 23], argTypes := #[3] }, type := 9, pos := "ref.go:165", after := #[{ on := 4, ground := Go.Ground.data }, { on := 3, ground := Go.Ground.chain }, { on := 3, ground := Go.Ground.guard }], guard := some (3, true) }) rfl (fun K hK => ?_) AllReadyH.nil
      go_simp
      refine (KW.out _).mono ?_
      rintro r z ⟨rfl, hk⟩
      try simp only []
      refine hK.out _ _ ⟨(hk.cell hHeld.2.1 (by simp)).trans hHeld.1, Nat.lt_of_lt_of_le hHeld.2.1 hk.size, hHeld.2.2.trans hk (by simp)⟩ (fun hHeld => ?_)
      clear hK K
      try simp only [Act.put, List.setIfInBounds_toArray, List.set_cons_zero, List.set_cons_succ]
      refine wpAnyH_take (i := 9) (oi := { dst := some 28, op := Go.Op.binOp Go.BinOp.eql 9 (Go.Operand.tmp 24) (Go.Operand.tmp 27) 9, type := 4, pos := "ref.go:165", after := #[{ on := 5, ground := Go.Ground.data }, { on := 8, ground := Go.Ground.data }, { on := 3, ground := Go.Ground.guard }], guard := some (3, true) }) (v := ?_) rfl (by kernel_rfl) (by kernel_rfl) (by kernel_rfl) (fun _ _ _ h => h) (Or.inl ⟨by rfl, ?_⟩) (by assumption) ?_
      rotate_left
      · intro w hSw
        (try dsimp only at hSw)
        go_simp
        all_goals with_reducible rfl
      try simp only [Act.put, List.setIfInBounds_toArray, List.set_cons_zero, List.set_cons_succ]
      refine wpAnyH_take (i := 10) (oi := { dst := some 29, op := Go.Op.pick (Go.Operand.tmp 22) (Go.Operand.tmp 28) (Go.Operand.const (Go.Value.bool false)), type := 4, pos := "ref.go:165", after := #[{ on := 3, ground := Go.Ground.data }, { on := 9, ground := Go.Ground.data }], guard := none }) (v := ?_) rfl (by kernel_rfl) (by kernel_rfl) (by kernel_rfl) (fun _ _ _ h => h) (Or.inl ⟨by rfl, ?_⟩) (by assumption) ?_
      rotate_left
      · intro w hSw
        (try dsimp only at hSw)
        go_simp
        all_goals with_reducible rfl
      try simp only [Act.put, List.setIfInBounds_toArray, List.set_cons_zero, List.set_cons_succ]
      refine wpAnyH_done (by kernel_rfl) ?_ _
      have HKX := Lib.hid hHeld.2.2
      clear hHeld hc
      cases bb with
      | true =>
        go_wp2_with fail
        go_roundg (9 - (k + 1))
        case measure => have := HLT.out; omega
        case rel => exact ⟨k + 1, _, HLT.out, rfl, by go_num, rfl, HKX.out, HNX.out⟩
      | false =>
        go_wp2_with fail
        go_roundg (9 - (k + 1))
        case measure => have := HLT.out; omega
        case rel => exact ⟨k + 1, _, HLT.out, rfl, by go_num, rfl, HKX.out, HNX.out⟩
    · have hz : ¬ ((k : Nat) : Int) < 9 := by omega
      obtain rfl : k = 9 := by omega
      have HR2 := Lib.hid (HRB.out.keep HKW.out (by simp))
      have HK2 := Lib.hid (HK1.out.trans HKW.out (by simp))
      clear hlt HRB HKW HK1
      rcases HLA.out.end_ kindL_one with ⟨rfl, ho⟩ | ⟨j0, hj0, rfl, ho⟩
      · have HE := Lib.hid (readA_none (t := t) ho)
        have hneg : (-1 : Int) < 0 := by decide
        clear ho HLA
        have hr0 : wr.cell? ⟨rb, 0, none⟩ = some (.int .i64 0) := HR2.out.cell 0
        have hf0 := HR2.out.frozen 0
        have hr1 : wr.cell? ⟨rb, 1, none⟩ = some (.int .i64 0) := HR2.out.cell 1
        have hf1 := HR2.out.frozen 1
        have hr2 : wr.cell? ⟨rb, 2, none⟩ = some (.int .i64 0) := HR2.out.cell 2
        have hf2 := HR2.out.frozen 2
        have hr3 : wr.cell? ⟨rb, 3, none⟩ = some (.int .i64 0) := HR2.out.cell 3
        have hf3 := HR2.out.frozen 3
        have hr4 : wr.cell? ⟨rb, 4, none⟩ = some (.slice none 0 0) := HR2.out.cell 4
        have hf4 := HR2.out.frozen 4
        go_wp2_with fail
        exact bodyPost_ret (results_rowT (p := 2) (ty := 33) rfl _ _ rb _ _ _ _ rfl (store5 HR2.out _ _ _ _ _) Tryd.underlying33 rfl (by kernel_rfl)) rfl (HOUT.out _ _ (keep5 HK2.out (Nat.le_of_eq HRN.out) _ _ _ _ _) (by rw [HE.out] <;> rfl))
      · have hneg : ¬ ((j0 : Nat) : Int) < 0 := by omega
        have HO := Lib.hid ho
        clear ho HLA hj0
        go_upto_region 10 with fail
        have HB3 := Lib.hid (Blk.new wr 33 #[.int .i64 (j0 : Nat), .int .i64 0, .int .i64 0, .int .i64 0, .slice none 0 0])
        have HR3 := Lib.hid (HR2.out.alloc (.cells #[.int .i64 (j0 : Nat), .int .i64 0, .int .i64 0, .int .i64 0, .slice none 0 0] 33))
        have HK3 := Lib.hid (HK2.out.alloc (.cells #[.int .i64 (j0 : Nat), .int .i64 0, .int .i64 0, .int .i64 0, .slice none 0 0] 33))
        have HNB := Lib.hid HK2.out.size
        have HRAB : Hid (rb ≠ wr.heap.size) := Lib.hid (by have := HR2.out.lt; omega)
        generalize wr.heap.size = ab at HB3 HNB HRAB ⊢
        generalize wr.alloc _ = w3 at HB3 HR3 HK3 ⊢
        clear HR2 HK2
        by_cases k3 : j0 = 3
        · have e1 : (((j0 : Nat) : Int) == 1) = false := by rw [k3]; rfl
          have e2 : (((j0 : Nat) : Int) == 2) = false := by rw [k3]; rfl
          have e3 : (((j0 : Nat) : Int) == 3) = true := by rw [k3]; rfl
          have hgr := readA_gat3 (t := t) (k3 ▸ HO.out)
          have HKI : Hid (((j0 : Nat) : Int) = 3) := Lib.hid (by rw [k3]; rfl)
          obtain ⟨gt, hgt⟩ : ∃ gt, gatZ 3 t = gt := ⟨_, rfl⟩
          rw [hgt] at hgr
          have HGT := Lib.hid hgt
          have HBAD : Hid (gt = none → readA (s :: t) = .error 4) := Lib.hid (fun e => by
            rcases hgr with ⟨ps, _, h2, _⟩ | ⟨_, h2⟩
            · rw [e] at h2; cases h2
            · exact h2)
          have HOKR : Hid (∀ ns, gt = some ns → ∃ ps, ns = flatP ps ∧ readA (s :: t) = .ok ⟨3, 0, 0, 0, ps, none, 0⟩) := Lib.hid (fun ns e => by
            rcases hgr with ⟨ps, _, h2, h3⟩ | ⟨h2, _⟩
            · rw [e] at h2; injection h2 with h2; exact ⟨ps, h2, h3⟩
            · rw [e] at h2; cases h2)
          clear hgr hgt k3 HO
          have HG0 : Hid (GaR w w3 rb ab ((j0 : Nat) : Int) (.slice none 0 0) []) := Lib.hid ⟨HK3.out, HR3.out, HB3.out, ⟨rfl, .inl ⟨rfl, rfl⟩⟩⟩
          clear HK3 HR3 HB3
          generalize ((j0 : Nat) : Int) = ki at *
          have hki := HKI.out
          subst hki
          clear e1 e2 e3 hneg
          go_wp2_with fail
          go_loopg [8, 9] t.length (fun gq v8 v9 wq => ∃ (m : Nat) (ns : List Int), m ≤ t.length ∧ gq = t.length - m ∧ v9 = .int .i64 ((m + 1 : Nat)) ∧ GaR w wq rb ab 3 v8 ns ∧ ns.length ≤ 2 * m ∧ (gatZ 3 (t.drop m)).map (ns ++ ·) = gt)
          case atStart => exact ⟨0, [], Nat.zero_le _, rfl, rfl, HG0.out, Nat.le_refl _, by rw [← HGT.out, List.drop_zero]; cases gatZ 3 t <;> rfl⟩
          case round =>
            obtain ⟨m, ns, hm, rfl, rfl, hga, hnl, hgt⟩ := hrel
            have HGA := Lib.hid hga
            have HGM := Lib.hid hgt
            have HNL := Lib.hid hnl
            obtain ⟨Av, cv, rfl⟩ := own_form hga.own
            have hm0 : (0 : Int) ≤ ((m + 1 : Nat) : Int) := by omega
            have hm1 : ((m + 1 : Nat) : Int) ≤ ((t.length + 1 : Nat) : Int) := by omega
            clear hga hgt hnl HG0
            by_cases hlt : m < t.length
            · have hz : ((m + 1 : Nat) : Int) < ((t.length + 1 : Nat) : Int) := by omega
              obtain ⟨b, o, hA, _, hcs⟩ := (HWS.out.keep HGA.out.hk).at_.at_str (k := m + 1) (by simpa using hlt)
              subst hA
              rw [List.getD_cons_succ] at hcs
              have HDJ : Hid (t.drop m = t.getD m [] :: t.drop (m + 1)) := Lib.hid (by
                rw [List.drop_eq_getElem_cons hlt]
                congr 1
                rw [List.getD_eq_getElem?_getD, List.getElem?_eq_getElem hlt]
                rfl)
              have HS5 : Hid ((t.getD m []).length ≤ 20000) := Lib.hid (HWS.out.len _ (by
                rw [List.getD_eq_getElem?_getD, List.getElem?_eq_getElem hlt]
                exact List.mem_cons_of_mem _ (List.getElem_mem hlt)))
              have HJL := Lib.hid hlt
              clear hlt
              rw [HDJ.out, gatZ_cons] at HGM
              generalize t.getD m [] = s2 at *
              have KC : Hid (∀ W, Calls Tryd.prog 7 #[.string ⟨s2.toArray⟩, .int .u8 58] W (CutOut 58 s2 W)) := Lib.hid (fun W => ref35_cut 58 s2 W HS5.out)
              unfold CutOut at KC
              go_upto_region 23 with fail
              have HGB := Lib.hid (HGA.out.keep ((Keep.refl [] wr).alloc (.cells #[.string ⟨s2.toArray⟩] 9)))
              have hcs2 := cell_keep0 hcs ((Keep.refl [] wr).alloc (.cells #[.string ⟨s2.toArray⟩] 9))
              generalize wr.alloc _ = w5 at HGB hcs2 ⊢
              clear HGA hcs
              go_wp2_with fail
              refine (KC.out _).mono ?_
              rintro r w6 ⟨hk, Ap, cp, rfl, hpo⟩
              have HGC := Lib.hid (HGB.out.keep hk)
              have HPO := Lib.hid (own_more hpo HGB.out.hk.size)
              clear hk hpo HGB hcs2 KC
              have HPL : Hid (∀ x ∈ cutZ 58 s2, x.length ≤ 20000) := Lib.hid (fun x hx => Nat.le_trans ((cutZ_len 58 s2).2 x hx) HS5.out)
              have HPN : Hid ((cutZ 58 s2).length ≤ 20001) := Lib.hid (by have := (cutZ_len 58 s2).1; have := HS5.out; omega)
              unfold partsZ at HGM
              rw [if_pos rfl] at HGM
              generalize cutZ 58 s2 = P at *
              by_cases hp2 : P.length = 2
              · have hb2 : (((P.length : Nat) : Int) != 2) = false := by rw [hp2]; rfl
                rw [if_neg (fun e => e.2 hp2)] at HGM
                have HP2 := Lib.hid hp2
                clear hp2
                go_wp2_with fail
                clear hb2
                have HPC : Hid (((P.length : Nat) : Int) ≤ 20001) := Lib.hid (by have := HPN.out; omega)
                have hpc := HPC.out
                go_loopg [8, 11] P.length (fun gq2 v8 v11 wq => ∃ (j : Nat) (ns1 : List Int), j ≤ P.length ∧ gq2 = P.length - j ∧ v11 = .int .i64 (j : Nat) ∧ GaR w wq rb ab 3 v8 ns1 ∧ wq.ownsRow w.heap.size 9 1 (.slice Ap P.length cp) P.length (strL P) ∧ ns1.length ≤ ns.length + j ∧ (allZ (P.drop j)).map (ns1 ++ ·) = (allZ P).map (ns ++ ·))
                case atStart => exact ⟨0, ns, Nat.zero_le _, rfl, rfl, HGC.out, HPO.out, Nat.le_refl _, by rw [List.drop_zero]⟩
                case round =>
                  obtain ⟨j, ns1, hj, rfl, rfl, hga, hpo, hnl1, hal⟩ := hrel
                  have HGD := Lib.hid hga
                  have HPD := Lib.hid hpo
                  have HAL := Lib.hid hal
                  have HN1 := Lib.hid hnl1
                  obtain ⟨Ax, cx, rfl⟩ := own_form hga.own
                  have hj0 : (0 : Int) ≤ ((j : Nat) : Int) := by omega
                  have hj1 : ((j : Nat) : Int) ≤ ((P.length : Nat) : Int) := by omega
                  clear hga hpo hal hnl1 HGC HPO
                  by_cases hlt : j < P.length
                  · have hzj : ((j : Nat) : Int) < ((P.length : Nat) : Int) := by omega
                    obtain ⟨gp, cp2, hvp, _, _⟩ := own_some HPD.out (by omega)
                    injection hvp with hA2 _ hc2
                    subst hA2 hc2
                    have hcp : wr.cell? ⟨gp, j, none⟩ = some (.string ⟨(P.getD j []).toArray⟩) := by
                      rw [own_cell HPD.out hlt]
                      unfold strL
                      rw [List.getElem?_map, List.getD_eq_getElem?_getD, List.getElem?_eq_getElem hlt]
                      rfl
                    have HDP : Hid (P.drop j = P.getD j [] :: P.drop (j + 1)) := Lib.hid (by
                      rw [List.drop_eq_getElem_cons hlt]
                      congr 1
                      rw [List.getD_eq_getElem?_getD, List.getElem?_eq_getElem hlt]
                      rfl)
                    have HPS : Hid ((P.getD j []).length ≤ 20000) := Lib.hid (HPL.out _ (by
                      rw [List.getD_eq_getElem?_getD, List.getElem?_eq_getElem hlt]
                      exact List.getElem_mem hlt))
                    have HJ2 := Lib.hid hlt
                    rw [HDP.out] at HAL
                    clear hlt HDP
                    generalize P.getD j [] = s3 at *
                    have KP := Lib.hid (fun W => ref35_parse s3 W HPS.out)
                    unfold RParseOut at KP
                    cases hp : parseZ s3 with
                    | none =>
                      rw [allZ_cons_none hp] at HAL
                      have HAN : Hid (allZ P = none) := Lib.hid (by
                        have := HAL.out
                        cases ha : allZ P with
                        | none => rfl
                        | some l => rw [ha] at this; cases this)
                      have HEX := Lib.hid (HBAD.out (by rw [← HGM.out, HAN.out]; rfl))
                      rw [hp, show (none : Option Int).isSome = false from rfl] at KP
                      clear hp HAL
                      generalize numOf s3 = n3 at *
                      go_wp2_with fail
                      refine (KP.out _).mono ?_
                      rintro r z ⟨rfl, rfl⟩
                      have hr0 : wr.cell? ⟨rb, 0, none⟩ = some (.int .i64 0) := HGD.out.r.cell 0
                      have hf0 := HGD.out.r.frozen 0
                      have hr1 : wr.cell? ⟨rb, 1, none⟩ = some (.int .i64 0) := HGD.out.r.cell 1
                      have hf1 := HGD.out.r.frozen 1
                      have hr2 : wr.cell? ⟨rb, 2, none⟩ = some (.int .i64 0) := HGD.out.r.cell 2
                      have hf2 := HGD.out.r.frozen 2
                      have hr3 : wr.cell? ⟨rb, 3, none⟩ = some (.int .i64 0) := HGD.out.r.cell 3
                      have hf3 := HGD.out.r.frozen 3
                      have hr4 : wr.cell? ⟨rb, 4, none⟩ = some (.slice none 0 0) := HGD.out.r.cell 4
                      have hf4 := HGD.out.r.frozen 4
                      go_wp2_with fail
                      exact bodyPost_ret (results_rowT (p := 2) (ty := 33) rfl _ _ rb _ _ _ _ rfl (store5 HGD.out.r _ _ _ _ _) Tryd.underlying33 rfl (by kernel_rfl)) rfl (HOUT.out _ _ (keep5 HGD.out.hk (Nat.le_of_eq HRN.out) _ _ _ _ _) (by rw [HEX.out] <;> rfl))
                    | some n3 =>
                      rw [allZ_cons_some hp] at HAL
                      rw [hp, show (some n3).isSome = true from rfl, show numOf s3 = n3 by unfold numOf; rw [hp]] at KP
                      clear hp
                      go_wp2_with fail
                      refine (KP.out _).mono ?_
                      rintro r z ⟨rfl, rfl⟩
                      go_wp2_with (at_builtin; obtain ⟨i0, hi, hz0, hz1, hz2⟩ := info_partsT infoI64; refine wpList_append_own_at _ rfl (.tmp 88) (.tmp 90) 63 rfl w.heap.size 2 i0 (.int .i64 0) 1 8 Tryd.underlying63 hi hz0 hz1 hz2 rfl (by decide) (.slice Ax ns1.length cx) ns1.length (i64L ns1) rfl (own_keep (S := []) HGD.out.own ((Keep.refl [] _).alloc _) (by simp)) ⟨_, 0, none⟩ 1 1 [.int .i64 n3] rfl rfl (World.news_of_block (heap_alloc_new _ _)) (by simp [Value.oneCell']) (by have := HN1.out; have := HNL.out; have := HWS.out.num; have := HPN.out; have := HJL.out; unfold maxLen; simp at *; omega) (by have := HN1.out; have := HNL.out; have := HWS.out.num; have := HPN.out; have := HJL.out; simp at *; omega) (Nat.le_trans HGD.out.hk.size ((Keep.refl [] _).alloc _).size) ?_; clear hi hz0 hz1 hz2; intro v5 w7 hown hg _ _; have HGE := Lib.hid ((HGD.out.keep ((Keep.refl [] _).alloc _)).add hown hg); have HPE := Lib.hid (own_aside (own_keep (S := []) HGD.out.own ((Keep.refl [] _).alloc _) (by simp)) (own_keep (S := []) HPD.out ((Keep.refl [] _).alloc _) (by simp)) (by decide) hg); clear hown hg)
                      go_roundg (P.length - (j + 1))
                      case measure => have := HJ2.out; omega
                      case rel => exact ⟨j + 1, ns1 ++ [n3], HJ2.out, rfl, by go_num, HGE.out, HPE.out, by have := HN1.out; simp; omega, by rw [← HAL.out]; cases allZ (P.drop (j + 1)) <;> simp⟩
                  · have hzj : ¬ ((j : Nat) : Int) < ((P.length : Nat) : Int) := by omega
                    obtain rfl : j = P.length := by omega
                    rw [List.drop_length] at HAL
                    have HAS : Hid ((allZ P).map (ns ++ ·) = some ns1) := Lib.hid (by rw [← HAL.out]; simp [allZ])
                    clear hlt HAL
                    have HGN : Hid ((gatZ 3 (t.drop (m + 1))).map (ns1 ++ ·) = gt) := Lib.hid (by
                      rw [← HGM.out]
                      have := HAS.out
                      cases ha : allZ P with
                      | none => rw [ha] at this; cases this
                      | some l =>
                        rw [ha] at this
                        injection this with this
                        rw [← this]
                        cases gatZ 3 (t.drop (m + 1)) <;> simp)
                    go_wp2_with fail
                    go_roundg (t.length - (m + 1))
                    case measure => have := HJL.out; omega
                    case rel =>
                      refine ⟨m + 1, ns1, HJL.out, rfl, ?_, HGD.out, ?_, HGN.out⟩
                      · exact congrArg (Value.int .i64) (by omega)
                      · have h1 := HN1.out; have h2 := HNL.out; have h3 := HP2.out; omega
              · have hb2 : (((P.length : Nat) : Int) != 2) = true := by rw [bne_iff_ne]; omega
                rw [if_pos ⟨by first | rfl | trivial, hp2⟩] at HGM
                have HEX := Lib.hid (HBAD.out HGM.out.symm)
                clear hp2
                have hr0 : w6.cell? ⟨rb, 0, none⟩ = some (.int .i64 0) := HGC.out.r.cell 0
                have hf0 := HGC.out.r.frozen 0
                have hr1 : w6.cell? ⟨rb, 1, none⟩ = some (.int .i64 0) := HGC.out.r.cell 1
                have hf1 := HGC.out.r.frozen 1
                have hr2 : w6.cell? ⟨rb, 2, none⟩ = some (.int .i64 0) := HGC.out.r.cell 2
                have hf2 := HGC.out.r.frozen 2
                have hr3 : w6.cell? ⟨rb, 3, none⟩ = some (.int .i64 0) := HGC.out.r.cell 3
                have hf3 := HGC.out.r.frozen 3
                have hr4 : w6.cell? ⟨rb, 4, none⟩ = some (.slice none 0 0) := HGC.out.r.cell 4
                have hf4 := HGC.out.r.frozen 4
                go_wp2_with fail
                exact bodyPost_ret (results_rowT (p := 2) (ty := 33) rfl _ _ rb _ _ _ _ rfl (store5 HGC.out.r _ _ _ _ _) Tryd.underlying33 rfl (by kernel_rfl)) rfl (HOUT.out _ _ (keep5 HGC.out.hk (Nat.le_of_eq HRN.out) _ _ _ _ _) (by rw [HEX.out] <;> rfl))
            · have hz : ¬ ((m + 1 : Nat) : Int) < ((t.length + 1 : Nat) : Int) := by omega
              obtain rfl : m = t.length := by omega
              clear hlt
              have HSO : Hid (gt = some ns) := Lib.hid (by rw [← HGM.out, List.drop_length]; simp [gatZ])
              obtain ⟨ps, hns, hra⟩ := HOKR.out ns HSO.out
              have HRA := Lib.hid hra
              have HLN : Hid (ns.length = 2 * ps.length) := Lib.hid (by rw [hns]; exact flatP_len ps)
              have HAT : Hid (∀ m, m < ps.length → ns.getD (2 * m) 0 = (ps.getD m (0, 0)).1 ∧ ns.getD (2 * m + 1) 0 = (ps.getD m (0, 0)).2) := Lib.hid (by rw [hns]; exact flatP_at ps)
              have HTN := Lib.hid HWS.out.num
              clear hns hra HGM HOKR HBAD
              have HGK := Lib.hid HGA.out.hk
              have HGR := Lib.hid HGA.out.r
              have HGB2 := Lib.hid HGA.out.b
              have HGO := Lib.hid HGA.out.own
              have hln0 : ((ns.length : Nat) : Int) = 2 * ((ps.length : Nat) : Int) := by have := HLN.out; omega
              have hps5 : ((ps.length : Nat) : Int) ≤ 20001 := by have := HLN.out; have := HNL.out; have := HTN.out; simp at this; omega
              have HPS5 := Lib.hid hps5
              generalize hnn : ns.length = nn at *
              have HNN := Lib.hid hnn
              clear hnn HGA
              go_wp2_with fail
              go_loopg [14] ps.length (fun gq v14 wq => ∃ (m : Nat) (v : Value), m ≤ ps.length ∧ gq = ps.length - m ∧ v14 = .int .i64 ((2 * m : Nat)) ∧ Keep [] w wq ∧ Blk wq rb 33 #[.int .i64 0, .int .i64 0, .int .i64 0, .int .i64 0, .slice none 0 0] ∧ Blk wq ab 33 #[.int .i64 3, .int .i64 0, .int .i64 0, .int .i64 0, v] ∧ wq.ownsRow w.heap.size 2 1 (.slice Av nn cv) nn (i64L ns) ∧ wq.ownsRow w.heap.size 51 2 v m ((ps.take m).flatMap pairC))
              case atStart => exact ⟨0, _, Nat.zero_le _, rfl, rfl, HGK.out, HGR.out, HGB2.out, HGO.out, ⟨rfl, .inl ⟨rfl, rfl⟩⟩⟩
              case round =>
                obtain ⟨m, v, hm, rfl, rfl, hkq, hrq, hbq, hoq, hpq⟩ := hrel
                have HKQ := Lib.hid hkq
                have HRQ := Lib.hid hrq
                have HBQ := Lib.hid hbq
                have HOQ := Lib.hid hoq
                have HPQ := Lib.hid hpq
                have hm0 : (0 : Int) ≤ ((2 * m : Nat) : Int) := by omega
                have hm1 : ((2 * m : Nat) : Int) ≤ 40002 := by have := HPS5.out; omega
                clear hkq hrq hbq hoq hpq
                by_cases hlt : m < ps.length
                · have hz : ((2 * m : Nat) : Int) + 1 < ((nn : Nat) : Int) := by omega
                  have hzb : ((2 * m : Nat) : Int) < ((nn : Nat) : Int) := by omega
                  obtain ⟨gn, cn, hvn, hgl, _⟩ := own_some HOQ.out (by omega)
                  injection hvn with hA2 _ hc2
                  subst hA2 hc2
                  have hi64 : ∀ q, q < nn → wr.cell? ⟨gn, q, none⟩ = some (.int .i64 (ns.getD q 0)) := fun q hq => by
                    rw [own_cell HOQ.out hq]
                    unfold i64L
                    rw [List.getElem?_map, List.getD_eq_getElem?_getD, List.getElem?_eq_getElem (by have := HNN.out; omega)]
                    rfl
                  have hx := hi64 (2 * m) (by omega)
                  have hy := hi64 (2 * m + 1) (by omega)
                  rw [(HAT.out m hlt).1] at hx
                  rw [(HAT.out m hlt).2] at hy
                  have HTK : Hid ((ps.take (m + 1)).flatMap pairC = (ps.take m).flatMap pairC ++ pairC (ps.getD m (0, 0))) := Lib.hid (by rw [take_snoc ps (0, 0) hlt, List.flatMap_append]; simp)
                  have HLT := Lib.hid hlt
                  have HGL := Lib.hid hgl
                  have HGA2 : Hid (gn ≠ ab) := Lib.hid (by
                    obtain ⟨cs, hb⟩ := own_blk HOQ.out (g := gn) rfl
                    exact hb.ne_ HBQ.out (by decide))
                  clear hlt hi64 hgl
                  generalize ps.getD m (0, 0) = pq at *
                  obtain ⟨x, y⟩ := pq
                  dsimp only at hx hy
                  generalize h2m : 2 * m = i2 at *
                  have H2M := Lib.hid h2m
                  clear h2m hln0
                  have hw9 : IntKind.i64.wrap ((i2 : Int) + 1) = (i2 : Int) + 1 := IntWalk.i64_in _ (by omega)
                  have hti : ((i2 : Int) + 1).toNat = i2 + 1 := by omega
                  have hi20 : (0 : Int) ≤ (i2 : Int) + 1 := by omega
                  go_upto_region 41 with fail
                  refine wp_region_till (S := (fun w' => w'.cell? ⟨ab, 4, none⟩ = some v ∧ w'.cell? ⟨gn, i2, none⟩ = some (.int .i64 x) ∧ w'.cell? ⟨gn, i2 + 1, none⟩ = some (.int .i64 y))) 15 15 (by kernel_rfl) (by kernel_rfl) ⟨(HBQ.out.drew).cell 4, hx, hy⟩ (fun hHeld => ?_)
                  refine tillT_take (i := 0) (oi := { dst := some 119, op := Go.Op.fieldAddr 33 (Go.Operand.tmp 6) 4, type := 0, pos := "ref.go:208", after := #[], guard := none }) (v := ?_) rfl (by kernel_rfl) (by kernel_rfl) (by kernel_rfl) (by kernel_rfl) (fun _ _ _ h => h) (Or.inl ⟨by rfl, ?_⟩) (by assumption) ?_
                  rotate_left
                  · intro w hSw
                    (try dsimp only at hSw)
                    go_simp
                    all_goals with_reducible rfl
                  try simp only [Act.put, List.setIfInBounds_toArray, List.set_cons_zero, List.set_cons_succ]
                  refine tillT_take (i := 1) (oi := { dst := some 120, op := Go.Op.load 31 (Go.Operand.tmp 119), type := 31, pos := "ref.go:208", after := #[{ on := 0, ground := Go.Ground.data }], guard := none }) (v := ?_) rfl (by kernel_rfl) (by kernel_rfl) (by kernel_rfl) (by kernel_rfl) (fun _ _ _ h => h) (Or.inl ⟨by rfl, ?_⟩) (by assumption) ?_
                  rotate_left
                  · intro w hSw
                    have hc := hSw.1
                    go_simp
                    all_goals with_reducible rfl
                  try simp only [Act.put, List.setIfInBounds_toArray, List.set_cons_zero, List.set_cons_succ]
                  refine tillT_take (i := 2) (oi := { dst := some 121, op := Go.Op.move (Go.Operand.tmp 8), type := 63, pos := "ref.go:208", after := #[], guard := none }) (v := ?_) rfl (by kernel_rfl) (by kernel_rfl) (by kernel_rfl) (by kernel_rfl) (fun _ _ _ h => h) (Or.inl ⟨by rfl, ?_⟩) (by assumption) ?_
                  rotate_left
                  · intro w hSw
                    (try dsimp only at hSw)
                    go_simp
                    all_goals with_reducible rfl
                  try simp only [Act.put, List.setIfInBounds_toArray, List.set_cons_zero, List.set_cons_succ]
                  refine tillT_take (i := 3) (oi := { dst := some 122, op := Go.Op.move (Go.Operand.tmp 14), type := 3, pos := "ref.go:208", after := #[], guard := none }) (v := ?_) rfl (by kernel_rfl) (by kernel_rfl) (by kernel_rfl) (by kernel_rfl) (fun _ _ _ h => h) (Or.inl ⟨by rfl, ?_⟩) (by assumption) ?_
                  rotate_left
                  · intro w hSw
                    (try dsimp only at hSw)
                    go_simp
                    all_goals with_reducible rfl
                  try simp only [Act.put, List.setIfInBounds_toArray, List.set_cons_zero, List.set_cons_succ]
                  refine tillT_take (i := 4) (oi := { dst := some 123, op := Go.Op.indexAddr 63 (Go.Operand.tmp 121) (Go.Operand.tmp 122), type := 0, pos := "ref.go:208", after := #[{ on := 2, ground := Go.Ground.data }, { on := 3, ground := Go.Ground.data }], guard := none }) (v := ?_) rfl (by kernel_rfl) (by kernel_rfl) (by kernel_rfl) (by kernel_rfl) (fun _ _ _ h => h) (Or.inl ⟨by rfl, ?_⟩) (by assumption) ?_
                  rotate_left
                  · intro w hSw
                    (try dsimp only at hSw)
                    go_simp
                    all_goals with_reducible rfl
                  try simp only [Act.put, List.setIfInBounds_toArray, List.set_cons_zero, List.set_cons_succ]
                  refine tillT_take (i := 5) (oi := { dst := some 124, op := Go.Op.load 2 (Go.Operand.tmp 123), type := 2, pos := "ref.go:208", after := #[{ on := 4, ground := Go.Ground.data }], guard := none }) (v := ?_) rfl (by kernel_rfl) (by kernel_rfl) (by kernel_rfl) (by kernel_rfl) (fun _ _ _ h => h) (Or.inl ⟨by rfl, ?_⟩) (by assumption) ?_
                  rotate_left
                  · intro w hSw
                    have hc := hSw.2.1
                    go_simp
                    all_goals with_reducible rfl
                  try simp only [Act.put, List.setIfInBounds_toArray, List.set_cons_zero, List.set_cons_succ]
                  refine tillT_take (i := 6) (oi := { dst := some 125, op := Go.Op.move (Go.Operand.tmp 8), type := 63, pos := "ref.go:208", after := #[], guard := none }) (v := ?_) rfl (by kernel_rfl) (by kernel_rfl) (by kernel_rfl) (by kernel_rfl) (fun _ _ _ h => h) (Or.inl ⟨by rfl, ?_⟩) (by assumption) ?_
                  rotate_left
                  · intro w hSw
                    (try dsimp only at hSw)
                    go_simp
                    all_goals with_reducible rfl
                  try simp only [Act.put, List.setIfInBounds_toArray, List.set_cons_zero, List.set_cons_succ]
                  refine tillT_take (i := 7) (oi := { dst := some 126, op := Go.Op.move (Go.Operand.tmp 14), type := 3, pos := "ref.go:208", after := #[], guard := none }) (v := ?_) rfl (by kernel_rfl) (by kernel_rfl) (by kernel_rfl) (by kernel_rfl) (fun _ _ _ h => h) (Or.inl ⟨by rfl, ?_⟩) (by assumption) ?_
                  rotate_left
                  · intro w hSw
                    (try dsimp only at hSw)
                    go_simp
                    all_goals with_reducible rfl
                  try simp only [Act.put, List.setIfInBounds_toArray, List.set_cons_zero, List.set_cons_succ]
                  refine tillT_take (i := 8) (oi := { dst := some 127, op := Go.Op.binOp Go.BinOp.add 3 (Go.Operand.tmp 126) (Go.Operand.const (Go.Value.int Go.IntKind.i64 1)) 3, type := 3, pos := "ref.go:208", after := #[{ on := 7, ground := Go.Ground.data }], guard := none }) (v := ?_) rfl (by kernel_rfl) (by kernel_rfl) (by kernel_rfl) (by kernel_rfl) (fun _ _ _ h => h) (Or.inl ⟨by rfl, ?_⟩) (by assumption) ?_
                  rotate_left
                  · intro w hSw
                    (try dsimp only at hSw)
                    go_simp
                    all_goals with_reducible rfl
                  try simp only [Act.put, List.setIfInBounds_toArray, List.set_cons_zero, List.set_cons_succ]
                  refine tillT_take (i := 9) (oi := { dst := some 128, op := Go.Op.indexAddr 63 (Go.Operand.tmp 125) (Go.Operand.tmp 127), type := 0, pos := "ref.go:208", after := #[{ on := 6, ground := Go.Ground.data }, { on := 8, ground := Go.Ground.data }], guard := none }) (v := ?_) rfl (by kernel_rfl) (by kernel_rfl) (by kernel_rfl) (by kernel_rfl) (fun _ _ _ h => h) (Or.inl ⟨by rfl, ?_⟩) (by assumption) ?_
                  rotate_left
                  · intro w hSw
                    (try dsimp only at hSw)
                    go_simp
                    all_goals with_reducible rfl
                  try simp only [Act.put, List.setIfInBounds_toArray, List.set_cons_zero, List.set_cons_succ]
                  refine tillT_take (i := 10) (oi := { dst := some 129, op := Go.Op.load 2 (Go.Operand.tmp 128), type := 2, pos := "ref.go:208", after := #[{ on := 9, ground := Go.Ground.data }], guard := none }) (v := ?_) rfl (by kernel_rfl) (by kernel_rfl) (by kernel_rfl) (by kernel_rfl) (fun _ _ _ h => h) (Or.inl ⟨by rfl, ?_⟩) (by assumption) ?_
                  rotate_left
                  · intro w hSw
                    have hc := hSw.2.2
                    go_simp
                    all_goals with_reducible rfl
                  try simp only [Act.put, List.setIfInBounds_toArray, List.set_cons_zero, List.set_cons_succ]
                  refine tillT_take (i := 11) (oi := { dst := some 130, op := Go.Op.build 51 #[(0, Go.Operand.tmp 124), (1, Go.Operand.tmp 129)], type := 51, pos := "ref.go:208", after := #[{ on := 5, ground := Go.Ground.data }, { on := 10, ground := Go.Ground.data }], guard := none }) (v := ?_) rfl (by kernel_rfl) (by kernel_rfl) (by kernel_rfl) (by kernel_rfl) (fun _ _ _ h => h) (Or.inl ⟨by rfl, ?_⟩) (by assumption) ?_
                  rotate_left
                  · intro w hSw
                    (try dsimp only at hSw)
                    go_simp
                    all_goals with_reducible rfl
                  try simp only [Act.put, List.setIfInBounds_toArray, List.set_cons_zero, List.set_cons_succ]
                  refine tillT_only (i := 12) (o := { dst := some 131, op := Go.Op.buildSlice 31 1 #[(0, Go.Operand.tmp 130)], type := 31, pos := "ref.go:208", after := #[{ on := 11, ground := Go.Ground.data }], guard := none }) (by kernel_rfl) rfl (fun K hK => ?_)
                  go_simp
                  have hkA : Keep [] wr (wr.drew.alloc (.cells #[.int .i64 x, .int .i64 y] 51)) := (Keep.refl _ _).drew.alloc _
                  refine hK.out _ _ ⟨(HBQ.out.keep hkA (by simp)).cell 4, (hkA.cell HGL.out (by simp)).trans hx, (hkA.cell HGL.out (by simp)).trans hy⟩ (fun hHeld => ?_)
                  clear hK K
                  try simp only [Act.put, List.setIfInBounds_toArray, List.set_cons_zero, List.set_cons_succ]
                  refine tillT_only (i := 13) (o := { dst := some 132, op := Go.Op.call { callee := Go.Callee.builtin Go.Builtin.append, args := #[Go.Operand.tmp 120, Go.Operand.tmp 131], argTypes := #[31, 31] }, type := 31, pos := "ref.go:208", after := #[{ on := 1, ground := Go.Ground.data }, { on := 12, ground := Go.Ground.data }], guard := none }) (by kernel_rfl) rfl (fun K hK => ?_)
                  obtain ⟨i0, hi, hz0, hz1, hz2⟩ := info_partsT infoPr
                  refine step_append_at rfl (.tmp 120) (.tmp 131) 31 rfl w.heap.size 51 i0 (.agg #[.int .i64 0, .int .i64 0]) 2 16 Tryd.underlying31 hi hz0 hz1 hz2 rfl (by decide) v m ((ps.take m).flatMap pairC) rfl (own_keep HPQ.out hkA (by simp)) ⟨_, 0, none⟩ 1 1 (pairC (x, y)) rfl rfl (World.news_of_block (heap_alloc_new _ _)) (by simp [pairC, Value.oneCell']) (by have := HPS5.out; have := HLT.out; unfold maxLen; omega) (by have := HPS5.out; have := HLT.out; omega) (Nat.le_trans HKQ.out.size hkA.size) ?_
                  clear hi hz0 hz1 hz2
                  intro v2 w7 hown hg hnil hat
                  clear hnil hat
                  obtain ⟨A5, c5, rfl⟩ := own_form hown
                  have hPK := own_keep HPQ.out hkA (by simp)
                  have hkG : Keep v.ownBlock.toList _ w7 := Keep.of_grown hg
                  have HB7 := Lib.hid ((HBQ.out.keep hkA (by simp)).keep hkG (fun hm2 => own_ne hPK (HBQ.out.keep hkA (by simp)) (by decide) (by simpa using hm2)))
                  have HR7 := Lib.hid ((HRQ.out.keep hkA (by simp)).keep hkG (fun hm2 => own_ne hPK (HRQ.out.keep hkA (by simp)) (by decide) (by simpa using hm2)))
                  have hOK := own_keep HOQ.out hkA (by simp)
                  have HO7 := Lib.hid (own_keep hOK hkG (fun g2 hg2 hm2 => by
                    obtain ⟨cs, hb⟩ := own_blk hPK (g := g2) (by simpa using hm2)
                    exact own_ne hOK hb (by decide) hg2))
                  have HK7 := Lib.hid ((HKQ.out.trans hkA (by simp)).trans hkG (fun b2 hb2 => .inr (own_ge hPK (by simpa using hb2))))
                  have HP7 := Lib.hid hown
                  have hc4 : w7.cell? ⟨ab, 4, none⟩ = some v := HB7.out.cell 4
                  have hf4 := HB7.out.frozen 4
                  have hx7 : w7.cell? ⟨gn, i2, none⟩ = some (.int .i64 x) := (hkG.cell (Nat.lt_of_lt_of_le HGL.out hkA.size) (fun hm2 => by
                    obtain ⟨cs, hb⟩ := own_blk hPK (g := gn) (by simpa using hm2)
                    exact own_ne hOK hb (by decide) rfl)).trans ((hkA.cell HGL.out (by simp)).trans hx)
                  have hy7 : w7.cell? ⟨gn, i2 + 1, none⟩ = some (.int .i64 y) := (hkG.cell (Nat.lt_of_lt_of_le HGL.out hkA.size) (fun hm2 => by
                    obtain ⟨cs, hb⟩ := own_blk hPK (g := gn) (by simpa using hm2)
                    exact own_ne hOK hb (by decide) rfl)).trans ((hkA.cell HGL.out (by simp)).trans hy)
                  clear hown hg hkG hPK hOK
                  refine hK.out _ _ ⟨hc4, hx7, hy7⟩ (fun hHeld => ?_)
                  clear hK K
                  try simp only [Act.put, List.setIfInBounds_toArray, List.set_cons_zero, List.set_cons_succ]
                  refine tillT_take (i := 14) (oi := { dst := some 133, op := Go.Op.fieldAddr 33 (Go.Operand.tmp 6) 4, type := 0, pos := "ref.go:208", after := #[{ on := 0, ground := Go.Ground.phase }, { on := 1, ground := Go.Ground.phase }, { on := 2, ground := Go.Ground.phase }, { on := 3, ground := Go.Ground.phase }, { on := 4, ground := Go.Ground.phase }, { on := 5, ground := Go.Ground.phase }, { on := 6, ground := Go.Ground.phase }, { on := 7, ground := Go.Ground.phase }, { on := 8, ground := Go.Ground.phase }, { on := 9, ground := Go.Ground.phase }, { on := 10, ground := Go.Ground.phase }, { on := 11, ground := Go.Ground.phase }, { on := 12, ground := Go.Ground.phase }, { on := 13, ground := Go.Ground.phase }], guard := none }) (v := ?_) rfl (by kernel_rfl) (by kernel_rfl) (by kernel_rfl) (by kernel_rfl) (fun _ _ _ h => h) (Or.inl ⟨by rfl, ?_⟩) (by assumption) ?_
                  rotate_left
                  · intro w hSw
                    (try dsimp only at hSw)
                    go_simp
                    all_goals with_reducible rfl
                  try simp only [Act.put, List.setIfInBounds_toArray, List.set_cons_zero, List.set_cons_succ]
                  refine tillT_last (o := { dst := none, op := Go.Op.store 31 (Go.Operand.tmp 133) (Go.Operand.tmp 132), type := 0, pos := "ref.go:208", after := #[{ on := 14, ground := Go.Ground.data }, { on := 13, ground := Go.Ground.data }, { on := 13, ground := Go.Ground.chain }, { on := 0, ground := Go.Ground.phase }, { on := 1, ground := Go.Ground.phase }, { on := 2, ground := Go.Ground.phase }, { on := 3, ground := Go.Ground.phase }, { on := 4, ground := Go.Ground.phase }, { on := 5, ground := Go.Ground.phase }, { on := 6, ground := Go.Ground.phase }, { on := 7, ground := Go.Ground.phase }, { on := 8, ground := Go.Ground.phase }, { on := 9, ground := Go.Ground.phase }, { on := 10, ground := Go.Ground.phase }, { on := 11, ground := Go.Ground.phase }, { on := 12, ground := Go.Ground.phase }, { on := 13, ground := Go.Ground.phase }], guard := none }) (by kernel_rfl) (by kernel_rfl) rfl (fun K hK => ?_)
                  go_simp
                  refine hK.out _ _ ?_
                  clear hK K
                  clear hHeld hc4 hf4 hx7 hy7
                  have HB8 := Lib.hid (HB7.out.set_ 4 (.slice A5 (m + 1) c5))
                  have HR8 := Lib.hid (HR7.out.far (p := ⟨ab, 4, none⟩) HRAB.out (.slice A5 (m + 1) c5))
                  have HK8 := Lib.hid (HK7.out.set_ (p := ⟨ab, 4, none⟩) (.slice A5 (m + 1) c5) (.inr HNB.out))
                  have HO8 := Lib.hid (own_same HO7.out (w' := w7.setCell ⟨ab, 4, none⟩ (.slice A5 (m + 1) c5)) (fun b hb => Below.heap_setCell _ _ _ _ (fun e2 => own_ne HO7.out HB7.out (by decide) (by rw [hb, e2]))))
                  have HP8 := Lib.hid (own_same HP7.out (w' := w7.setCell ⟨ab, 4, none⟩ (.slice A5 (m + 1) c5)) (fun b hb => Below.heap_setCell _ _ _ _ (fun e2 => own_ne HP7.out HB7.out (by decide) (by rw [hb, e2]))))
                  go_wp2_with fail
                  go_roundg (ps.length - (m + 1))
                  case measure => have := HLT.out; omega
                  case rel => exact ⟨m + 1, _, HLT.out, rfl, congrArg (Value.int .i64) (by have := H2M.out; omega), HK8.out, HR8.out, HB8.out, HO8.out, by rw [HTK.out]; exact HP8.out⟩
                · have hz : ¬ (((2 * m : Nat) : Int) + 1 < ((nn : Nat) : Int)) := by omega
                  obtain rfl : m = ps.length := by omega
                  obtain ⟨A6, c6, rfl⟩ := own_form HPQ.out
                  rw [List.take_length] at HPQ
                  have hd0 : wr.cell? ⟨ab, 0, none⟩ = some (.int .i64 3) := HBQ.out.cell 0
                  have hr0 : wr.cell? ⟨rb, 0, none⟩ = some (.int .i64 0) := HRQ.out.cell 0
                  have hf0 := HRQ.out.frozen 0
                  have hd1 : wr.cell? ⟨ab, 1, none⟩ = some (.int .i64 0) := HBQ.out.cell 1
                  have hr1 : wr.cell? ⟨rb, 1, none⟩ = some (.int .i64 0) := HRQ.out.cell 1
                  have hf1 := HRQ.out.frozen 1
                  have hd2 : wr.cell? ⟨ab, 2, none⟩ = some (.int .i64 0) := HBQ.out.cell 2
                  have hr2 : wr.cell? ⟨rb, 2, none⟩ = some (.int .i64 0) := HRQ.out.cell 2
                  have hf2 := HRQ.out.frozen 2
                  have hd3 : wr.cell? ⟨ab, 3, none⟩ = some (.int .i64 0) := HBQ.out.cell 3
                  have hr3 : wr.cell? ⟨rb, 3, none⟩ = some (.int .i64 0) := HRQ.out.cell 3
                  have hf3 := HRQ.out.frozen 3
                  have hd4 : wr.cell? ⟨ab, 4, none⟩ = some (.slice A6 ps.length c6) := HBQ.out.cell 4
                  have hr4 : wr.cell? ⟨rb, 4, none⟩ = some (.slice none 0 0) := HRQ.out.cell 4
                  have hf4 := HRQ.out.frozen 4
                  go_wp2_with fail
                  exact bodyPost_ret (results_rowT (p := 2) (ty := 33) rfl _ _ rb _ _ _ _ rfl (store5 HRQ.out _ _ _ _ _) Tryd.underlying33 rfl (by kernel_rfl)) rfl (HOUT.out _ _ (keep5 HKQ.out (Nat.le_of_eq HRN.out) _ _ _ _ _) (by rw [HRA.out]; exact ⟨A6, c6, rfl, own_keep HPQ.out (keep5s _ _ _ _ _) (fun g hg hm2 => own_ne HPQ.out HRQ.out (by decide) (by rw [hg, List.mem_singleton.1 hm2]))⟩))
        by_cases k1 : j0 = 1
        · have hgr := readA_gat (t := t) (k1 ▸ HO.out) (by decide)
          have HKI : Hid (((j0 : Nat) : Int) = 1) := Lib.hid (by rw [k1]; rfl)
          rw [show wantZ 1 = 2 from rfl] at hgr
          clear k1 HO k3
          have HG0 : Hid (GaR w w3 rb ab ((j0 : Nat) : Int) (.slice none 0 0) []) := Lib.hid ⟨HK3.out, HR3.out, HB3.out, ⟨rfl, .inl ⟨rfl, rfl⟩⟩⟩
          clear HK3 HR3 HB3
          generalize ((j0 : Nat) : Int) = ki at *
          have hki := HKI.out
          subst hki
          clear hneg
          by_cases hw : t.length = 2
          · have hwt : (((t.length + 1 : Nat) : Int) != 3) = false := by rw [hw]; rfl
            rw [if_neg (fun e => e hw)] at hgr
            have HLA2 : Hid (∀ ns, gatZ 1 t = some ns → ns.length = 2) := Lib.hid (fun ns e => by rw [gatZ_plain (by decide)] at e; rw [allZ_len e, hw])
            obtain ⟨gt, hgt⟩ : ∃ gt, gatZ 1 t = gt := ⟨_, rfl⟩
            rw [hgt] at hgr HLA2
            have HGT := Lib.hid hgt
            have HBAD : Hid (gt = none → readA (s :: t) = .error 4) := Lib.hid (fun e => by rw [e] at hgr; exact hgr)
            have HOKR : Hid (∀ ns, gt = some ns → readA (s :: t) = .ok ⟨1, ns.getD 0 0, ns.getD 1 0, 0, [], none, 0⟩ ∧ ns.length = 2) := Lib.hid (fun ns e => ⟨by have h2 := hgr; rw [e] at h2; exact h2, HLA2.out ns e⟩)
            clear hgr hgt HLA2 hw
            go_wp2_with fail
            clear hwt
            go_loopg [8, 9] t.length (fun gq v8 v9 wq => ∃ (m : Nat) (ns : List Int), m ≤ t.length ∧ gq = t.length - m ∧ v9 = .int .i64 ((m + 1 : Nat)) ∧ GaR w wq rb ab 1 v8 ns ∧ ns.length ≤ 2 * m ∧ (gatZ 1 (t.drop m)).map (ns ++ ·) = gt)
            case atStart => exact ⟨0, [], Nat.zero_le _, rfl, rfl, HG0.out, Nat.le_refl _, by rw [← HGT.out, List.drop_zero]; cases gatZ 1 t <;> rfl⟩
            case round =>
              obtain ⟨m, ns, hm, rfl, rfl, hga, hnl, hgt⟩ := hrel
              have HGA := Lib.hid hga
              have HGM := Lib.hid hgt
              have HNL := Lib.hid hnl
              obtain ⟨Av, cv, rfl⟩ := own_form hga.own
              have hm0 : (0 : Int) ≤ ((m + 1 : Nat) : Int) := by omega
              have hm1 : ((m + 1 : Nat) : Int) ≤ ((t.length + 1 : Nat) : Int) := by omega
              clear hga hgt hnl HG0
              by_cases hlt : m < t.length
              · have hz : ((m + 1 : Nat) : Int) < ((t.length + 1 : Nat) : Int) := by omega
                obtain ⟨b, o, hA, _, hcs⟩ := (HWS.out.keep HGA.out.hk).at_.at_str (k := m + 1) (by simpa using hlt)
                subst hA
                rw [List.getD_cons_succ] at hcs
                have HDJ : Hid (t.drop m = t.getD m [] :: t.drop (m + 1)) := Lib.hid (by
                  rw [List.drop_eq_getElem_cons hlt]
                  congr 1
                  rw [List.getD_eq_getElem?_getD, List.getElem?_eq_getElem hlt]
                  rfl)
                have HS5 : Hid ((t.getD m []).length ≤ 20000) := Lib.hid (HWS.out.len _ (by
                  rw [List.getD_eq_getElem?_getD, List.getElem?_eq_getElem hlt]
                  exact List.mem_cons_of_mem _ (List.getElem_mem hlt)))
                have HJL := Lib.hid hlt
                clear hlt
                rw [HDJ.out, gatZ_one (by decide)] at HGM
                generalize t.getD m [] = s2 at *
                go_upto_region 26 with fail
                have HGC := Lib.hid (HGA.out.keep ((Keep.refl [] wr).alloc (.cells #[.string ⟨s2.toArray⟩] 9)))
                have hpo := own_more (own_first wr s2) HGA.out.hk.size
                have HPL : Hid (∀ x ∈ [s2], x.length ≤ 20000) := Lib.hid (fun x hx => by rw [List.mem_singleton.1 hx]; exact HS5.out)
                have HPN : Hid ([s2].length ≤ 20001) := Lib.hid (by simp)
                have HP2 : Hid ([s2].length = 1) := Lib.hid rfl
                generalize hV : Value.slice (some ⟨wr.heap.size, 0, none⟩) 1 1 = V at hpo ⊢
                obtain ⟨Ap, cp, hV2⟩ : ∃ Ap cp, V = Value.slice Ap [s2].length cp := ⟨_, _, hV.symm⟩
                clear hV
                subst hV2
                have HPO : Hid (World.ownsRow _ _ _ _ (.slice Ap [s2].length cp) [s2].length (strL [s2])) := Lib.hid hpo
                clear hpo
                generalize [s2] = P at *
                generalize wr.alloc _ = w6 at HGC HPO ⊢
                clear HGA hcs
                go_wp2_with fail
                have hdm : decide (m < t.length) = true := decide_eq_true HJL.out
                rw [hdm]
                clear hdm
                generalize hv9 : Value.int .i64 ((m + 1 : Nat) : Int) = v9
                have HV9 := Lib.hid hv9
                clear hv9
                have HPC : Hid (((P.length : Nat) : Int) ≤ 20001) := Lib.hid (by have := HPN.out; omega)
                have hpc := HPC.out
                go_loopg [8, 11] P.length (fun gq2 v8 v11 wq => ∃ (j : Nat) (ns1 : List Int), j ≤ P.length ∧ gq2 = P.length - j ∧ v11 = .int .i64 (j : Nat) ∧ GaR w wq rb ab 1 v8 ns1 ∧ wq.ownsRow w.heap.size 9 1 (.slice Ap P.length cp) P.length (strL P) ∧ ns1.length ≤ ns.length + j ∧ (allZ (P.drop j)).map (ns1 ++ ·) = (allZ P).map (ns ++ ·))
                case atStart => exact ⟨0, ns, Nat.zero_le _, rfl, rfl, HGC.out, HPO.out, Nat.le_refl _, by rw [List.drop_zero]⟩
                case round =>
                  obtain ⟨j, ns1, hj, rfl, rfl, hga, hpo, hnl1, hal⟩ := hrel
                  have HGD := Lib.hid hga
                  have HPD := Lib.hid hpo
                  have HAL := Lib.hid hal
                  have HN1 := Lib.hid hnl1
                  obtain ⟨Ax, cx, rfl⟩ := own_form hga.own
                  have hj0 : (0 : Int) ≤ ((j : Nat) : Int) := by omega
                  have hj1 : ((j : Nat) : Int) ≤ ((P.length : Nat) : Int) := by omega
                  clear hga hpo hal hnl1 HGC HPO
                  by_cases hlt : j < P.length
                  · have hzj : ((j : Nat) : Int) < ((P.length : Nat) : Int) := by omega
                    obtain ⟨gp, cp2, hvp, _, _⟩ := own_some HPD.out (by omega)
                    injection hvp with hA2 _ hc2
                    subst hA2 hc2
                    have hcp : wr.cell? ⟨gp, j, none⟩ = some (.string ⟨(P.getD j []).toArray⟩) := by
                      rw [own_cell HPD.out hlt]
                      unfold strL
                      rw [List.getElem?_map, List.getD_eq_getElem?_getD, List.getElem?_eq_getElem hlt]
                      rfl
                    have HDP : Hid (P.drop j = P.getD j [] :: P.drop (j + 1)) := Lib.hid (by
                      rw [List.drop_eq_getElem_cons hlt]
                      congr 1
                      rw [List.getD_eq_getElem?_getD, List.getElem?_eq_getElem hlt]
                      rfl)
                    have HPS : Hid ((P.getD j []).length ≤ 20000) := Lib.hid (HPL.out _ (by
                      rw [List.getD_eq_getElem?_getD, List.getElem?_eq_getElem hlt]
                      exact List.getElem_mem hlt))
                    have HJ2 := Lib.hid hlt
                    rw [HDP.out] at HAL
                    clear hlt HDP
                    generalize P.getD j [] = s3 at *
                    have KP := Lib.hid (fun W => ref35_parse s3 W HPS.out)
                    unfold RParseOut at KP
                    cases hp : parseZ s3 with
                    | none =>
                      rw [allZ_cons_none hp] at HAL
                      have HAN : Hid (allZ P = none) := Lib.hid (by
                        have := HAL.out
                        cases ha : allZ P with
                        | none => rfl
                        | some l => rw [ha] at this; cases this)
                      have HEX := Lib.hid (HBAD.out (by rw [← HGM.out, HAN.out]; rfl))
                      rw [hp, show (none : Option Int).isSome = false from rfl] at KP
                      clear hp HAL
                      generalize numOf s3 = n3 at *
                      go_wp2_with fail
                      refine (KP.out _).mono ?_
                      rintro r z ⟨rfl, rfl⟩
                      have hr0 : wr.cell? ⟨rb, 0, none⟩ = some (.int .i64 0) := HGD.out.r.cell 0
                      have hf0 := HGD.out.r.frozen 0
                      have hr1 : wr.cell? ⟨rb, 1, none⟩ = some (.int .i64 0) := HGD.out.r.cell 1
                      have hf1 := HGD.out.r.frozen 1
                      have hr2 : wr.cell? ⟨rb, 2, none⟩ = some (.int .i64 0) := HGD.out.r.cell 2
                      have hf2 := HGD.out.r.frozen 2
                      have hr3 : wr.cell? ⟨rb, 3, none⟩ = some (.int .i64 0) := HGD.out.r.cell 3
                      have hf3 := HGD.out.r.frozen 3
                      have hr4 : wr.cell? ⟨rb, 4, none⟩ = some (.slice none 0 0) := HGD.out.r.cell 4
                      have hf4 := HGD.out.r.frozen 4
                      go_wp2_with fail
                      exact bodyPost_ret (results_rowT (p := 2) (ty := 33) rfl _ _ rb _ _ _ _ rfl (store5 HGD.out.r _ _ _ _ _) Tryd.underlying33 rfl (by kernel_rfl)) rfl (HOUT.out _ _ (keep5 HGD.out.hk (Nat.le_of_eq HRN.out) _ _ _ _ _) (by rw [HEX.out] <;> rfl))
                    | some n3 =>
                      rw [allZ_cons_some hp] at HAL
                      rw [hp, show (some n3).isSome = true from rfl, show numOf s3 = n3 by unfold numOf; rw [hp]] at KP
                      clear hp
                      go_wp2_with fail
                      refine (KP.out _).mono ?_
                      rintro r z ⟨rfl, rfl⟩
                      go_wp2_with (at_builtin; obtain ⟨i0, hi, hz0, hz1, hz2⟩ := info_partsT infoI64; refine wpList_append_own_at _ rfl (.tmp 88) (.tmp 90) 63 rfl w.heap.size 2 i0 (.int .i64 0) 1 8 Tryd.underlying63 hi hz0 hz1 hz2 rfl (by decide) (.slice Ax ns1.length cx) ns1.length (i64L ns1) rfl (own_keep (S := []) HGD.out.own ((Keep.refl [] _).alloc _) (by simp)) ⟨_, 0, none⟩ 1 1 [.int .i64 n3] rfl rfl (World.news_of_block (heap_alloc_new _ _)) (by simp [Value.oneCell']) (by have := HN1.out; have := HNL.out; have := HWS.out.num; have := HPN.out; have := HJL.out; unfold maxLen; simp at *; omega) (by have := HN1.out; have := HNL.out; have := HWS.out.num; have := HPN.out; have := HJL.out; simp at *; omega) (Nat.le_trans HGD.out.hk.size ((Keep.refl [] _).alloc _).size) ?_; clear hi hz0 hz1 hz2; intro v5 w7 hown hg _ _; have HGE := Lib.hid ((HGD.out.keep ((Keep.refl [] _).alloc _)).add hown hg); have HPE := Lib.hid (own_aside (own_keep (S := []) HGD.out.own ((Keep.refl [] _).alloc _) (by simp)) (own_keep (S := []) HPD.out ((Keep.refl [] _).alloc _) (by simp)) (by decide) hg); clear hown hg)
                      go_roundg (P.length - (j + 1))
                      case measure => have := HJ2.out; omega
                      case rel => exact ⟨j + 1, ns1 ++ [n3], HJ2.out, rfl, by go_num, HGE.out, HPE.out, by have := HN1.out; simp; omega, by rw [← HAL.out]; cases allZ (P.drop (j + 1)) <;> simp⟩
                  · have hzj : ¬ ((j : Nat) : Int) < ((P.length : Nat) : Int) := by omega
                    obtain rfl : j = P.length := by omega
                    rw [List.drop_length] at HAL
                    have HAS : Hid ((allZ P).map (ns ++ ·) = some ns1) := Lib.hid (by rw [← HAL.out]; simp [allZ])
                    clear hlt HAL
                    have HGN : Hid ((gatZ 1 (t.drop (m + 1))).map (ns1 ++ ·) = gt) := Lib.hid (by
                      rw [← HGM.out]
                      have := HAS.out
                      cases ha : allZ P with
                      | none => rw [ha] at this; cases this
                      | some l =>
                        rw [ha] at this
                        injection this with this
                        rw [← this]
                        cases gatZ 1 (t.drop (m + 1)) <;> simp)
                    have hv9 := HV9.out
                    subst hv9
                    go_wp2_with fail
                    go_roundg (t.length - (m + 1))
                    case measure => have := HJL.out; omega
                    case rel =>
                      refine ⟨m + 1, ns1, HJL.out, rfl, ?_, HGD.out, ?_, HGN.out⟩
                      · exact congrArg (Value.int .i64) (by omega)
                      · have h1 := HN1.out; have h2 := HNL.out; have h3 := HP2.out; omega
              · have hz : ¬ ((m + 1 : Nat) : Int) < ((t.length + 1 : Nat) : Int) := by omega
                obtain rfl : m = t.length := by omega
                clear hlt
                have HSO : Hid (gt = some ns) := Lib.hid (by rw [← HGM.out, List.drop_length]; simp [gatZ])
                obtain ⟨hra, hln⟩ := HOKR.out ns HSO.out
                have HRA := Lib.hid hra
                have HLN := Lib.hid hln
                clear hra hln HGM HOKR HBAD
                have HGK := Lib.hid HGA.out.hk
                have HGR := Lib.hid HGA.out.r
                have HGB2 := Lib.hid HGA.out.b
                have HGO := Lib.hid HGA.out.own
                clear HGA
                obtain ⟨gn, cn, hvn, hgl, _⟩ := own_some HGO.out (by have := HLN.out; omega)
                injection hvn with hA2 _ hc2
                subst hA2 hc2
                have HI64 : Hid (∀ W, World.ownsRow W w.heap.size 2 1 (.slice (some ⟨gn, 0, none⟩) ns.length cv) ns.length (i64L ns) → ∀ q, q < ns.length → W.cell? ⟨gn, q, none⟩ = some (.int .i64 (ns.getD q 0))) := Lib.hid (fun W ho q hq => by
                  rw [own_cell ho hq]
                  unfold i64L
                  rw [List.getElem?_map, List.getD_eq_getElem?_getD, List.getElem?_eq_getElem hq]
                  rfl)
                have hb0 : (0 : Int) < ((ns.length : Nat) : Int) := by have := HLN.out; omega
                have hb1 : (1 : Int) < ((ns.length : Nat) : Int) := by have := HLN.out; omega
                have hx0 := HI64.out _ HGO.out 0 (by have := HLN.out; omega)
                have ha0 : wr.cell? ⟨ab, 1, none⟩ = some (.int .i64 0) := HGB2.out.cell 1
                have hf0 := HGB2.out.frozen 1
                clear hgl
                generalize hnn : ns.length = nn at *
                have HNN := Lib.hid hnn
                clear hnn
                generalize ns.getD 0 0 = y0 at *
                go_upto_region 35 with fail
                have HB8 := Lib.hid (HGB2.out.set_ 1 (.int .i64 y0))
                have HR8 := Lib.hid (HGR.out.far (p := ⟨ab, 1, none⟩) HRAB.out (.int .i64 y0))
                have HK8 := Lib.hid (HGK.out.set_ (p := ⟨ab, 1, none⟩) (.int .i64 y0) (.inr HNB.out))
                have HO8 := Lib.hid (own_same HGO.out (w' := wr.setCell ⟨ab, 1, none⟩ (.int .i64 y0)) (fun b hb => Below.heap_setCell _ _ _ _ (fun e2 => own_ne HGO.out HGB2.out (by decide) (by rw [hb, e2]))))
                generalize wr.setCell _ _ = w8 at HB8 HR8 HK8 HO8 ⊢
                clear HGK HGR HGB2 HGO hx0 ha0 hf0
                have hx1 := HI64.out _ HO8.out 1 (by have := HLN.out; have := HNN.out; omega)
                generalize ns.getD 1 0 = y1 at *
                have ha2 : w8.cell? ⟨ab, 2, none⟩ = some (.int .i64 0) := HB8.out.cell 2
                have hf2 := HB8.out.frozen 2
                go_upto_region 36 with fail
                have HB9 := Lib.hid (HB8.out.set_ 2 (.int .i64 y1))
                have HR9 := Lib.hid (HR8.out.far (p := ⟨ab, 2, none⟩) HRAB.out (.int .i64 y1))
                have HK9 := Lib.hid (HK8.out.set_ (p := ⟨ab, 2, none⟩) (.int .i64 y1) (.inr HNB.out))
                generalize w8.setCell _ _ = w9 at HB9 HR9 HK9 ⊢
                clear HB8 HR8 HK8 HO8 hx1 ha2 hf2
                go_wp2_with fail
                go_loopg [14] 0 (fun gq v14 wq => gq = 0 ∧ v14 = .int .i64 0 ∧ Keep [] w wq ∧ Blk wq rb 33 #[.int .i64 0, .int .i64 0, .int .i64 0, .int .i64 0, .slice none 0 0] ∧ Blk wq ab 33 #[.int .i64 1, .int .i64 y0, .int .i64 y1, .int .i64 0, .slice none 0 0])
                case atStart => exact ⟨rfl, rfl, HK9.out, HR9.out, HB9.out⟩
                case round =>
                  obtain ⟨rfl, rfl, hkq, hrq, hbq⟩ := hrel
                  have HKQ := Lib.hid hkq
                  have HRQ := Lib.hid hrq
                  have HBQ := Lib.hid hbq
                  clear hkq hrq hbq HK9 HR9 HB9
                  have hd0 : wr.cell? ⟨ab, 0, none⟩ = some (.int .i64 1) := HBQ.out.cell 0
                  have hr0 : wr.cell? ⟨rb, 0, none⟩ = some (.int .i64 0) := HRQ.out.cell 0
                  have hf0 := HRQ.out.frozen 0
                  have hd1 : wr.cell? ⟨ab, 1, none⟩ = some (.int .i64 y0) := HBQ.out.cell 1
                  have hr1 : wr.cell? ⟨rb, 1, none⟩ = some (.int .i64 0) := HRQ.out.cell 1
                  have hf1 := HRQ.out.frozen 1
                  have hd2 : wr.cell? ⟨ab, 2, none⟩ = some (.int .i64 y1) := HBQ.out.cell 2
                  have hr2 : wr.cell? ⟨rb, 2, none⟩ = some (.int .i64 0) := HRQ.out.cell 2
                  have hf2 := HRQ.out.frozen 2
                  have hd3 : wr.cell? ⟨ab, 3, none⟩ = some (.int .i64 0) := HBQ.out.cell 3
                  have hr3 : wr.cell? ⟨rb, 3, none⟩ = some (.int .i64 0) := HRQ.out.cell 3
                  have hf3 := HRQ.out.frozen 3
                  have hd4 : wr.cell? ⟨ab, 4, none⟩ = some (.slice none 0 0) := HBQ.out.cell 4
                  have hr4 : wr.cell? ⟨rb, 4, none⟩ = some (.slice none 0 0) := HRQ.out.cell 4
                  have hf4 := HRQ.out.frozen 4
                  go_wp2_with fail
                  exact bodyPost_ret (results_rowT (p := 2) (ty := 33) rfl _ _ rb _ _ _ _ rfl (store5 HRQ.out _ _ _ _ _) Tryd.underlying33 rfl (by kernel_rfl)) rfl (HOUT.out _ _ (keep5 HKQ.out (Nat.le_of_eq HRN.out) _ _ _ _ _) (by rw [HRA.out]; exact ⟨none, 0, rfl, own_nilP⟩))
          · have hwt : (((t.length + 1 : Nat) : Int) != 3) = true := by rw [bne_iff_ne]; omega
            rw [if_pos hw] at hgr
            have HEX := Lib.hid hgr
            clear hgr hw
            have hr0 : w3.cell? ⟨rb, 0, none⟩ = some (.int .i64 0) := HG0.out.r.cell 0
            have hf0 := HG0.out.r.frozen 0
            have hr1 : w3.cell? ⟨rb, 1, none⟩ = some (.int .i64 0) := HG0.out.r.cell 1
            have hf1 := HG0.out.r.frozen 1
            have hr2 : w3.cell? ⟨rb, 2, none⟩ = some (.int .i64 0) := HG0.out.r.cell 2
            have hf2 := HG0.out.r.frozen 2
            have hr3 : w3.cell? ⟨rb, 3, none⟩ = some (.int .i64 0) := HG0.out.r.cell 3
            have hf3 := HG0.out.r.frozen 3
            have hr4 : w3.cell? ⟨rb, 4, none⟩ = some (.slice none 0 0) := HG0.out.r.cell 4
            have hf4 := HG0.out.r.frozen 4
            go_wp2_with fail
            exact bodyPost_ret (results_rowT (p := 2) (ty := 33) rfl _ _ rb _ _ _ _ rfl (store5 HG0.out.r _ _ _ _ _) Tryd.underlying33 rfl (by kernel_rfl)) rfl (HOUT.out _ _ (keep5 HG0.out.hk (Nat.le_of_eq HRN.out) _ _ _ _ _) (by rw [HEX.out] <;> rfl))
        by_cases k2 : j0 = 2
        · have hgr := readA_gat (t := t) (k2 ▸ HO.out) (by decide)
          have HKI : Hid (((j0 : Nat) : Int) = 2) := Lib.hid (by rw [k2]; rfl)
          rw [show wantZ 2 = 1 from rfl] at hgr
          clear k2 HO k3
          have HG0 : Hid (GaR w w3 rb ab ((j0 : Nat) : Int) (.slice none 0 0) []) := Lib.hid ⟨HK3.out, HR3.out, HB3.out, ⟨rfl, .inl ⟨rfl, rfl⟩⟩⟩
          clear HK3 HR3 HB3
          generalize ((j0 : Nat) : Int) = ki at *
          have hki := HKI.out
          subst hki
          clear hneg
          by_cases hw : t.length = 1
          · have hwt : (((t.length + 1 : Nat) : Int) != 2) = false := by rw [hw]; rfl
            rw [if_neg (fun e => e hw)] at hgr
            have HLA2 : Hid (∀ ns, gatZ 2 t = some ns → ns.length = 1) := Lib.hid (fun ns e => by rw [gatZ_plain (by decide)] at e; rw [allZ_len e, hw])
            obtain ⟨gt, hgt⟩ : ∃ gt, gatZ 2 t = gt := ⟨_, rfl⟩
            rw [hgt] at hgr HLA2
            have HGT := Lib.hid hgt
            have HBAD : Hid (gt = none → readA (s :: t) = .error 4) := Lib.hid (fun e => by rw [e] at hgr; exact hgr)
            have HOKR : Hid (∀ ns, gt = some ns → readA (s :: t) = .ok ⟨2, 0, 0, ns.getD 0 0, [], none, 0⟩ ∧ ns.length = 1) := Lib.hid (fun ns e => ⟨by have h2 := hgr; rw [e] at h2; exact h2, HLA2.out ns e⟩)
            clear hgr hgt HLA2 hw
            go_wp2_with fail
            clear hwt
            go_loopg [8, 9] t.length (fun gq v8 v9 wq => ∃ (m : Nat) (ns : List Int), m ≤ t.length ∧ gq = t.length - m ∧ v9 = .int .i64 ((m + 1 : Nat)) ∧ GaR w wq rb ab 2 v8 ns ∧ ns.length ≤ 2 * m ∧ (gatZ 2 (t.drop m)).map (ns ++ ·) = gt)
            case atStart => exact ⟨0, [], Nat.zero_le _, rfl, rfl, HG0.out, Nat.le_refl _, by rw [← HGT.out, List.drop_zero]; cases gatZ 2 t <;> rfl⟩
            case round =>
              obtain ⟨m, ns, hm, rfl, rfl, hga, hnl, hgt⟩ := hrel
              have HGA := Lib.hid hga
              have HGM := Lib.hid hgt
              have HNL := Lib.hid hnl
              obtain ⟨Av, cv, rfl⟩ := own_form hga.own
              have hm0 : (0 : Int) ≤ ((m + 1 : Nat) : Int) := by omega
              have hm1 : ((m + 1 : Nat) : Int) ≤ ((t.length + 1 : Nat) : Int) := by omega
              clear hga hgt hnl HG0
              by_cases hlt : m < t.length
              · have hz : ((m + 1 : Nat) : Int) < ((t.length + 1 : Nat) : Int) := by omega
                obtain ⟨b, o, hA, _, hcs⟩ := (HWS.out.keep HGA.out.hk).at_.at_str (k := m + 1) (by simpa using hlt)
                subst hA
                rw [List.getD_cons_succ] at hcs
                have HDJ : Hid (t.drop m = t.getD m [] :: t.drop (m + 1)) := Lib.hid (by
                  rw [List.drop_eq_getElem_cons hlt]
                  congr 1
                  rw [List.getD_eq_getElem?_getD, List.getElem?_eq_getElem hlt]
                  rfl)
                have HS5 : Hid ((t.getD m []).length ≤ 20000) := Lib.hid (HWS.out.len _ (by
                  rw [List.getD_eq_getElem?_getD, List.getElem?_eq_getElem hlt]
                  exact List.mem_cons_of_mem _ (List.getElem_mem hlt)))
                have HJL := Lib.hid hlt
                clear hlt
                rw [HDJ.out, gatZ_one (by decide)] at HGM
                generalize t.getD m [] = s2 at *
                go_upto_region 26 with fail
                have HGC := Lib.hid (HGA.out.keep ((Keep.refl [] wr).alloc (.cells #[.string ⟨s2.toArray⟩] 9)))
                have hpo := own_more (own_first wr s2) HGA.out.hk.size
                have HPL : Hid (∀ x ∈ [s2], x.length ≤ 20000) := Lib.hid (fun x hx => by rw [List.mem_singleton.1 hx]; exact HS5.out)
                have HPN : Hid ([s2].length ≤ 20001) := Lib.hid (by simp)
                have HP2 : Hid ([s2].length = 1) := Lib.hid rfl
                generalize hV : Value.slice (some ⟨wr.heap.size, 0, none⟩) 1 1 = V at hpo ⊢
                obtain ⟨Ap, cp, hV2⟩ : ∃ Ap cp, V = Value.slice Ap [s2].length cp := ⟨_, _, hV.symm⟩
                clear hV
                subst hV2
                have HPO : Hid (World.ownsRow _ _ _ _ (.slice Ap [s2].length cp) [s2].length (strL [s2])) := Lib.hid hpo
                clear hpo
                generalize [s2] = P at *
                generalize wr.alloc _ = w6 at HGC HPO ⊢
                clear HGA hcs
                go_wp2_with fail
                have hdm : decide (m < t.length) = true := decide_eq_true HJL.out
                rw [hdm]
                clear hdm
                generalize hv9 : Value.int .i64 ((m + 1 : Nat) : Int) = v9
                have HV9 := Lib.hid hv9
                clear hv9
                have HPC : Hid (((P.length : Nat) : Int) ≤ 20001) := Lib.hid (by have := HPN.out; omega)
                have hpc := HPC.out
                go_loopg [8, 11] P.length (fun gq2 v8 v11 wq => ∃ (j : Nat) (ns1 : List Int), j ≤ P.length ∧ gq2 = P.length - j ∧ v11 = .int .i64 (j : Nat) ∧ GaR w wq rb ab 2 v8 ns1 ∧ wq.ownsRow w.heap.size 9 1 (.slice Ap P.length cp) P.length (strL P) ∧ ns1.length ≤ ns.length + j ∧ (allZ (P.drop j)).map (ns1 ++ ·) = (allZ P).map (ns ++ ·))
                case atStart => exact ⟨0, ns, Nat.zero_le _, rfl, rfl, HGC.out, HPO.out, Nat.le_refl _, by rw [List.drop_zero]⟩
                case round =>
                  obtain ⟨j, ns1, hj, rfl, rfl, hga, hpo, hnl1, hal⟩ := hrel
                  have HGD := Lib.hid hga
                  have HPD := Lib.hid hpo
                  have HAL := Lib.hid hal
                  have HN1 := Lib.hid hnl1
                  obtain ⟨Ax, cx, rfl⟩ := own_form hga.own
                  have hj0 : (0 : Int) ≤ ((j : Nat) : Int) := by omega
                  have hj1 : ((j : Nat) : Int) ≤ ((P.length : Nat) : Int) := by omega
                  clear hga hpo hal hnl1 HGC HPO
                  by_cases hlt : j < P.length
                  · have hzj : ((j : Nat) : Int) < ((P.length : Nat) : Int) := by omega
                    obtain ⟨gp, cp2, hvp, _, _⟩ := own_some HPD.out (by omega)
                    injection hvp with hA2 _ hc2
                    subst hA2 hc2
                    have hcp : wr.cell? ⟨gp, j, none⟩ = some (.string ⟨(P.getD j []).toArray⟩) := by
                      rw [own_cell HPD.out hlt]
                      unfold strL
                      rw [List.getElem?_map, List.getD_eq_getElem?_getD, List.getElem?_eq_getElem hlt]
                      rfl
                    have HDP : Hid (P.drop j = P.getD j [] :: P.drop (j + 1)) := Lib.hid (by
                      rw [List.drop_eq_getElem_cons hlt]
                      congr 1
                      rw [List.getD_eq_getElem?_getD, List.getElem?_eq_getElem hlt]
                      rfl)
                    have HPS : Hid ((P.getD j []).length ≤ 20000) := Lib.hid (HPL.out _ (by
                      rw [List.getD_eq_getElem?_getD, List.getElem?_eq_getElem hlt]
                      exact List.getElem_mem hlt))
                    have HJ2 := Lib.hid hlt
                    rw [HDP.out] at HAL
                    clear hlt HDP
                    generalize P.getD j [] = s3 at *
                    have KP := Lib.hid (fun W => ref35_parse s3 W HPS.out)
                    unfold RParseOut at KP
                    cases hp : parseZ s3 with
                    | none =>
                      rw [allZ_cons_none hp] at HAL
                      have HAN : Hid (allZ P = none) := Lib.hid (by
                        have := HAL.out
                        cases ha : allZ P with
                        | none => rfl
                        | some l => rw [ha] at this; cases this)
                      have HEX := Lib.hid (HBAD.out (by rw [← HGM.out, HAN.out]; rfl))
                      rw [hp, show (none : Option Int).isSome = false from rfl] at KP
                      clear hp HAL
                      generalize numOf s3 = n3 at *
                      go_wp2_with fail
                      refine (KP.out _).mono ?_
                      rintro r z ⟨rfl, rfl⟩
                      have hr0 : wr.cell? ⟨rb, 0, none⟩ = some (.int .i64 0) := HGD.out.r.cell 0
                      have hf0 := HGD.out.r.frozen 0
                      have hr1 : wr.cell? ⟨rb, 1, none⟩ = some (.int .i64 0) := HGD.out.r.cell 1
                      have hf1 := HGD.out.r.frozen 1
                      have hr2 : wr.cell? ⟨rb, 2, none⟩ = some (.int .i64 0) := HGD.out.r.cell 2
                      have hf2 := HGD.out.r.frozen 2
                      have hr3 : wr.cell? ⟨rb, 3, none⟩ = some (.int .i64 0) := HGD.out.r.cell 3
                      have hf3 := HGD.out.r.frozen 3
                      have hr4 : wr.cell? ⟨rb, 4, none⟩ = some (.slice none 0 0) := HGD.out.r.cell 4
                      have hf4 := HGD.out.r.frozen 4
                      go_wp2_with fail
                      exact bodyPost_ret (results_rowT (p := 2) (ty := 33) rfl _ _ rb _ _ _ _ rfl (store5 HGD.out.r _ _ _ _ _) Tryd.underlying33 rfl (by kernel_rfl)) rfl (HOUT.out _ _ (keep5 HGD.out.hk (Nat.le_of_eq HRN.out) _ _ _ _ _) (by rw [HEX.out] <;> rfl))
                    | some n3 =>
                      rw [allZ_cons_some hp] at HAL
                      rw [hp, show (some n3).isSome = true from rfl, show numOf s3 = n3 by unfold numOf; rw [hp]] at KP
                      clear hp
                      go_wp2_with fail
                      refine (KP.out _).mono ?_
                      rintro r z ⟨rfl, rfl⟩
                      go_wp2_with (at_builtin; obtain ⟨i0, hi, hz0, hz1, hz2⟩ := info_partsT infoI64; refine wpList_append_own_at _ rfl (.tmp 88) (.tmp 90) 63 rfl w.heap.size 2 i0 (.int .i64 0) 1 8 Tryd.underlying63 hi hz0 hz1 hz2 rfl (by decide) (.slice Ax ns1.length cx) ns1.length (i64L ns1) rfl (own_keep (S := []) HGD.out.own ((Keep.refl [] _).alloc _) (by simp)) ⟨_, 0, none⟩ 1 1 [.int .i64 n3] rfl rfl (World.news_of_block (heap_alloc_new _ _)) (by simp [Value.oneCell']) (by have := HN1.out; have := HNL.out; have := HWS.out.num; have := HPN.out; have := HJL.out; unfold maxLen; simp at *; omega) (by have := HN1.out; have := HNL.out; have := HWS.out.num; have := HPN.out; have := HJL.out; simp at *; omega) (Nat.le_trans HGD.out.hk.size ((Keep.refl [] _).alloc _).size) ?_; clear hi hz0 hz1 hz2; intro v5 w7 hown hg _ _; have HGE := Lib.hid ((HGD.out.keep ((Keep.refl [] _).alloc _)).add hown hg); have HPE := Lib.hid (own_aside (own_keep (S := []) HGD.out.own ((Keep.refl [] _).alloc _) (by simp)) (own_keep (S := []) HPD.out ((Keep.refl [] _).alloc _) (by simp)) (by decide) hg); clear hown hg)
                      go_roundg (P.length - (j + 1))
                      case measure => have := HJ2.out; omega
                      case rel => exact ⟨j + 1, ns1 ++ [n3], HJ2.out, rfl, by go_num, HGE.out, HPE.out, by have := HN1.out; simp; omega, by rw [← HAL.out]; cases allZ (P.drop (j + 1)) <;> simp⟩
                  · have hzj : ¬ ((j : Nat) : Int) < ((P.length : Nat) : Int) := by omega
                    obtain rfl : j = P.length := by omega
                    rw [List.drop_length] at HAL
                    have HAS : Hid ((allZ P).map (ns ++ ·) = some ns1) := Lib.hid (by rw [← HAL.out]; simp [allZ])
                    clear hlt HAL
                    have HGN : Hid ((gatZ 2 (t.drop (m + 1))).map (ns1 ++ ·) = gt) := Lib.hid (by
                      rw [← HGM.out]
                      have := HAS.out
                      cases ha : allZ P with
                      | none => rw [ha] at this; cases this
                      | some l =>
                        rw [ha] at this
                        injection this with this
                        rw [← this]
                        cases gatZ 2 (t.drop (m + 1)) <;> simp)
                    have hv9 := HV9.out
                    subst hv9
                    go_wp2_with fail
                    go_roundg (t.length - (m + 1))
                    case measure => have := HJL.out; omega
                    case rel =>
                      refine ⟨m + 1, ns1, HJL.out, rfl, ?_, HGD.out, ?_, HGN.out⟩
                      · exact congrArg (Value.int .i64) (by omega)
                      · have h1 := HN1.out; have h2 := HNL.out; have h3 := HP2.out; omega
              · have hz : ¬ ((m + 1 : Nat) : Int) < ((t.length + 1 : Nat) : Int) := by omega
                obtain rfl : m = t.length := by omega
                clear hlt
                have HSO : Hid (gt = some ns) := Lib.hid (by rw [← HGM.out, List.drop_length]; simp [gatZ])
                obtain ⟨hra, hln⟩ := HOKR.out ns HSO.out
                have HRA := Lib.hid hra
                have HLN := Lib.hid hln
                clear hra hln HGM HOKR HBAD
                have HGK := Lib.hid HGA.out.hk
                have HGR := Lib.hid HGA.out.r
                have HGB2 := Lib.hid HGA.out.b
                have HGO := Lib.hid HGA.out.own
                clear HGA
                obtain ⟨gn, cn, hvn, hgl, _⟩ := own_some HGO.out (by have := HLN.out; omega)
                injection hvn with hA2 _ hc2
                subst hA2 hc2
                have HI64 : Hid (∀ W, World.ownsRow W w.heap.size 2 1 (.slice (some ⟨gn, 0, none⟩) ns.length cv) ns.length (i64L ns) → ∀ q, q < ns.length → W.cell? ⟨gn, q, none⟩ = some (.int .i64 (ns.getD q 0))) := Lib.hid (fun W ho q hq => by
                  rw [own_cell ho hq]
                  unfold i64L
                  rw [List.getElem?_map, List.getD_eq_getElem?_getD, List.getElem?_eq_getElem hq]
                  rfl)
                have hb0 : (0 : Int) < ((ns.length : Nat) : Int) := by have := HLN.out; omega
                have hb1 : ¬ (1 : Int) < ((ns.length : Nat) : Int) := by have := HLN.out; omega
                have hx0 := HI64.out _ HGO.out 0 (by have := HLN.out; omega)
                have ha0 : wr.cell? ⟨ab, 3, none⟩ = some (.int .i64 0) := HGB2.out.cell 3
                have hf0 := HGB2.out.frozen 3
                clear hgl
                generalize hnn : ns.length = nn at *
                have HNN := Lib.hid hnn
                clear hnn
                generalize ns.getD 0 0 = y0 at *
                go_upto_region 38 with fail
                have HB8 := Lib.hid (HGB2.out.set_ 3 (.int .i64 y0))
                have HR8 := Lib.hid (HGR.out.far (p := ⟨ab, 3, none⟩) HRAB.out (.int .i64 y0))
                have HK8 := Lib.hid (HGK.out.set_ (p := ⟨ab, 3, none⟩) (.int .i64 y0) (.inr HNB.out))
                have HO8 := Lib.hid (own_same HGO.out (w' := wr.setCell ⟨ab, 3, none⟩ (.int .i64 y0)) (fun b hb => Below.heap_setCell _ _ _ _ (fun e2 => own_ne HGO.out HGB2.out (by decide) (by rw [hb, e2]))))
                generalize wr.setCell _ _ = w8 at HB8 HR8 HK8 HO8 ⊢
                clear HGK HGR HGB2 HGO hx0 ha0 hf0
                go_wp2_with fail
                go_loopg [14] 0 (fun gq v14 wq => gq = 0 ∧ v14 = .int .i64 0 ∧ Keep [] w wq ∧ Blk wq rb 33 #[.int .i64 0, .int .i64 0, .int .i64 0, .int .i64 0, .slice none 0 0] ∧ Blk wq ab 33 #[.int .i64 2, .int .i64 0, .int .i64 0, .int .i64 y0, .slice none 0 0])
                case atStart => exact ⟨rfl, rfl, HK8.out, HR8.out, HB8.out⟩
                case round =>
                  obtain ⟨rfl, rfl, hkq, hrq, hbq⟩ := hrel
                  have HKQ := Lib.hid hkq
                  have HRQ := Lib.hid hrq
                  have HBQ := Lib.hid hbq
                  clear hkq hrq hbq HK8 HR8 HB8
                  have hd0 : wr.cell? ⟨ab, 0, none⟩ = some (.int .i64 2) := HBQ.out.cell 0
                  have hr0 : wr.cell? ⟨rb, 0, none⟩ = some (.int .i64 0) := HRQ.out.cell 0
                  have hf0 := HRQ.out.frozen 0
                  have hd1 : wr.cell? ⟨ab, 1, none⟩ = some (.int .i64 0) := HBQ.out.cell 1
                  have hr1 : wr.cell? ⟨rb, 1, none⟩ = some (.int .i64 0) := HRQ.out.cell 1
                  have hf1 := HRQ.out.frozen 1
                  have hd2 : wr.cell? ⟨ab, 2, none⟩ = some (.int .i64 0) := HBQ.out.cell 2
                  have hr2 : wr.cell? ⟨rb, 2, none⟩ = some (.int .i64 0) := HRQ.out.cell 2
                  have hf2 := HRQ.out.frozen 2
                  have hd3 : wr.cell? ⟨ab, 3, none⟩ = some (.int .i64 y0) := HBQ.out.cell 3
                  have hr3 : wr.cell? ⟨rb, 3, none⟩ = some (.int .i64 0) := HRQ.out.cell 3
                  have hf3 := HRQ.out.frozen 3
                  have hd4 : wr.cell? ⟨ab, 4, none⟩ = some (.slice none 0 0) := HBQ.out.cell 4
                  have hr4 : wr.cell? ⟨rb, 4, none⟩ = some (.slice none 0 0) := HRQ.out.cell 4
                  have hf4 := HRQ.out.frozen 4
                  go_wp2_with fail
                  exact bodyPost_ret (results_rowT (p := 2) (ty := 33) rfl _ _ rb _ _ _ _ rfl (store5 HRQ.out _ _ _ _ _) Tryd.underlying33 rfl (by kernel_rfl)) rfl (HOUT.out _ _ (keep5 HKQ.out (Nat.le_of_eq HRN.out) _ _ _ _ _) (by rw [HRA.out]; exact ⟨none, 0, rfl, own_nilP⟩))
          · have hwt : (((t.length + 1 : Nat) : Int) != 2) = true := by rw [bne_iff_ne]; omega
            rw [if_pos hw] at hgr
            have HEX := Lib.hid hgr
            clear hgr hw
            have hr0 : w3.cell? ⟨rb, 0, none⟩ = some (.int .i64 0) := HG0.out.r.cell 0
            have hf0 := HG0.out.r.frozen 0
            have hr1 : w3.cell? ⟨rb, 1, none⟩ = some (.int .i64 0) := HG0.out.r.cell 1
            have hf1 := HG0.out.r.frozen 1
            have hr2 : w3.cell? ⟨rb, 2, none⟩ = some (.int .i64 0) := HG0.out.r.cell 2
            have hf2 := HG0.out.r.frozen 2
            have hr3 : w3.cell? ⟨rb, 3, none⟩ = some (.int .i64 0) := HG0.out.r.cell 3
            have hf3 := HG0.out.r.frozen 3
            have hr4 : w3.cell? ⟨rb, 4, none⟩ = some (.slice none 0 0) := HG0.out.r.cell 4
            have hf4 := HG0.out.r.frozen 4
            go_wp2_with fail
            exact bodyPost_ret (results_rowT (p := 2) (ty := 33) rfl _ _ rb _ _ _ _ rfl (store5 HG0.out.r _ _ _ _ _) Tryd.underlying33 rfl (by kernel_rfl)) rfl (HOUT.out _ _ (keep5 HG0.out.hk (Nat.le_of_eq HRN.out) _ _ _ _ _) (by rw [HEX.out] <;> rfl))
        have hgr := readA_gat (t := t) HO.out k3
        have e1 : (((j0 : Nat) : Int) == 1) = false := by rw [beq_eq_false_iff_ne]; omega
        have e2 : (((j0 : Nat) : Int) == 2) = false := by rw [beq_eq_false_iff_ne]; omega
        have e3 : (((j0 : Nat) : Int) == 3) = false := by rw [beq_eq_false_iff_ne]; omega
        have e4 : (((j0 : Nat) : Int) != 3) = true := by rw [bne_iff_ne]; omega
        have hwz : wantZ j0 = 0 := by unfold wantZ; rw [if_neg k1, if_neg k2]
        rw [hwz] at hgr
        have hak : ansK j0 [] = ⟨((j0 : Nat) : Int), 0, 0, 0, [], none, 0⟩ := by unfold ansK; rw [if_neg k1, if_neg k2]
        clear HO k1 k2 k3 hwz
        by_cases hw : t.length = 0
        · have hwt : (((t.length + 1 : Nat) : Int) != 1) = false := by rw [hw]; rfl
          have hz : ¬ (1 : Int) < ((t.length + 1 : Nat) : Int) := by omega
          have hra : readA (s :: t) = .ok ⟨((j0 : Nat) : Int), 0, 0, 0, [], none, 0⟩ := by
            rw [hgr, if_neg (fun e => e hw), List.length_eq_zero_iff.1 hw]
            exact congrArg Except.ok hak
          have HRA := Lib.hid hra
          clear hgr hw hra hak
          generalize ((j0 : Nat) : Int) = ki at *
          go_wp2_with fail
          clear hwt e4
          go_loopg [8, 9] 0 (fun gq v8 v9 wq => gq = 0 ∧ v9 = .int .i64 1 ∧ v8 = .slice none 0 0 ∧ Keep [] w wq ∧ Blk wq rb 33 #[.int .i64 0, .int .i64 0, .int .i64 0, .int .i64 0, .slice none 0 0] ∧ Blk wq ab 33 #[.int .i64 ki, .int .i64 0, .int .i64 0, .int .i64 0, .slice none 0 0])
          case atStart => exact ⟨rfl, rfl, rfl, HK3.out, HR3.out, HB3.out⟩
          case round =>
            obtain ⟨rfl, rfl, rfl, hkq, hrq, hbq⟩ := hrel
            have HKP := Lib.hid hkq
            have HRP := Lib.hid hrq
            have HBP := Lib.hid hbq
            clear hkq hrq hbq HK3 HR3 HB3
            go_wp2_with fail
            go_loopg [14] 0 (fun gq v14 wq => gq = 0 ∧ v14 = .int .i64 0 ∧ Keep [] w wq ∧ Blk wq rb 33 #[.int .i64 0, .int .i64 0, .int .i64 0, .int .i64 0, .slice none 0 0] ∧ Blk wq ab 33 #[.int .i64 ki, .int .i64 0, .int .i64 0, .int .i64 0, .slice none 0 0])
            case atStart => exact ⟨rfl, rfl, HKP.out, HRP.out, HBP.out⟩
            case round =>
              obtain ⟨rfl, rfl, hkq, hrq, hbq⟩ := hrel
              have HKQ := Lib.hid hkq
              have HRQ := Lib.hid hrq
              have HBQ := Lib.hid hbq
              clear hkq hrq hbq HKP HRP HBP
              have hd0 : wr.cell? ⟨ab, 0, none⟩ = some (.int .i64 ki) := HBQ.out.cell 0
              have hr0 : wr.cell? ⟨rb, 0, none⟩ = some (.int .i64 0) := HRQ.out.cell 0
              have hf0 := HRQ.out.frozen 0
              have hd1 : wr.cell? ⟨ab, 1, none⟩ = some (.int .i64 0) := HBQ.out.cell 1
              have hr1 : wr.cell? ⟨rb, 1, none⟩ = some (.int .i64 0) := HRQ.out.cell 1
              have hf1 := HRQ.out.frozen 1
              have hd2 : wr.cell? ⟨ab, 2, none⟩ = some (.int .i64 0) := HBQ.out.cell 2
              have hr2 : wr.cell? ⟨rb, 2, none⟩ = some (.int .i64 0) := HRQ.out.cell 2
              have hf2 := HRQ.out.frozen 2
              have hd3 : wr.cell? ⟨ab, 3, none⟩ = some (.int .i64 0) := HBQ.out.cell 3
              have hr3 : wr.cell? ⟨rb, 3, none⟩ = some (.int .i64 0) := HRQ.out.cell 3
              have hf3 := HRQ.out.frozen 3
              have hd4 : wr.cell? ⟨ab, 4, none⟩ = some (.slice none 0 0) := HBQ.out.cell 4
              have hr4 : wr.cell? ⟨rb, 4, none⟩ = some (.slice none 0 0) := HRQ.out.cell 4
              have hf4 := HRQ.out.frozen 4
              go_wp2_with fail
              exact bodyPost_ret (results_rowT (p := 2) (ty := 33) rfl _ _ rb _ _ _ _ rfl (store5 HRQ.out _ _ _ _ _) Tryd.underlying33 rfl (by kernel_rfl)) rfl (HOUT.out _ _ (keep5 HKQ.out (Nat.le_of_eq HRN.out) _ _ _ _ _) (by rw [HRA.out]; exact ⟨none, 0, rfl, own_nilP⟩))
        · have hwt : (((t.length + 1 : Nat) : Int) != 1) = true := by rw [bne_iff_ne]; omega
          rw [if_pos hw] at hgr
          have HEX := Lib.hid hgr
          clear hgr hw hak HB3
          generalize ((j0 : Nat) : Int) = ki at *
          have hr0 : w3.cell? ⟨rb, 0, none⟩ = some (.int .i64 0) := HR3.out.cell 0
          have hf0 := HR3.out.frozen 0
          have hr1 : w3.cell? ⟨rb, 1, none⟩ = some (.int .i64 0) := HR3.out.cell 1
          have hf1 := HR3.out.frozen 1
          have hr2 : w3.cell? ⟨rb, 2, none⟩ = some (.int .i64 0) := HR3.out.cell 2
          have hf2 := HR3.out.frozen 2
          have hr3 : w3.cell? ⟨rb, 3, none⟩ = some (.int .i64 0) := HR3.out.cell 3
          have hf3 := HR3.out.frozen 3
          have hr4 : w3.cell? ⟨rb, 4, none⟩ = some (.slice none 0 0) := HR3.out.cell 4
          have hf4 := HR3.out.frozen 4
          go_wp2_with fail
          exact bodyPost_ret (results_rowT (p := 2) (ty := 33) rfl _ _ rb _ _ _ _ rfl (store5 HR3.out _ _ _ _ _) Tryd.underlying33 rfl (by kernel_rfl)) rfl (HOUT.out _ _ (keep5 HK3.out (Nat.le_of_eq HRN.out) _ _ _ _ _) (by rw [HEX.out] <;> rfl))
end Go.Proofs.YtpbbpannimlldaaDoor
