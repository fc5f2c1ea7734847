/- Packages edge, badge and order: their functions by arithmetic. Conditions: words are below 2 to the 64, slots from 0 to 4095. -/
import Derived.Test.YtoghcikfkkmfkaaGreatWord
namespace Go.Proofs.YtoghcikfkkmfkaaGreat
open Go.RowKit

def mkE (s g : Nat) : Nat := setF s 12 50 g
def slotE (e : Nat) : Nat := fld e 0 12
def genE (e : Nat) : Nat := fld e 12 50
def nodeE (e : Nat) : Nat := fld e 0 62
theorem slotE_lt (e : Nat) : slotE e < 4096 := fld_lt e 0 12
theorem mkE_lt (s g : Nat) (h : s < 4096) : mkE s g < 2 ^ 64 := setF_lt _ _ _ _ (by omega) (by omega)
theorem nodeE_lt (e : Nat) : nodeE e < 2 ^ 62 := fld_lt e 0 62

theorem edge_make (s g : Nat) (w : World) (h : s < 4096) : Calls Tryz.prog 90 #[.int .i64 s, .int .u64 g] w fun e w' => e = .returned (.int .u64 (mkE s g : Nat)) ∧ w = w' := by
  have HM := Lib.hid (word_with s g 12 50 w (by omega) (by omega) (by omega) (by omega) (by omega))
  have h2 : (s : Int) ≤ 4095 := by omega
  have d1 : decide ((s : Int) < 0) = false := by simp
  have d2 : decide ((4095 : Int) < (s : Int)) = false := by simp; omega
  clear h
  go_enter Tryz.func90, Tryz.ntmps90
  go_wp2_with fail
  refine HM.out.mono ?_
  rintro e w' ⟨rfl, rfl⟩
  go_wp2
  go_ret
  exact ⟨rfl, rfl⟩
theorem edge_make_out (s : Int) (g : Nat) (w : World) (h : s < 0 ∨ 4095 < s) : Calls Tryz.prog 90 #[.int .i64 s, .int .u64 g] w fun e w' => e = .returned (.int .u64 (mkE 0 g : Nat)) ∧ w = w' := by
  have HM := Lib.hid (word_with 0 g 12 50 w (by omega) (by omega) (by omega) (by omega) (by omega))
  by_cases h1 : s < 0
  · have d1 : decide (s < 0) = true := by simpa using h1
    clear h h1
    go_enter Tryz.func90, Tryz.ntmps90
    go_wp2_with fail
    refine HM.out.mono ?_
    rintro e w' ⟨rfl, rfl⟩
    go_wp2
    go_ret
    exact ⟨rfl, rfl⟩
  · have d1 : decide (s < 0) = false := by simpa using h1
    have d2 : decide (4095 < s) = true := by simp; omega
    clear h h1
    go_enter Tryz.func90, Tryz.ntmps90
    go_wp2_with fail
    refine HM.out.mono ?_
    rintro e w' ⟨rfl, rfl⟩
    go_wp2
    go_ret
    exact ⟨rfl, rfl⟩
theorem edge_slot (e : Nat) (w : World) (h : e < 2 ^ 64) : Calls Tryz.prog 61 #[.int .u64 e] w fun r w' => r = .returned (.int .i64 (slotE e : Nat)) ∧ w = w' := by
  have HM : Hid (Calls Tryz.prog 104 #[.int .u64 e, .int .i64 0, .int .i64 12] w fun r w' => r = .returned (.int .u64 (slotE e : Nat)) ∧ w = w') := Lib.hid (word_field e 0 12 w h (by omega) (by omega) (by omega) (by omega))
  have hb : ((slotE e : Nat) : Int) ≤ 4095 := by have := slotE_lt e; omega
  clear h
  go_enter Tryz.func61, Tryz.ntmps61
  go_wp2_with fail
  refine HM.out.mono ?_
  rintro r w' ⟨rfl, rfl⟩
  go_wp2
  go_ret
  exact ⟨rfl, rfl⟩
theorem edge_gen (e : Nat) (w : World) (h : e < 2 ^ 64) : Calls Tryz.prog 150 #[.int .u64 e] w fun r w' => r = .returned (.int .u64 (genE e : Nat)) ∧ w = w' := by
  have HM : Hid (Calls Tryz.prog 104 #[.int .u64 e, .int .i64 12, .int .i64 50] w fun r w' => r = .returned (.int .u64 (genE e : Nat)) ∧ w = w') := Lib.hid (word_field e 12 50 w h (by omega) (by omega) (by omega) (by omega))
  clear h
  go_enter Tryz.func150, Tryz.ntmps150
  go_wp2_with fail
  refine HM.out.mono ?_
  rintro r w' ⟨rfl, rfl⟩
  go_wp2
  go_ret
  exact ⟨rfl, rfl⟩
theorem edge_node (e : Nat) (w : World) (h : e < 2 ^ 64) : Calls Tryz.prog 77 #[.int .u64 e] w fun r w' => r = .returned (.int .u64 (nodeE e : Nat)) ∧ w = w' := by
  have HM : Hid (Calls Tryz.prog 104 #[.int .u64 e, .int .i64 0, .int .i64 62] w fun r w' => r = .returned (.int .u64 (nodeE e : Nat)) ∧ w = w') := Lib.hid (word_field e 0 62 w h (by omega) (by omega) (by omega) (by omega))
  clear h
  go_enter Tryz.func77, Tryz.ntmps77
  go_wp2_with fail
  refine HM.out.mono ?_
  rintro r w' ⟨rfl, rfl⟩
  go_wp2
  go_ret
  exact ⟨rfl, rfl⟩
theorem beq_nat (a b : Nat) : ((a : Int) == (b : Int)) = (a == b) := by
  rw [Bool.eq_iff_iff]
  simp only [beq_iff_eq]
  omega
theorem edge_to (e o : Nat) (w : World) (h : e < 2 ^ 64) (h' : o < 2 ^ 64) : Calls Tryz.prog 63 #[.int .u64 e, .int .u64 o] w fun r w' => r = .returned (.bool (nodeE e == nodeE o)) ∧ w = w' := by
  have HM := Lib.hid (edge_node e w h)
  have HN := Lib.hid (edge_node o w h')
  clear h h'
  go_enter Tryz.func63, Tryz.ntmps63
  go_wp2_with fail
  refine HM.out.mono ?_
  rintro r w' ⟨rfl, rfl⟩
  go_wp2_with fail
  refine HN.out.mono ?_
  rintro r w' ⟨rfl, rfl⟩
  go_wp2
  go_ret
  exact ⟨by rw [← beq_nat]; rfl, rfl⟩
theorem edge_plain (e : Nat) (w : World) (h : e < 2 ^ 64) : Calls Tryz.prog 35 #[.int .u64 e] w fun r w' => r = .returned (.bool (e == nodeE e)) ∧ w = w' := by
  have HM := Lib.hid (edge_node e w h)
  clear h
  go_enter Tryz.func35, Tryz.ntmps35
  go_wp2_with fail
  refine HM.out.mono ?_
  rintro r w' ⟨rfl, rfl⟩
  go_wp2
  go_ret
  exact ⟨by rw [← beq_nat]; rfl, rfl⟩

/- badge -/
def headN (s m : Nat) : Nat := setF s 12 52 m
def chgN (head s : Nat) : Nat := headN s (fld head 12 52 + 1)
def actN (ep : Nat) : Nat := setF (setF 0 1 63 ep) 0 1 1
def lagsN (x ep : Nat) : Bool := fld x 0 1 == 1 && !(fld x 1 63 == ep)
theorem headN_lt (s m : Nat) (h : s < 4096) : headN s m < 2 ^ 64 := setF_lt _ _ _ _ (by omega) (by omega)
theorem actN_lt (ep : Nat) : actN ep < 2 ^ 64 := setF_lt _ _ _ _ (setF_lt _ _ _ _ (by decide) (by decide)) (by decide)

/-- A slot's number, or 0 where there is none such. -/
def clipI (n : Int) : Nat := if 0 ≤ n ∧ n < 4096 then n.toNat else 0
theorem clipI_lt (n : Int) : clipI n < 4096 := by
  unfold clipI
  split <;> omega
theorem clipI_nat {s : Nat} (h : s < 4096) : clipI (s : Int) = s := by
  unfold clipI
  rw [if_pos (by omega)]
  omega
theorem badge_slotI (n : Int) (w : World) : Calls Tryz.prog 123 #[.int .i64 n] w fun e w' => e = .returned (.int .u64 (clipI n : Nat)) ∧ w = w' := by
  by_cases h0 : n < 0
  · have hz : clipI n = 0 := by
      unfold clipI
      rw [if_neg (by omega)]
    rw [hz]
    have d1 : decide (n < 0) = true := by simpa using h0
    clear hz
    go_enter Tryz.func123, Tryz.ntmps123
    go_wp2
    go_ret
    exact ⟨rfl, rfl⟩
  · by_cases h1 : 4095 < n
    · have hz : clipI n = 0 := by
        unfold clipI
        rw [if_neg (by omega)]
      rw [hz]
      have d1 : decide (n < 0) = false := by simpa using h0
      have d2 : decide (4095 < n) = true := by simpa using h1
      clear hz
      go_enter Tryz.func123, Tryz.ntmps123
      go_wp2
      go_ret
      exact ⟨rfl, rfl⟩
    · obtain ⟨s, rfl⟩ : ∃ s : Nat, n = (s : Int) := ⟨n.toNat, by omega⟩
      have hz : clipI (s : Int) = s := clipI_nat (by omega)
      rw [hz]
      have h2 : (s : Int) ≤ 4095 := by omega
      have d1 : decide ((s : Int) < 0) = false := by simp
      have d2 : decide ((4095 : Int) < (s : Int)) = false := by simp; omega
      clear hz h0 h1
      go_enter Tryz.func123, Tryz.ntmps123
      go_wp2
      go_ret
      exact ⟨by rw [← Int.emod_eq_of_lt (a := (s : Int)) (b := 2 ^ 64) (by omega) (by omega)]; rfl, rfl⟩
theorem badge_headI (n : Int) (m : Nat) (w : World) : Calls Tryz.prog 87 #[.int .i64 n, .int .u64 m] w fun e w' => e = .returned (.int .u64 (headN (clipI n) m : Nat)) ∧ w = w' := by
  have HM := Lib.hid (badge_slotI n w)
  have h := clipI_lt n
  generalize clipI n = s at *
  have HW : Hid (Calls Tryz.prog 122 #[.int .u64 s, .int .i64 12, .int .i64 52, .int .u64 m] w fun r w' => r = .returned (.int .u64 (headN s m : Nat)) ∧ w = w') := Lib.hid (word_with s m 12 52 w (by omega) (by omega) (by omega) (by omega) (by omega))
  clear h
  go_enter Tryz.func87, Tryz.ntmps87
  go_wp2_with fail
  refine HM.out.mono ?_
  rintro r w' ⟨rfl, rfl⟩
  go_wp2_with fail
  refine HW.out.mono ?_
  rintro r w' ⟨rfl, rfl⟩
  go_wp2
  go_ret
  exact ⟨rfl, rfl⟩
theorem badge_head (s m : Nat) (w : World) (h : s < 4096) : Calls Tryz.prog 87 #[.int .i64 s, .int .u64 m] w fun e w' => e = .returned (.int .u64 (headN s m : Nat)) ∧ w = w' := by
  have := badge_headI (s : Int) m w
  rw [clipI_nat h] at this
  exact this
theorem badge_changed (x : Nat) (n : Int) (w : World) (hx : x < 2 ^ 64) : Calls Tryz.prog 162 #[.int .u64 x, .int .i64 n] w fun e w' => e = .returned (.int .u64 (chgN x (clipI n) : Nat)) ∧ w = w' := by
  have HM : Hid (Calls Tryz.prog 104 #[.int .u64 x, .int .i64 12, .int .i64 52] w fun r w' => r = .returned (.int .u64 (fld x 12 52 : Nat)) ∧ w = w') := Lib.hid (word_field x 12 52 w hx (by omega) (by omega) (by omega) (by omega))
  have HW : Hid (Calls Tryz.prog 87 #[.int .i64 n, .int .u64 ((fld x 12 52 : Nat) + 1)] w fun r w' => r = .returned (.int .u64 (chgN x (clipI n) : Nat)) ∧ w = w') := Lib.hid (badge_headI n (fld x 12 52 + 1) w)
  have hb : ((fld x 12 52 : Nat) : Int) ≤ 4503599627370495 := by have := fld_lt x 12 52; omega
  generalize clipI n = sl at *
  clear hx
  go_enter Tryz.func162, Tryz.ntmps162
  go_wp2_with fail
  refine HM.out.mono ?_
  rintro r w' ⟨rfl, rfl⟩
  go_wp2_with fail
  refine HW.out.mono ?_
  rintro r w' ⟨rfl, rfl⟩
  go_wp2
  go_ret
  exact ⟨rfl, rfl⟩
theorem badge_slotOf (x : Nat) (w : World) (h : x < 2 ^ 64) : Calls Tryz.prog 146 #[.int .u64 x] w fun r w' => r = .returned (.int .i64 (slotE x : Nat)) ∧ w = w' := by
  have HM : Hid (Calls Tryz.prog 104 #[.int .u64 x, .int .i64 0, .int .i64 12] w fun r w' => r = .returned (.int .u64 (slotE x : Nat)) ∧ w = w') := Lib.hid (word_field x 0 12 w h (by omega) (by omega) (by omega) (by omega))
  have hb : ((slotE x : Nat) : Int) ≤ 4095 := by have := slotE_lt x; omega
  clear h
  go_enter Tryz.func146, Tryz.ntmps146
  go_wp2_with fail
  refine HM.out.mono ?_
  rintro r w' ⟨rfl, rfl⟩
  go_wp2
  go_ret
  exact ⟨rfl, rfl⟩
theorem badge_active (ep : Nat) (w : World) : Calls Tryz.prog 129 #[.int .u64 ep] w fun r w' => r = .returned (.int .u64 (actN ep : Nat)) ∧ w = w' := by
  have HM : Hid (Calls Tryz.prog 122 #[.int .u64 0, .int .i64 1, .int .i64 63, .int .u64 ep] w fun r w' => r = .returned (.int .u64 (setF 0 1 63 ep : Nat)) ∧ w = w') := Lib.hid (word_with 0 ep 1 63 w (by omega) (by omega) (by omega) (by omega) (by omega))
  have HW : Hid (Calls Tryz.prog 114 #[.int .u64 (setF 0 1 63 ep : Nat), .int .i64 0, .bool true] w fun r w' => r = .returned (.int .u64 (actN ep : Nat)) ∧ w = w') := Lib.hid (word_turned (setF 0 1 63 ep) 0 true w (setF_lt _ _ _ _ (by decide) (by decide)) (by omega) (by omega))
  go_enter Tryz.func129, Tryz.ntmps129
  go_wp2_with fail
  refine HM.out.mono ?_
  rintro r w' ⟨rfl, rfl⟩
  go_wp2_with fail
  refine HW.out.mono ?_
  rintro r w' ⟨rfl, rfl⟩
  go_wp2
  go_ret
  exact ⟨rfl, rfl⟩
def epN (x : Nat) : Nat := if fld x 0 1 = 1 then fld x 1 63 else 0
def epB (x : Nat) : Bool := fld x 0 1 == 1
theorem badge_epoch (x : Nat) (w : World) (h : x < 2 ^ 64) : Calls Tryz.prog 145 #[.int .u64 x] w fun r w' => r = .returned (.tuple #[.int .u64 (epN x : Nat), .bool (epB x)]) ∧ w = w' := by
  have HB := Lib.hid (word_bit x 0 w h (by omega) (by omega))
  have HM : Hid (Calls Tryz.prog 104 #[.int .u64 x, .int .i64 1, .int .i64 63] w fun r w' => r = .returned (.int .u64 (fld x 1 63 : Nat)) ∧ w = w') := Lib.hid (word_field x 1 63 w h (by omega) (by omega) (by omega) (by omega))
  clear h
  by_cases hx : fld x 0 1 = 1
  · have e1 : epB x = true := by simp [epB, hx]
    have e2 : epN x = fld x 1 63 := by simp [epN, hx]
    rw [e1, e2]
    have HB' : Hid (Calls Tryz.prog 152 #[.int .u64 x, .int .i64 0] w fun r w' => r = .returned (.bool true) ∧ w = w') := by rw [← e1]; exact HB
    clear e1 e2 hx HB
    go_enter Tryz.func145, Tryz.ntmps145
    go_wp2_with fail
    refine HB'.out.mono ?_
    rintro r w' ⟨rfl, rfl⟩
    go_wp2_with fail
    refine HM.out.mono ?_
    rintro r w' ⟨rfl, rfl⟩
    go_wp2
    go_ret2
    exact ⟨rfl, rfl⟩
  · have e1 : epB x = false := by simp [epB, hx]
    have e2 : epN x = 0 := by simp [epN, hx]
    rw [e1, e2]
    have HB' : Hid (Calls Tryz.prog 152 #[.int .u64 x, .int .i64 0] w fun r w' => r = .returned (.bool false) ∧ w = w') := by rw [← e1]; exact HB
    clear e1 e2 hx HB
    go_enter Tryz.func145, Tryz.ntmps145
    go_wp2_with fail
    refine HB'.out.mono ?_
    rintro r w' ⟨rfl, rfl⟩
    go_wp2
    go_ret2
    exact ⟨rfl, rfl⟩
theorem badge_lags (x ep : Nat) (w : World) (h : x < 2 ^ 64) : Calls Tryz.prog 130 #[.int .u64 x, .int .u64 ep] w fun r w' => r = .returned (.bool (lagsN x ep)) ∧ w = w' := by
  have HE := Lib.hid (badge_epoch x w h)
  clear h
  by_cases hx : fld x 0 1 = 1
  · have e1 : epB x = true := by simp [epB, hx]
    have e2 : epN x = fld x 1 63 := by simp [epN, hx]
    have e3 : lagsN x ep = (((fld x 1 63 : Nat) : Int) != (ep : Int)) := by
      simp only [lagsN, hx, bne, beq_nat]
      simp
    rw [e3]
    rw [e1, e2] at HE
    clear e1 e2 e3 hx
    go_enter Tryz.func130, Tryz.ntmps130
    go_wp2_with fail
    refine HE.out.mono ?_
    rintro r w' ⟨rfl, rfl⟩
    go_wp2
    go_ret
    exact ⟨rfl, rfl⟩
  · have e1 : epB x = false := by simp [epB, hx]
    have e3 : lagsN x ep = false := by simp [lagsN, hx]
    rw [e3]
    rw [e1] at HE
    clear e1 e3 hx
    go_enter Tryz.func130, Tryz.ntmps130
    go_wp2_with fail
    refine HE.out.mono ?_
    rintro r w' ⟨rfl, rfl⟩
    go_wp2
    go_ret
    exact ⟨rfl, rfl⟩
/-- What a node says of itself. -/
def infoN (leaf : Bool) (cl : Nat) : Nat := setF (setF 0 1 2 cl) 0 1 (bitN leaf)
theorem order_info (leaf : Bool) (cl : Nat) (w : World) (h : cl ≤ 3) : Calls Tryz.prog 88 #[.bool leaf, .int .i64 cl] w fun r w' => r = .returned (.int .u64 (infoN leaf cl : Nat)) ∧ w = w' := by
  have HM : Hid (Calls Tryz.prog 122 #[.int .u64 0, .int .i64 1, .int .i64 2, .int .u64 cl] w fun r w' => r = .returned (.int .u64 (setF 0 1 2 cl : Nat)) ∧ w = w') := Lib.hid (word_with 0 cl 1 2 w (by omega) (by omega) (by omega) (by omega) (by omega))
  have HW : Hid (Calls Tryz.prog 114 #[.int .u64 (setF 0 1 2 cl : Nat), .int .i64 0, .bool leaf] w fun r w' => r = .returned (.int .u64 (infoN leaf cl : Nat)) ∧ w = w') := Lib.hid (word_turned (setF 0 1 2 cl) 0 leaf w (setF_lt _ _ _ _ (by decide) (by decide)) (by omega) (by omega))
  have d1 : decide ((cl : Int) < 0) = false := by simp
  have d2 : decide ((3 : Int) < (cl : Int)) = false := by simp; omega
  have hc : (cl : Int) ≤ 3 := by omega
  clear h
  go_enter Tryz.func88, Tryz.ntmps88
  go_wp2_with fail
  refine HM.out.mono ?_
  rintro r w' ⟨rfl, rfl⟩
  go_wp2_with fail
  refine HW.out.mono ?_
  rintro r w' ⟨rfl, rfl⟩
  go_wp2
  go_ret
  exact ⟨rfl, rfl⟩
end Go.Proofs.YtoghcikfkkmfkaaGreat
