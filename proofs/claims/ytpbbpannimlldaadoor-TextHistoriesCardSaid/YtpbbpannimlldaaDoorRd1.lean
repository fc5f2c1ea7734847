/- Numbers, read: text.parse, the reference's Parse by their contracts. Conditions: the library's tables and errors are as they were laid; at most 20000 bytes. -/
import Derived.Test.YtpbbpannimlldaaDoorRdP
import Derived.Test.YtpbbpannimlldaaDoorTx9
import Derived.Lib.SmallJoins
import Derived.Lib.ParseIntBTie
import Derived.Lib.AtoiErrMem
import Derived.Laws.Closers25b
namespace Go.Proofs.YtpbbpannimlldaaDoor
open Go.RowKit

theorem var_keep {w w' : World} {n : String} {cs : Array Value} (h : w.var? Tryd.prog n = some cs) (hk : Keep [] w w') : w'.var? Tryd.prog n = some cs := by
  unfold World.var? at *
  cases hg : Tryd.prog.globalNamed n with
  | none => simp [hg] at h
  | some g =>
    simp only [hg, Option.bind_some] at h ⊢
    have hlt : g < w.heap.size := by
      rcases Nat.lt_or_ge g w.heap.size with h' | h'
      · exact h'
      · rw [Array.getElem?_eq_none h'] at h; simp at h
    rw [hk.block g hlt (by simp)]
    exact h
/-- What the library holds in variables. -/
structure TabsOk (w : World) : Prop where
  tab : TabOk w
  syn : ∃ tp p, w.var? Tryd.prog "strconv.ErrSyntax" = some #[.iface tp p]
  ran : ∃ tp p, w.var? Tryd.prog "strconv.ErrRange" = some #[.iface tp p]
  max : ∃ m, w.cell? ⟨0, 0, none⟩ = some (.int .i64 m)
theorem cell_keep0 {w w' : World} {g o : Nat} {v : Value} (h : w.cell? ⟨g, o, none⟩ = some v) (hk : Keep [] w w') : w'.cell? ⟨g, o, none⟩ = some v := by
  have hlt := World.block_lt_of_cell? _ _ h
  exact (hk.cell hlt (by simp)).trans h
theorem TabsOk.keep {w w' : World} (h : TabsOk w) (hk : Keep [] w w') : TabsOk w' :=
  ⟨h.tab.keep hk, h.syn.imp fun _ => Exists.imp fun _ h => var_keep h hk, h.ran.imp fun _ => Exists.imp fun _ h => var_keep h hk, h.max.imp fun _ h => cell_keep0 h hk⟩
def panE (k : Int) : Ending := .panicked [{ v := .iface 27 (.int .i64 k), recovered := false }]
/-- A number, or the panic that there is none. -/
def ParseOut (s : List UInt8) (w : World) (r : Ending) (w' : World) : Prop := Keep [] w w' ∧ match parseZ s with | some n => r = .returned (.int .i64 n) | none => r = panE 4
set_option maxHeartbeats 1000000 in
theorem text_parse (s : List UInt8) (w : World) (hs : s.length ≤ 20000) (ht : TabsOk w) : Calls Tryd.prog 58 #[.string ⟨s.toArray⟩] w (ParseOut s w) := by
  have HT := Lib.hid ht
  have hsz : (⟨s.toArray⟩ : ByteArray).size = s.length := by show s.toArray.size = _; simp
  cases hp : Lib.atoiAll s
  case ok v =>
    have hi := atoi_i64 hp
    have KP := Lib.hid (Tryd.strconv_ParseInt_10_at64_ok ⟨s.toArray⟩ (by rw [hsz]; omega) v (by rw [Lib.parseIntB_64]; exact hp) w)
    have KN := Lib.hid (fun (W : World) (hk : Keep [] w W) => text_number v hi W (ht.tab.keep hk))
    unfold TextOut at KN
    have HZ : Hid (parseZ s = if Lib.itoa v = s then some v else none) := Lib.hid (by unfold parseZ; rw [hp])
    clear ht hi hp hsz
    generalize hl : Lib.itoa v = l at *
    have HLV := Lib.hid hl
    clear hl
    go_enter Tryd.func58, Tryd.ntmps58
    go_wp2_with fail
    refine KP.out.mono ?_
    rintro r x ⟨rfl, hx⟩
    have HK : Hid (Keep [] w x) := Lib.hid (by
      rcases hx with rfl | ⟨t, rfl⟩
      · exact Keep.refl _ _
      · exact Keep.of_below (Lib.bytesWorld_below _ _ _))
    clear hx KP
    go_wp2_with fail
    refine (KN.out _ HK.out).mono ?_
    rintro r y ⟨rfl, hk⟩
    have HK2 := Lib.hid (HK.out.trans hk (by simp))
    clear hk KN HK
    by_cases he : l = s
    · have hb : (l == s) = true := by rw [beq_iff_eq]; exact he
      have HE : Hid (parseZ s = some v) := Lib.hid (by rw [HZ.out, if_pos he])
      clear HZ he
      go_wp2_with fail
      go_ret
      exact ⟨HK2.out, by rw [HE.out] <;> rfl⟩
    · have hb : (l == s) = false := by rw [beq_eq_false_iff_ne]; exact he
      have HE : Hid (parseZ s = none) := Lib.hid (by rw [HZ.out, if_neg he])
      clear HZ he
      go_wp2_with fail
      refine ⟨rfl, HK2.out, ?_⟩
      rw [HE.out]
      rfl
  case range =>
    obtain ⟨tp, p, hv⟩ := ht.ran
    have KP := Lib.hid (Tryd.strconv_ParseInt_10_at64_range_var ⟨s.toArray⟩ (by rw [hsz]; omega) (by rw [Lib.parseIntB_64]; exact hp) tp p w hv)
    have HE : Hid (parseZ s = none) := Lib.hid (by unfold parseZ; rw [hp])
    clear ht hp hsz hv
    go_enter Tryd.func58, Tryd.ntmps58
    go_wp2_with fail
    refine KP.out.mono ?_
    rintro r x ⟨N, rfl, _, _, hx⟩
    have HK := Lib.hid (Keep.of_below (S := []) hx)
    clear hx KP
    generalize Lib.intSat _ _ = sat
    go_wp2_with fail
    refine ⟨rfl, HK.out, ?_⟩
    rw [HE.out]
    rfl
  · obtain ⟨tp, p, hv⟩ := ht.syn
    have KP := Lib.hid (Tryd.strconv_ParseInt_10_at64_syntax_var ⟨s.toArray⟩ (by rw [hsz]; omega) (by rw [Lib.parseIntB_64]; exact hp) tp p w hv)
    have HE : Hid (parseZ s = none) := Lib.hid (by unfold parseZ; rw [hp])
    clear ht hp hsz hv
    go_enter Tryd.func58, Tryd.ntmps58
    go_wp2_with fail
    refine KP.out.mono ?_
    rintro r x ⟨N, rfl, _, _, hx⟩
    have HK := Lib.hid (Keep.of_below (S := []) hx)
    clear hx KP
    go_wp2_with fail
    refine ⟨rfl, HK.out, ?_⟩
    rw [HE.out]
    rfl
/-- The reference's Parse. -/
def numOf (s : List UInt8) : Int := match parseZ s with | some n => n | none => 0
theorem wrap_i64 (x : Int) : I64 (IntKind.i64.wrap x) := wrap_within .i64 x
def RParseOut (s : List UInt8) (w : World) (r : Ending) (w' : World) : Prop := r = .returned (.tuple #[.int .i64 (numOf s), .bool (parseZ s).isSome]) ∧ w = w'
theorem pre_sign (s : List UInt8) (i : Nat) : (s.head? = some 45 → preZ s i ≤ 0) ∧ (s.head? ≠ some 45 → 0 ≤ preZ s i) := by
  unfold preZ
  constructor
  · intro h; rw [if_pos h]; omega
  · intro h; rw [if_neg h]; omega
theorem byte_at {s : List UInt8} {i : Nat} (h : i < (⟨s.toArray⟩ : ByteArray).size) : (⟨s.toArray⟩ : ByteArray)[i] = s.getD i 0 := by
  have hi : i < s.length := by
    have : (⟨s.toArray⟩ : ByteArray).size = s.length := by show s.toArray.size = _; simp
    omega
  rw [List.getD_eq_getElem?_getD, List.getElem?_eq_getElem hi]
  show s.toArray[i] = _
  simp
theorem wrap64_i64 (x : Int) : I64 (wrap64 x) := by
  unfold I64 wrap64
  omega
theorem wrap64_id {x : Int} (h : -9223372036854775808 ≤ x ∧ x ≤ 9223372036854775807) : wrap64 x = x := by
  unfold wrap64
  omega
theorem fold_step {s : List UInt8} {i : Nat} {n : Int} (hi : i < s.length) (hd : 48 ≤ (s.getD i 0).toNat ∧ (s.getD i 0).toNat ≤ 57) (hm : ∀ m, I64 m → Lib.itoa m = s → n = preZ s i) :
    (s.head? = some 45 → ∀ m, I64 m → Lib.itoa m = s → wrap64 (wrap64 (10 * n) - (((s.getD i 0).toNat : Int) - 48)) = preZ s (i + 1)) ∧
    (s.head? ≠ some 45 → ∀ m, I64 m → Lib.itoa m = s → wrap64 (wrap64 (10 * n) + (((s.getD i 0).toNat : Int) - 48)) = preZ s (i + 1)) := by
  have h0 : s.head? ≠ some 45 ∨ 1 ≤ i := by
    by_cases hh : s.head? = some 45
    · right
      cases i with
      | zero =>
        cases s with
        | nil => cases hh
        | cons c t =>
          injection hh with hh
          subst hh
          exact absurd hd.1 (by show ¬ 48 ≤ (45 : UInt8).toNat; decide)
      | succ i => omega
    · exact .inl hh
  have hst := pre_step hi h0 hd.1
  constructor
  · intro hh m h1 h2
    obtain ⟨_, _, _, hb⟩ := itoa_facts h1
    rw [h2] at hb
    have b1 := hb (i + 1)
    have b2 := hb i
    have sg := (pre_sign s i).1 hh
    rw [if_pos hh] at hst
    rw [hm m h1 h2]
    rw [wrap64_id (x := 10 * preZ s i) (by omega), wrap64_id (by omega)]
    omega
  · intro hh m h1 h2
    obtain ⟨_, _, _, hb⟩ := itoa_facts h1
    rw [h2] at hb
    have b1 := hb (i + 1)
    have b2 := hb i
    have sg := (pre_sign s i).2 hh
    rw [if_neg hh] at hst
    rw [hm m h1 h2]
    rw [wrap64_id (x := 10 * preZ s i) (by omega), wrap64_id (by omega)]
    omega
theorem bad_byte {s : List UInt8} {i : Nat} (hi : i < s.length) (hc : ¬ ((s.getD i 0 = 45 ∧ i = 0) ∨ (48 ≤ (s.getD i 0).toNat ∧ (s.getD i 0).toNat ≤ 57))) : parseZ s = none := parseZ_none (fun m h1 h2 => by
  obtain ⟨_, _, hd, _⟩ := itoa_facts h1
  rw [h2] at hd
  exact hc (hd i hi))
theorem head_at {s : List UInt8} (h : 0 < s.length) : s.head? = some (s.getD 0 0) := by
  cases s with
  | nil => simp at h
  | cons c t => rfl
theorem u8_45 {c : UInt8} : c = 45 ↔ c.toNat = 45 := ⟨fun h => by rw [h]; decide, fun h => by
  have : c.toNat = (45 : UInt8).toNat := by rw [h]; decide
  exact UInt8.toNat_inj.1 this⟩
set_option maxHeartbeats 2000000 in
theorem ref35_parse (s : List UInt8) (w : World) (hs : s.length ≤ 20000) : Calls Tryd.prog 26 #[.string ⟨s.toArray⟩] w (RParseOut s w) := by
  have HL := Lib.hid hs
  have hl0 : ((s.length : Nat) : Int) ≤ 20000 := by omega
  clear hs
  go_enter Tryd.func26, Tryd.ntmps26
  go_wp2_with fail
  go_loopg [4, 5] s.length (fun g v4 v5 wr => ∃ (i : Nat) (n : Int), i ≤ s.length ∧ i ≤ 20 ∧ g = s.length - i ∧ v5 = .int .i64 (i : Nat) ∧ v4 = .int .i64 n ∧ wr = w ∧ I64 n ∧ ∀ m, I64 m → Lib.itoa m = s → n = preZ s i)
  case atStart => exact ⟨0, 0, Nat.zero_le _, Nat.zero_le _, rfl, rfl, rfl, rfl, i64_small (by decide), fun m _ _ => (pre_zero s).symm⟩
  case round =>
    obtain ⟨i, n, hi, hi2, rfl, rfl, rfl, rfl, hn, hm⟩ := hrel
    have HN := Lib.hid hn
    have HM := Lib.hid hm
    have hi0 : (0 : Int) ≤ ((i : Nat) : Int) := by omega
    have hi20 : ((i : Nat) : Int) ≤ 20 := by omega
    clear hn hm
    by_cases hlt : i < s.length ∧ i < 20
    · have hz1 : ((i : Nat) : Int) < ((s.length : Nat) : Int) := by omega
      have hz2 : ((i : Nat) : Int) < 20 := by omega
      have HLT := Lib.hid hlt
      clear hlt
      have hsz : i < (⟨s.toArray⟩ : ByteArray).size := by show i < s.toArray.size; simp; exact HLT.out.1
      have hs0 : 0 < (⟨s.toArray⟩ : ByteArray).size := by omega
      have hci := byte_at hsz
      have hc0 := byte_at hs0
      have hh := head_at (s := s) (by have := HLT.out.1; omega)
      by_cases hA : s.getD i 0 = 45 ∧ i = 0
      · obtain ⟨h45, rfl⟩ := hA
        have e1 : ((((⟨s.toArray⟩ : ByteArray)[0]).toNat : Int) == 45) = true := by rw [hci, h45]; rfl
        have e2 : (((0 : Nat) : Int) == 0) = true := rfl
        have HP : Hid (preZ s 0 = 0 ∧ preZ s 1 = 0) := Lib.hid ⟨pre_zero s, by
          rw [h45] at hh
          cases s with
          | nil => cases hh
          | cons c t =>
            injection hh with hh
            subst hh
            exact pre_skip⟩
        clear hci hc0 hh h45
        go_wp2_with fail
        go_roundg (s.length - (0 + 1))
        case measure => have := HLT.out; omega
        case rel => exact ⟨1, n, HLT.out.1, by omega, rfl, rfl, rfl, rfl, HN.out, fun m h1 h2 => by rw [HM.out m h1 h2, HP.out.1, HP.out.2]⟩
      · by_cases hD : 48 ≤ (s.getD i 0).toNat ∧ (s.getD i 0).toNat ≤ 57
        · have e1 : ((((⟨s.toArray⟩ : ByteArray)[i]).toNat : Int) == 45) = false := by rw [hci, beq_eq_false_iff_ne]; omega
          have e2 : ¬ ((((⟨s.toArray⟩ : ByteArray)[i]).toNat : Int) < 48) := by rw [hci]; omega
          have e3 : ¬ (57 < (((⟨s.toArray⟩ : ByteArray)[i]).toNat : Int)) := by rw [hci]; omega
          have HFS := Lib.hid (fold_step HLT.out.1 hD HM.out)
          have HCI := Lib.hid hci
          by_cases h45 : s.getD 0 0 = 45
          · have e4 : ((((⟨s.toArray⟩ : ByteArray)[0]).toNat : Int) == 45) = true := by rw [hc0, h45]; rfl
            rw [h45] at hh
            have HF := Lib.hid (HFS.out.1 hh)
            clear hci hc0 hh h45 hD hA HFS
            go_wp2_with fail
            go_roundg (s.length - (i + 1))
            case measure => have := HLT.out; omega
            case rel => exact ⟨i + 1, _, HLT.out.1, HLT.out.2, rfl, by go_num, rfl, rfl, wrap64_i64 _, fun m h1 h2 => by rw [HCI.out]; exact HF.out m h1 h2⟩
          · have e4 : ((((⟨s.toArray⟩ : ByteArray)[0]).toNat : Int) == 45) = false := by rw [hc0, beq_eq_false_iff_ne]; exact fun h => h45 (u8_45.2 (by omega))
            have HF := Lib.hid (HFS.out.2 (by rw [hh]; exact fun h => h45 (Option.some.inj h)))
            clear hci hc0 hh h45 hD hA HFS
            go_wp2_with fail
            go_roundg (s.length - (i + 1))
            case measure => have := HLT.out; omega
            case rel => exact ⟨i + 1, _, HLT.out.1, HLT.out.2, rfl, by go_num, rfl, rfl, wrap64_i64 _, fun m h1 h2 => by rw [HCI.out]; exact HF.out m h1 h2⟩
        · have HB := Lib.hid (bad_byte HLT.out.1 (fun h => h.elim hA hD))
          have HN0 : Hid (numOf s = 0) := Lib.hid (by unfold numOf; rw [HB.out])
          have fin : RParseOut s wr (.returned (.tuple #[.int .i64 0, .bool false])) wr := ⟨by rw [HN0.out, HB.out]; rfl, rfl⟩
          have HFIN := Lib.hid fin
          clear fin HB HN0
          by_cases h45 : s.getD i 0 = 45
          · have e1 : ((((⟨s.toArray⟩ : ByteArray)[i]).toNat : Int) == 45) = true := by rw [hci, h45]; rfl
            have e2 : (((i : Nat) : Int) == 0) = false := by rw [beq_eq_false_iff_ne]; intro h; exact hA ⟨h45, by omega⟩
            have e3 : (((⟨s.toArray⟩ : ByteArray)[i]).toNat : Int) < 48 := by rw [hci, h45]; decide
            clear hci hc0 hh h45 hD hA
            go_wp2_with fail
            go_ret2
            exact HFIN.out
          · have e1 : ((((⟨s.toArray⟩ : ByteArray)[i]).toNat : Int) == 45) = false := by rw [hci, beq_eq_false_iff_ne]; exact fun h => h45 (u8_45.2 (by omega))
            by_cases h48 : (s.getD i 0).toNat < 48
            · have e3 : (((⟨s.toArray⟩ : ByteArray)[i]).toNat : Int) < 48 := by rw [hci]; omega
              clear hci hc0 hh h45 hD hA
              go_wp2_with fail
              go_ret2
              exact HFIN.out
            · have e3 : ¬ (((⟨s.toArray⟩ : ByteArray)[i]).toNat : Int) < 48 := by rw [hci]; omega
              have e4 : 57 < (((⟨s.toArray⟩ : ByteArray)[i]).toNat : Int) := by rw [hci]; omega
              clear hci hc0 hh h45 hD hA
              go_wp2_with fail
              go_ret2
              exact HFIN.out
    · have HEN : Hid (s.length ≤ i ∨ 20 ≤ i) := Lib.hid (by omega)
      have KN := Lib.hid (ref35_number n HN.out.1 HN.out.2 wr)
      unfold NumOut at KN
      have HQ : Hid (Lib.itoa n ≠ s → parseZ s = none) := Lib.hid (fun hne => parseZ_none (fun m h1 h2 => by
        have hf := itoa_facts h1
        rw [h2] at hf
        have hlen : i = s.length := by have := HEN.out; have := hf.1; omega
        have := HM.out m h1 h2
        rw [hlen, hf.2.1] at this
        exact hne (by rw [this, h2])))
      have HY : Hid (Lib.itoa n = s → parseZ s = some n) := Lib.hid (fun he => parseZ_some.2 ⟨HN.out, he⟩)
      have KFIN : (Lib.itoa n = s ∧ RParseOut s wr (.returned (.tuple #[.int .i64 n, .bool true])) wr) ∨ (Lib.itoa n ≠ s ∧ RParseOut s wr (.returned (.tuple #[.int .i64 0, .bool false])) wr) := by
        by_cases he : Lib.itoa n = s
        · exact .inl ⟨he, by unfold RParseOut numOf; rw [HY.out he]; exact ⟨rfl, rfl⟩⟩
        · exact .inr ⟨he, by unfold RParseOut numOf; rw [HQ.out he]; exact ⟨rfl, rfl⟩⟩
      have HKF := Lib.hid KFIN
      clear KFIN HQ HY HM
      generalize hln : Lib.itoa n = ln at *
      clear hln
      have go : Hid (∃ b : Bool, (ln == s) = b ∧ RParseOut s wr (.returned (.tuple #[.int .i64 (if b then n else 0), .bool b])) wr) := Lib.hid (by
        rcases HKF.out with ⟨h1, h2⟩ | ⟨h1, h2⟩
        · exact ⟨true, by rw [beq_iff_eq]; exact h1, h2⟩
        · exact ⟨false, by rw [beq_eq_false_iff_ne]; exact h1, h2⟩)
      obtain ⟨b, hb, hfin⟩ := go.out
      have HFIN := Lib.hid hfin
      clear hfin go HKF
      by_cases hil : ((i : Nat) : Int) < ((s.length : Nat) : Int)
      · have hz2 : ¬ ((i : Nat) : Int) < 20 := by have := HEN.out; omega
        cases b with
        | true =>
          go_wp2_with fail
          refine KN.out.mono ?_
          rintro r z ⟨rfl, rfl⟩
          go_wp2_with fail
          go_ret2
          exact HFIN.out
        | false =>
          go_wp2_with fail
          refine KN.out.mono ?_
          rintro r z ⟨rfl, rfl⟩
          go_wp2_with fail
          go_ret2
          exact HFIN.out
      · cases b with
        | true =>
          go_wp2_with fail
          refine KN.out.mono ?_
          rintro r z ⟨rfl, rfl⟩
          go_wp2_with fail
          go_ret2
          exact HFIN.out
        | false =>
          go_wp2_with fail
          refine KN.out.mono ?_
          rintro r z ⟨rfl, rfl⟩
          go_wp2_with fail
          go_ret2
          exact HFIN.out
end Go.Proofs.YtpbbpannimlldaaDoor
