/- The reference's Cut by its contract. Condition: at most 20000 bytes. -/
import Derived.Test.YtpbbpannimlldaaDoorRd8
namespace Go.Proofs.YtpbbpannimlldaaDoor
open Go.RowKit

def CutOut (c : UInt8) (s : List UInt8) (w : World) (r : Ending) (w' : World) : Prop := Keep [] w w' ∧ ∃ A cap, r = .returned (.slice A (cutZ c s).length cap) ∧ w'.ownsRow w.heap.size 9 1 (.slice A (cutZ c s).length cap) (cutZ c s).length (strL (cutZ c s))
theorem one_byte {s : List UInt8} {i : Nat} (h : i < s.length) : (⟨s.toArray⟩ : ByteArray).extract i (i + 1) = ⟨[s.getD i 0].toArray⟩ := by
  apply ByteArray.ext
  rw [ByteArray.data_extract]
  show s.toArray.extract i (i + 1) = _
  rw [List.extract_toArray]
  congr 1
  rw [List.getD_eq_getElem?_getD, List.getElem?_eq_getElem h]
  rw [List.extract_eq_take_drop, show i + 1 - i = 1 by omega, List.drop_eq_getElem_cons h]
  rfl
set_option maxHeartbeats 2000000 in
theorem ref35_cut (c : UInt8) (s : List UInt8) (w : World) (hs : s.length ≤ 20000) : Calls Tryd.prog 7 #[.string ⟨s.toArray⟩, .int .u8 (c.toNat : Nat)] w (CutOut c s w) := by
  have HL := Lib.hid hs
  have hl0 : ((s.length : Nat) : Int) ≤ 20000 := by omega
  have HO0 := Lib.hid (own_first w [])
  have HK0 := Lib.hid ((Keep.refl [] w).alloc (.cells #[.string ⟨#[]⟩] 9))
  clear hs
  go_enter Tryd.func7, Tryd.ntmps7
  go_upto_region 2 with fail
  have HO1 : Hid ((w.alloc (.cells #[.string ⟨#[]⟩] 9)).ownsRow w.heap.size 9 1 (.slice (some ⟨w.heap.size, 0, none⟩) 1 1) (cutZ c (s.take 0)).length (strL (cutZ c (s.take 0)))) := Lib.hid HO0.out
  clear HO0
  go_wp2_with fail
  go_loopg [5, 6] s.length (fun g v5 v6 wr => ∃ i : Nat, i ≤ s.length ∧ g = s.length - i ∧ v6 = .int .i64 (i : Nat) ∧ Keep [] w wr ∧ wr.ownsRow w.heap.size 9 1 v5 (cutZ c (s.take i)).length (strL (cutZ c (s.take i))))
  case atStart => exact ⟨0, Nat.zero_le _, rfl, rfl, HK0.out, HO1.out⟩
  case round =>
    obtain ⟨i, hi, rfl, rfl, hk, hown⟩ := hrel
    have HK := Lib.hid hk
    have HOW := Lib.hid hown
    have hi0 : (0 : Int) ≤ ((i : Nat) : Int) := by omega
    have hi5 : ((i : Nat) : Int) ≤ 20000 := by omega
    have HCL : Hid ((cutZ c (s.take i)).length ≤ 20001) := Lib.hid (by have h1 := (cutZ_len c (s.take i)).1; have h2 := HL.out; rw [List.length_take] at h1; omega)
    clear hk hown HO1 HK0
    by_cases hlt : i < s.length
    · have hz : ((i : Nat) : Int) < ((s.length : Nat) : Int) := by omega
      have HLT := Lib.hid hlt
      have HTK : Hid (s.take (i + 1) = s.take i ++ [s.getD i 0]) := Lib.hid (take_at hlt)
      obtain ⟨a, x, h1, h2⟩ := cutZ_snoc c (s.getD i 0) (s.take i)
      rw [← HTK.out] at h2
      have hsz : i < (⟨s.toArray⟩ : ByteArray).size := by show i < s.toArray.size; simp; exact hlt
      have hci := byte_at hsz
      rw [h1] at HOW HCL
      clear hlt h1 HTK
      by_cases hc : s.getD i 0 = c
      · rw [if_pos hc] at h2
        have HC2 := Lib.hid h2
        have e1 : ((((⟨s.toArray⟩ : ByteArray)[i]).toNat : Int) == (c.toNat : Nat)) = true := by rw [hci, hc, beq_iff_eq]
        clear h2 hci hc
        obtain ⟨A5, c5, rfl⟩ := own_form HOW.out
        have HL2 : Hid (strL (a ++ [x]) ++ [.string ⟨#[]⟩] = strL (cutZ c (s.take (i + 1))) ∧ (a ++ [x]).length + 1 = (cutZ c (s.take (i + 1))).length) := Lib.hid ⟨by rw [HC2.out]; simp [strL], by rw [HC2.out]; simp⟩
        have HOX := HOW.out
        rw [show (a ++ [x]).length = a.length + 1 by simp] at HOX HL2 HCL ⊢
        have HOW2 := Lib.hid HOX
        clear HOX
        generalize hcz : cutZ c (s.take (i + 1)) = cz at HL2
        have HCZ := Lib.hid hcz
        clear hcz HC2
        generalize strL (a ++ [x]) = sl at *
        generalize a.length + 1 = m at *
        go_wp2_with (at_builtin; obtain ⟨i0, hi, hz0, hz1, hz2⟩ := info_partsT infoS; refine wpList_append_own_at _ rfl (.tmp 19) (.tmp 20) 23 rfl w.heap.size 9 i0 (.string ⟨#[]⟩) 1 16 Tryd.underlying23 hi hz0 hz1 hz2 rfl (by decide) (.slice A5 m c5) m sl rfl (own_keep (S := []) HOW2.out ((Keep.refl [] _).alloc _) (by simp)) ⟨_, 0, none⟩ 1 1 [.string ⟨#[]⟩] rfl rfl (World.news_of_block (heap_alloc_new _ _)) (by simp [Value.oneCell']) (by have := HCL.out; unfold maxLen; omega) (by have := HCL.out; omega) (Nat.le_trans HK.out.size ((Keep.refl [] _).alloc _).size) ?_; clear hi hz0 hz1 hz2; intro v5 w5 hown hg _ _; have HO5 := Lib.hid hown; have HK5 := Lib.hid ((HK.out.alloc (.cells #[.string ⟨#[]⟩] 9)).trans (Keep.of_grown hg) (fun b hb => .inr (own_ge HOW2.out (by simpa using hb)))); clear hown hg)
        go_roundg (s.length - (i + 1))
        case measure => have := HLT.out; omega
        case rel => exact ⟨i + 1, HLT.out, rfl, by go_num, HK5.out, by have h := HO5.out; rw [HL2.out.1, HL2.out.2] at h; rw [HCZ.out]; exact h⟩
      · rw [if_neg hc] at h2
        have HC2 := Lib.hid h2
        have e1 : ((((⟨s.toArray⟩ : ByteArray)[i]).toNat : Int) == (c.toNat : Nat)) = false := by rw [hci, beq_eq_false_iff_ne]; exact fun h => hc (UInt8.toNat_inj.1 (by omega))
        have HCI := Lib.hid hci
        clear h2 hci hc
        obtain ⟨g, c5, rfl, hgl, hgb⟩ := own_some (n := (a ++ [x]).length) HOW.out (by simp)
        have hcell : wr.cell? ⟨g, a.length, none⟩ = some (.string ⟨x.toArray⟩) := by rw [own_cell HOW.out (by simp)]; simp [strL]
        have hfz := own_thaw HOW.out a.length
        rw [show (a ++ [x]).length = a.length + 1 by simp] at HCL ⊢
        have hn1 : ¬ 9223372036854775807 < x.length + 1 := by
          have h1 := (cutZ_len c (s.take (i + 1))).2 (x ++ [s.getD i 0]) (by rw [HC2.out]; simp)
          have h2 := HL.out
          rw [List.length_take] at h1
          simp at h1
          omega
        have hz3 : (0 : Int) ≤ ((a.length : Nat) : Int) := by omega
        have hz4 : ((a.length : Nat) : Int) ≤ 20001 := by have := HCL.out; omega
        go_upto_region 7 with fail
        go_region
        have HK2 := Lib.hid ((HK.out.set_ (p := ⟨g, a.length, none⟩) (.string (⟨x.toArray⟩ ++ (⟨s.toArray⟩ : ByteArray).extract i (i + 1))) (.inr hgb)).drew)
        have HO2 := Lib.hid (own_keep (S := []) (own_put (k := a.length) HOW.out (.string (⟨x.toArray⟩ ++ (⟨s.toArray⟩ : ByteArray).extract i (i + 1)))) (Keep.refl _ _).drew (by simp))
        clear hcell hfz hgl hgb
        generalize (wr.setCell _ _).drew = w5 at HK2 HO2 ⊢
        go_wp2_with fail
        go_roundg (s.length - (i + 1))
        case measure => have := HLT.out; omega
        case rel => exact ⟨i + 1, HLT.out, rfl, by go_num, HK2.out, by
          have h := HO2.out
          rw [one_byte HLT.out, catL] at h
          rw [HC2.out]
          rw [show (a ++ [x]).length = (a ++ [x ++ [s.getD i 0]]).length by simp] at h
          rw [show (strL (a ++ [x])).set a.length (.string ⟨(x ++ [s.getD i 0]).toArray⟩) = strL (a ++ [x ++ [s.getD i 0]]) by simp [strL, List.set_append]] at h
          simpa using h⟩
    · have hz : ¬ ((i : Nat) : Int) < ((s.length : Nat) : Int) := by omega
      obtain rfl : i = s.length := by omega
      rw [List.take_length] at HOW HCL
      obtain ⟨A5, c5, rfl⟩ := own_form HOW.out
      clear hlt
      go_wp2_with fail
      go_ret
      exact ⟨HK.out, A5, c5, rfl, HOW.out⟩
end Go.Proofs.YtpbbpannimlldaaDoor
