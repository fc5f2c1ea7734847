/- A call, written: text.Call by its contract. Condition: the library's table is as it was laid; numbers are int64. -/
import Derived.Test.YtpbbpannimlldaaDoorTx2
namespace Go.Proofs.YtpbbpannimlldaaDoor
open Go.RowKit

theorem strL_one (s : List UInt8) : strL [s] = [.string ⟨s.toArray⟩] := rfl
theorem strL_snoc (l : List (List UInt8)) (s : List UInt8) : strL l ++ [.string ⟨s.toArray⟩] = strL (l ++ [s]) := by simp [strL]
theorem own_first (w : World) (s : List UInt8) : (w.alloc (.cells #[.string ⟨s.toArray⟩] 9)).ownsRow w.heap.size 9 1 (.slice (some ⟨w.heap.size, 0, none⟩) 1 1) 1 (strL [s]) :=
  ⟨rfl, .inr ⟨w.heap.size, 1, #[.string ⟨s.toArray⟩], rfl, Nat.le_refl _, heap_alloc_new _ _, Nat.le_refl _, by unfold maxLen; omega, rfl, rfl⟩⟩
/-- What a writer holds: blocks that stay, words and numbers so far. -/
structure TxR (w wr : World) (fx : List (Nat × TypeId × Array Value)) (v : Value) (ls : List (List UInt8)) : Prop where
  hk : Keep [] w wr
  bx : ∀ p ∈ fx, Blk wr p.1 p.2.1 p.2.2 ∧ p.2.1 ≠ 9
  own : wr.ownsRow w.heap.size 9 1 v ls.length (strL ls)
  tab0 : TabOk w
section
variable {w wr w2 : World} {fx : List (Nat × TypeId × Array Value)} {v v2 : Value} {ls : List (List UInt8)} {s : List UInt8} {n : Nat}
theorem TxR.keep (h : TxR w wr fx v ls) (hk : Keep [] wr w2) : TxR w w2 fx v ls :=
  ⟨h.hk.trans hk (by simp), fun p hp => ⟨(h.bx p hp).1.keep hk (by simp), (h.bx p hp).2⟩, own_keep h.own hk (by simp), h.tab0⟩
theorem TxR.tab (h : TxR w wr fx v ls) : TabOk wr := h.tab0.keep h.hk
/-- One more word. -/
theorem TxR.add (h : TxR w wr fx v ls) {w1 : World} (hk1 : Keep [] wr w1) {m : Nat} {news : List Value} {ls2 : List (List UInt8)} (hown : w2.ownsRow w.heap.size 9 1 v2 m (strL ls ++ news)) (hn : strL ls ++ news = strL ls2) (hm : m = ls2.length) (hg : w1.grownBy w2 v.ownBlock) : TxR w w2 fx v2 ls2 := by
  have h1 := h.keep hk1
  have hk : Keep v.ownBlock.toList w1 w2 := Keep.of_grown hg
  have hin : ∀ b, b ∈ v.ownBlock.toList → v.ownBlock = some b := fun b hb => by simpa using hb
  refine ⟨h1.hk.trans hk (fun x hx => .inr (own_ge h1.own (hin x hx))), fun p hp => ⟨(h1.bx p hp).1.keep hk (fun hm => own_ne h1.own (h1.bx p hp).1 (fun e => (h1.bx p hp).2 e.symm) (hin _ hm)), (h1.bx p hp).2⟩, ?_, h.tab0⟩
  rw [← hm, ← hn]
  exact hown
theorem TxR.more (h : TxR w wr fx v ls) {p : Nat × TypeId × Array Value} (hb : Blk wr p.1 p.2.1 p.2.2) (hne : p.2.1 ≠ 9) : TxR w wr (p :: fx) v ls :=
  ⟨h.hk, fun q hq => by
    rcases List.mem_cons.1 hq with rfl | hq
    · exact ⟨hb, hne⟩
    · exact h.bx q hq, h.own, h.tab0⟩
theorem TxR.less (h : TxR w wr fx v ls) {fx2 : List (Nat × TypeId × Array Value)} (hs : ∀ p ∈ fx2, p ∈ fx) : TxR w wr fx2 v ls := ⟨h.hk, fun p hp => h.bx p (hs p hp), h.own, h.tab0⟩
end
theorem callZ_none {c : CallX} (h : wordB c.op = []) : callZ c = [] := by
  unfold callZ
  rw [if_pos h]
set_option maxHeartbeats 4000000 in
theorem text_call (c : CallX) (hf : c.Fit) (w : World) (ht : TabOk w) : Calls Tryd.prog 18 #[.agg c.cells] w (TextOut (callZ c) w) := by
  have HB := Lib.hid (Blk.new w 26 c.cells)
  have HK0 := Lib.hid ((Keep.refl [] w).alloc (.cells c.cells 26))
  have HT := Lib.hid ht
  have KW := Lib.hid (fun W => call_word c.op W)
  have hcs : c.cells = #[.int .i64 c.op, .int .i64 c.key, .int .i64 c.val, .int .i64 c.hi, .int .i64 c.lim] := rfl
  have HF := Lib.hid hf
  clear ht hf
  by_cases hw : wordB c.op = []
  · rw [callZ_none hw]
    rw [hw] at KW
    rw [hcs] at HB HK0 ⊢
    clear hw hcs
    go_enter Tryd.func18, Tryd.ntmps18
    go_upto_region 1 with fail
    generalize w.heap.size = cb at HB ⊢
    generalize w.alloc _ = w1 at HB HK0 ⊢
    have hc0 : w1.cell? ⟨cb, 0, none⟩ = some (.int .i64 c.op) := HB.out.cell 0
    go_wp2_with fail
    refine (KW.out _).mono ?_
    rintro r x ⟨rfl, hk⟩
    have HK := Lib.hid (HK0.out.trans hk (by simp))
    clear hk
    go_wp2_with fail
    go_ret
    exact ⟨rfl, HK.out⟩
  · have HWN := Lib.hid hw
    have hwb : (wordB c.op == []) = false := by rw [beq_eq_false_iff_ne]; exact hw
    have KF := Lib.hid (fun (W : World) (cb : Nat) (hb : Blk W cb 26 c.cells) => text_fields c cb W hb)
    rw [hcs] at HB HK0 KF ⊢
    clear hw hcs
    have HWL := Lib.hid (wordB_len c.op)
    have HZ : Hid (callZ c = Lib.join (wordB c.op :: c.nums.map Lib.itoa) [32]) := Lib.hid (by
      unfold callZ
      rw [if_neg HWN.out, join_nums])
    generalize callZ c = Z at *
    unfold TextOut at KW
    generalize wordB c.op = wd at *
    go_enter Tryd.func18, Tryd.ntmps18
    go_upto_region 1 with fail
    generalize w.heap.size = cb at HB ⊢
    generalize w.alloc _ = w1 at HB HK0 ⊢
    have hc0 : w1.cell? ⟨cb, 0, none⟩ = some (.int .i64 c.op) := HB.out.cell 0
    go_wp2_with fail
    refine (KW.out _).mono ?_
    rintro r x ⟨rfl, hk⟩
    have HK := Lib.hid (HK0.out.trans hk (by simp))
    have HB1 := Lib.hid (HB.out.keep hk (by simp))
    clear hk HB HK0 hc0 KW
    go_upto_region 5 with fail
    have HN0 : Hid (TxR w (x.alloc (.cells #[.string ⟨wd.toArray⟩] 9)) [(cb, 26, #[.int .i64 c.op, .int .i64 c.key, .int .i64 c.val, .int .i64 c.hi, .int .i64 c.lim])] (.slice (some ⟨x.heap.size, 0, none⟩) 1 1) [wd]) := Lib.hid ⟨HK.out.alloc _, fun p hp => by rw [List.mem_singleton.1 hp]; exact ⟨HB1.out.alloc _, by show 26 ≠ 9; decide⟩, own_more (own_first x wd) HK.out.size, HT.out⟩
    have HB2 := Lib.hid (HB1.out.alloc (.cells #[.string ⟨wd.toArray⟩] 9))
    generalize x.heap.size = ob at HN0 ⊢
    generalize x.alloc _ = x1 at HN0 HB2 ⊢
    clear HB1 HK
    go_wp2_with fail
    refine (KF.out _ _ HB2.out).mono ?_
    rintro r y ⟨hk, A, cap, rfl, hptr⟩
    have HN1 := Lib.hid (HN0.out.keep hk)
    have HPT := Lib.hid hptr
    clear hk hptr KF HB2 HN0
    obtain ⟨fx, HFX⟩ : ∃ fx, Hid (TxR w y fx (.slice (some ⟨ob, 0, none⟩) 1 1) [wd] ∧ (cb, 26, #[.int .i64 c.op, .int .i64 c.key, .int .i64 c.val, .int .i64 c.hi, .int .i64 c.lim]) ∈ fx ∧ (0 < (idxC c.op).length → ∃ g cs, A = some ⟨g, 0, none⟩ ∧ (g, 85, cs) ∈ fx ∧ ∀ k, k < (idxC c.op).length → cs[k]? = some (.pointer (some ⟨cb, (idxC c.op).getD k 0, none⟩)))) := by
      by_cases h0 : 0 < (idxC c.op).length
      · obtain ⟨g, cs, hA, hg, hc⟩ := HPT.out h0
        exact ⟨(g, 85, cs) :: _, Lib.hid ⟨HN1.out.more hg (by show 85 ≠ 9; decide), List.mem_cons_of_mem _ (List.mem_singleton.2 rfl), fun _ => ⟨g, cs, hA, List.mem_cons_self .., hc⟩⟩⟩
      · exact ⟨_, Lib.hid ⟨HN1.out, List.mem_singleton.2 rfl, fun h => absurd h h0⟩⟩
    have HIX : Hid ((idxC c.op).length ≤ 2 ∧ ∀ k, k < (idxC c.op).length → 1 ≤ (idxC c.op).getD k 0 ∧ (idxC c.op).getD k 0 ≤ 3) := Lib.hid (by
      unfold idxC
      split
      · exact ⟨by decide, by decide⟩
      · split
        · exact ⟨by decide, by decide⟩
        · split
          · exact ⟨by decide, by decide⟩
          · exact ⟨by decide, by decide⟩)
    have HNU : Hid (c.nums = (idxC c.op).map c.at_ ++ if c.op = 3 then [c.lim] else []) := Lib.hid rfl
    clear HPT HN1
    generalize idxC c.op = ix at *
    have hn0 : ((ix.length : Nat) : Int) ≤ 2 := by have := HIX.out.1; omega
    go_wp2_with fail
    go_loopg [4, 16] ix.length (fun g v4 v16 wr => ∃ k : Nat, k ≤ ix.length ∧ g = ix.length - k ∧ v16 = .int .i64 (k : Nat) ∧ TxR w wr fx v4 (wd :: ((ix.take k).map c.at_).map Lib.itoa))
    case atStart => exact ⟨0, Nat.zero_le _, rfl, rfl, HFX.out.1⟩
    case round =>
      obtain ⟨k, hk, rfl, rfl, hr⟩ := hrel
      have HR := Lib.hid hr
      obtain ⟨A4, c4, rfl⟩ := own_form hr.own
      have hk0 : (0 : Int) ≤ ((k : Nat) : Int) := by omega
      have hk2 : ((k : Nat) : Int) ≤ 2 := by omega
      have hbx := (hr.bx _ HFX.out.2.1).1
      clear hr
      by_cases hlt : k < ix.length
      · have hz : ((k : Nat) : Int) < ((ix.length : Nat) : Int) := by omega
        obtain ⟨g, cs, hA, hg, hcs⟩ := HFX.out.2.2 (by omega)
        subst hA
        have hp : wr.cell? ⟨g, k, none⟩ = some (.pointer (some ⟨cb, ix.getD k 0, none⟩)) := ((HR.out.bx _ hg).1.cell k).trans (hcs k hlt)
        have hi := HIX.out.2 k hlt
        have HTK : Hid ((ix.take (k + 1)).map c.at_ = (ix.take k).map c.at_ ++ [c.at_ (ix.getD k 0)]) := Lib.hid (by rw [take_snoc ix 0 hlt, List.map_append]; rfl)
        have hlen : (wd :: ((ix.take k).map c.at_).map Lib.itoa).length = k + 1 := by simp; omega
        generalize ix.getD k 0 = i at *
        have hv : wr.cell? ⟨cb, i, none⟩ = some (.int .i64 (c.at_ i)) := by
          rw [hbx.cell]
          have hc : i = 1 ∨ i = 2 ∨ i = 3 := by omega
          rcases hc with rfl | rfl | rfl <;> rfl
        have HI : Hid (I64 (c.at_ i)) := Lib.hid (by
          have hc : i = 1 ∨ i = 2 ∨ i = 3 := by omega
          rcases hc with rfl | rfl | rfl
          · exact HF.out.key
          · exact HF.out.val
          · exact HF.out.hi)
        have KN := Lib.hid (text_number (c.at_ i) HI.out wr HR.out.tab)
        have HLN := Lib.hid hlen
        have HLT := Lib.hid hlt
        clear hcs hg hi hlt hlen hbx
        generalize (ix.take k).map c.at_ = ns at *
        rw [HLN.out]
        generalize c.at_ i = n at *
        go_wp2_with fail
        refine KN.out.mono ?_
        rintro r z ⟨rfl, hk⟩
        have HRz := Lib.hid (HR.out.keep hk)
        clear hk KN HR hp hv
        have HOW : Hid (z.ownsRow w.heap.size 9 1 (.slice A4 (k + 1) c4) (k + 1) (strL (wd :: ns.map Lib.itoa))) := Lib.hid (by have := HRz.out.own; rw [HLN.out] at this; exact this)
        have HRY : Hid (TxR w z fx (.slice A4 (k + 1) c4) (wd :: ns.map Lib.itoa)) := Lib.hid (by have := HRz.out; rw [HLN.out] at this; exact this)
        have HL2 : Hid (strL (wd :: ns.map Lib.itoa) ++ [.string ⟨(Lib.itoa n).toArray⟩] = strL (wd :: (ns ++ [n]).map Lib.itoa) ∧ k + 1 + 1 = (wd :: (ns ++ [n]).map Lib.itoa).length) := Lib.hid ⟨by rw [strL_snoc, List.map_append]; rfl, by have := HLN.out; simp at this ⊢; omega⟩
        clear HRz
        go_wp2_with (at_builtin; obtain ⟨i0, hi, hz0, hz1, hz2⟩ := info_partsT infoS; refine wpList_append_own_at _ rfl (.tmp 20) (.tmp 25) 23 rfl w.heap.size 9 i0 (.string ⟨#[]⟩) 1 16 Tryd.underlying23 hi hz0 hz1 hz2 rfl (by decide) (.slice A4 (k + 1) c4) (k + 1) (strL (wd :: ns.map Lib.itoa)) rfl (own_keep (S := []) HOW.out ((Keep.refl [] _).alloc _) (by simp)) ⟨_, 0, none⟩ 1 1 [.string ⟨(Lib.itoa n).toArray⟩] rfl rfl (World.news_of_block (heap_alloc_new _ _)) (by simp [Value.oneCell']) (by have := hk2; unfold maxLen; omega) (by have := hk2; omega) (Nat.le_trans HRY.out.hk.size ((Keep.refl [] _).alloc _).size) ?_; clear hi hz0 hz1 hz2; intro v5 w5 hown hg _ _; have HA := Lib.hid (HRY.out.add ((Keep.refl [] _).alloc _) hown HL2.out.1 HL2.out.2 hg); clear hown hg)
        go_roundg (ix.length - (k + 1))
        case measure => have := HLT.out; omega
        case rel => exact ⟨k + 1, HLT.out, rfl, by go_num, by rw [HTK.out]; exact HA.out⟩
      · have hz : ¬ ((k : Nat) : Int) < ((ix.length : Nat) : Int) := by omega
        obtain rfl : k = ix.length := by omega
        have HRE : Hid (TxR w wr fx (.slice A4 (ix.length + 1) c4) (wd :: (ix.map c.at_).map Lib.itoa)) := Lib.hid (by have := HR.out; rw [List.take_length] at this; simpa using this)
        have hle : (wd :: ((ix.take ix.length).map c.at_).map Lib.itoa).length = ix.length + 1 := by simp
        rw [hle]
        have hc0 : wr.cell? ⟨cb, 0, none⟩ = some (.int .i64 c.op) := hbx.cell 0
        have hc4 : wr.cell? ⟨cb, 4, none⟩ = some (.int .i64 c.lim) := hbx.cell 4
        have HNL : Hid (∀ m ∈ ix.map c.at_, I64 m) := Lib.hid (fun m hm => by
          obtain ⟨i, hi, rfl⟩ := List.mem_map.1 hm
          obtain ⟨q, hq, he⟩ := List.getElem_of_mem hi
          have h2 := HIX.out.2 q hq
          rw [List.getD_eq_getElem?_getD, List.getElem?_eq_getElem hq] at h2
          simp only [Option.getD_some, he] at h2
          have hc : i = 1 ∨ i = 2 ∨ i = 3 := by omega
          rcases hc with rfl | rfl | rfl
          · exact HF.out.key
          · exact HF.out.val
          · exact HF.out.hi)
        have HML : Hid ((ix.map c.at_).length = ix.length) := Lib.hid (by simp)
        clear hlt hle hbx HR
        generalize ix.map c.at_ = ns at *
        by_cases h3 : c.op = 3
        · have hb3 : (c.op == 3) = true := by rw [h3]; rfl
          have HNU2 : Hid (c.nums = ns ++ [c.lim]) := Lib.hid (by rw [HNU.out, if_pos h3])
          have KI := Lib.hid (itoa_all c.lim HF.out.lim wr HRE.out.tab)
          have HI : Hid (I64 c.lim) := Lib.hid HF.out.lim
          clear h3 HNU
          generalize c.lim = n at *
          go_wp2_with fail
          refine KI.out.mono ?_
          rintro r z ⟨rfl, hk⟩
          have HRY := Lib.hid (HRE.out.keep hk)
          clear hk HRE KI hc0 hc4
          have HOW : Hid (z.ownsRow w.heap.size 9 1 (.slice A4 (ix.length + 1) c4) (ix.length + 1) (strL (wd :: ns.map Lib.itoa))) := Lib.hid (by have := HRY.out.own; rw [show (wd :: ns.map Lib.itoa).length = ix.length + 1 by simp [HML.out]] at this; exact this)
          have HL2 : Hid (strL (wd :: ns.map Lib.itoa) ++ [.string ⟨(Lib.itoa n).toArray⟩] = strL (wd :: (ns ++ [n]).map Lib.itoa) ∧ ix.length + 1 + 1 = (wd :: (ns ++ [n]).map Lib.itoa).length) := Lib.hid ⟨by rw [strL_snoc, List.map_append]; rfl, by simp [HML.out]⟩
          go_upto_region 12 with (at_builtin; obtain ⟨i0, hi, hz0, hz1, hz2⟩ := info_partsT infoS; refine wpList_append_own_at _ rfl (.tmp 31) (.tmp 35) 23 rfl w.heap.size 9 i0 (.string ⟨#[]⟩) 1 16 Tryd.underlying23 hi hz0 hz1 hz2 rfl (by decide) (.slice A4 (ix.length + 1) c4) (ix.length + 1) (strL (wd :: ns.map Lib.itoa)) rfl (own_keep (S := []) HOW.out ((Keep.refl [] _).alloc _) (by simp)) ⟨_, 0, none⟩ 1 1 [.string ⟨(Lib.itoa n).toArray⟩] rfl rfl (World.news_of_block (heap_alloc_new _ _)) (by simp [Value.oneCell']) (by have := HIX.out.1; unfold maxLen; omega) (by have := HIX.out.1; omega) (Nat.le_trans HRY.out.hk.size ((Keep.refl [] _).alloc _).size) ?_; clear hi hz0 hz1 hz2; intro v5 w5 hown hg _ _; have HA := Lib.hid (HRY.out.add ((Keep.refl [] _).alloc _) hown HL2.out.1 HL2.out.2 hg); clear hown hg)
          obtain ⟨A5, c5, rfl⟩ := own_form HA.out.own
          have KJ := Lib.hid (join_own w5 w.heap.size c5 A5 _ HA.out.own (by simp) (by simp [HML.out]; have := HIX.out.1; omega) (by
            rw [join_nums, List.length_append]
            have h1 := numsB_len (ns ++ [n]) (fun m hm => by
              rcases List.mem_append.1 hm with h | h
              · exact HNL.out m h
              · rw [List.mem_singleton.1 h]; exact HI.out)
            have h2 := HWL.out
            have h3 := HIX.out.1
            have h4 := HML.out
            rw [List.length_append, List.length_singleton] at h1
            omega))
          have HZ2 : Hid (Lib.join (wd :: (ns ++ [n]).map Lib.itoa) [32] = Z) := Lib.hid (by rw [HZ.out, HNU2.out])
          rw [HZ2.out] at KJ
          unfold TextOut at KJ
          clear HZ HZ2 HNU2 HL2
          generalize wd :: List.map Lib.itoa (ns ++ [n]) = ls at *
          go_wp2_with fail
          refine KJ.out.mono ?_
          rintro r q ⟨rfl, hk⟩
          have HKq := Lib.hid (HA.out.hk.trans hk (by simp))
          clear hk
          go_wp2_with fail
          go_ret
          exact ⟨rfl, HKq.out⟩
        · have hb3 : (c.op == 3) = false := by rw [beq_eq_false_iff_ne]; exact h3
          have HNU2 : Hid (c.nums = ns) := Lib.hid (by rw [HNU.out, if_neg h3, List.append_nil])
          have KJ := Lib.hid (join_own wr w.heap.size c4 A4 (wd :: ns.map Lib.itoa) (by have := HRE.out.own; rw [show (wd :: ns.map Lib.itoa).length = ix.length + 1 by simp [HML.out]] at this ⊢; exact this) (by simp) (by simp [HML.out]; have := HIX.out.1; omega) (by
            rw [join_nums, List.length_append]
            have h1 := numsB_len ns HNL.out
            have h2 := HWL.out
            have h3 := HIX.out.1
            have h4 := HML.out
            omega))
          have HZ2 : Hid (Lib.join (wd :: ns.map Lib.itoa) [32] = Z) := Lib.hid (by rw [HZ.out, HNU2.out])
          rw [HZ2.out, show (wd :: ns.map Lib.itoa).length = ix.length + 1 by simp [HML.out]] at KJ
          unfold TextOut at KJ
          clear HZ HZ2 HNU2 HNU h3
          go_wp2_with fail
          refine KJ.out.mono ?_
          rintro r q ⟨rfl, hk⟩
          have HKq := Lib.hid (HRE.out.hk.trans hk (by simp))
          clear hk
          go_wp2_with fail
          go_ret
          exact ⟨rfl, HKq.out⟩
end Go.Proofs.YtpbbpannimlldaaDoor
