/- An answer, read: words.answer by its contract. Conditions: the library's tables and errors are as they were laid; at most 20000 bytes. -/
import Derived.Test.YtpbbpannimlldaaDoorRd6
import Derived.Test.YtpbbpannimlldaaDoorRdA
import Derived.Test.YtpbbpannimlldaaDoorTill
namespace Go.Proofs.YtpbbpannimlldaaDoor
open Go.RowKit

def zeroA : Array Value := #[.int .i64 0, .int .i64 0, .int .i64 0, .int .i64 0, .slice none 0 0]
/-- What words.answer holds. -/
structure AaR (w0 w wr : World) (wb rb ab : Nat) (k key val n : Int) (v : Value) (ws : List (List UInt8)) : Prop where
  wd : WdR w0 wr wb ws
  hk : Keep [wb] w wr
  b : Blk wr ab 33 #[.int .i64 k, .int .i64 key, .int .i64 val, .int .i64 n, v]
  r : Blk wr rb 33 zeroA
  ne : rb ≠ ab
  nb : w.heap.size ≤ ab
  nr : w.heap.size ≤ rb
  n0 : w0.heap.size ≤ w.heap.size
  lw : wb < w.heap.size
section
variable {w0 w wr w2 : World} {wb rb ab : Nat} {k key val n : Int} {v : Value} {ws t : List (List UInt8)}
theorem AaR.next (h : AaR w0 w wr wb rb ab k key val n v ws) (hk : Keep [wb] wr w2) (hw : WdR w0 w2 wb t) : AaR w0 w w2 wb rb ab k key val n v t := by
  have hne : ab ≠ wb := fun e => by have := h.lw; have := h.nb; omega
  have hnr : rb ≠ wb := fun e => by have := h.lw; have := h.nr; omega
  exact ⟨hw, h.hk.trans hk (by simp), h.b.keep hk (by simpa using hne), h.r.keep hk (by simpa using hnr), h.ne, h.nb, h.nr, h.n0, h.lw⟩
theorem AaR.keep (h : AaR w0 w wr wb rb ab k key val n v ws) (hk : Keep [] wr w2) : AaR w0 w w2 wb rb ab k key val n v ws := h.next (hk.mono (by simp)) (h.wd.keep hk)
theorem AaR.put (h : AaR w0 w wr wb rb ab k key val n v ws) {i : Nat} {u : Value} {key2 val2 n2 : Int} {v2 : Value} (hc : (#[.int .i64 k, .int .i64 key, .int .i64 val, .int .i64 n, v] : Array Value).setIfInBounds i u = #[.int .i64 k, .int .i64 key2, .int .i64 val2, .int .i64 n2, v2]) : AaR w0 w (wr.setCell ⟨ab, i, none⟩ u) wb rb ab k key2 val2 n2 v2 ws := by
  refine ⟨h.wd.far h.b (by decide) (by decide) (Nat.le_trans h.n0 h.nb) _, h.hk.trans ((Keep.refl [ab] wr).set_ (p := ⟨ab, i, none⟩) _ (.inl (by simp))) (fun x hx => .inr (by rw [List.mem_singleton.1 hx]; exact h.nb)), ?_, h.r.far (p := ⟨ab, i, none⟩) h.ne _, h.ne, h.nb, h.nr, h.n0, h.lw⟩
  rw [← hc]
  exact h.b.set_ i _
end
theorem WdR.grow {w0 w w2 : World} {wb base : Nat} {ws : List (List UInt8)} {v : Value} {n : Nat} {xs : List Value} (h : WdR w0 w wb ws) (ho : w.ownsRow base 51 2 v n xs) (hb : w0.heap.size ≤ base) (hg : w.grownBy w2 v.ownBlock) : WdR w0 w2 wb ws := by
  have hk : Keep v.ownBlock.toList w w2 := Keep.of_grown hg
  have hin : ∀ b, b ∈ v.ownBlock.toList → v.ownBlock = some b := fun b hb => by simpa using hb
  obtain ⟨A, cap, g, cs, g1, g2, g3⟩ := h.row
  exact ⟨h.hk.trans hk (fun x hx => .inr (Nat.le_trans hb (own_ge ho (hin x hx)))), h.new, h.len, h.num, A, cap, g, cs, g1.keep hk (fun hm => own_ne ho g1 (by decide) (hin _ hm)), g2.keep hk (fun hm => own_ne ho g2 (by decide) (hin _ hm)), g3⟩
theorem AaR.grow {w0 w wr w2 : World} {wb rb ab : Nat} {k key val n : Int} {v u : Value} {ws : List (List UInt8)} {m : Nat} {xs : List Value} (h : AaR w0 w wr wb rb ab k key val n v ws) (ho : wr.ownsRow w.heap.size 51 2 u m xs) (hg : wr.grownBy w2 u.ownBlock) : AaR w0 w w2 wb rb ab k key val n v ws := by
  have hk : Keep u.ownBlock.toList wr w2 := Keep.of_grown hg
  have hin : ∀ b, b ∈ u.ownBlock.toList → u.ownBlock = some b := fun b hb => by simpa using hb
  exact ⟨h.wd.grow ho h.n0 hg, h.hk.trans hk (fun x hx => .inr (own_ge ho (hin x hx))), h.b.keep hk (fun hm => own_ne ho h.b (by decide) (hin _ hm)), h.r.keep hk (fun hm => own_ne ho h.r (by decide) (hin _ hm)), h.ne, h.nb, h.nr, h.n0, h.lw⟩
def AnsOut (w : World) (wb : Nat) (ws : List (List UInt8)) (r : Ending) (w' : World) : Prop := Keep [wb] w w' ∧ match readA ws with
  | .ok a => ∃ A cap, r = .returned (.agg #[.int .i64 a.kind, .int .i64 a.key, .int .i64 a.val, .int .i64 a.n, .slice A a.ps.length cap]) ∧ w'.ownsRow w.heap.size 51 2 (.slice A a.ps.length cap) a.ps.length (a.ps.flatMap pairC)
  | .error k => r = panE k
theorem own_nilP {w : World} {base : Nat} : w.ownsRow base 51 2 (.slice none 0 0) 0 (([] : List (Int × Int)).flatMap pairC) := ⟨rfl, .inl ⟨rfl, rfl⟩⟩
theorem keep5s {w : World} {rb : Nat} (v0 v1 v2 v3 v4 : Value) : Keep [rb] w (((((w.setCell ⟨rb, 0, none⟩ v0).setCell ⟨rb, 1, none⟩ v1).setCell ⟨rb, 2, none⟩ v2).setCell ⟨rb, 3, none⟩ v3).setCell ⟨rb, 4, none⟩ v4) := (((((Keep.refl [rb] w).set_ (p := ⟨rb, 0, none⟩) v0 (.inl (by simp))).set_ (p := ⟨rb, 1, none⟩) v1 (.inl (by simp))).set_ (p := ⟨rb, 2, none⟩) v2 (.inl (by simp))).set_ (p := ⟨rb, 3, none⟩) v3 (.inl (by simp))).set_ (p := ⟨rb, 4, none⟩) v4 (.inl (by simp))
theorem infoPr : (Tryd.prog.info? 51).map (fun i => (i.zero, i.size, i.bytes)) = some (some (.agg #[.int .i64 0, .int .i64 0]), 2, 16) := by kernel_rfl
set_option maxHeartbeats 8000000 in
theorem words_answer (w0 w : World) (wb : Nat) (ws : List (List UInt8)) (h : WdR w0 w wb ws) (ht : TabsOk w0) : Calls Tryd.prog 28 #[.pointer (some ⟨wb, 0, none⟩)] w (AnsOut w wb ws) := by
  have HT := Lib.hid ht
  have HLW : Hid (wb < w.heap.size) := Lib.hid (by obtain ⟨A, cap, g, cs, g1, _⟩ := h.row; exact g1.lt)
  have HN0 := Lib.hid h.hk.size
  have HRB := Lib.hid (Blk.new w 33 zeroA)
  have HW1 := Lib.hid (h.keep ((Keep.refl [] w).alloc (.cells zeroA 33)))
  have HK1 := Lib.hid ((Keep.refl [wb] w).alloc (.cells zeroA 33))
  rw [show zeroA = #[.int .i64 0, .int .i64 0, .int .i64 0, .int .i64 0, .slice none 0 0] from rfl] at HRB HW1 HK1
  have HOUT : Hid (∀ (e : Ending) (W : World), Keep [wb] w W → (match readA ws with | .ok a => ∃ A cap, e = .returned (.agg #[.int .i64 a.kind, .int .i64 a.key, .int .i64 a.val, .int .i64 a.n, .slice A a.ps.length cap]) ∧ W.ownsRow w.heap.size 51 2 (.slice A a.ps.length cap) a.ps.length (a.ps.flatMap pairC) | .error k => e = panE k) → AnsOut w wb ws e W) := Lib.hid (fun e W h1 h2 => ⟨h1, h2⟩)
  clear h ht
  go_enter Tryd.func28, Tryd.ntmps28
  go_upto_region 1 with fail
  generalize hrbn : w.heap.size = rb at HRB ⊢
  have HRN := Lib.hid hrbn
  clear hrbn
  generalize w.alloc _ = w1 at HRB HW1 HK1 ⊢
  have KX := Lib.hid (words_kind w0 w1 wb ws HW1.out)
  unfold KindOut panE at KX
  cases ws with
  | nil =>
    have HRE : Hid ((.error 4 : Except Int AnsX) = readA []) := Lib.hid rfl
    go_wp2_with fail
    refine KX.out.mono ?_
    rintro r x ⟨hk, rfl⟩
    have HK2 := Lib.hid (HK1.out.trans hk (by simp))
    clear hk
    go_wp2_with fail
    refine ⟨rfl, HOUT.out _ _ HK2.out ?_⟩
    rw [← HRE.out]
    rfl
  | cons s t =>
    cases hkd : kdZ s with
    | none =>
      have HRE := Lib.hid (readA_none (t := t) hkd).symm
      dsimp only at KX
      rw [hkd] at KX
      clear hkd
      go_wp2_with fail
      refine KX.out.mono ?_
      rintro r x ⟨hk, rfl⟩
      have HK2 := Lib.hid (HK1.out.trans hk (by simp))
      clear hk
      go_wp2_with fail
      refine ⟨rfl, HOUT.out _ _ HK2.out ?_⟩
      rw [← HRE.out]
      rfl
    | some k =>
      dsimp only at KX
      rw [hkd] at KX
      have HKD := Lib.hid hkd
      clear hkd
      go_wp2_with fail
      refine KX.out.mono ?_
      rintro r x ⟨hk, rfl, hx⟩
      have HK2 := Lib.hid (HK1.out.trans hk (by simp))
      have HX := Lib.hid hx
      have HR2 : Hid (Blk x rb 33 zeroA) := Lib.hid (HRB.out.keep hk (by have := HLW.out; have := HRN.out; simp; omega))
      clear hk hx KX HRB HK1 HW1
      go_upto_region 2 with fail
      have HC0 : Hid (AaR w0 w (x.alloc (.cells #[.int .i64 (k : Nat), .int .i64 0, .int .i64 0, .int .i64 0, .slice none 0 0] 33)) wb rb x.heap.size (k : Nat) 0 0 0 (.slice none 0 0) t) := Lib.hid ⟨HX.out.keep ((Keep.refl [] x).alloc _), HK2.out.alloc _, Blk.new x _ _, HR2.out.alloc _, fun e => by have := HR2.out.lt; omega, HK2.out.size, Nat.le_of_eq HRN.out, HN0.out, HLW.out⟩
      generalize x.heap.size = ab at HC0 ⊢
      generalize x.alloc _ = w4 at HC0 ⊢
      clear HX HK2 HR2
      have hc0 : w4.cell? ⟨ab, 0, none⟩ = some (.int .i64 (k : Nat)) := HC0.out.b.cell 0
      by_cases k1 : k = 1
      · have e1 : (((k : Nat) : Int) == 1) = true := by rw [k1]; rfl
        have e2 : (((k : Nat) : Int) == 2) = false := by rw [k1]; rfl
        have e3 : (((k : Nat) : Int) == 3) = false := by rw [k1]; rfl
        have HRE : Hid (_ = readA (s :: t)) := Lib.hid (readA_one (t := t) (k1 ▸ HKD.out)).symm
        have HKI : Hid (((k : Nat) : Int) = 1) := Lib.hid (by rw [k1]; rfl)
        clear k1 HKD
        generalize readA (s :: t) = rr at *
        generalize ((k : Nat) : Int) = ki at *
        have KN := Lib.hid (words_number w0 w4 wb t HC0.out.wd HT.out)
        unfold NumbOut panE at KN
        cases t with
        | nil =>
          rw [one_nil] at HRE
          go_wp2_with fail
          refine KN.out.mono ?_
          rintro r z ⟨hk, rfl⟩
          have HKz := Lib.hid (HC0.out.hk.trans hk (by simp))
          clear hk
          go_wp2_with fail
          refine ⟨rfl, HOUT.out _ _ HKz.out ?_⟩
          rw [← HRE.out]
          rfl
        | cons s1 t1 =>
          cases hp1 : parseZ s1 with
          | none =>
            rw [one_bad _ hp1] at HRE
            dsimp only at KN
            rw [hp1] at KN
            clear hp1
            go_wp2_with fail
            refine KN.out.mono ?_
            rintro r z ⟨hk, rfl⟩
            have HKz := Lib.hid (HC0.out.hk.trans hk (by simp))
            clear hk
            go_wp2_with fail
            refine ⟨rfl, HOUT.out _ _ HKz.out ?_⟩
            rw [← HRE.out]
            rfl
          | some n1 =>
            dsimp only at KN
            rw [hp1] at KN
            go_wp2_with fail
            refine KN.out.mono ?_
            rintro r z ⟨hk, rfl, hwd⟩
            have HC1 := Lib.hid (HC0.out.next hk hwd)
            clear hk hwd hc0 KN
            have hd : z.cell? ⟨ab, 1, none⟩ = some (.int .i64 0) := HC1.out.b.cell 1
            have hfz := HC1.out.b.frozen 1
            have HC2 := Lib.hid (HC1.out.put (i := 1) (u := .int .i64 n1) (key2 := n1) (val2 := 0) (n2 := 0) (v2 := .slice none 0 0) rfl)
            go_upto_region 5 with fail
            generalize z.setCell _ _ = w5 at HC2 ⊢
            clear hd hfz HC0 HC1
            have KN := Lib.hid (words_number w0 w5 wb t1 HC2.out.wd HT.out)
            unfold NumbOut panE at KN
            cases t1 with
            | nil =>
              rw [one_one hp1] at HRE
              clear hp1
              go_wp2_with fail
              refine KN.out.mono ?_
              rintro r z ⟨hk, rfl⟩
              have HKz := Lib.hid (HC2.out.hk.trans hk (by simp))
              clear hk
              go_wp2_with fail
              refine ⟨rfl, HOUT.out _ _ HKz.out ?_⟩
              rw [← HRE.out]
              rfl
            | cons s2 t2 =>
              cases hp2 : parseZ s2 with
              | none =>
                rw [one_bad2 _ hp1 hp2] at HRE
                dsimp only at KN
                rw [hp2] at KN
                clear hp1 hp2
                go_wp2_with fail
                refine KN.out.mono ?_
                rintro r z ⟨hk, rfl⟩
                have HKz := Lib.hid (HC2.out.hk.trans hk (by simp))
                clear hk
                go_wp2_with fail
                refine ⟨rfl, HOUT.out _ _ HKz.out ?_⟩
                rw [← HRE.out]
                rfl
              | some n2 =>
                rw [one_end _ hp1 hp2] at HRE
                dsimp only at KN
                rw [hp2] at KN
                clear hp1 hp2
                go_wp2_with fail
                refine KN.out.mono ?_
                rintro r z ⟨hk, rfl, hwd⟩
                have HC3 := Lib.hid (HC2.out.next hk hwd)
                clear hk hwd KN
                have hd : z.cell? ⟨ab, 2, none⟩ = some (.int .i64 0) := HC3.out.b.cell 2
                have hfz := HC3.out.b.frozen 2
                have HC4 := Lib.hid (HC3.out.put (i := 2) (u := .int .i64 n2) (key2 := n1) (val2 := n2) (n2 := 0) (v2 := .slice none 0 0) rfl)
                go_upto_region 11 with fail
                generalize z.setCell _ _ = w6 at HC4 ⊢
                clear hd hfz HC2 HC3
                have KE := Lib.hid (words_end w0 w6 wb t2 HC4.out.wd)
                unfold panE at KE
                by_cases hws : t2 = []
                · rw [if_pos hws] at KE HRE
                  clear hws
                  have hd0 : w6.cell? ⟨ab, 0, none⟩ = some (.int .i64 ki) := HC4.out.b.cell 0
                  have hr0 : w6.cell? ⟨rb, 0, none⟩ = some (.int .i64 0) := HC4.out.r.cell 0
                  have hf0 := HC4.out.r.frozen 0
                  have hd1 : w6.cell? ⟨ab, 1, none⟩ = some (.int .i64 n1) := HC4.out.b.cell 1
                  have hr1 : w6.cell? ⟨rb, 1, none⟩ = some (.int .i64 0) := HC4.out.r.cell 1
                  have hf1 := HC4.out.r.frozen 1
                  have hd2 : w6.cell? ⟨ab, 2, none⟩ = some (.int .i64 n2) := HC4.out.b.cell 2
                  have hr2 : w6.cell? ⟨rb, 2, none⟩ = some (.int .i64 0) := HC4.out.r.cell 2
                  have hf2 := HC4.out.r.frozen 2
                  have hd3 : w6.cell? ⟨ab, 3, none⟩ = some (.int .i64 0) := HC4.out.b.cell 3
                  have hr3 : w6.cell? ⟨rb, 3, none⟩ = some (.int .i64 0) := HC4.out.r.cell 3
                  have hf3 := HC4.out.r.frozen 3
                  have hd4 : w6.cell? ⟨ab, 4, none⟩ = some (.slice none 0 0) := HC4.out.b.cell 4
                  have hr4 : w6.cell? ⟨rb, 4, none⟩ = some (.slice none 0 0) := HC4.out.r.cell 4
                  have hf4 := HC4.out.r.frozen 4
                  go_wp2_with fail
                  refine KE.out.mono ?_
                  rintro r z ⟨rfl, rfl⟩
                  go_wp2_with fail
                  exact bodyPost_ret (results_cell_row (p := 2) (ty := 33) rfl _ _ rb _ _ _ _ rfl (store5 HC4.out.r _ _ _ _ _) Tryd.underlying33 rfl (by kernel_rfl)) rfl (HOUT.out _ _ (keep5 HC4.out.hk HC4.out.nr _ _ _ _ _) (by rw [← HRE.out]; exact ⟨none, 0, by rw [HKI.out]; rfl, own_nilP⟩))
                · rw [if_neg hws] at KE HRE
                  clear hws
                  go_wp2_with fail
                  refine KE.out.mono ?_
                  rintro r z ⟨rfl, rfl⟩
                  go_wp2_with fail
                  refine ⟨rfl, HOUT.out _ _ HC4.out.hk ?_⟩
                  rw [← HRE.out]
                  rfl
      by_cases k2 : k = 2
      · have e1 : (((k : Nat) : Int) == 1) = false := by rw [k2]; rfl
        have e2 : (((k : Nat) : Int) == 2) = true := by rw [k2]; rfl
        have e3 : (((k : Nat) : Int) == 3) = false := by rw [k2]; rfl
        have HRE : Hid (_ = readA (s :: t)) := Lib.hid (readA_two (t := t) (k2 ▸ HKD.out)).symm
        have HKI : Hid (((k : Nat) : Int) = 2) := Lib.hid (by rw [k2]; rfl)
        clear k1 k2 HKD
        generalize readA (s :: t) = rr at *
        generalize ((k : Nat) : Int) = ki at *
        have KN := Lib.hid (words_number w0 w4 wb t HC0.out.wd HT.out)
        unfold NumbOut panE at KN
        cases t with
        | nil =>
          rw [two_nil] at HRE
          go_wp2_with fail
          refine KN.out.mono ?_
          rintro r z ⟨hk, rfl⟩
          have HKz := Lib.hid (HC0.out.hk.trans hk (by simp))
          clear hk
          go_wp2_with fail
          refine ⟨rfl, HOUT.out _ _ HKz.out ?_⟩
          rw [← HRE.out]
          rfl
        | cons s1 t1 =>
          cases hp1 : parseZ s1 with
          | none =>
            rw [two_bad _ hp1] at HRE
            dsimp only at KN
            rw [hp1] at KN
            clear hp1
            go_wp2_with fail
            refine KN.out.mono ?_
            rintro r z ⟨hk, rfl⟩
            have HKz := Lib.hid (HC0.out.hk.trans hk (by simp))
            clear hk
            go_wp2_with fail
            refine ⟨rfl, HOUT.out _ _ HKz.out ?_⟩
            rw [← HRE.out]
            rfl
          | some n1 =>
            rw [two_end _ hp1] at HRE
            dsimp only at KN
            rw [hp1] at KN
            clear hp1
            go_wp2_with fail
            refine KN.out.mono ?_
            rintro r z ⟨hk, rfl, hwd⟩
            have HC1 := Lib.hid (HC0.out.next hk hwd)
            clear hk hwd hc0 KN
            have hd : z.cell? ⟨ab, 3, none⟩ = some (.int .i64 0) := HC1.out.b.cell 3
            have hfz := HC1.out.b.frozen 3
            have HC2 := Lib.hid (HC1.out.put (i := 3) (u := .int .i64 n1) (key2 := 0) (val2 := 0) (n2 := n1) (v2 := .slice none 0 0) rfl)
            go_upto_region 11 with fail
            generalize z.setCell _ _ = w6 at HC2 ⊢
            clear hd hfz HC0 HC1
            have KE := Lib.hid (words_end w0 w6 wb t1 HC2.out.wd)
            unfold panE at KE
            by_cases hws : t1 = []
            · rw [if_pos hws] at KE HRE
              clear hws
              have hd0 : w6.cell? ⟨ab, 0, none⟩ = some (.int .i64 ki) := HC2.out.b.cell 0
              have hr0 : w6.cell? ⟨rb, 0, none⟩ = some (.int .i64 0) := HC2.out.r.cell 0
              have hf0 := HC2.out.r.frozen 0
              have hd1 : w6.cell? ⟨ab, 1, none⟩ = some (.int .i64 0) := HC2.out.b.cell 1
              have hr1 : w6.cell? ⟨rb, 1, none⟩ = some (.int .i64 0) := HC2.out.r.cell 1
              have hf1 := HC2.out.r.frozen 1
              have hd2 : w6.cell? ⟨ab, 2, none⟩ = some (.int .i64 0) := HC2.out.b.cell 2
              have hr2 : w6.cell? ⟨rb, 2, none⟩ = some (.int .i64 0) := HC2.out.r.cell 2
              have hf2 := HC2.out.r.frozen 2
              have hd3 : w6.cell? ⟨ab, 3, none⟩ = some (.int .i64 n1) := HC2.out.b.cell 3
              have hr3 : w6.cell? ⟨rb, 3, none⟩ = some (.int .i64 0) := HC2.out.r.cell 3
              have hf3 := HC2.out.r.frozen 3
              have hd4 : w6.cell? ⟨ab, 4, none⟩ = some (.slice none 0 0) := HC2.out.b.cell 4
              have hr4 : w6.cell? ⟨rb, 4, none⟩ = some (.slice none 0 0) := HC2.out.r.cell 4
              have hf4 := HC2.out.r.frozen 4
              go_wp2_with fail
              refine KE.out.mono ?_
              rintro r z ⟨rfl, rfl⟩
              go_wp2_with fail
              exact bodyPost_ret (results_cell_row (p := 2) (ty := 33) rfl _ _ rb _ _ _ _ rfl (store5 HC2.out.r _ _ _ _ _) Tryd.underlying33 rfl (by kernel_rfl)) rfl (HOUT.out _ _ (keep5 HC2.out.hk HC2.out.nr _ _ _ _ _) (by rw [← HRE.out]; exact ⟨none, 0, by rw [HKI.out]; rfl, own_nilP⟩))
            · rw [if_neg hws] at KE HRE
              clear hws
              go_wp2_with fail
              refine KE.out.mono ?_
              rintro r z ⟨rfl, rfl⟩
              go_wp2_with fail
              refine ⟨rfl, HOUT.out _ _ HC2.out.hk ?_⟩
              rw [← HRE.out]
              rfl
      by_cases k3 : k = 3
      · have e1 : (((k : Nat) : Int) == 1) = false := by rw [k3]; rfl
        have e2 : (((k : Nat) : Int) == 2) = false := by rw [k3]; rfl
        have e3 : (((k : Nat) : Int) == 3) = true := by rw [k3]; rfl
        have HRE0 := Lib.hid (readA_rest (t := t) (k3 ▸ HKD.out)).symm
        have HKI : Hid (((k : Nat) : Int) = 3) := Lib.hid (by rw [k3]; rfl)
        clear k1 k2 k3 HKD
        generalize readA (s :: t) = rr at *
        generalize ((k : Nat) : Int) = ki at *
        have KX := Lib.hid (fun (W : World) (ws : List (List UInt8)) (h : WdR w0 W wb ws) => words_next w0 W wb ws h)
        have KP := Lib.hid (fun (W : World) (s : List UInt8) (hs : s.length ≤ 20000) (hk : Keep [] w0 W) => text_pair s W hs (HT.out.keep hk))
        unfold NextOut panE at KX
        unfold PairOut panE at KP
        go_wp2_with fail
        go_loopg [] t.length (fun gq wr => ∃ (ps : List (Int × Int)) (ws2 : List (List UInt8)) (v : Value), gq = ws2.length ∧ ps.length + ws2.length ≤ 20001 ∧ AaR w0 w wr wb rb ab ki 0 0 0 v ws2 ∧ wr.ownsRow w.heap.size 51 2 v ps.length (ps.flatMap pairC) ∧ restP ps ws2 = rr)
        case atStart => exact ⟨[], t, _, rfl, by have := HC0.out.wd.num; simpa using this, HC0.out, ⟨rfl, .inl ⟨rfl, rfl⟩⟩, HRE0.out⟩
        case round =>
          obtain ⟨ps, ws2, v, rfl, hnum, hc, hown, hre⟩ := hrel
          have HC := Lib.hid hc
          have HOW := Lib.hid hown
          have HRE := Lib.hid hre
          have HNU := Lib.hid hnum
          obtain ⟨Aw, cw, gw, csw, hwb, _⟩ := hc.wd.row
          have hw0 : wr.cell? ⟨wb, 0, none⟩ = some (.slice Aw ws2.length cw) := hwb.cell 0
          clear hc hown hre hwb hnum HC0 hc0
          cases ws2 with
          | nil =>
            rw [restP_end] at HRE
            obtain ⟨A, cap, rfl⟩ := own_form HOW.out
            have KE := Lib.hid (words_end w0 wr wb [] HC.out.wd)
            unfold panE at KE
            rw [if_pos rfl] at KE
            have hz : ¬ (0 : Int) < (([] : List (List UInt8)).length : Nat) := by simp
            have HEL : Hid (∀ W, Keep [rb] wr W → W.ownsRow w.heap.size 51 2 (.slice A ps.length cap) ps.length (ps.flatMap pairC)) := Lib.hid (fun W hk => own_keep HOW.out hk (fun g hg => by
              have := own_ne HOW.out HC.out.r (by decide)
              simp
              intro e
              subst e
              exact this hg))
            have hd0 : wr.cell? ⟨ab, 0, none⟩ = some (.int .i64 ki) := HC.out.b.cell 0
            have hr0 : wr.cell? ⟨rb, 0, none⟩ = some (.int .i64 0) := HC.out.r.cell 0
            have hf0 := HC.out.r.frozen 0
            have hd1 : wr.cell? ⟨ab, 1, none⟩ = some (.int .i64 0) := HC.out.b.cell 1
            have hr1 : wr.cell? ⟨rb, 1, none⟩ = some (.int .i64 0) := HC.out.r.cell 1
            have hf1 := HC.out.r.frozen 1
            have hd2 : wr.cell? ⟨ab, 2, none⟩ = some (.int .i64 0) := HC.out.b.cell 2
            have hr2 : wr.cell? ⟨rb, 2, none⟩ = some (.int .i64 0) := HC.out.r.cell 2
            have hf2 := HC.out.r.frozen 2
            have hd3 : wr.cell? ⟨ab, 3, none⟩ = some (.int .i64 0) := HC.out.b.cell 3
            have hr3 : wr.cell? ⟨rb, 3, none⟩ = some (.int .i64 0) := HC.out.r.cell 3
            have hf3 := HC.out.r.frozen 3
            have hd4 : wr.cell? ⟨ab, 4, none⟩ = some (.slice A ps.length cap) := HC.out.b.cell 4
            have hr4 : wr.cell? ⟨rb, 4, none⟩ = some (.slice none 0 0) := HC.out.r.cell 4
            have hf4 := HC.out.r.frozen 4
            go_wp2_with fail
            refine KE.out.mono ?_
            rintro r z ⟨rfl, rfl⟩
            go_wp2_with fail
            exact bodyPost_ret (results_cell_row (p := 2) (ty := 33) rfl _ _ rb _ _ _ _ rfl (store5 HC.out.r _ _ _ _ _) Tryd.underlying33 rfl (by kernel_rfl)) rfl (HOUT.out _ _ (keep5 HC.out.hk HC.out.nr _ _ _ _ _) (by rw [← HRE.out]; exact ⟨A, cap, by rw [HKI.out], HEL.out _ (keep5s _ _ _ _ _)⟩))
          | cons s2 t2 =>
            have hl2 : (s2 :: t2).length = t2.length + 1 := rfl
            rw [hl2] at hw0
            have hz : (0 : Int) < ((t2.length + 1 : Nat) : Int) := by omega
            cases hpz : pairZ s2 with
            | none =>
              rw [restP_bad _ _ hpz] at HRE
              have KP1 := Lib.hid (fun (W : World) (hk : Keep [] w0 W) => KP.out W s2 (HC.out.wd.len s2 (by simp)) hk)
              rw [hpz] at KP1
              clear hpz
              go_upto_region 10 with fail
              refine wp_region_till (S := (fun w' => w'.cell? ⟨ab, 4, none⟩ = some v)) 8 8 (by kernel_rfl) (by kernel_rfl) ((HC.out.b.drew).cell 4) (fun hHeld => ?_)
              refine tillT_take (i := 0) (oi := { dst := some 30, op := Go.Op.fieldAddr 33 (Go.Operand.tmp 3) 4, type := 0, pos := "text.go:173", after := #[], guard := none }) (v := ?_) rfl (by kernel_rfl) (by kernel_rfl) (by kernel_rfl) (by kernel_rfl) (fun _ _ _ h => h) (Or.inl ⟨by rfl, ?_⟩) (by assumption) ?_
              rotate_left
              · intro w hSw
                (try dsimp only at hSw)
                go_simp
                all_goals with_reducible rfl
              try simp only [Act.put, List.setIfInBounds_toArray, List.set_cons_zero, List.set_cons_succ]
              refine tillT_take (i := 1) (oi := { dst := some 31, op := Go.Op.load 31 (Go.Operand.tmp 30), type := 31, pos := "text.go:173", after := #[{ on := 0, ground := Go.Ground.data }], guard := none }) (v := ?_) rfl (by kernel_rfl) (by kernel_rfl) (by kernel_rfl) (by kernel_rfl) (fun _ _ _ h => h) (Or.inl ⟨by rfl, ?_⟩) (by assumption) ?_
              rotate_left
              · intro w hSw
                have hc := hSw
                go_simp
                all_goals with_reducible rfl
              try simp only [Act.put, List.setIfInBounds_toArray, List.set_cons_zero, List.set_cons_succ]
              refine tillT_take (i := 2) (oi := { dst := some 32, op := Go.Op.move (Go.Operand.tmp 0), type := 53, pos := "text.go:173", after := #[], guard := none }) (v := ?_) rfl (by kernel_rfl) (by kernel_rfl) (by kernel_rfl) (by kernel_rfl) (fun _ _ _ h => h) (Or.inl ⟨by rfl, ?_⟩) (by assumption) ?_
              rotate_left
              · intro w hSw
                (try dsimp only at hSw)
                go_simp
                all_goals with_reducible rfl
              try simp only [Act.put, List.setIfInBounds_toArray, List.set_cons_zero, List.set_cons_succ]
              refine tillT_only (i := 3) (o := { dst := some 33, op := Go.Op.call { callee := Go.Callee.value (Go.Operand.func 45), args := #[Go.Operand.tmp 32], argTypes := #[53] }, type := 9, pos := "text.go:173", after := #[{ on := 2, ground := Go.Ground.data }], guard := none }) (by kernel_rfl) rfl (fun K hK => ?_)
              go_simp
              refine (KX.out _ (s2 :: t2) (HC.out.keep (Keep.refl _ _).drew).wd).mono ?_
              rintro r y ⟨hk, rfl, hwd⟩
              have HC2 := Lib.hid ((HC.out.keep (Keep.refl _ _).drew).next hk hwd)
              clear hk hwd
              try simp only []
              refine hK.out _ _ (HC2.out.b.cell 4) (fun hHeld => ?_)
              clear hK K
              try simp only [Act.put, List.setIfInBounds_toArray, List.set_cons_zero, List.set_cons_succ]
              refine tillT_only (i := 4) (o := { dst := some 34, op := Go.Op.call { callee := Go.Callee.value (Go.Operand.func 50), args := #[Go.Operand.tmp 33], argTypes := #[9] }, type := 51, pos := "text.go:173", after := #[{ on := 3, ground := Go.Ground.data }, { on := 3, ground := Go.Ground.chain }], guard := none }) (by kernel_rfl) rfl (fun K hK => ?_)
              go_simp
              refine (KP1.out _ HC2.out.wd.hk).mono ?_
              rintro r z ⟨hk, rfl⟩
              have HKz := Lib.hid (HC2.out.hk.trans hk (by simp))
              clear hk
              try simp only []
              go_wp2_with fail
              refine ⟨rfl, HOUT.out _ _ HKz.out ?_⟩
              rw [← HRE.out]
              rfl
            | some p =>
              rw [restP_step _ _ hpz] at HRE
              obtain ⟨p1, p2⟩ := p
              have KP1 := Lib.hid (fun (W : World) (hk : Keep [] w0 W) => KP.out W s2 (HC.out.wd.len s2 (by simp)) hk)
              rw [hpz] at KP1
              dsimp only at KP1
              clear hpz
              go_upto_region 10 with fail
              refine wp_region_till (S := (fun w' => w'.cell? ⟨ab, 4, none⟩ = some v)) 8 8 (by kernel_rfl) (by kernel_rfl) ((HC.out.b.drew).cell 4) (fun hHeld => ?_)
              refine tillT_take (i := 0) (oi := { dst := some 30, op := Go.Op.fieldAddr 33 (Go.Operand.tmp 3) 4, type := 0, pos := "text.go:173", after := #[], guard := none }) (v := ?_) rfl (by kernel_rfl) (by kernel_rfl) (by kernel_rfl) (by kernel_rfl) (fun _ _ _ h => h) (Or.inl ⟨by rfl, ?_⟩) (by assumption) ?_
              rotate_left
              · intro w hSw
                (try dsimp only at hSw)
                go_simp
                all_goals with_reducible rfl
              try simp only [Act.put, List.setIfInBounds_toArray, List.set_cons_zero, List.set_cons_succ]
              refine tillT_take (i := 1) (oi := { dst := some 31, op := Go.Op.load 31 (Go.Operand.tmp 30), type := 31, pos := "text.go:173", after := #[{ on := 0, ground := Go.Ground.data }], guard := none }) (v := ?_) rfl (by kernel_rfl) (by kernel_rfl) (by kernel_rfl) (by kernel_rfl) (fun _ _ _ h => h) (Or.inl ⟨by rfl, ?_⟩) (by assumption) ?_
              rotate_left
              · intro w hSw
                have hc := hSw
                go_simp
                all_goals with_reducible rfl
              try simp only [Act.put, List.setIfInBounds_toArray, List.set_cons_zero, List.set_cons_succ]
              refine tillT_take (i := 2) (oi := { dst := some 32, op := Go.Op.move (Go.Operand.tmp 0), type := 53, pos := "text.go:173", after := #[], guard := none }) (v := ?_) rfl (by kernel_rfl) (by kernel_rfl) (by kernel_rfl) (by kernel_rfl) (fun _ _ _ h => h) (Or.inl ⟨by rfl, ?_⟩) (by assumption) ?_
              rotate_left
              · intro w hSw
                (try dsimp only at hSw)
                go_simp
                all_goals with_reducible rfl
              try simp only [Act.put, List.setIfInBounds_toArray, List.set_cons_zero, List.set_cons_succ]
              refine tillT_only (i := 3) (o := { dst := some 33, op := Go.Op.call { callee := Go.Callee.value (Go.Operand.func 45), args := #[Go.Operand.tmp 32], argTypes := #[53] }, type := 9, pos := "text.go:173", after := #[{ on := 2, ground := Go.Ground.data }], guard := none }) (by kernel_rfl) rfl (fun K hK => ?_)
              go_simp
              refine (KX.out _ (s2 :: t2) (HC.out.keep (Keep.refl _ _).drew).wd).mono ?_
              rintro r y ⟨hk, rfl, hwd⟩
              have HC2 := Lib.hid ((HC.out.keep (Keep.refl _ _).drew).next hk hwd)
              have HOW2 := Lib.hid (own_keep (own_keep HOW.out (S := []) (Keep.refl _ _).drew (by simp)) hk (fun g hg => by
                obtain ⟨A1, cap1, g1, cs1, q1, _⟩ := (HC.out.keep (Keep.refl _ _).drew).wd.row
                have := own_ne (own_keep HOW.out (S := []) (Keep.refl _ _).drew (by simp)) q1 (by decide)
                simp
                intro e
                subst e
                exact this hg))
              clear hk hwd
              try simp only []
              refine hK.out _ _ (HC2.out.b.cell 4) (fun hHeld => ?_)
              clear hK K
              try simp only [Act.put, List.setIfInBounds_toArray, List.set_cons_zero, List.set_cons_succ]
              refine tillT_only (i := 4) (o := { dst := some 34, op := Go.Op.call { callee := Go.Callee.value (Go.Operand.func 50), args := #[Go.Operand.tmp 33], argTypes := #[9] }, type := 51, pos := "text.go:173", after := #[{ on := 3, ground := Go.Ground.data }, { on := 3, ground := Go.Ground.chain }], guard := none }) (by kernel_rfl) rfl (fun K hK => ?_)
              go_simp
              refine (KP1.out _ HC2.out.wd.hk).mono ?_
              rintro r z ⟨hk, rfl⟩
              have HC3 := Lib.hid (HC2.out.keep hk)
              have HOW3 := Lib.hid (own_keep HOW2.out hk (by simp))
              clear hk
              try simp only []
              refine hK.out _ _ (HC3.out.b.cell 4) (fun hHeld => ?_)
              clear hK K
              try simp only [Act.put, List.setIfInBounds_toArray, List.set_cons_zero, List.set_cons_succ]
              refine tillT_only (i := 5) (o := { dst := some 35, op := Go.Op.buildSlice 31 1 #[(0, Go.Operand.tmp 34)], type := 31, pos := "text.go:173", after := #[{ on := 4, ground := Go.Ground.data }], guard := none }) (by kernel_rfl) rfl (fun K hK => ?_)
              go_simp
              have HC4 := Lib.hid (HC3.out.keep ((Keep.refl [] z).alloc (.cells #[.int .i64 p1, .int .i64 p2] 51)))
              have HOW4 := Lib.hid (own_keep HOW3.out (S := []) ((Keep.refl [] z).alloc (.cells #[.int .i64 p1, .int .i64 p2] 51)) (by simp))
              refine hK.out _ _ (HC4.out.b.cell 4) (fun hHeld => ?_)
              clear hK K
              try simp only [Act.put, List.setIfInBounds_toArray, List.set_cons_zero, List.set_cons_succ]
              refine tillT_only (i := 6) (o := { dst := some 36, op := Go.Op.call { callee := Go.Callee.builtin Go.Builtin.append, args := #[Go.Operand.tmp 31, Go.Operand.tmp 35], argTypes := #[31, 31] }, type := 31, pos := "text.go:173", after := #[{ on := 1, ground := Go.Ground.data }, { on := 5, ground := Go.Ground.data }, { on := 4, ground := Go.Ground.chain }], guard := none }) (by kernel_rfl) rfl (fun K hK => ?_)
              obtain ⟨i0, hi, hz0, hz1, hz2⟩ := info_partsT infoPr
              refine step_append_at rfl (.tmp 31) (.tmp 35) 31 rfl w.heap.size 51 i0 (.agg #[.int .i64 0, .int .i64 0]) 2 16 Tryd.underlying31 hi hz0 hz1 hz2 rfl (by decide) v ps.length (ps.flatMap pairC) rfl HOW4.out ⟨_, 0, none⟩ 1 1 (pairC (p1, p2)) rfl rfl (World.news_of_block (heap_alloc_new _ _)) (by simp [pairC, Value.oneCell']) (by have := HNU.out; unfold maxLen; simp at this; omega) (by have := HNU.out; simp at this; omega) HC4.out.hk.size ?_
              clear hi hz0 hz1 hz2
              intro v2 w7 hown hg hnil hat
              clear hnil hat
              obtain ⟨A5, c5, rfl⟩ := own_form hown
              have HC5 := Lib.hid (HC4.out.grow HOW4.out hg)
              have HOW5 := Lib.hid hown
              clear hown hg
              have hcell : w7.cell? ⟨ab, 4, none⟩ = some v := HC5.out.b.cell 4
              have hfz := HC5.out.b.frozen 4
              refine hK.out _ _ hcell (fun hHeld => ?_)
              clear hK K
              try simp only [Act.put, List.setIfInBounds_toArray, List.set_cons_zero, List.set_cons_succ]
              refine tillT_take (i := 7) (oi := { dst := some 37, op := Go.Op.fieldAddr 33 (Go.Operand.tmp 3) 4, type := 0, pos := "text.go:173", after := #[{ on := 0, ground := Go.Ground.phase }, { on := 1, ground := Go.Ground.phase }, { on := 2, ground := Go.Ground.phase }, { on := 3, ground := Go.Ground.phase }, { on := 4, ground := Go.Ground.phase }, { on := 5, ground := Go.Ground.phase }, { on := 6, ground := Go.Ground.phase }], guard := none }) (v := ?_) rfl (by kernel_rfl) (by kernel_rfl) (by kernel_rfl) (by kernel_rfl) (fun _ _ _ h => h) (Or.inl ⟨by rfl, ?_⟩) (by assumption) ?_
              rotate_left
              · intro w hSw
                (try dsimp only at hSw)
                go_simp
                all_goals with_reducible rfl
              try simp only [Act.put, List.setIfInBounds_toArray, List.set_cons_zero, List.set_cons_succ]
              refine tillT_last (o := { dst := none, op := Go.Op.store 31 (Go.Operand.tmp 37) (Go.Operand.tmp 36), type := 0, pos := "text.go:173", after := #[{ on := 7, ground := Go.Ground.data }, { on := 6, ground := Go.Ground.data }, { on := 6, ground := Go.Ground.chain }, { on := 0, ground := Go.Ground.phase }, { on := 1, ground := Go.Ground.phase }, { on := 2, ground := Go.Ground.phase }, { on := 3, ground := Go.Ground.phase }, { on := 4, ground := Go.Ground.phase }, { on := 5, ground := Go.Ground.phase }, { on := 6, ground := Go.Ground.phase }], guard := none }) (by kernel_rfl) (by kernel_rfl) rfl (fun K hK => ?_)
              go_simp
              refine hK.out _ _ ?_
              clear hK K
              clear hHeld hcell hfz
              have HC6 := Lib.hid (HC5.out.put (i := 4) (u := .slice A5 (ps.length + 1) c5) (key2 := 0) (val2 := 0) (n2 := 0) (v2 := .slice A5 (ps.length + 1) c5) rfl)
              have HOW6 : Hid ((w7.setCell ⟨ab, 4, none⟩ (.slice A5 (ps.length + 1) c5)).ownsRow w.heap.size 51 2 (.slice A5 (ps.length + 1) c5) (ps ++ [(p1, p2)]).length ((ps ++ [(p1, p2)]).flatMap pairC)) := Lib.hid (by
                rw [List.length_append, List.length_singleton, List.flatMap_append]
                have h1 := own_same HOW5.out (w' := w7.setCell ⟨ab, 4, none⟩ (.slice A5 (ps.length + 1) c5)) (fun b hb => Below.heap_setCell _ _ _ _ (fun e2 => own_ne HOW5.out HC5.out.b (by decide) (by rw [hb, e2])))
                simpa using h1)
              go_wp2_with fail
              go_roundg t2.length
              case measure => rw [hl2]; omega
              case rel => exact ⟨ps ++ [(p1, p2)], t2, _, rfl, by have := HNU.out; simp at this ⊢; omega, HC6.out, HOW6.out, HRE.out⟩
      have e1 : (((k : Nat) : Int) == 1) = false := by rw [beq_eq_false_iff_ne]; omega
      have e2 : (((k : Nat) : Int) == 2) = false := by rw [beq_eq_false_iff_ne]; omega
      have e3 : (((k : Nat) : Int) == 3) = false := by rw [beq_eq_false_iff_ne]; omega
      have HRE := Lib.hid (readA_else (t := t) HKD.out k1 k2 k3).symm
      clear k1 k2 k3 HKD
      generalize readA (s :: t) = rr at *
      generalize ((k : Nat) : Int) = ki at *
      have KE := Lib.hid (words_end w0 w4 wb t HC0.out.wd)
      unfold panE at KE
      by_cases hws : t = []
      · rw [if_pos hws] at KE HRE
        clear hws
        have hd0 : w4.cell? ⟨ab, 0, none⟩ = some (.int .i64 ki) := HC0.out.b.cell 0
        have hr0 : w4.cell? ⟨rb, 0, none⟩ = some (.int .i64 0) := HC0.out.r.cell 0
        have hf0 := HC0.out.r.frozen 0
        have hd1 : w4.cell? ⟨ab, 1, none⟩ = some (.int .i64 0) := HC0.out.b.cell 1
        have hr1 : w4.cell? ⟨rb, 1, none⟩ = some (.int .i64 0) := HC0.out.r.cell 1
        have hf1 := HC0.out.r.frozen 1
        have hd2 : w4.cell? ⟨ab, 2, none⟩ = some (.int .i64 0) := HC0.out.b.cell 2
        have hr2 : w4.cell? ⟨rb, 2, none⟩ = some (.int .i64 0) := HC0.out.r.cell 2
        have hf2 := HC0.out.r.frozen 2
        have hd3 : w4.cell? ⟨ab, 3, none⟩ = some (.int .i64 0) := HC0.out.b.cell 3
        have hr3 : w4.cell? ⟨rb, 3, none⟩ = some (.int .i64 0) := HC0.out.r.cell 3
        have hf3 := HC0.out.r.frozen 3
        have hd4 : w4.cell? ⟨ab, 4, none⟩ = some (.slice none 0 0) := HC0.out.b.cell 4
        have hr4 : w4.cell? ⟨rb, 4, none⟩ = some (.slice none 0 0) := HC0.out.r.cell 4
        have hf4 := HC0.out.r.frozen 4
        go_wp2_with fail
        refine KE.out.mono ?_
        rintro r z ⟨rfl, rfl⟩
        go_wp2_with fail
        exact bodyPost_ret (results_cell_row (p := 2) (ty := 33) rfl _ _ rb _ _ _ _ rfl (store5 HC0.out.r _ _ _ _ _) Tryd.underlying33 rfl (by kernel_rfl)) rfl (HOUT.out _ _ (keep5 HC0.out.hk HC0.out.nr _ _ _ _ _) (by rw [← HRE.out]; exact ⟨none, 0, rfl, own_nilP⟩))
      · rw [if_neg hws] at KE HRE
        clear hws
        go_wp2_with fail
        refine KE.out.mono ?_
        rintro r z ⟨rfl, rfl⟩
        go_wp2_with fail
        refine ⟨rfl, HOUT.out _ _ HC0.out.hk ?_⟩
        rw [← HRE.out]
        rfl
end Go.Proofs.YtpbbpannimlldaaDoor
