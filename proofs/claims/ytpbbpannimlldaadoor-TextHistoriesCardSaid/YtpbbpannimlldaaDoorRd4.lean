/- A call, read: words.call by its contract. Conditions: the library's tables and errors are as they were laid; at most 20000 bytes. -/
import Derived.Test.YtpbbpannimlldaaDoorRd3
namespace Go.Proofs.YtpbbpannimlldaaDoor
open Go.RowKit

theorem WdR.far {w0 w : World} {wb : Nat} {ws : List (List UInt8)} (h : WdR w0 w wb ws) {b o : Nat} {t : TypeId} {cs : Array Value} (hb : Blk w b t cs) (h1 : t ≠ 88) (h2 : t ≠ 9) (h3 : w0.heap.size ≤ b) (v : Value) : WdR w0 (w.setCell ⟨b, o, none⟩ v) wb ws := by
  obtain ⟨A, cap, g, cs, g1, g2, g3⟩ := h.row
  exact ⟨h.hk.trans ((Keep.refl [b] w).set_ (p := ⟨b, o, none⟩) v (.inl (by simp))) (fun x hx => .inr (by rw [List.mem_singleton.1 hx]; exact h3)), h.new, h.len, h.num, A, cap, g, cs, g1.far (p := ⟨b, o, none⟩) (g1.ne_ hb (fun e => h1 e.symm)) v, g2.far (p := ⟨b, o, none⟩) (g2.ne_ hb (fun e => h2 e.symm)) v, g3⟩
def CallX.zero : CallX := ⟨0, 0, 0, 0, 0⟩
/-- What words.call holds. -/
structure CaR (w0 w wr : World) (wb rb cb : Nat) (c : CallX) (ws : List (List UInt8)) : Prop where
  wd : WdR w0 wr wb ws
  hk : Keep [wb] w wr
  b : Blk wr cb 26 c.cells
  r : Blk wr rb 26 CallX.zero.cells
  ne : rb ≠ cb
  nb : w.heap.size ≤ cb
  n0 : w0.heap.size ≤ w.heap.size
  lw : wb < w.heap.size
section
variable {w0 w wr w2 : World} {wb rb cb : Nat} {c : CallX} {ws t : List (List UInt8)}
theorem CaR.next (h : CaR w0 w wr wb rb cb c ws) (hk : Keep [wb] wr w2) (hw : WdR w0 w2 wb t) : CaR w0 w w2 wb rb cb c t := by
  have hne : cb ≠ wb := fun e => by have := h.lw; have := h.nb; omega
  have hnr : rb ≠ wb := fun e => by
    obtain ⟨A, cap, g, cs, g1, _⟩ := h.wd.row
    exact (h.r.ne_ g1 (by decide)) e
  exact ⟨hw, h.hk.trans hk (by simp), h.b.keep hk (by simpa using hne), h.r.keep hk (by simpa using hnr), h.ne, h.nb, h.n0, h.lw⟩
theorem CaR.put (h : CaR w0 w wr wb rb cb c ws) {i : Nat} {n : Int} {c2 : CallX} (hc : c.cells.setIfInBounds i (.int .i64 n) = c2.cells) : CaR w0 w (wr.setCell ⟨cb, i, none⟩ (.int .i64 n)) wb rb cb c2 ws := by
  refine ⟨h.wd.far h.b (by decide) (by decide) (Nat.le_trans h.n0 h.nb) _, h.hk.trans ((Keep.refl [cb] wr).set_ (p := ⟨cb, i, none⟩) _ (.inl (by simp))) (fun x hx => .inr (by rw [List.mem_singleton.1 hx]; exact h.nb)), ?_, h.r.far (p := ⟨cb, i, none⟩) h.ne _, h.ne, h.nb, h.n0, h.lw⟩
  rw [← hc]
  exact h.b.set_ i _
end
def CallOut (w : World) (wb : Nat) (ws : List (List UInt8)) (r : Ending) (w' : World) : Prop := Keep [wb] w w' ∧ match readC ws with
  | .ok c => r = .returned (.agg c.cells)
  | .error k => r = panE k
theorem put_cells (c : CallX) {i : Nat} (h : i = 1 ∨ i = 2 ∨ i = 3 ∨ i = 4) (n : Int) : c.cells.setIfInBounds i (.int .i64 n) = (c.put i n).cells := by
  rcases h with rfl | rfl | rfl | rfl <;> rfl
theorem put_op (c : CallX) {i : Nat} (n : Int) : (c.put i n).op = c.op := by
  unfold CallX.put
  split
  · rfl
  · split
    · rfl
    · split <;> rfl
theorem store5 {w : World} {rb : Nat} {t : TypeId} {a0 a1 a2 a3 a4 : Value} (hb : Blk w rb t #[a0, a1, a2, a3, a4]) (v0 v1 v2 v3 v4 : Value) : Blk (((((w.setCell ⟨rb, 0, none⟩ v0).setCell ⟨rb, 1, none⟩ v1).setCell ⟨rb, 2, none⟩ v2).setCell ⟨rb, 3, none⟩ v3).setCell ⟨rb, 4, none⟩ v4) rb t #[v0, v1, v2, v3, v4] := ((((hb.set_ 0 v0).set_ 1 v1).set_ 2 v2).set_ 3 v3).set_ 4 v4
theorem keep5 {S : List Nat} {w0 w : World} {rb : Nat} (hk : Keep S w0 w) (h : w0.heap.size ≤ rb) (v0 v1 v2 v3 v4 : Value) : Keep S w0 (((((w.setCell ⟨rb, 0, none⟩ v0).setCell ⟨rb, 1, none⟩ v1).setCell ⟨rb, 2, none⟩ v2).setCell ⟨rb, 3, none⟩ v3).setCell ⟨rb, 4, none⟩ v4) := ((((hk.set_ (p := ⟨rb, 0, none⟩) v0 (.inr h)).set_ (p := ⟨rb, 1, none⟩) v1 (.inr h)).set_ (p := ⟨rb, 2, none⟩) v2 (.inr h)).set_ (p := ⟨rb, 3, none⟩) v3 (.inr h)).set_ (p := ⟨rb, 4, none⟩) v4 (.inr h)
set_option maxHeartbeats 4000000 in
theorem words_call (w0 w : World) (wb : Nat) (ws : List (List UInt8)) (h : WdR w0 w wb ws) (ht : TabsOk w0) : Calls Tryd.prog 23 #[.pointer (some ⟨wb, 0, none⟩)] w (CallOut w wb ws) := by
  have HT := Lib.hid ht
  have HLW : Hid (wb < w.heap.size) := Lib.hid (by obtain ⟨A, cap, g, cs, g1, _⟩ := h.row; exact g1.lt)
  have HN0 := Lib.hid h.hk.size
  have HRB := Lib.hid (Blk.new w 26 CallX.zero.cells)
  have HW1 := Lib.hid (h.keep ((Keep.refl [] w).alloc (.cells CallX.zero.cells 26)))
  have HK1 := Lib.hid ((Keep.refl [wb] w).alloc (.cells CallX.zero.cells 26))
  rw [show CallX.zero.cells = #[.int .i64 0, .int .i64 0, .int .i64 0, .int .i64 0, .int .i64 0] from rfl] at HRB HW1 HK1
  clear h ht
  go_enter Tryd.func23, Tryd.ntmps23
  go_upto_region 1 with fail
  generalize hrbn : w.heap.size = rb at HRB ⊢
  have HRN := Lib.hid hrbn
  clear hrbn
  generalize w.alloc _ = w1 at HRB HW1 HK1 ⊢
  have KX := Lib.hid (words_next w0 w1 wb ws HW1.out)
  unfold NextOut panE at KX
  cases ws with
  | nil =>
    go_wp2_with fail
    refine KX.out.mono ?_
    rintro r x ⟨hk, rfl, _⟩
    have HK2 := Lib.hid (HK1.out.trans hk (by simp))
    clear hk
    go_wp2_with fail
    exact ⟨rfl, HK2.out, rfl⟩
  | cons s t =>
    have KO := Lib.hid (fun W => call_op s W)
    go_wp2_with fail
    refine KX.out.mono ?_
    rintro r x ⟨hk, rfl, hx⟩
    have HK2 := Lib.hid (HK1.out.trans hk (by simp))
    have HX := Lib.hid hx
    have HR2 : Hid (Blk x rb 26 CallX.zero.cells) := Lib.hid (HRB.out.keep hk (by have := HLW.out; have := HRN.out; simp; omega))
    clear hk hx KX HRB HK1 HW1
    go_wp2_with fail
    refine (KO.out _).mono ?_
    rintro r y ⟨rfl, hk⟩
    have HK3 := Lib.hid (HK2.out.trans hk (by simp))
    have HX3 := Lib.hid (HX.out.keep hk)
    have HR3 := Lib.hid (HR2.out.keep hk (by simp))
    clear hk KO HX HR2 HK2
    cases ho : opZ s with
    | none =>
      have HE := Lib.hid (readC_none (t := t) ho)
      rw [show (none : Option Nat).isSome = false from rfl]
      clear ho
      generalize opN s = op
      go_wp2_with fail
      refine ⟨rfl, HK3.out, ?_⟩
      rw [HE.out]
      rfl
    | some op =>
      have HE := Lib.hid (readC_some (t := t) ho)
      have hon : opN s = op := by unfold opN; rw [ho]; rfl
      rw [hon, show (some op).isSome = true from rfl]
      clear ho hon
      go_upto_region 5 with fail
      have HC0 : Hid (CaR w0 w (y.alloc (.cells #[.int .i64 (op : Nat), .int .i64 0, .int .i64 0, .int .i64 0, .int .i64 0] 26)) wb rb y.heap.size ⟨(op : Nat), 0, 0, 0, 0⟩ t) := Lib.hid ⟨HX3.out.keep ((Keep.refl [] y).alloc _), HK3.out.alloc _, Blk.new y _ _, HR3.out.alloc _, fun e => by have := HR3.out.lt; omega, HK3.out.size, HN0.out, HLW.out⟩
      generalize y.heap.size = cb at HC0 ⊢
      generalize y.alloc _ = w4 at HC0 ⊢
      clear HX3 HK3 HR3
      have KF := Lib.hid (text_fields ⟨(op : Nat), 0, 0, 0, 0⟩ cb w4 HC0.out.b)
      unfold FieldsOut at KF
      dsimp only at KF
      have HPC : Hid (posC ((op : Nat) : Int) = idxC ((op : Nat) : Int) ++ if ((op : Nat) : Int) = 3 then [4] else []) := Lib.hid rfl
      have HIX : Hid ((idxC ((op : Nat) : Int)).length ≤ 2 ∧ ∀ k, k < (idxC ((op : Nat) : Int)).length → 1 ≤ (idxC ((op : Nat) : Int)).getD k 0 ∧ (idxC ((op : Nat) : Int)).getD k 0 ≤ 3) := Lib.hid (by
        unfold idxC
        split
        · exact ⟨by decide, by decide⟩
        · split
          · exact ⟨by decide, by decide⟩
          · split
            · exact ⟨by decide, by decide⟩
            · exact ⟨by decide, by decide⟩)
      generalize idxC ((op : Nat) : Int) = ix at *
      generalize posC ((op : Nat) : Int) = ps at *
      go_wp2_with fail
      refine KF.out.mono ?_
      rintro r x ⟨hk, A, cap, rfl, hptr⟩
      have HC1 := Lib.hid (HC0.out.next (hk.mono (by simp)) (HC0.out.wd.keep hk))
      have HPT := Lib.hid hptr
      clear hk hptr KF HC0
      have hn0 : ((ix.length : Nat) : Int) ≤ 2 := by have := HIX.out.1; omega
      obtain ⟨g, cs, HG⟩ : ∃ g cs, Hid (0 < ix.length → A = some ⟨g, 0, none⟩ ∧ Blk x g 85 cs ∧ ∀ k, k < ix.length → cs[k]? = some (.pointer (some ⟨cb, ix.getD k 0, none⟩))) := by
        by_cases h0 : 0 < ix.length
        · obtain ⟨g, cs, h1, h2, h3⟩ := HPT.out h0
          exact ⟨g, cs, Lib.hid (fun _ => ⟨h1, h2, h3⟩)⟩
        · exact ⟨0, #[], Lib.hid (fun h => absurd h h0)⟩
      clear HPT
      have HOUT : Hid (∀ (W : World) (e : Ending), Keep [wb] w W → (match readC (s :: t) with | .ok c => e = .returned (.agg c.cells) | .error k => e = panE k) → CallOut w wb (s :: t) e W) := Lib.hid (fun W e h1 h2 => ⟨h1, h2⟩)
      generalize readC (s :: t) = rr at *
      go_wp2_with fail
      go_loopg [21] ix.length (fun gq v21 wr => ∃ (k : Nat) (c2 : CallX) (ws2 : List (List UInt8)), k ≤ ix.length ∧ gq = ix.length - k ∧ v21 = .int .i64 (k : Nat) ∧ CaR w0 w wr wb rb cb c2 ws2 ∧ (0 < ix.length → Blk wr g 85 cs) ∧ restC c2 (ps.drop k) ws2 = rr)
      case atStart => exact ⟨0, _, t, Nat.zero_le _, rfl, rfl, HC1.out, fun h0 => (HG.out h0).2.1, by rw [HE.out]; rfl⟩
      case round =>
        obtain ⟨k, c2, ws2, hk, rfl, rfl, hc, hg, hre⟩ := hrel
        have HC := Lib.hid hc
        have HGB := Lib.hid hg
        have HRE := Lib.hid hre
        have hk0 : (0 : Int) ≤ ((k : Nat) : Int) := by omega
        have hk2 : ((k : Nat) : Int) ≤ 2 := by omega
        clear hc hg hre HC1
        have KN := Lib.hid (words_number w0 wr wb ws2 HC.out.wd HT.out)
        unfold NumbOut panE at KN
        by_cases hlt : k < ix.length
        · have hz : ((k : Nat) : Int) < ((ix.length : Nat) : Int) := by omega
          obtain ⟨hA, _, hcs⟩ := HG.out (by omega)
          subst hA
          have hgb := HGB.out (by omega)
          have hp : wr.cell? ⟨g, k, none⟩ = some (.pointer (some ⟨cb, ix.getD k 0, none⟩)) := (hgb.cell k).trans (hcs k hlt)
          have hi := HIX.out.2 k hlt
          have HDR : Hid (ps.drop k = ix.getD k 0 :: ps.drop (k + 1)) := Lib.hid (by
            have hl : k < ps.length := by rw [HPC.out, List.length_append]; omega
            rw [List.drop_eq_getElem_cons hl]
            congr 1
            rw [List.getD_eq_getElem?_getD, List.getElem?_eq_getElem hlt]
            simp only [HPC.out, Option.getD_some]
            rw [List.getElem_append_left hlt])
          rw [HDR.out] at HRE
          have HLT := Lib.hid hlt
          have HI : Hid (ix.getD k 0 = 1 ∨ ix.getD k 0 = 2 ∨ ix.getD k 0 = 3 ∨ ix.getD k 0 = 4) := Lib.hid (by omega)
          have hge : wb ≠ g := fun e => by
            obtain ⟨A, cap, g1, cs1, h1, _⟩ := HC.out.wd.row
            exact (h1.ne_ hgb (by decide)) e
          have HGE := Lib.hid hge
          have HGC : Hid (g ≠ cb) := Lib.hid (hgb.ne_ HC.out.b (by decide))
          have HHB := Lib.hid hgb
          clear hgb hlt hcs hi hge
          generalize ix.getD k 0 = i at *
          cases ws2 with
          | nil =>
            have HED : Hid (restC c2 (i :: ps.drop (k + 1)) [] = .error 4) := Lib.hid rfl
            go_wp2_with fail
            refine KN.out.mono ?_
            rintro r z ⟨hk, rfl⟩
            have HKz := Lib.hid (HC.out.hk.trans hk (by simp))
            clear hk
            go_wp2_with fail
            refine ⟨rfl, HOUT.out _ _ HKz.out ?_⟩
            rw [← HRE.out, HED.out]
            rfl
          | cons s2 t2 =>
            cases hpz : parseZ s2 with
            | none =>
              have HED := Lib.hid (restC_bad c2 i (ps.drop (k + 1)) t2 hpz)
              dsimp only at KN
              rw [hpz] at KN
              clear hpz
              go_wp2_with fail
              refine KN.out.mono ?_
              rintro r z ⟨hk, rfl⟩
              have HKz := Lib.hid (HC.out.hk.trans hk (by simp))
              clear hk
              go_wp2_with fail
              refine ⟨rfl, HOUT.out _ _ HKz.out ?_⟩
              rw [← HRE.out, HED.out]
              rfl
            | some n =>
              have HED := Lib.hid (restC_step c2 i (ps.drop (k + 1)) t2 hpz)
              dsimp only at KN
              rw [hpz] at KN
              clear hpz
              go_wp2_with fail
              refine KN.out.mono ?_
              rintro r z ⟨hk, rfl, hwd⟩
              have HC2 := Lib.hid (HC.out.next hk hwd)
              have HG2 := Lib.hid (HHB.out.keep hk (by have := HGE.out; simp; exact fun e => this e.symm))
              clear hk hwd KN hp
              have hcell : z.cell? ⟨cb, i, none⟩ = c2.cells[i]? := HC2.out.b.cell i
              obtain ⟨vq, hvq⟩ : ∃ v, c2.cells[i]? = some v := by
                rcases HI.out with rfl | rfl | rfl | rfl <;> exact ⟨_, rfl⟩
              rw [hvq] at hcell
              have hfz := HC2.out.b.frozen i
              have HC3 := Lib.hid (HC2.out.put (put_cells c2 HI.out n))
              have HG3 := Lib.hid (HG2.out.far (p := ⟨cb, i, none⟩) HGC.out (.int .i64 n))
              clear hvq
              go_wp2_with fail
              go_roundg (ix.length - (k + 1))
              case measure => have := HLT.out; omega
              case rel => exact ⟨k + 1, _, t2, HLT.out, rfl, by go_num, HC3.out, fun _ => HG3.out, by rw [← HRE.out, HED.out]⟩
        · have hz : ¬ ((k : Nat) : Int) < ((ix.length : Nat) : Int) := by omega
          obtain rfl : k = ix.length := by omega
          rw [HPC.out, List.drop_left] at HRE
          clear hlt
          by_cases h3 : ((op : Nat) : Int) = 3
          · have e3 : (((op : Nat) : Int) == 3) = true := by rw [h3]; rfl
            rw [if_pos h3] at HRE
            clear h3
            cases ws2 with
            | nil =>
              rw [restC_none] at HRE
              go_wp2_with fail
              refine KN.out.mono ?_
              rintro r z ⟨hk, rfl⟩
              have HKz := Lib.hid (HC.out.hk.trans hk (by simp))
              clear hk
              go_wp2_with fail
              refine ⟨rfl, HOUT.out _ _ HKz.out ?_⟩
              rw [← HRE.out]
              rfl
            | cons s2 t2 =>
              cases hpz : parseZ s2 with
              | none =>
                rw [restC_bad _ _ _ _ hpz] at HRE
                dsimp only at KN
                rw [hpz] at KN
                clear hpz
                go_wp2_with fail
                refine KN.out.mono ?_
                rintro r z ⟨hk, rfl⟩
                have HKz := Lib.hid (HC.out.hk.trans hk (by simp))
                clear hk
                go_wp2_with fail
                refine ⟨rfl, HOUT.out _ _ HKz.out ?_⟩
                rw [← HRE.out]
                rfl
              | some n =>
                rw [restC_step _ _ _ _ hpz, restC_end] at HRE
                dsimp only at KN
                rw [hpz] at KN
                clear hpz
                go_wp2_with fail
                refine KN.out.mono ?_
                rintro r z ⟨hk, rfl, hwd⟩
                have HC2 := Lib.hid (HC.out.next hk hwd)
                clear hk hwd
                have hcell : z.cell? ⟨cb, 4, none⟩ = some (.int .i64 c2.lim) := HC2.out.b.cell 4
                have hfz := HC2.out.b.frozen 4
                have HC3 := Lib.hid (HC2.out.put (put_cells c2 (.inr (.inr (.inr rfl))) n))
                go_upto_region 12 with fail
                generalize z.setCell _ _ = w6 at HC3 ⊢
                clear hcell hfz
                generalize c2.put 4 n = c3 at HC3 HRE
                have KE := Lib.hid (words_end w0 w6 wb t2 HC3.out.wd)
                unfold panE at KE
                clear KN
                by_cases hws : t2 = []
                · rw [if_pos hws] at KE HRE
                  have hd0 : w6.cell? ⟨cb, 0, none⟩ = some (.int .i64 c3.op) := HC3.out.b.cell 0
                  have hr0 : w6.cell? ⟨rb, 0, none⟩ = some (.int .i64 0) := HC3.out.r.cell 0
                  have hf0 := HC3.out.r.frozen 0
                  have hd1 : w6.cell? ⟨cb, 1, none⟩ = some (.int .i64 c3.key) := HC3.out.b.cell 1
                  have hr1 : w6.cell? ⟨rb, 1, none⟩ = some (.int .i64 0) := HC3.out.r.cell 1
                  have hf1 := HC3.out.r.frozen 1
                  have hd2 : w6.cell? ⟨cb, 2, none⟩ = some (.int .i64 c3.val) := HC3.out.b.cell 2
                  have hr2 : w6.cell? ⟨rb, 2, none⟩ = some (.int .i64 0) := HC3.out.r.cell 2
                  have hf2 := HC3.out.r.frozen 2
                  have hd3 : w6.cell? ⟨cb, 3, none⟩ = some (.int .i64 c3.hi) := HC3.out.b.cell 3
                  have hr3 : w6.cell? ⟨rb, 3, none⟩ = some (.int .i64 0) := HC3.out.r.cell 3
                  have hf3 := HC3.out.r.frozen 3
                  have hd4 : w6.cell? ⟨cb, 4, none⟩ = some (.int .i64 c3.lim) := HC3.out.b.cell 4
                  have hr4 : w6.cell? ⟨rb, 4, none⟩ = some (.int .i64 0) := HC3.out.r.cell 4
                  have hf4 := HC3.out.r.frozen 4
                  clear hws
                  go_wp2_with fail
                  refine KE.out.mono ?_
                  rintro r z ⟨rfl, rfl⟩
                  go_wp2_with fail
                  exact bodyPost_ret (results_cell_row (p := 2) (ty := 26) rfl _ _ rb _ _ _ _ rfl (store5 HC3.out.r _ _ _ _ _) Tryd.underlying26 rfl (by kernel_rfl)) rfl (HOUT.out _ _ (keep5 HC3.out.hk (Nat.le_of_eq HRN.out) _ _ _ _ _) (by rw [← HRE.out]; rfl))
                · rw [if_neg hws] at KE HRE
                  clear hws
                  go_wp2_with fail
                  refine KE.out.mono ?_
                  rintro r z ⟨rfl, rfl⟩
                  go_wp2_with fail
                  refine ⟨rfl, HOUT.out _ _ HC3.out.hk ?_⟩
                  rw [← HRE.out]
                  rfl
          · have e3 : (((op : Nat) : Int) == 3) = false := by rw [beq_eq_false_iff_ne]; exact h3
            rw [if_neg h3, restC_end] at HRE
            have KE := Lib.hid (words_end w0 wr wb ws2 HC.out.wd)
            unfold panE at KE
            clear h3 KN
            by_cases hws : ws2 = []
            · rw [if_pos hws] at KE HRE
              have hd0 : wr.cell? ⟨cb, 0, none⟩ = some (.int .i64 c2.op) := HC.out.b.cell 0
              have hr0 : wr.cell? ⟨rb, 0, none⟩ = some (.int .i64 0) := HC.out.r.cell 0
              have hf0 := HC.out.r.frozen 0
              have hd1 : wr.cell? ⟨cb, 1, none⟩ = some (.int .i64 c2.key) := HC.out.b.cell 1
              have hr1 : wr.cell? ⟨rb, 1, none⟩ = some (.int .i64 0) := HC.out.r.cell 1
              have hf1 := HC.out.r.frozen 1
              have hd2 : wr.cell? ⟨cb, 2, none⟩ = some (.int .i64 c2.val) := HC.out.b.cell 2
              have hr2 : wr.cell? ⟨rb, 2, none⟩ = some (.int .i64 0) := HC.out.r.cell 2
              have hf2 := HC.out.r.frozen 2
              have hd3 : wr.cell? ⟨cb, 3, none⟩ = some (.int .i64 c2.hi) := HC.out.b.cell 3
              have hr3 : wr.cell? ⟨rb, 3, none⟩ = some (.int .i64 0) := HC.out.r.cell 3
              have hf3 := HC.out.r.frozen 3
              have hd4 : wr.cell? ⟨cb, 4, none⟩ = some (.int .i64 c2.lim) := HC.out.b.cell 4
              have hr4 : wr.cell? ⟨rb, 4, none⟩ = some (.int .i64 0) := HC.out.r.cell 4
              have hf4 := HC.out.r.frozen 4
              clear hws
              go_wp2_with fail
              refine KE.out.mono ?_
              rintro r z ⟨rfl, rfl⟩
              go_wp2_with fail
              exact bodyPost_ret (results_cell_row (p := 2) (ty := 26) rfl _ _ rb _ _ _ _ rfl (store5 HC.out.r _ _ _ _ _) Tryd.underlying26 rfl (by kernel_rfl)) rfl (HOUT.out _ _ (keep5 HC.out.hk (Nat.le_of_eq HRN.out) _ _ _ _ _) (by rw [← HRE.out]; rfl))
            · rw [if_neg hws] at KE HRE
              clear hws
              go_wp2_with fail
              refine KE.out.mono ?_
              rintro r z ⟨rfl, rfl⟩
              go_wp2_with fail
              refine ⟨rfl, HOUT.out _ _ HC.out.hk ?_⟩
              rw [← HRE.out]
              rfl
end Go.Proofs.YtpbbpannimlldaaDoor
