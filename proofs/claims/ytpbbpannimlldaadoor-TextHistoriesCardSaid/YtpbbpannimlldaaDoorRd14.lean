/- text.event by its contract. Conditions: the library's tables and errors are as they were laid; at most 20000 bytes. -/
import Derived.Test.YtpbbpannimlldaaDoorRd7
import Derived.Test.YtpbbpannimlldaaDoorRdH
namespace Go.Proofs.YtpbbpannimlldaaDoor
open Go.RowKit

def EvOut (s : List UInt8) (w : World) (r : Ending) (w' : World) : Prop := Keep [] w w' ∧ match evR s with
  | .ok e => ∃ A cap, r = .returned (.agg #[.int .i64 e.thr, .bool e.back, .int .i64 e.c.op, .int .i64 e.c.key, .int .i64 e.c.val, .int .i64 e.c.hi, .int .i64 e.c.lim, .int .i64 e.a.kind, .int .i64 e.a.key, .int .i64 e.a.val, .int .i64 e.a.n, .slice A e.a.ps.length cap]) ∧ w'.ownsRow w.heap.size 51 2 (.slice A e.a.ps.length cap) e.a.ps.length (e.a.ps.flatMap pairC)
  | .error k => r = panE k
theorem three_of {α : Type} {l : List α} (h : ¬ l.length < 3) : ∃ a b c r, l = a :: b :: c :: r := by
  match l with
  | [] => simp at h
  | [_] => simp at h
  | [_, _] => simp at h
  | a :: b :: c :: r => exact ⟨a, b, c, r, rfl⟩
theorem store12 {w : World} {rb : Nat} {t : TypeId} {a0 a1 a2 a3 a4 a5 a6 a7 a8 a9 a10 a11 : Value} (hb : Blk w rb t #[a0, a1, a2, a3, a4, a5, a6, a7, a8, a9, a10, a11]) (v0 v1 v2 v3 v4 v5 v6 v7 v8 v9 v10 v11 : Value) : Blk ((((((((((((w.setCell ⟨rb, 0, none⟩ v0).setCell ⟨rb, 1, none⟩ v1).setCell ⟨rb, 2, none⟩ v2).setCell ⟨rb, 3, none⟩ v3).setCell ⟨rb, 4, none⟩ v4).setCell ⟨rb, 5, none⟩ v5).setCell ⟨rb, 6, none⟩ v6).setCell ⟨rb, 7, none⟩ v7).setCell ⟨rb, 8, none⟩ v8).setCell ⟨rb, 9, none⟩ v9).setCell ⟨rb, 10, none⟩ v10).setCell ⟨rb, 11, none⟩ v11) rb t #[v0, v1, v2, v3, v4, v5, v6, v7, v8, v9, v10, v11] := by
  have h := ((((((((((((hb.set_ 0 v0).set_ 1 v1).set_ 2 v2).set_ 3 v3).set_ 4 v4).set_ 5 v5).set_ 6 v6).set_ 7 v7).set_ 8 v8).set_ 9 v9).set_ 10 v10).set_ 11 v11)
  simp only [List.setIfInBounds_toArray, List.set_cons_zero, List.set_cons_succ] at h
  exact h
theorem keep12 {S : List Nat} {w0 w : World} {rb : Nat} (hk : Keep S w0 w) (h : rb ∈ S ∨ w0.heap.size ≤ rb) (v0 v1 v2 v3 v4 v5 v6 v7 v8 v9 v10 v11 : Value) : Keep S w0 ((((((((((((w.setCell ⟨rb, 0, none⟩ v0).setCell ⟨rb, 1, none⟩ v1).setCell ⟨rb, 2, none⟩ v2).setCell ⟨rb, 3, none⟩ v3).setCell ⟨rb, 4, none⟩ v4).setCell ⟨rb, 5, none⟩ v5).setCell ⟨rb, 6, none⟩ v6).setCell ⟨rb, 7, none⟩ v7).setCell ⟨rb, 8, none⟩ v8).setCell ⟨rb, 9, none⟩ v9).setCell ⟨rb, 10, none⟩ v10).setCell ⟨rb, 11, none⟩ v11) := ((((((((((((hk.set_ (p := ⟨rb, 0, none⟩) v0 h).set_ (p := ⟨rb, 1, none⟩) v1 h).set_ (p := ⟨rb, 2, none⟩) v2 h).set_ (p := ⟨rb, 3, none⟩) v3 h).set_ (p := ⟨rb, 4, none⟩) v4 h).set_ (p := ⟨rb, 5, none⟩) v5 h).set_ (p := ⟨rb, 6, none⟩) v6 h).set_ (p := ⟨rb, 7, none⟩) v7 h).set_ (p := ⟨rb, 8, none⟩) v8 h).set_ (p := ⟨rb, 9, none⟩) v9 h).set_ (p := ⟨rb, 10, none⟩) v10 h).set_ (p := ⟨rb, 11, none⟩) v11 h)
def evC0 : Array Value := #[.int .i64 0, .bool false, .int .i64 0, .int .i64 0, .int .i64 0, .int .i64 0, .int .i64 0, .int .i64 0, .int .i64 0, .int .i64 0, .int .i64 0, .slice none 0 0]
set_option maxRecDepth 100000 in
set_option maxHeartbeats 8000000 in
theorem text_eventR (s : List UInt8) (w : World) (hs : s.length ≤ 20000) (ht : TabsOk w) : Calls Tryd.prog 34 #[.string ⟨s.toArray⟩] w (EvOut s w) := by
  have HOUT : Hid (∀ (r : Ending) (W : World), Keep [] w W → (match evR s with
    | .ok e => ∃ A cap, r = .returned (.agg #[.int .i64 e.thr, .bool e.back, .int .i64 e.c.op, .int .i64 e.c.key, .int .i64 e.c.val, .int .i64 e.c.hi, .int .i64 e.c.lim, .int .i64 e.a.kind, .int .i64 e.a.key, .int .i64 e.a.val, .int .i64 e.a.n, .slice A e.a.ps.length cap]) ∧ W.ownsRow w.heap.size 51 2 (.slice A e.a.ps.length cap) e.a.ps.length (e.a.ps.flatMap pairC)
    | .error k => r = panE k) → EvOut s w r W) := Lib.hid (fun r W h1 h2 => ⟨h1, h2⟩)
  have HRB := Lib.hid (Blk.new w 45 evC0)
  have HK1 := Lib.hid ((Keep.refl [] w).alloc (.cells evC0 45))
  rw [show evC0 = #[.int .i64 0, .bool false, .int .i64 0, .int .i64 0, .int .i64 0, .int .i64 0, .int .i64 0, .int .i64 0, .int .i64 0, .int .i64 0, .int .i64 0, .slice none 0 0] from rfl] at HRB HK1
  have HT := Lib.hid (ht.keep HK1.out)
  have KO := Lib.hid (fun (W : World) (h : TabsOk W) => text_of s W hs h)
  clear ht hs
  go_enter Tryd.func34, Tryd.ntmps34
  go_upto_region 1 with fail
  generalize hrb : w.heap.size = rb at HRB ⊢
  have HRN := Lib.hid hrb
  clear hrb
  generalize w.alloc _ = w1 at HRB HK1 HT ⊢
  go_wp2_with fail
  refine (KO.out _ HT.out).mono ?_
  rintro r w2 ⟨wb, rfl, hw⟩
  have HW2 := Lib.hid hw
  have HK2 := Lib.hid (HK1.out.trans hw.hk (by simp))
  have HR2 := Lib.hid (HRB.out.keep hw.hk (by simp))
  obtain ⟨A, cap, g, cs, hb, _⟩ := hw.row
  have hc0 : w2.cell? ⟨wb, 0, none⟩ = some (.slice A (cutZ 32 s).length cap) := hb.cell 0
  have HWR : Hid (w1.heap.size ≤ wb) := Lib.hid hw.new
  have HNE : Hid (rb ≠ wb) := Lib.hid (by have := HRB.out.lt; have := hw.new; omega)
  have HWN : Hid (w.heap.size ≤ wb) := Lib.hid (Nat.le_trans HK1.out.size hw.new)
  clear hw hb KO HRB HK1
  have HEV : Hid (evR s = evW (cutZ 32 s)) := Lib.hid rfl
  generalize cutZ 32 s = ws at *
  by_cases h3 : ws.length < 3
  · have hz : ((ws.length : Nat) : Int) < 3 := by omega
    have HE := Lib.hid (HEV.out.trans (evW_few h3))
    clear h3
    go_wp2_with fail
    refine ⟨rfl, HOUT.out _ _ HK2.out ?_⟩
    rw [HE.out]
    rfl
  obtain ⟨f, n, x, rest, rfl⟩ := three_of h3
  have hz : ¬ (((f :: n :: x :: rest).length : Nat) : Int) < 3 := by simp; omega
  clear h3
  have KX := Lib.hid (words_next w1 w2 wb (f :: n :: x :: rest) HW2.out)
  unfold NextOut at KX
  go_wp2_with fail
  refine KX.out.mono ?_
  rintro r w3 ⟨hk, rfl, hx⟩
  have HW3 := Lib.hid hx
  have HK3 := Lib.hid (HK2.out.trans hk (fun y hy => .inr (by rw [List.mem_singleton.1 hy]; exact HWN.out)))
  have HR3 := Lib.hid (HR2.out.keep hk (by have := HNE.out; simpa using this))
  clear hk hx hc0 hz KX HW2 HK2 HR2
  have KN := Lib.hid (words_number w1 w3 wb (n :: x :: rest) HW3.out HT.out)
  unfold NumbOut panE at KN
  dsimp only at KN
  cases hp : parseZ n with
  | none =>
    have HE := Lib.hid (HEV.out.trans (evW_bad hp))
    rw [hp] at KN
    clear hp HEV
    go_wp2_with fail
    refine KN.out.mono ?_
    rintro r w4 ⟨hk, rfl⟩
    have HK4 := Lib.hid (HK3.out.trans hk (fun y hy => .inr (by rw [List.mem_singleton.1 hy]; exact HWN.out)))
    clear hk KN
    go_wp2_with fail
    refine ⟨rfl, HOUT.out _ _ HK4.out ?_⟩
    rw [HE.out]
    rfl
  | some tn =>
    have HPN := Lib.hid hp
    rw [hp] at KN
    clear hp
    obtain ⟨bk, hbk⟩ : ∃ b, (f == backB) = b := ⟨_, rfl⟩
    have hb : (f == [98, 97, 99, 107]) = bk := hbk
    have HBK := Lib.hid hbk
    clear hbk
    go_wp2_with fail
    refine KN.out.mono ?_
    rintro r w4 ⟨hk, rfl, hx⟩
    have HW4 := Lib.hid hx
    have HK4 := Lib.hid (HK3.out.trans hk (fun y hy => .inr (by rw [List.mem_singleton.1 hy]; exact HWN.out)))
    have HR4 := Lib.hid (HR3.out.keep hk (by have := HNE.out; simpa using this))
    clear hk hx KN HW3 HK3 HR3
    cases bk with
    | true =>
      have hfb : f = backB := by simpa using HBK.out
      have HE := Lib.hid (HEV.out.trans (evW_back HPN.out hfb))
      clear hfb HEV
      have HNB : Hid (wb ≠ w4.heap.size) := Lib.hid (by obtain ⟨A, cap, g, cs, g1, _⟩ := HW4.out.row; have := g1.lt; omega)
      have HRE : Hid (rb ≠ w4.heap.size) := Lib.hid (by have := HR4.out.lt; omega)
      have HWE : Hid (w.heap.size ≤ w4.heap.size) := Lib.hid HK4.out.size
      have hka := (Keep.refl [] w4).alloc (.cells #[.int .i64 tn, .bool true, .int .i64 0, .int .i64 0, .int .i64 0, .int .i64 0, .int .i64 0, .int .i64 0, .int .i64 0, .int .i64 0, .int .i64 0, .slice none 0 0] 45)
      have HE5 := Lib.hid (Blk.new w4 45 #[.int .i64 tn, .bool true, .int .i64 0, .int .i64 0, .int .i64 0, .int .i64 0, .int .i64 0, .int .i64 0, .int .i64 0, .int .i64 0, .int .i64 0, .slice none 0 0])
      have HW5 := Lib.hid (HW4.out.keep hka)
      have HK5 := Lib.hid (HK4.out.trans hka (by simp))
      have HR5 := Lib.hid (HR4.out.keep hka (by simp))
      clear hka HW4 HK4 HR4
      go_upto_region 7 with fail
      generalize w4.heap.size = eb at HE5 HNB HRE HWE ⊢
      generalize w4.alloc _ = w5 at HE5 HW5 HK5 HR5 ⊢
      have he1 : w5.cell? ⟨eb, 1, none⟩ = some (.bool true) := HE5.out.cell 1
      have KA := Lib.hid (words_answer w1 w5 wb (x :: rest) HW5.out HT.out)
      unfold AnsOut panE at KA
      cases hr : readA (x :: rest) with
      | error k =>
        rw [hr] at KA HE
        clear hr
        go_wp2_with fail
        refine KA.out.mono ?_
        rintro r w6 ⟨hk, rfl⟩
        have HK6 := Lib.hid (HK5.out.trans hk (fun y hy => .inr (by rw [List.mem_singleton.1 hy]; exact HWN.out)))
        clear hk KA
        go_wp2_with fail
        refine ⟨rfl, HOUT.out _ _ HK6.out ?_⟩
        rw [HE.out]
        rfl
      | ok a =>
        rw [hr] at KA HE
        clear hr
        go_wp2_with fail
        refine KA.out.mono ?_
        rintro r w6 ⟨hk, A2, c2, rfl, ho⟩
        have HE6 := Lib.hid (HE5.out.keep hk (by have := HNB.out; simp; exact fun h => this h.symm))
        have HR6 := Lib.hid (HR5.out.keep hk (by have := HNE.out; simpa using this))
        have HK6 := Lib.hid (HK5.out.trans hk (fun y hy => .inr (by rw [List.mem_singleton.1 hy]; exact HWN.out)))
        have HO6 := Lib.hid (own_more ho HK5.out.size)
        clear hk ho KA he1 HW5 HK5 HR5 HE5
        have he0 : w6.cell? ⟨eb, 0, none⟩ = some (.int .i64 tn) := HE6.out.cell 0
        have hef0 := HE6.out.frozen 0
        have he1 : w6.cell? ⟨eb, 1, none⟩ = some (.bool true) := HE6.out.cell 1
        have hef1 := HE6.out.frozen 1
        have he2 : w6.cell? ⟨eb, 2, none⟩ = some (.int .i64 0) := HE6.out.cell 2
        have hef2 := HE6.out.frozen 2
        have he3 : w6.cell? ⟨eb, 3, none⟩ = some (.int .i64 0) := HE6.out.cell 3
        have hef3 := HE6.out.frozen 3
        have he4 : w6.cell? ⟨eb, 4, none⟩ = some (.int .i64 0) := HE6.out.cell 4
        have hef4 := HE6.out.frozen 4
        have he5 : w6.cell? ⟨eb, 5, none⟩ = some (.int .i64 0) := HE6.out.cell 5
        have hef5 := HE6.out.frozen 5
        have he6 : w6.cell? ⟨eb, 6, none⟩ = some (.int .i64 0) := HE6.out.cell 6
        have hef6 := HE6.out.frozen 6
        have he7 : w6.cell? ⟨eb, 7, none⟩ = some (.int .i64 0) := HE6.out.cell 7
        have hef7 := HE6.out.frozen 7
        have he8 : w6.cell? ⟨eb, 8, none⟩ = some (.int .i64 0) := HE6.out.cell 8
        have hef8 := HE6.out.frozen 8
        have he9 : w6.cell? ⟨eb, 9, none⟩ = some (.int .i64 0) := HE6.out.cell 9
        have hef9 := HE6.out.frozen 9
        have he10 : w6.cell? ⟨eb, 10, none⟩ = some (.int .i64 0) := HE6.out.cell 10
        have hef10 := HE6.out.frozen 10
        have he11 : w6.cell? ⟨eb, 11, none⟩ = some (.slice none 0 0) := HE6.out.cell 11
        have hef11 := HE6.out.frozen 11
        go_upto_region 11 with fail
        have HE7 : Hid (Blk _ eb 45 #[.int .i64 tn, .bool true, .int .i64 0, .int .i64 0, .int .i64 0, .int .i64 0, .int .i64 0, .int .i64 a.kind, .int .i64 a.key, .int .i64 a.val, .int .i64 a.n, .slice A2 a.ps.length c2]) := Lib.hid (((((HE6.out.set_ 7 (.int .i64 a.kind)).set_ 8 (.int .i64 a.key)).set_ 9 (.int .i64 a.val)).set_ 10 (.int .i64 a.n)).set_ 11 (.slice A2 a.ps.length c2))
        have HR7 := Lib.hid (((((HR6.out.far (p := ⟨eb, 7, none⟩) HRE.out (.int .i64 a.kind)).far (p := ⟨eb, 8, none⟩) HRE.out (.int .i64 a.key)).far (p := ⟨eb, 9, none⟩) HRE.out (.int .i64 a.val)).far (p := ⟨eb, 10, none⟩) HRE.out (.int .i64 a.n)).far (p := ⟨eb, 11, none⟩) HRE.out (.slice A2 a.ps.length c2))
        have HK7 := Lib.hid (((((HK6.out.set_ (p := ⟨eb, 7, none⟩) (.int .i64 a.kind) (.inr HWE.out)).set_ (p := ⟨eb, 8, none⟩) (.int .i64 a.key) (.inr HWE.out)).set_ (p := ⟨eb, 9, none⟩) (.int .i64 a.val) (.inr HWE.out)).set_ (p := ⟨eb, 10, none⟩) (.int .i64 a.n) (.inr HWE.out)).set_ (p := ⟨eb, 11, none⟩) (.slice A2 a.ps.length c2) (.inr HWE.out))
        have HO7 := Lib.hid (own_keep HO6.out ((((((Keep.refl [eb] w6).set_ (p := ⟨eb, 7, none⟩) (.int .i64 a.kind) (.inl (List.mem_singleton.2 rfl))).set_ (p := ⟨eb, 8, none⟩) (.int .i64 a.key) (.inl (List.mem_singleton.2 rfl))).set_ (p := ⟨eb, 9, none⟩) (.int .i64 a.val) (.inl (List.mem_singleton.2 rfl))).set_ (p := ⟨eb, 10, none⟩) (.int .i64 a.n) (.inl (List.mem_singleton.2 rfl))).set_ (p := ⟨eb, 11, none⟩) (.slice A2 a.ps.length c2) (.inl (List.mem_singleton.2 rfl))) (fun g hg hm => own_ne HO6.out HE6.out (by decide) (by rw [hg, List.mem_singleton.1 hm])))
        generalize World.setCell _ ⟨eb, 11, none⟩ _ = w7 at HE7 HR7 HK7 HO7 ⊢
        clear he0 hef0 he1 hef1 he2 hef2 he3 hef3 he4 hef4 he5 hef5 he6 hef6 he7 hef7 he8 hef8 he9 hef9 he10 hef10 he11 hef11 HE6 HR6 HK6 HO6
        have he0 : w7.cell? ⟨eb, 0, none⟩ = some (.int .i64 tn) := HE7.out.cell 0
        have he1 : w7.cell? ⟨eb, 1, none⟩ = some (.bool true) := HE7.out.cell 1
        have he2 : w7.cell? ⟨eb, 2, none⟩ = some (.int .i64 0) := HE7.out.cell 2
        have he3 : w7.cell? ⟨eb, 3, none⟩ = some (.int .i64 0) := HE7.out.cell 3
        have he4 : w7.cell? ⟨eb, 4, none⟩ = some (.int .i64 0) := HE7.out.cell 4
        have he5 : w7.cell? ⟨eb, 5, none⟩ = some (.int .i64 0) := HE7.out.cell 5
        have he6 : w7.cell? ⟨eb, 6, none⟩ = some (.int .i64 0) := HE7.out.cell 6
        have he7 : w7.cell? ⟨eb, 7, none⟩ = some (.int .i64 a.kind) := HE7.out.cell 7
        have he8 : w7.cell? ⟨eb, 8, none⟩ = some (.int .i64 a.key) := HE7.out.cell 8
        have he9 : w7.cell? ⟨eb, 9, none⟩ = some (.int .i64 a.val) := HE7.out.cell 9
        have he10 : w7.cell? ⟨eb, 10, none⟩ = some (.int .i64 a.n) := HE7.out.cell 10
        have he11 : w7.cell? ⟨eb, 11, none⟩ = some (.slice A2 a.ps.length c2) := HE7.out.cell 11
        have hr0 : w7.cell? ⟨rb, 0, none⟩ = some (.int .i64 0) := HR7.out.cell 0
        have hrf0 := HR7.out.frozen 0
        have hr1 : w7.cell? ⟨rb, 1, none⟩ = some (.bool false) := HR7.out.cell 1
        have hrf1 := HR7.out.frozen 1
        have hr2 : w7.cell? ⟨rb, 2, none⟩ = some (.int .i64 0) := HR7.out.cell 2
        have hrf2 := HR7.out.frozen 2
        have hr3 : w7.cell? ⟨rb, 3, none⟩ = some (.int .i64 0) := HR7.out.cell 3
        have hrf3 := HR7.out.frozen 3
        have hr4 : w7.cell? ⟨rb, 4, none⟩ = some (.int .i64 0) := HR7.out.cell 4
        have hrf4 := HR7.out.frozen 4
        have hr5 : w7.cell? ⟨rb, 5, none⟩ = some (.int .i64 0) := HR7.out.cell 5
        have hrf5 := HR7.out.frozen 5
        have hr6 : w7.cell? ⟨rb, 6, none⟩ = some (.int .i64 0) := HR7.out.cell 6
        have hrf6 := HR7.out.frozen 6
        have hr7 : w7.cell? ⟨rb, 7, none⟩ = some (.int .i64 0) := HR7.out.cell 7
        have hrf7 := HR7.out.frozen 7
        have hr8 : w7.cell? ⟨rb, 8, none⟩ = some (.int .i64 0) := HR7.out.cell 8
        have hrf8 := HR7.out.frozen 8
        have hr9 : w7.cell? ⟨rb, 9, none⟩ = some (.int .i64 0) := HR7.out.cell 9
        have hrf9 := HR7.out.frozen 9
        have hr10 : w7.cell? ⟨rb, 10, none⟩ = some (.int .i64 0) := HR7.out.cell 10
        have hrf10 := HR7.out.frozen 10
        have hr11 : w7.cell? ⟨rb, 11, none⟩ = some (.slice none 0 0) := HR7.out.cell 11
        have hrf11 := HR7.out.frozen 11
        go_wp2_with fail
        exact bodyPost_ret (results_cell_row (p := 2) (ty := 45) rfl _ _ rb _ _ _ _ rfl (store12 HR7.out _ _ _ _ _ _ _ _ _ _ _ _) Tryd.underlying45 rfl (by kernel_rfl)) rfl (HOUT.out _ _ (keep12 HK7.out (.inr (Nat.le_of_eq HRN.out)) _ _ _ _ _ _ _ _ _ _ _ _) (by rw [HE.out]; exact ⟨A2, c2, rfl, own_keep HO7.out (keep12 (Keep.refl [rb] _) (.inl (List.mem_singleton.2 rfl)) _ _ _ _ _ _ _ _ _ _ _ _) (fun g hg hm => own_ne HO7.out HR7.out (by decide) (by rw [hg, List.mem_singleton.1 hm]))⟩))
    | false =>
      have hfb : f ≠ backB := by simpa using HBK.out
      obtain ⟨bb, hbb⟩ : ∃ b, (f == beginB) = b := ⟨_, rfl⟩
      have hbg : (f == [98, 101, 103, 105, 110]) = bb := hbb
      have HBB := Lib.hid hbb
      have HFB := Lib.hid hfb
      clear hbb hfb
      have HNB : Hid (wb ≠ w4.heap.size) := Lib.hid (by obtain ⟨A, cap, g, cs, g1, _⟩ := HW4.out.row; have := g1.lt; omega)
      have HRE : Hid (rb ≠ w4.heap.size) := Lib.hid (by have := HR4.out.lt; omega)
      have HWE : Hid (w.heap.size ≤ w4.heap.size) := Lib.hid HK4.out.size
      have hka := (Keep.refl [] w4).alloc (.cells #[.int .i64 tn, .bool false, .int .i64 0, .int .i64 0, .int .i64 0, .int .i64 0, .int .i64 0, .int .i64 0, .int .i64 0, .int .i64 0, .int .i64 0, .slice none 0 0] 45)
      have HE5 := Lib.hid (Blk.new w4 45 #[.int .i64 tn, .bool false, .int .i64 0, .int .i64 0, .int .i64 0, .int .i64 0, .int .i64 0, .int .i64 0, .int .i64 0, .int .i64 0, .int .i64 0, .slice none 0 0])
      have HW5 := Lib.hid (HW4.out.keep hka)
      have HK5 := Lib.hid (HK4.out.trans hka (by simp))
      have HR5 := Lib.hid (HR4.out.keep hka (by simp))
      clear hka HW4 HK4 HR4
      go_upto_region 7 with fail
      generalize w4.heap.size = eb at HE5 HNB HRE HWE ⊢
      generalize w4.alloc _ = w5 at HE5 HW5 HK5 HR5 ⊢
      have he1 : w5.cell? ⟨eb, 1, none⟩ = some (.bool false) := HE5.out.cell 1
      cases bb with
      | false =>
        have HE := Lib.hid (HEV.out.trans (evW_other HFB.out (by simpa using HBB.out)))
        clear HEV
        go_wp2_with fail
        refine ⟨rfl, HOUT.out _ _ HK5.out ?_⟩
        rw [HE.out]
        rfl
      | true =>
        have HE := Lib.hid (HEV.out.trans (evW_begin HPN.out HFB.out (by simpa using HBB.out)))
        clear HEV
        have KA := Lib.hid (words_call w1 w5 wb (x :: rest) HW5.out HT.out)
        unfold CallOut panE at KA
        cases hr : readC (x :: rest) with
        | error k =>
          rw [hr] at KA HE
          clear hr
          go_wp2_with fail
          refine KA.out.mono ?_
          rintro r w6 ⟨hk, rfl⟩
          have HK6 := Lib.hid (HK5.out.trans hk (fun y hy => .inr (by rw [List.mem_singleton.1 hy]; exact HWN.out)))
          clear hk KA
          go_wp2_with fail
          refine ⟨rfl, HOUT.out _ _ HK6.out ?_⟩
          rw [HE.out]
          rfl
        | ok c =>
          rw [hr] at KA HE
          dsimp only at KA HE
          clear hr
          rw [show c.cells = #[.int .i64 c.op, .int .i64 c.key, .int .i64 c.val, .int .i64 c.hi, .int .i64 c.lim] from rfl] at KA
          go_wp2_with fail
          refine KA.out.mono ?_
          rintro r w6 ⟨hk, rfl⟩
          have HE6 := Lib.hid (HE5.out.keep hk (by have := HNB.out; simp; exact fun h => this h.symm))
          have HR6 := Lib.hid (HR5.out.keep hk (by have := HNE.out; simpa using this))
          have HK6 := Lib.hid (HK5.out.trans hk (fun y hy => .inr (by rw [List.mem_singleton.1 hy]; exact HWN.out)))
          clear hk KA he1 HW5 HK5 HR5 HE5
          have he0 : w6.cell? ⟨eb, 0, none⟩ = some (.int .i64 tn) := HE6.out.cell 0
          have hef0 := HE6.out.frozen 0
          have he1 : w6.cell? ⟨eb, 1, none⟩ = some (.bool false) := HE6.out.cell 1
          have hef1 := HE6.out.frozen 1
          have he2 : w6.cell? ⟨eb, 2, none⟩ = some (.int .i64 0) := HE6.out.cell 2
          have hef2 := HE6.out.frozen 2
          have he3 : w6.cell? ⟨eb, 3, none⟩ = some (.int .i64 0) := HE6.out.cell 3
          have hef3 := HE6.out.frozen 3
          have he4 : w6.cell? ⟨eb, 4, none⟩ = some (.int .i64 0) := HE6.out.cell 4
          have hef4 := HE6.out.frozen 4
          have he5 : w6.cell? ⟨eb, 5, none⟩ = some (.int .i64 0) := HE6.out.cell 5
          have hef5 := HE6.out.frozen 5
          have he6 : w6.cell? ⟨eb, 6, none⟩ = some (.int .i64 0) := HE6.out.cell 6
          have hef6 := HE6.out.frozen 6
          have he7 : w6.cell? ⟨eb, 7, none⟩ = some (.int .i64 0) := HE6.out.cell 7
          have hef7 := HE6.out.frozen 7
          have he8 : w6.cell? ⟨eb, 8, none⟩ = some (.int .i64 0) := HE6.out.cell 8
          have hef8 := HE6.out.frozen 8
          have he9 : w6.cell? ⟨eb, 9, none⟩ = some (.int .i64 0) := HE6.out.cell 9
          have hef9 := HE6.out.frozen 9
          have he10 : w6.cell? ⟨eb, 10, none⟩ = some (.int .i64 0) := HE6.out.cell 10
          have hef10 := HE6.out.frozen 10
          have he11 : w6.cell? ⟨eb, 11, none⟩ = some (.slice none 0 0) := HE6.out.cell 11
          have hef11 := HE6.out.frozen 11
          go_upto_region 11 with fail
          have HE7 : Hid (Blk _ eb 45 #[.int .i64 tn, .bool false, .int .i64 c.op, .int .i64 c.key, .int .i64 c.val, .int .i64 c.hi, .int .i64 c.lim, .int .i64 0, .int .i64 0, .int .i64 0, .int .i64 0, .slice none 0 0]) := Lib.hid (((((HE6.out.set_ 2 (.int .i64 c.op)).set_ 3 (.int .i64 c.key)).set_ 4 (.int .i64 c.val)).set_ 5 (.int .i64 c.hi)).set_ 6 (.int .i64 c.lim))
          have HR7 := Lib.hid (((((HR6.out.far (p := ⟨eb, 2, none⟩) HRE.out (.int .i64 c.op)).far (p := ⟨eb, 3, none⟩) HRE.out (.int .i64 c.key)).far (p := ⟨eb, 4, none⟩) HRE.out (.int .i64 c.val)).far (p := ⟨eb, 5, none⟩) HRE.out (.int .i64 c.hi)).far (p := ⟨eb, 6, none⟩) HRE.out (.int .i64 c.lim))
          have HK7 := Lib.hid (((((HK6.out.set_ (p := ⟨eb, 2, none⟩) (.int .i64 c.op) (.inr HWE.out)).set_ (p := ⟨eb, 3, none⟩) (.int .i64 c.key) (.inr HWE.out)).set_ (p := ⟨eb, 4, none⟩) (.int .i64 c.val) (.inr HWE.out)).set_ (p := ⟨eb, 5, none⟩) (.int .i64 c.hi) (.inr HWE.out)).set_ (p := ⟨eb, 6, none⟩) (.int .i64 c.lim) (.inr HWE.out))
          generalize World.setCell _ ⟨eb, 6, none⟩ _ = w7 at HE7 HR7 HK7 ⊢
          clear he0 hef0 he1 hef1 he2 hef2 he3 hef3 he4 hef4 he5 hef5 he6 hef6 he7 hef7 he8 hef8 he9 hef9 he10 hef10 he11 hef11 HE6 HR6 HK6
          have he0 : w7.cell? ⟨eb, 0, none⟩ = some (.int .i64 tn) := HE7.out.cell 0
          have he1 : w7.cell? ⟨eb, 1, none⟩ = some (.bool false) := HE7.out.cell 1
          have he2 : w7.cell? ⟨eb, 2, none⟩ = some (.int .i64 c.op) := HE7.out.cell 2
          have he3 : w7.cell? ⟨eb, 3, none⟩ = some (.int .i64 c.key) := HE7.out.cell 3
          have he4 : w7.cell? ⟨eb, 4, none⟩ = some (.int .i64 c.val) := HE7.out.cell 4
          have he5 : w7.cell? ⟨eb, 5, none⟩ = some (.int .i64 c.hi) := HE7.out.cell 5
          have he6 : w7.cell? ⟨eb, 6, none⟩ = some (.int .i64 c.lim) := HE7.out.cell 6
          have he7 : w7.cell? ⟨eb, 7, none⟩ = some (.int .i64 0) := HE7.out.cell 7
          have he8 : w7.cell? ⟨eb, 8, none⟩ = some (.int .i64 0) := HE7.out.cell 8
          have he9 : w7.cell? ⟨eb, 9, none⟩ = some (.int .i64 0) := HE7.out.cell 9
          have he10 : w7.cell? ⟨eb, 10, none⟩ = some (.int .i64 0) := HE7.out.cell 10
          have he11 : w7.cell? ⟨eb, 11, none⟩ = some (.slice none 0 0) := HE7.out.cell 11
          have hr0 : w7.cell? ⟨rb, 0, none⟩ = some (.int .i64 0) := HR7.out.cell 0
          have hrf0 := HR7.out.frozen 0
          have hr1 : w7.cell? ⟨rb, 1, none⟩ = some (.bool false) := HR7.out.cell 1
          have hrf1 := HR7.out.frozen 1
          have hr2 : w7.cell? ⟨rb, 2, none⟩ = some (.int .i64 0) := HR7.out.cell 2
          have hrf2 := HR7.out.frozen 2
          have hr3 : w7.cell? ⟨rb, 3, none⟩ = some (.int .i64 0) := HR7.out.cell 3
          have hrf3 := HR7.out.frozen 3
          have hr4 : w7.cell? ⟨rb, 4, none⟩ = some (.int .i64 0) := HR7.out.cell 4
          have hrf4 := HR7.out.frozen 4
          have hr5 : w7.cell? ⟨rb, 5, none⟩ = some (.int .i64 0) := HR7.out.cell 5
          have hrf5 := HR7.out.frozen 5
          have hr6 : w7.cell? ⟨rb, 6, none⟩ = some (.int .i64 0) := HR7.out.cell 6
          have hrf6 := HR7.out.frozen 6
          have hr7 : w7.cell? ⟨rb, 7, none⟩ = some (.int .i64 0) := HR7.out.cell 7
          have hrf7 := HR7.out.frozen 7
          have hr8 : w7.cell? ⟨rb, 8, none⟩ = some (.int .i64 0) := HR7.out.cell 8
          have hrf8 := HR7.out.frozen 8
          have hr9 : w7.cell? ⟨rb, 9, none⟩ = some (.int .i64 0) := HR7.out.cell 9
          have hrf9 := HR7.out.frozen 9
          have hr10 : w7.cell? ⟨rb, 10, none⟩ = some (.int .i64 0) := HR7.out.cell 10
          have hrf10 := HR7.out.frozen 10
          have hr11 : w7.cell? ⟨rb, 11, none⟩ = some (.slice none 0 0) := HR7.out.cell 11
          have hrf11 := HR7.out.frozen 11
          go_wp2_with fail
          exact bodyPost_ret (results_cell_row (p := 2) (ty := 45) rfl _ _ rb _ _ _ _ rfl (store12 HR7.out _ _ _ _ _ _ _ _ _ _ _ _) Tryd.underlying45 rfl (by kernel_rfl)) rfl (HOUT.out _ _ (keep12 HK7.out (.inr (Nat.le_of_eq HRN.out)) _ _ _ _ _ _ _ _ _ _ _ _) (by rw [HE.out]; exact ⟨none, 0, rfl, own_nilP⟩))
end Go.Proofs.YtpbbpannimlldaaDoor
