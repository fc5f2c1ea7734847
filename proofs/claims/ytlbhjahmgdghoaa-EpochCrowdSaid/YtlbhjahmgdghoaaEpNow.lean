/- The law's now of stage 18, by its contract; a machine at first is at rest. Condition: the machine in memory, its words as many as the plan has. -/
import Derived.Test.YtlbhjahmgdghoaaEpP3
namespace Go.Proofs.Ytlbhjahmgdghoaa
open Go.RowKit

def actsOf (ws : List Nat) (n : Nat) : List Nat := (List.range n).map fun t => ws.getD (3 + 8 * t) 0
theorem actsOf_succ (ws : List Nat) (n : Nat) : actsOf ws (n + 1) = actsOf ws n ++ [ws.getD (3 + 8 * n) 0] := by simp [actsOf, List.range_succ]
def NowOut (w : World) (e n : Nat) (ws : List Nat) (r : Ending) (w' : World) : Prop := Keep [] w w' ∧ ∃ v, r = .returned (.agg #[.int .u64 (e : Nat), v]) ∧ w'.ownsRow w.heap.size 22 1 v n (u64s (actsOf ws n))
structure NowI (w wr : World) (rb eb cb g : Nat) (c : ConfS) (e j : Nat) (ws : List Nat) (xt : List Value) (v : Value) : Prop where
  hk : Keep [] w wr
  he : Blk wr eb 83 #[.int .u64 (e : Nat), v]
  hr : Blk wr rb 83 #[.int .u64 0, .slice none 0 0]
  hc : Blk wr cb 24 c.cells
  hw : Blk wr g 22 (u64s ws ++ xt).toArray
  own : wr.ownsRow w.heap.size 22 1 v j (u64s (actsOf ws j))
  ebn : w.heap.size ≤ eb
  rbn : w.heap.size ≤ rb
  er : eb ≠ rb
  gv : v.ownBlock ≠ some g
set_option maxRecDepth 100000 in
theorem e_ret {fn : Func} {p : Tmp} {g : Nat} {cs : Array Value} {a : Act} {w : World} {K : Ending → World → Prop} (h : fn.results = #[.cell p 83]) (hg : Blk w g 83 cs) (hp : a.tmps.getD p undef = .pointer (some ⟨g, 0, none⟩)) (hi : (Try.prog.info? 83).map (·.size) = some cs.size) (hd : a.defers = []) (hk : K (.returned (.agg cs)) w) : bodyPost Try.prog fn K .ret a w :=
  bodyPost_ret (v := .agg cs) (results_cell_row h _ _ g _ _ _ _ hp hg Try.underlying83 rfl hi) hd hk
section
variable {w wr w7 : World} {rb eb cb g e j : Nat} {c : ConfS} {ws : List Nat} {xt : List Value} {v v2 : Value} {x : Nat}
theorem NowI.far {h2 : TypeId} {b : Nat} {cs : Array Value} (h : NowI w wr rb eb cb g c e j ws xt v) (hb : Blk wr b h2 cs) (hne : 22 ≠ h2) : b ∉ v.ownBlock.toList := fun hm => own_ne h.own hb hne (by simpa using hm)
theorem NowI.cells {W : World} (h : NowI w wr rb eb cb g c e j ws xt v) (hW : Keep [] wr W) (hg : W.grownBy w7 v.ownBlock) : w7.cell? ⟨eb, 1, none⟩ = some v ∧ w7.frozen? ⟨eb, 1, none⟩ = false := by
  have hk : Keep v.ownBlock.toList wr w7 := (hW.mono (by simp)).trans (Keep.of_grown hg) (fun x hx => .inl hx)
  have := h.he.keep hk (h.far h.he (by decide))
  exact ⟨this.cell 1, this.frozen 1⟩
theorem NowI.grow {W : World} (h : NowI w wr rb eb cb g c e j ws xt v) (hW : Keep [] wr W) (hx : ws.getD (3 + 8 * j) 0 = x) (hown : w7.ownsRow w.heap.size 22 1 v2 (j + 1) (u64s (actsOf ws j) ++ [.int .u64 (x : Nat)])) (hg : W.grownBy w7 v.ownBlock) (hat : v2.ownBlock = v.ownBlock ∨ v2.ownBlock = some W.heap.size) :
    NowI w (w7.setCell ⟨eb, 1, none⟩ v2) rb eb cb g c e (j + 1) ws xt v2 := by
  have hk : Keep v.ownBlock.toList wr w7 := (hW.mono (by simp)).trans (Keep.of_grown hg) (fun x hx => .inl hx)
  have he7 := h.he.keep hk (h.far h.he (by decide))
  have hgv : g ∉ v.ownBlock.toList := fun hm => h.gv (by simpa using hm)
  have hw7 := h.hw.keep hk hgv
  have hsz := hW.size
  refine ⟨(h.hk.trans hk (fun y hy => .inr (h.own.lt y (by simpa using hy)).1)).set_ _ (.inr h.ebn), by simpa using he7.set_ 1 v2, (h.hr.keep hk (h.far h.hr (by decide))).far (p := ⟨eb, 1, none⟩) (fun e => h.er e.symm) _, (h.hc.keep hk (h.far h.hc (by decide))).far (p := ⟨eb, 1, none⟩) (h.hc.ne_ h.he (by decide)) _, hw7.far (p := ⟨eb, 1, none⟩) (h.hw.ne_ h.he (by decide)) _, ?_, h.ebn, h.rbn, h.er, ?_⟩
  · rw [actsOf_succ, hx]
    have e2 : u64s (actsOf ws j ++ [x]) = u64s (actsOf ws j) ++ [.int .u64 (x : Nat)] := by simp [u64s]
    rw [e2]
    exact own_same hown (fun b hb => Below.heap_setCell _ _ _ _ (fun e => own_ne hown he7 (by decide) (by rw [hb, e])))
  · rcases hat with e1 | e1
    · rw [e1]; exact h.gv
    · rw [e1]
      intro e2
      injection e2 with e2
      have := h.hw.lt
      omega
end
set_option maxRecDepth 100000 in
set_option maxHeartbeats 1000000 in
theorem law18_now {w : World} {i : MI} {s : MS} (h : MachAt w i s) (hl : s.mem.ws.length = wordsN s.conf) :
    Calls Try.prog 39 #[.pointer (some ⟨i.m, 0, none⟩)] w (NowOut w (s.mem.ws.getD 1 0) s.conf.thr.toNat s.mem.ws) := by
  have H := Lib.hid h
  have HL := Lib.hid hl
  have HO := Lib.hid h.ok
  have KW := Lib.hid (fun w => ref05_words s.conf w h.ok)
  have HR0 := Lib.hid (Blk.new w 83 #[.int .u64 0, .slice none 0 0])
  have HK0 := Lib.hid ((Keep.refl [] w).alloc (.cells #[.int .u64 0, .slice none 0 0] 83))
  generalize hP : NowOut w (s.mem.ws.getD 1 0) s.conf.thr.toNat s.mem.ws = P
  have HP := Lib.hid hP
  clear h hl hP
  go_enter Try.func39, Try.ntmps39
  go_upto_region 1 with fail
  generalize hrb : w.heap.size = rb at HR0 ⊢
  have HRB := Lib.hid hrb
  clear hrb
  generalize w.alloc (.cells #[.int .u64 0, .slice none 0 0] 83) = w1 at HR0 HK0 ⊢
  have HM1 := Lib.hid (H.out.keep0 HK0.out)
  go_wp2_with fail
  refine (m_mem HM1.out).mono ?_
  rintro r x ⟨rfl, rfl⟩
  go_wp2_with fail
  refine (m_words HM1.out (by rw [HL.out]; have := wordsN_ge HO.out; omega)).mono ?_
  rintro r w2 ⟨g, cp, xt, rfl, hw, hgn, hk⟩
  have HM2 := Lib.hid (HM1.out.keep0 hk)
  have HK2 := Lib.hid (HK0.out.trans hk (by simp))
  have HW2 := Lib.hid hw
  have HR2 := Lib.hid (HR0.out.keep hk (by simp))
  clear hw hgn hk HM1 HK0 HR0 H
  go_wp2_with fail
  refine (m_plan HM2.out).mono ?_
  rintro r x ⟨rfl, rfl⟩
  go_wp2_with fail
  refine (m_conf HM2.out).mono ?_
  rintro r w3 ⟨rfl, hk⟩
  have HK3 := Lib.hid (HK2.out.trans hk (by simp))
  have HW3 := Lib.hid (HW2.out.keep hk (by simp))
  have HR3 := Lib.hid (HR2.out.keep hk (by simp))
  clear hk HK2 HW2 HR2 HM2
  have hcs : s.conf.cells = #[.int .i64 s.conf.thr, .int .i64 s.conf.slots, .int .u64 s.conf.stamps] := rfl
  rw [hcs] at KW ⊢
  go_upto_region 4 with fail
  have HC4 := Lib.hid ((Blk.new w3 24 #[.int .i64 s.conf.thr, .int .i64 s.conf.slots, .int .u64 s.conf.stamps]).alloc (.cells #[.int .u64 0, .slice none 0 0] 83))
  have HE4 : Hid (Blk ((w3.alloc (.cells #[.int .i64 s.conf.thr, .int .i64 s.conf.slots, .int .u64 s.conf.stamps] 24)).alloc (.cells #[.int .u64 0, .slice none 0 0] 83)) (w3.heap.size + 1) 83 #[.int .u64 0, .slice none 0 0]) := by
    have := Blk.new (w3.alloc (.cells #[.int .i64 s.conf.thr, .int .i64 s.conf.slots, .int .u64 s.conf.stamps] 24)) 83 #[.int .u64 0, .slice none 0 0]
    have e : (w3.alloc (.cells #[.int .i64 s.conf.thr, .int .i64 s.conf.slots, .int .u64 s.conf.stamps] 24)).heap.size = w3.heap.size + 1 := by simp
    rw [e] at this
    exact this
  have hk4 := ((Keep.refl [] w3).alloc (.cells #[.int .i64 s.conf.thr, .int .i64 s.conf.slots, .int .u64 s.conf.stamps] 24)).alloc (.cells #[.int .u64 0, .slice none 0 0] 83)
  have HK4 := Lib.hid (HK3.out.trans hk4 (by simp))
  have HW4 := Lib.hid (HW3.out.keep hk4 (by simp))
  have HR4 := Lib.hid (HR3.out.keep hk4 (by simp))
  have HRC : Hid (rb < w3.heap.size) := HR3.out.lt
  have HCN : Hid (w.heap.size ≤ w3.heap.size) := HK3.out.size
  generalize (w3.alloc (.cells #[.int .i64 s.conf.thr, .int .i64 s.conf.slots, .int .u64 s.conf.stamps] 24)).alloc (.cells #[.int .u64 0, .slice none 0 0] 83) = w4 at HC4 HE4 HK4 HW4 HR4 ⊢
  generalize w3.heap.size = cb at HC4 HE4 HRC HCN ⊢
  clear hk4 HK3 HW3 HR3 w1 w2
  have hl0 : w4.cell? ⟨cb, 0, none⟩ = some (.int .i64 s.conf.thr) := HC4.out.cell 0
  have hl1 : w4.cell? ⟨cb, 1, none⟩ = some (.int .i64 s.conf.slots) := HC4.out.cell 1
  have hl2 : w4.cell? ⟨cb, 2, none⟩ = some (.int .u64 s.conf.stamps) := HC4.out.cell 2
  go_wp2_with fail
  refine (KW.out _).mono ?_
  rintro r w5 ⟨hk, v, xs, rfl, hown⟩
  obtain ⟨gv, cv, rfl, _, _⟩ := World.ownsRow.form hown (by have := wordsN_ge HO.out; omega)
  have HK5 := Lib.hid (HK4.out.trans hk (by simp))
  have HW5 := Lib.hid (HW4.out.keep hk (by simp))
  have HR5 := Lib.hid (HR4.out.keep hk (by simp))
  have HC5 := Lib.hid (HC4.out.keep hk (by simp))
  have HE5 := Lib.hid (HE4.out.keep hk (by simp))
  clear hk hown hl0 hl1 hl2 HK4 HW4 HR4 HC4 HE4 KW
  have hge := wordsN_ge HO.out
  have hle := wordsN_le HO.out
  have hthr1 := HO.out.t1
  have hthr2 := HO.out.t2
  have hx1 := word_at HW5.out 1 (by rw [HL.out]; omega)
  rw [HL.out]
  have hz1 : (1 : Int) < (wordsN s.conf : Int) := by omega
  have hfe := HE5.out.frozen 0
  have hye : w5.cell? ⟨cb + 1, 0, none⟩ = some (.int .u64 0) := HE5.out.cell 0
  generalize hE : s.mem.ws.getD 1 0 = e at hx1 ⊢
  generalize hW : s.mem.ws = ws at *
  go_upto_region 7 with fail
  have HI : Hid (NowI w (w5.setCell ⟨cb + 1, 0, none⟩ (.int .u64 (e : Nat))) rb (cb + 1) cb g s.conf e 0 ws xt (.slice none 0 0)) :=
    ⟨HK5.out.set_ _ (.inr (Nat.le_succ_of_le HCN.out)), by simpa using HE5.out.set_ 0 (.int .u64 (e : Nat)), HR5.out.far (p := ⟨cb + 1, 0, none⟩) (by show rb ≠ cb + 1; have := HRC.out; omega) _, HC5.out.far (p := ⟨cb + 1, 0, none⟩) (by show cb ≠ cb + 1; omega) _, HW5.out.far (p := ⟨cb + 1, 0, none⟩) (HW5.out.ne_ HE5.out (by decide)) _, World.ownsRow_nil _ _ _ _, Nat.le_succ_of_le HCN.out, Nat.le_of_eq HRB.out, by have := HRC.out; omega, by simp [Value.ownBlock]⟩
  generalize w5.setCell ⟨cb + 1, 0, none⟩ (.int .u64 (e : Nat)) = w6 at HI ⊢
  clear hx1 hfe hye HK5 HW5 HR5 HC5 HE5
  have hN := HL.out
  generalize hNN : wordsN s.conf = N at *
  have HNN := Lib.hid hNN
  have hact : 3 + 8 * s.conf.thr.toNat ≤ N := by rw [← hNN]; unfold wordsN; omega
  clear hNN
  generalize hth : s.conf.thr.toNat = n at *
  have hthr : s.conf.thr = (n : Int) := by omega
  rw [hthr] at hthr1 hthr2
  have HTHR := Lib.hid hthr
  go_wp2_with fail
  clear hthr
  go_loopg [6] n (fun gg q wr => ∃ (j : Nat) (v : Value), j ≤ n ∧ gg = n - j ∧ q = .int .i64 (j : Nat) ∧ NowI w wr rb (cb + 1) cb g s.conf e j ws xt v)
  case atStart => exact ⟨0, _, Nat.zero_le _, rfl, rfl, HI.out⟩
  case round =>
    obtain ⟨j, v, hj, rfl, rfl, hni⟩ := hrel
    have HN := Lib.hid hni
    obtain ⟨Av, cv2, rfl⟩ : ∃ Av cv2, v = .slice Av j cv2 := by
      obtain ⟨hl, ⟨h1, h2⟩ | ⟨g, cap, cur, hv, _⟩⟩ := hni.own
      · exact ⟨none, 0, by rw [h1, h2]⟩
      · exact ⟨_, _, hv⟩
    clear hni HI
    have hc0 : wr.cell? ⟨cb, 0, none⟩ = some (.int .i64 (n : Int)) := by rw [← HTHR.out]; exact HN.out.hc.cell 0
    by_cases hlt : j < n
    · have hz : ((j : Nat) : Int) < (n : Int) := by omega
      have hz6 : ((j : Nat) : Int) ≤ 6 := by omega
      have hz0 : (0 : Int) ≤ ((j : Nat) : Int) := by omega
      have hxj := word_at HN.out.hw (3 + 8 * j) (by rw [hN]; omega)
      have hzi : (3 : Int) + 8 * (j : Int) < (N : Int) := by omega
      have hzi0 : (0 : Int) ≤ (3 : Int) + 8 * (j : Int) := by omega
      have hw8 : IntKind.i64.wrap (8 * (j : Int)) = 8 * (j : Int) := IntWalk.i64_in _ (by omega)
      have hw9 : IntKind.i64.wrap (3 + 8 * (j : Int)) = 3 + 8 * (j : Int) := IntWalk.i64_in _ (by omega)
      have hti : ((3 : Int) + 8 * (j : Int)).toNat = 3 + 8 * j := by omega
      have hye : wr.cell? ⟨cb + 1, 1, none⟩ = some (.slice Av j cv2) := HN.out.he.cell 1
      have hfe := HN.out.he.frozen 1
      generalize hxx : ws.getD (3 + 8 * j) 0 = xj at hxj
      have HXX := Lib.hid hxx
      clear hxx
      go_upto_region 10 with fail
      have hya : (wr.alloc (.cells #[.int .u64 (xj : Nat)] 22)).cell? ⟨cb + 1, 1, none⟩ = some (.slice Av j cv2) := (HN.out.he.alloc _).cell 1
      have HKW : Hid (Keep [] wr (wr.alloc (.cells #[.int .u64 (xj : Nat)] 22)).drew) := ((Keep.refl [] wr).alloc _).drew
      have HNJ : Hid (j ≤ 6) := by show j ≤ 6; omega
      go_region_law (obtain ⟨i0, hi, hz0, hz1, hz2⟩ := info_parts info22; (refine step_append_at rfl (.tmp 32) (.tmp 39) 31 rfl w.heap.size 22 i0 (.int .u64 0) 1 8 Try.underlying31 hi hz0 hz1 hz2 rfl (by decide) (.slice Av j cv2) j (u64s (actsOf ws j)) rfl (own_keep HN.out.own HKW.out (by simp)) ⟨_, 0, none⟩ 1 1 [.int .u64 (xj : Nat)] rfl rfl (World.news_of_block (heap_alloc_new _ _)) (by simp [Value.oneCell']) (by have := HNJ.out; unfold maxLen; omega) (by have := HNJ.out; omega) (Nat.le_trans HN.out.hk.size HKW.out.size) ?_); clear hi hz0 hz1 hz2; intro v2 w7 hown hg hnil hat; clear hnil; obtain ⟨gq, cq, rfl, _, _⟩ := World.ownsRow.form hown (by omega); have HGR := Lib.hid (HN.out.grow HKW.out HXX.out hown hg hat); obtain ⟨hq, hqf⟩ := HN.out.cells HKW.out hg; clear hown hg hat)
      all_goals
        clear hya hye hfe hc0 hq hqf hxj
        go_wp2_with fail
        go_roundg (n - (j + 1))
        case measure => omega
        case rel => exact ⟨j + 1, _, by omega, rfl, by go_num, HGR.out⟩
    · obtain rfl : j = n := by omega
      have hye0 : wr.cell? ⟨cb + 1, 0, none⟩ = some (.int .u64 (e : Nat)) := HN.out.he.cell 0
      have hye : wr.cell? ⟨cb + 1, 1, none⟩ = some (.slice Av j cv2) := HN.out.he.cell 1
      have hf1 := HN.out.hr.frozen 0
      have hf2 := HN.out.hr.frozen 1
      have hR0 := HN.out.hr.cell 0
      have hR1 := HN.out.hr.cell 1
      have hne := HN.out.er
      have hne2 := hne.symm
      go_wp2_with fail
      refine e_ret rfl (HN.out.hr.two _ _) rfl (by kernel_rfl) rfl ?_
      rw [← HP.out, hE]
      have hwf := HN.out.rbn
      refine ⟨(HN.out.hk.set_ (p := ⟨rb, 0, none⟩) _ (.inr hwf)).set_ (p := ⟨rb, 1, none⟩) _ (.inr hwf), .slice Av j cv2, rfl, ?_⟩
      have h1 := own_same HN.out.own (w' := wr.setCell ⟨rb, 0, none⟩ (.int .u64 (e : Nat))) (fun b hb => Below.heap_setCell _ _ _ _ (fun e2 => own_ne HN.out.own HN.out.hr (by decide) (by rw [hb, e2])))
      exact own_same h1 (fun b hb => Below.heap_setCell _ _ _ _ (fun e2 => own_ne h1 (HN.out.hr.set_ 0 _) (by decide) (by rw [hb, e2])))
end Go.Proofs.Ytlbhjahmgdghoaa
