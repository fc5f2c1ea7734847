/- An answer, read: the deferred closure, text.ReadAnswer by their contracts. Conditions: the library's tables and errors are as they were laid; at most 20000 bytes. -/
import Derived.Test.YtpbbpannimlldaaDoorRd5
import Derived.Test.YtpbbpannimlldaaDoorRd7
namespace Go.Proofs.YtpbbpannimlldaaDoor
open Go.RowKit

theorem catch_ans_idle (eb cb : Nat) (x : Value) (w : World) (hc : w.cell? ⟨eb, 0, none⟩ = some x) (hz : w.frozen? ⟨eb, 0, none⟩ = false) :
    CallsD Tryd.prog 27 #[.pointer (some ⟨eb, 0, none⟩), .pointer (some ⟨cb, 0, none⟩)] .returning w fun e u' w' => e = .returned (.tuple #[]) ∧ u' = .returning ∧ w' = w.setCell ⟨eb, 0, none⟩ (.int .i64 0) := by
  have KF := text_failed_nil w
  have hc2 : (w.setCell ⟨eb, 0, none⟩ (.int .i64 0)).cell? ⟨eb, 0, none⟩ = some (.int .i64 0) := World.cell?_setCell_same _ _ _ hc
  refine callsD_of_wpS Tryd.func27 rfl fun c₀ cs hu => ?_
  apply wpS_seq
  apply wpS_region
  simp [wpOpsS, go_sem, recoverD, hu, Tryd.ntmps27, Exit.thenS]
  refine KF.mono ?_
  rintro r y ⟨rfl, rfl⟩
  simp [wpOpsS, go_sem, hc, hz]
  apply wpS_seq
  apply wpS_region
  simp [wpOpsS, go_sem, hc2, hu, Exit.thenS]
  refine wpS_cond (t := false) (by simp [Act.eval, Array.replicate]) ?_
  simp only [Bool.false_eq_true, if_false]
  refine wpS_of_wp (wp_skip ?_)
  cases c₀
  simp_all [bodyPostS, results, Tryd.results27]
theorem catch_ans_pan (eb cb : Nat) (x : Value) (k a0 a1 a2 a3 : Int) (a4 : Value) (older : List PanicEntry) (w : World) (he : Blk w eb 27 #[x]) (hb : Blk w cb 33 #[.int .i64 a0, .int .i64 a1, .int .i64 a2, .int .i64 a3, a4]) (hk : k ≠ 0) :
    CallsD Tryd.prog 27 #[.pointer (some ⟨eb, 0, none⟩), .pointer (some ⟨cb, 0, none⟩)] (.panicking ({ v := .iface 27 (.int .i64 k), recovered := false } :: older)) w fun e u' w' => e = .returned (.tuple #[]) ∧ u' = .panicking ({ v := .iface 27 (.int .i64 k), recovered := true } :: older) ∧ Keep [eb, cb] w w' ∧ Blk w' eb 27 #[.int .i64 k] ∧ Blk w' cb 33 zeroA := by
  have KF := text_failed_err k w
  have hne : cb ≠ eb := hb.ne_ he (by decide)
  have hc : w.cell? ⟨eb, 0, none⟩ = some x := he.cell 0
  have hz := he.frozen 0
  have hc2 : (w.setCell ⟨eb, 0, none⟩ (.int .i64 k)).cell? ⟨eb, 0, none⟩ = some (.int .i64 k) := World.cell?_setCell_same _ _ _ hc
  have hb1 := hb.far (p := ⟨eb, 0, none⟩) hne (.int .i64 k)
  have he1 := he.set_ 0 (.int .i64 k)
  have hk1 : Keep [eb, cb] w (w.setCell ⟨eb, 0, none⟩ (.int .i64 k)) := (Keep.refl _ _).set_ _ (.inl (by simp))
  refine callsD_of_wpS Tryd.func27 rfl fun c₀ cs hu => ?_
  apply wpS_seq
  apply wpS_region
  simp [wpOpsS, go_sem, recoverD, hu, Tryd.ntmps27, Exit.thenS]
  refine KF.mono ?_
  rintro r y ⟨rfl, rfl⟩
  simp [go_sem, hc, hz]
  apply wpS_seq
  apply wpS_region
  simp [wpOpsS, go_sem, hc2, Exit.thenS]
  refine wpS_cond (t := true) (by simp [Act.eval, Array.replicate, hk]) ?_
  simp only [if_true]
  generalize w.setCell ⟨eb, 0, none⟩ (.int .i64 k) = w1 at *
  have hr0 : w1.cell? ⟨cb, 0, none⟩ = some (.int .i64 a0) := hb1.cell 0
  have hr1 : w1.cell? ⟨cb, 1, none⟩ = some (.int .i64 a1) := hb1.cell 1
  have hr2 : w1.cell? ⟨cb, 2, none⟩ = some (.int .i64 a2) := hb1.cell 2
  have hr3 : w1.cell? ⟨cb, 3, none⟩ = some (.int .i64 a3) := hb1.cell 3
  have hr4 : w1.cell? ⟨cb, 4, none⟩ = some a4 := hb1.cell 4
  have hf0 := hb1.frozen 0
  have hf1 := hb1.frozen 1
  have hf2 := hb1.frozen 2
  have hf3 := hb1.frozen 3
  have hf4 := hb1.frozen 4
  apply wpS_region
  simp [wpOpsS, go_sem, hr0, hr1, hr2, hr3, hr4, hf0, hf1, hf2, hf3, hf4, bodyPostS, results, Tryd.results27]
  refine ⟨((((hk1.set_ (p := ⟨cb, 0, none⟩) _ (.inl (by simp))).set_ (p := ⟨cb, 1, none⟩) _ (.inl (by simp))).set_ (p := ⟨cb, 2, none⟩) _ (.inl (by simp))).set_ (p := ⟨cb, 3, none⟩) _ (.inl (by simp))).set_ (p := ⟨cb, 4, none⟩) _ (.inl (by simp)), ?_, store5 hb1 _ _ _ _ _⟩
  exact ((((he1.far (p := ⟨cb, 0, none⟩) (Ne.symm hne) _).far (p := ⟨cb, 1, none⟩) (Ne.symm hne) _).far (p := ⟨cb, 2, none⟩) (Ne.symm hne) _).far (p := ⟨cb, 3, none⟩) (Ne.symm hne) _).far (p := ⟨cb, 4, none⟩) (Ne.symm hne) _
theorem readA_err {ws : List (List UInt8)} {k : Int} (h : readA ws = .error k) : k ≠ 0 := by
  have h4 : ∀ x : Except Int AnsX, (∀ j, x = .error j → j = 4 ∨ j = 3) → x = .error k → k ≠ 0 := fun x hx e => by
    rcases hx k e with rfl | rfl <;> decide
  refine h4 _ (fun j hj => ?_) h
  cases ws with
  | nil => injection hj with hj; exact .inl hj.symm
  | cons s t =>
    cases ho : kdZ s with
    | none => rw [readA_none ho] at hj; injection hj with hj; exact .inr hj.symm
    | some op =>
      by_cases h1 : op = 1
      · subst h1
        rw [readA_one ho] at hj
        split at hj
        · cases hj
        · injection hj with hj; exact .inl hj.symm
      by_cases h2 : op = 2
      · subst h2
        rw [readA_two ho] at hj
        split at hj
        · cases hj
        · injection hj with hj; exact .inl hj.symm
      by_cases h3 : op = 3
      · subst h3
        rw [readA_three ho] at hj
        split at hj
        · cases hj
        · injection hj with hj; exact .inl hj.symm
      · rw [readA_else ho h1 h2 h3] at hj
        split at hj
        · cases hj
        · injection hj with hj; exact .inl hj.symm
def ReadAOut (s : List UInt8) (w : World) (r : Ending) (w' : World) : Prop := Keep [] w w' ∧ match readA (cutZ 32 s) with
  | .ok a => ∃ A cap, r = .returned (.tuple #[.agg #[.int .i64 a.kind, .int .i64 a.key, .int .i64 a.val, .int .i64 a.n, .slice A a.ps.length cap], .int .i64 0]) ∧ w'.ownsRow w.heap.size 51 2 (.slice A a.ps.length cap) a.ps.length (a.ps.flatMap pairC)
  | .error k => r = .returned (.tuple #[.agg zeroA, .int .i64 k])
set_option maxHeartbeats 2000000 in
theorem text_readAnswer (s : List UInt8) (w : World) (hs : s.length ≤ 20000) (ht : TabsOk w) : Calls Tryd.prog 10 #[.string ⟨s.toArray⟩] w (ReadAOut s w) := by
  have hmf : ∀ (fn : Fn) (first cap : Array Value) (w : World), (Instr.makeFunc fn first cap).run Tryd.prog w = .ok (.func fn first cap) w := fun _ _ _ _ => rfl
  have HK1 := Lib.hid (((Keep.refl [] w).alloc (.cells zeroA 33)).alloc (.cells #[.int .i64 0] 27))
  have HB := Lib.hid ((Blk.new w 33 zeroA).alloc (.cells #[.int .i64 0] 27))
  have HE := Lib.hid (Blk.new (w.alloc (.cells zeroA 33)) 27 #[.int .i64 0])
  rw [show (w.alloc (.cells zeroA 33)).heap.size = w.heap.size + 1 from (by show (w.heap.push _).size = _; simp)] at HE
  rw [show zeroA = #[.int .i64 0, .int .i64 0, .int .i64 0, .int .i64 0, .slice none 0 0] from rfl] at HK1 HB HE
  have HT := Lib.hid (ht.keep HK1.out)
  have KO := Lib.hid (fun (W : World) (h : TabsOk W) => text_of s W hs h)
  have HN : Hid (w.heap.size ≤ w.heap.size) := Lib.hid (Nat.le_refl _)
  clear ht hs
  go_enter_defers Tryd.func10, Tryd.ntmps10
  go_upto_region 2 with fail
  generalize hcb : w.heap.size = cb at HB HE HN ⊢
  have HCB := Lib.hid hcb
  clear hcb
  generalize (w.alloc _).alloc _ = w1 at HK1 HB HE HT ⊢
  go_wp2_with fail
  refine (KO.out _ HT.out).mono ?_
  rintro r x ⟨wb, rfl, hw⟩
  have HW := Lib.hid hw
  have HK2 := Lib.hid (HK1.out.trans hw.hk (by simp))
  have HB2 := Lib.hid (HB.out.keep hw.hk (by simp))
  have HE2 := Lib.hid (HE.out.keep hw.hk (by simp))
  have HNE : Hid (cb ≠ wb ∧ cb + 1 ≠ wb ∧ w.heap.size ≤ wb) := Lib.hid (by
    have h1 := hw.new
    have h2 := HB.out.lt
    have h3 := HE.out.lt
    have h4 := HCB.out
    omega)
  have KC := Lib.hid (words_answer w1 x wb (cutZ 32 s) hw HT.out)
  unfold AnsOut panE at KC
  have HKX := Lib.hid HK2.out.size
  clear hw KO HB HE HK1
  cases hrc : readA (cutZ 32 s) with
  | ok c =>
    rw [hrc] at KC
    have HP := Lib.hid hrc
    clear hrc
    go_wp2_with fail
    refine KC.out.mono ?_
    rintro r y ⟨hk, A, cap, rfl, hown⟩
    have HOW := Lib.hid hown
    clear hown
    have HK3 := Lib.hid (HK2.out.trans hk (fun x hx => .inr (by rw [List.mem_singleton.1 hx]; exact HNE.out.2.2)))
    have HB3 := Lib.hid (HB2.out.keep hk (by have := HNE.out.1; simpa using this))
    have HE3 := Lib.hid (HE2.out.keep hk (by have := HNE.out.2.1; simpa using this))
    clear hk KC HB2 HE2 HK2
    have hr0 : y.cell? ⟨cb, 0, none⟩ = some (.int .i64 0) := HB3.out.cell 0
    have hf0 := HB3.out.frozen 0
    have hr1 : y.cell? ⟨cb, 1, none⟩ = some (.int .i64 0) := HB3.out.cell 1
    have hf1 := HB3.out.frozen 1
    have hr2 : y.cell? ⟨cb, 2, none⟩ = some (.int .i64 0) := HB3.out.cell 2
    have hf2 := HB3.out.frozen 2
    have hr3 : y.cell? ⟨cb, 3, none⟩ = some (.int .i64 0) := HB3.out.cell 3
    have hf3 := HB3.out.frozen 3
    have hr4 : y.cell? ⟨cb, 4, none⟩ = some (.slice none 0 0) := HB3.out.cell 4
    have hf4 := HB3.out.frozen 4
    have he0 : y.cell? ⟨cb + 1, 0, none⟩ = some (.int .i64 0) := HE3.out.cell 0
    have hef := HE3.out.frozen 0
    go_wp2_with fail
    have HBc := Lib.hid ((store5 HB3.out (.int .i64 c.kind) (.int .i64 c.key) (.int .i64 c.val) (.int .i64 c.n) (.slice A c.ps.length cap)).far (p := ⟨cb + 1, 0, none⟩) (by show cb ≠ cb + 1; omega) (.int .i64 0))
    have HEc := Lib.hid ((((((HE3.out.far (p := ⟨cb, 0, none⟩) (by show cb + 1 ≠ cb; omega) (.int .i64 c.kind)).far (p := ⟨cb, 1, none⟩) (by show cb + 1 ≠ cb; omega) (.int .i64 c.key)).far (p := ⟨cb, 2, none⟩) (by show cb + 1 ≠ cb; omega) (.int .i64 c.val)).far (p := ⟨cb, 3, none⟩) (by show cb + 1 ≠ cb; omega) (.int .i64 c.n)).far (p := ⟨cb, 4, none⟩) (by show cb + 1 ≠ cb; omega) (.slice A c.ps.length cap)).set_ 0 (.int .i64 0))
    have HKc := Lib.hid ((keep5 HK3.out (Nat.le_of_eq HCB.out) (.int .i64 c.kind) (.int .i64 c.key) (.int .i64 c.val) (.int .i64 c.n) (.slice A c.ps.length cap)).set_ (p := ⟨cb + 1, 0, none⟩) (.int .i64 0) (.inr (by show w.heap.size ≤ cb + 1; have := HCB.out; omega)))
    have hnb : ∀ g, (Value.slice A c.ps.length cap).ownBlock = some g → g ≠ cb ∧ g ≠ cb + 1 := fun g hg => ⟨fun e => own_ne HOW.out HB3.out (by decide) (by rw [hg, e]), fun e => own_ne HOW.out HE3.out (by decide) (by rw [hg, e])⟩
    have HOW5 := Lib.hid (own_keep (own_keep (own_more HOW.out (b2 := w.heap.size) HKX.out) (keep5s (rb := cb) (.int .i64 c.kind) (.int .i64 c.key) (.int .i64 c.val) (.int .i64 c.n) (.slice A c.ps.length cap)) (fun g hg => by have := (hnb g hg).1; simpa using this)) ((Keep.refl [cb + 1] _).set_ (p := ⟨cb + 1, 0, none⟩) (.int .i64 0) (.inl (by simp))) (fun g hg => by have := (hnb g hg).2; simpa using this))
    have HNB := Lib.hid hnb
    clear hr0 hr1 hr2 hr3 hr4 hf0 hf1 hf2 hf3 hf4 he0 hef hnb
    generalize (World.setCell _ ⟨cb + 1, 0, none⟩ _) = w5 at HBc HEc HKc HOW5 ⊢
    refine leaves_cons (f := 27) (args := #[.pointer (some ⟨cb + 1, 0, none⟩), .pointer (some ⟨cb, 0, none⟩)]) (by simp) (by simp [go_sem]) ?_
    refine (catch_ans_idle (cb + 1) cb (.int .i64 0) w5 (HEc.out.cell 0) (HEc.out.frozen 0)).mono ?_
    rintro e u' w'' ⟨rfl, rfl, rfl⟩
    have HBF := Lib.hid (HBc.out.far (p := ⟨cb + 1, 0, none⟩) (by show cb ≠ cb + 1; omega) (.int .i64 0))
    have HEF := Lib.hid (HEc.out.set_ 0 (.int .i64 0))
    have HKF := Lib.hid (HKc.out.set_ (p := ⟨cb + 1, 0, none⟩) (.int .i64 0) (.inr (by show w.heap.size ≤ cb + 1; have := HCB.out; omega)))
    have HOWF := Lib.hid (own_keep HOW5.out ((Keep.refl [cb + 1] _).set_ (p := ⟨cb + 1, 0, none⟩) (.int .i64 0) (.inl (by simp))) (fun g hg => by have := (HNB.out g hg).2; simpa using this))
    generalize w5.setCell _ _ = w6 at HBF HEF HKF HOWF ⊢
    have hq0 : w6.cell? ⟨cb, 0, none⟩ = some (.int .i64 c.kind) := HBF.out.cell 0
    have hq1 : w6.cell? ⟨cb, 1, none⟩ = some (.int .i64 c.key) := HBF.out.cell 1
    have hq2 : w6.cell? ⟨cb, 2, none⟩ = some (.int .i64 c.val) := HBF.out.cell 2
    have hq3 : w6.cell? ⟨cb, 3, none⟩ = some (.int .i64 c.n) := HBF.out.cell 3
    have hq4 : w6.cell? ⟨cb, 4, none⟩ = some (.slice A c.ps.length cap) := HBF.out.cell 4
    have hq5 : w6.cell? ⟨cb + 1, 0, none⟩ = some (.int .i64 0) := HEF.out.cell 0
    simp [Leaves, settle, results, Tryd.results10, go_sem, hq0, hq1, hq2, hq3, hq4, hq5]
    refine ⟨HKF.out, ?_⟩
    rw [HP.out]
    exact ⟨A, cap, rfl, HOWF.out⟩
  | error k =>
    rw [hrc] at KC
    have HP := Lib.hid hrc
    have HK0 := Lib.hid (readA_err hrc)
    clear hrc
    go_wp2_with fail
    refine KC.out.mono ?_
    rintro r y ⟨hk, rfl⟩
    have HK3 := Lib.hid (HK2.out.trans hk (fun x hx => .inr (by rw [List.mem_singleton.1 hx]; exact HNE.out.2.2)))
    have HB3 := Lib.hid (HB2.out.keep hk (by have := HNE.out.1; simpa using this))
    have HE3 := Lib.hid (HE2.out.keep hk (by have := HNE.out.2.1; simpa using this))
    clear hk KC HB2 HE2 HK2
    go_wp2_with fail
    refine leaves_cons (f := 27) (args := #[.pointer (some ⟨cb + 1, 0, none⟩), .pointer (some ⟨cb, 0, none⟩)]) (by simp) (by simp [go_sem]) ?_
    refine (catch_ans_pan (cb + 1) cb (.int .i64 0) k 0 0 0 0 (.slice none 0 0) [] y HE3.out HB3.out HK0.out).mono ?_
    rintro e u' w6 ⟨rfl, rfl, hk, hef, hbf⟩
    have HBF := Lib.hid hbf
    have HEF := Lib.hid hef
    have HKF := Lib.hid (HK3.out.trans hk (fun x hx => .inr (by have := HCB.out; simp at hx; omega)))
    clear hk hef hbf
    have hq0 : w6.cell? ⟨cb, 0, none⟩ = some (.int .i64 0) := HBF.out.cell 0
    have hq1 : w6.cell? ⟨cb, 1, none⟩ = some (.int .i64 0) := HBF.out.cell 1
    have hq2 : w6.cell? ⟨cb, 2, none⟩ = some (.int .i64 0) := HBF.out.cell 2
    have hq3 : w6.cell? ⟨cb, 3, none⟩ = some (.int .i64 0) := HBF.out.cell 3
    have hq4 : w6.cell? ⟨cb, 4, none⟩ = some (.slice none 0 0) := HBF.out.cell 4
    have hq5 : w6.cell? ⟨cb + 1, 0, none⟩ = some (.int .i64 k) := HEF.out.cell 0
    simp [Leaves, settle, results, Tryd.results10, go_sem, hq0, hq1, hq2, hq3, hq4, hq5]
    refine ⟨HKF.out, ?_⟩
    rw [HP.out]
    rfl
end Go.Proofs.YtpbbpannimlldaaDoor
