/- Examples of one thread, of any routine: a run is reckoned ahead. Conditions: the machine in memory. -/
import Derived.Test.YtoghcikfkkmfkaaGreatLiv
import Derived.Test.YtoghcikfkkmfkaaGreatStp
namespace Go.Proofs.YtoghcikfkkmfkaaGreat
open Go.RowKit

def checkG (mb : MS → Bool) (okb : PS → Bool) (k n : Nat) (step : PS → PS) (s : MS) : Bool := match s.ths[k]? with
  | some t => mb s && (decide (n < t.frs.length) && okb (s.part t) && roomB s (step (s.part t)))
  | none => false
def drivesG (mb : MS → Bool) (okb : PS → Bool) (k n : Nat) (step : PS → PS) : Nat → MS → Bool
  | 0, _ => false
  | f + 1, s => checkG mb okb k n step s && (decide ((s.run1 k step).depth k ≤ n) || drivesG mb okb k n step f (s.run1 k step))
theorem drivesG_m {mb : MS → Bool} {okb : PS → Bool} {k n : Nat} {step : PS → PS} {f : Nat} {s : MS} (h : drivesG mb okb k n step f s = true) : mb s = true := by
  cases f with
  | zero => cases h
  | succ f =>
    unfold drivesG at h
    rw [Bool.and_eq_true] at h
    have h1 := h.1
    unfold checkG at h1
    split at h1
    · rw [Bool.and_eq_true] at h1
      exact h1.1
    · cases h1
theorem drivesG_of {mb : MS → Bool} {okb : PS → Bool} {ok : PS → Prop} (hok : ∀ q, okb q = true → ok q) (k n : Nat) (step : PS → PS) : Drives (fun s => ∃ f, drivesG mb okb k n step f s = true) k n ok step := by
  intro s ⟨f, hf⟩
  cases f with
  | zero => cases hf
  | succ f =>
    unfold drivesG at hf
    rw [Bool.and_eq_true] at hf
    obtain ⟨h1, h2⟩ := hf
    unfold checkG at h1
    cases ht : s.ths[k]? with
    | none => rw [ht] at h1; cases h1
    | some t =>
      rw [ht] at h1
      simp only [Bool.and_eq_true, decide_eq_true_eq] at h1
      refine ⟨t, rfl, h1.2.1.1, hok _ h1.2.1.2, roomB_ok h1.2.2, fun hn => ⟨f, ?_⟩⟩
      rw [run1_of ht, depth_of (ran_at ht)] at h2
      simp only [Bool.or_eq_true, decide_eq_true_eq] at h2
      rcases h2 with h2 | h2
      · omega
      · exact h2
theorem live_alone {F : Nat} {M : MS → Prop} {ok : PS → Prop} {step : PS → PS} {mb : MS → Bool} {okb : PS → Bool} (hr : RoutineAt 0 M F ok step) (henter : ∀ (args : Array Value) (w : World), (callFunc F args).run Tryz.prog w = .ok (.enter F args) w) (hok : ∀ q, okb q = true → ok q) (hmb : ∀ s, mb s = true → M s)
    {w : World} {i : MI} {s : MS} (h : MachAt w i s) (hl : s.ths.map (fun t => t.frs.length) = [0]) {fn : Int} {v : Value} {l : List Nat} (hv : Wds w v l) (hll : l.length ≤ 24) {f most : Nat} (hm : most ≤ 100000) (hd : drivesG mb okb 0 0 step f (s.call 0 fn l) = true) :
    Calls Tryz.prog 32 #[.pointer (some ⟨i.m, 0, none⟩), .int .i64 0, .func (.func F) #[] #[], .int .i64 (most : Nat), .int .i64 fn, v] w (AloneOut w i (aloneGo step 0 0 most 0 (s.call 0 fn l))) := by
  cases hs : s.ths with
  | nil => rw [hs] at hl; cases hl
  | cons t ts =>
    rw [hs] at hl
    simp only [List.map_cons, List.cons.injEq] at hl
    have h2 : s.ths[0]? = some t := by rw [hs]; rfl
    have := alone_at hr henter (fun s => ∃ f, drivesG mb okb 0 t.frs.length step f s = true) (fun s ⟨f, hf⟩ => hmb s (drivesG_m hf)) w i s h t h2 (by omega) most hm fn v l hv hll ⟨f, by rw [hl.1]; exact hd⟩ (drivesG_of hok 0 t.frs.length step)
    rw [hl.1] at this
    exact this
theorem th_ret {w : World} {i : ThI} {s : ThS} (h : ThAt w i s) {j : Nat} (hj : j < 12) : w.cell? ⟨i.tb, j, none⟩ = some (.int .u64 (s.ret.getD j 0 : Nat)) := by
  rw [h.ht.cell]
  simp only [thCells, List.getElem?_toArray]
  rw [List.getElem?_append_left (by rw [u64s_length, h.rl]; exact hj)]
  unfold u64s
  rw [List.getElem?_map, List.getD_eq_getElem?_getD, List.getElem?_eq_getElem (by rw [h.rl]; exact hj)]
  rfl
theorem m_retAt {w : World} {i : MI} {s : MS} {k : Nat} {ti : ThI} {t : ThS} (h : MachAt w i s) (hk : i.tis[k]? = some ti) (ht : s.ths[k]? = some t) {j : Nat} (hj : j < 12) : w.cell? ⟨ti.tb, j, none⟩ = some (.int .u64 (t.ret.getD j 0 : Nat)) := th_ret (h.th k ti t hk ht) hj
theorem m_sesAt {w : World} {i : MI} {s : MS} {k : Nat} {ti : ThI} {t : ThS} (h : MachAt w i s) (hk : i.tis[k]? = some ti) (ht : s.ths[k]? = some t) (j : Nat) : w.cell? ⟨ti.tb, 12 + j, none⟩ = (t.ses.cells ++ [ti.fv, ti.rv, ti.sv])[j]? := th_cell (h.th k ti t hk ht) j
def manyN (c : ConfS) : Int := 8 * (40 * c.slots + 60 * c.thr + 400)
theorem law17_many (c : ConfS) (ho : c.Ok) (w : World) : Calls Tryz.prog 43 #[.agg #[.int .i64 c.thr, .int .i64 c.slots, .int .u64 c.stamps]] w fun r w' => r = .returned (.int .i64 (manyN c)) ∧ Keep [] w w' := by
  have HB := Lib.hid (Blk.new w 24 #[.int .i64 c.thr, .int .i64 c.slots, .int .u64 c.stamps])
  have HK := Lib.hid ((Keep.refl [] w).alloc (.cells #[.int .i64 c.thr, .int .i64 c.slots, .int .u64 c.stamps] 24))
  obtain ⟨t1, t2, s1, s2, p1, p2⟩ := ho
  have HM : Hid (manyN c = 8 * (40 * c.slots + 60 * c.thr + 400)) := Lib.hid rfl
  go_enter Tryz.func43, Tryz.ntmps43
  go_upto_region 1 with fail
  generalize w.alloc _ = w1 at HB HK ⊢
  generalize w.heap.size = bb at HB ⊢
  have h0 := HB.out.cell 0
  have h1 := HB.out.cell 1
  go_wp2
  go_ret
  exact ⟨by rw [HM.out]; rfl, HK.out⟩
theorem manyN_le {c : ConfS} (ho : c.Ok) : 0 ≤ manyN c ∧ manyN c ≤ 100000 := by
  obtain ⟨t1, t2, s1, s2, p1, p2⟩ := ho
  unfold manyN
  omega
end Go.Proofs.YtoghcikfkkmfkaaGreat
