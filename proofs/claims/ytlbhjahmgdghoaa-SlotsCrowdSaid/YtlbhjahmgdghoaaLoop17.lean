/- SlotsAlone: what holds at each deed's beginning. Conditions: few deeds were done. -/
import Derived.Test.YtlbhjahmgdghoaaRest17
namespace Go.Proofs.Ytlbhjahmgdghoaa
open Go.RowKit

structure LoopS (c : ConfS) (w0 : World) (m0 cb fb : Nat) (wr : World) (i : MI) (s : MS) (L G had : List Nat) (n : Nat) (vh : Value) : Prop where
  hm : MachAt wr i s
  im : i.m = m0
  hr : AtRest c s L G had n
  hk : Keep [] w0 wr
  new : ∀ x, x ∈ i.foot → w0.heap.size ≤ x
  hc : Blk wr cb 24 c.cells
  cbf : cb ∉ i.foot
  hf : ∃ vL vG, Blk wr fb 43 #[vL, vG] ∧ RowI wr (· ∉ i.foot) 3 vL (ints L) ∧ RowI wr (· ∉ i.foot) 22 vG (u64s G)
  fbf : fb ∉ i.foot
  fbn : w0.heap.size ≤ fb
  hh : wr.ownsRow w0.heap.size 50 1 vh had.length (u64s had)
  hhf : ∀ b, vh.ownBlock = some b → b ∉ i.foot
theorem Goes.far {w w' : World} {i i' : MI} (h : Goes w w' i i') {b : Nat} (hb : b < w.heap.size) (hn : b ∉ i.foot) : b ∉ i'.foot := fun hx => (h.foot b hx).elim hn (fun e => by omega)
theorem RowI.goes {w w' : World} {i i' : MI} {t : TypeId} {v : Value} {xs : List Value} (h : RowI w (· ∉ i.foot) t v xs) (hg : Goes w w' i i') : RowI w' (· ∉ i'.foot) t v xs := by
  obtain ⟨b, o, cap, cs, h1, h2, h3, h4, h5⟩ := h
  exact ⟨b, o, cap, cs, h1, h2, h3.keep hg.keep h5, h4, hg.far h3.lt h5⟩
section
variable {c : ConfS} {w0 : World} {m0 cb fb : Nat} {wr w2 : World} {i i2 : MI} {s s2 : MS} {L G had L2 G2 had2 : List Nat} {n n2 : Nat} {vh : Value}
/-- The machine went on by a deed: what else there is stays. -/
structure Gone (c : ConfS) (w0 : World) (m0 cb fb : Nat) (w2 : World) (i2 : MI) (s2 : MS) (L G had L2 G2 had2 : List Nat) (n : Nat) (vh : Value) : Prop where
  hm : MachAt w2 i2 s2
  im : i2.m = m0
  hr : AtRest c s2 L2 G2 had2 n
  hk : Keep [] w0 w2
  new : ∀ x, x ∈ i2.foot → w0.heap.size ≤ x
  hc : Blk w2 cb 24 c.cells
  cbf : cb ∉ i2.foot
  hf : ∃ vL vG, Blk w2 fb 43 #[vL, vG] ∧ RowI w2 (· ∉ i2.foot) 3 vL (ints L) ∧ RowI w2 (· ∉ i2.foot) 22 vG (u64s G)
  fbf : fb ∉ i2.foot
  fbn : w0.heap.size ≤ fb
  hh : w2.ownsRow w0.heap.size 50 1 vh had.length (u64s had)
  hhf : ∀ b, vh.ownBlock = some b → b ∉ i2.foot
theorem LoopS.gone (h : LoopS c w0 m0 cb fb wr i s L G had n vh) (hm : MachAt w2 i2 s2) (hg : Goes wr w2 i i2) (hr : AtRest c s2 L2 G2 had2 n2) : Gone c w0 m0 cb fb w2 i2 s2 L G had L2 G2 had2 n2 vh := by
  have hlt := fun {b : Nat} {t : TypeId} {cs : Array Value} (hb : Blk wr b t cs) => hb.lt
  refine ⟨hm, hg.m.trans h.im, hr, h.hk.trans hg.keep (fun x hx => .inr (h.new x hx)), fun x hx => (hg.foot x hx).elim (h.new x) (fun e => Nat.le_trans h.hk.size e), h.hc.keep hg.keep h.cbf, hg.far h.hc.lt h.cbf, ?_, ?_, h.fbn, own_keep h.hh hg.keep h.hhf, fun b hb => hg.far (h.hh.lt b hb).2 (h.hhf b hb)⟩
  · obtain ⟨vL, vG, h1, h2, h3⟩ := h.hf
    exact ⟨vL, vG, h1.keep hg.keep h.fbf, h2.goes hg, h3.goes hg⟩
  · obtain ⟨vL, vG, h1, h2, h3⟩ := h.hf
    exact hg.far h1.lt h.fbf
theorem Gone.keep0 {w3 : World} (h : Gone c w0 m0 cb fb w2 i2 s2 L G had L2 G2 had2 n vh) (hk : Keep [] w2 w3) : Gone c w0 m0 cb fb w3 i2 s2 L G had L2 G2 had2 n vh := by
  obtain ⟨vL, vG, h1, h2, h3⟩ := h.hf
  exact ⟨h.hm.keep0 hk, h.im, h.hr, h.hk.trans hk (by simp), h.new, h.hc.keep hk (by simp), h.cbf, ⟨vL, vG, h1.keep hk (by simp), h2.keep0 hk, h3.keep0 hk⟩, h.fbf, h.fbn, own_keep h.hh hk (by simp), h.hhf⟩
theorem Gone.put {L3 G3 : List Nat} {vL vG : Value} (h : Gone c w0 m0 cb fb w2 i2 s2 L G had L2 G2 had2 n vh) (hL : RowI w2 (· ∉ i2.foot) 3 vL (ints L3)) (hG : RowI w2 (· ∉ i2.foot) 22 vG (u64s G3)) :
    Gone c w0 m0 cb fb ((w2.setCell ⟨fb, 0, none⟩ vL).setCell ⟨fb, 1, none⟩ vG) i2 s2 L3 G3 had L2 G2 had2 n vh := by
  obtain ⟨xL, xG, h1, _, _⟩ := h.hf
  have hk : Keep [fb] w2 ((w2.setCell ⟨fb, 0, none⟩ vL).setCell ⟨fb, 1, none⟩ vG) := ((Keep.refl _ _).set_ _ (.inl (by simp))).set_ _ (.inl (by simp))
  have hf2 := h1.two vL vG
  refine ⟨h.hm.keep hk (fun x hx => ?_) ?_, h.im, h.hr, h.hk.trans hk (fun x hx => ?_), h.new, h.hc.keep hk ?_, h.cbf, ⟨vL, vG, hf2, ?_, ?_⟩, h.fbf, h.fbn, own_keep h.hh hk (fun g hg => ?_), h.hhf⟩
  · simp only [List.mem_singleton]
    rintro rfl
    exact h.fbf hx
  · simp only [List.mem_singleton]
    exact Blk.ne_ h.hm.hP h1 (by decide)
  · simp only [List.mem_singleton] at hx
    subst hx
    exact .inr h.fbn
  · simp only [List.mem_singleton]
    exact h.hc.ne_ h1 (by decide)
  · exact (hL.far h1 (by decide) 0 _).far (h1.set_ 0 _) (by decide) 1 _
  · exact (hG.far h1 (by decide) 0 _).far (h1.set_ 0 _) (by decide) 1 _
  · simp only [List.mem_singleton]
    rintro rfl
    exact own_ne h.hh h1 (by decide) hg
theorem Gone.row {had3 : List Nat} {vh3 : Value} (h : Gone c w0 m0 cb fb w2 i2 s2 L G had L2 G2 had2 n vh) (hh : w2.ownsRow w0.heap.size 50 1 vh3 had3.length (u64s had3)) (hhf : ∀ b, vh3.ownBlock = some b → b ∉ i2.foot) : Gone c w0 m0 cb fb w2 i2 s2 L G had3 L2 G2 had2 n vh3 :=
  ⟨h.hm, h.im, h.hr, h.hk, h.new, h.hc, h.cbf, h.hf, h.fbf, h.fbn, hh, hhf⟩
theorem own_form {w : World} {base n : Nat} {t : TypeId} {v : Value} {xs : List Value} (h : w.ownsRow base t 1 v n xs) (hn : 0 < n) : ∃ g cap, v = .slice (some ⟨g, 0, none⟩) n cap ∧ n ≤ cap := by
  obtain ⟨hl, ⟨_, h0⟩ | ⟨g, cap, cur, hv, hb, hr, hc, _⟩⟩ := h
  · omega
  · exact ⟨g, cap, hv, hc⟩
theorem own_new5 {wr : World} {v : Value} {o : Obj} (h : v.ownBlock = (Value.slice (some ⟨wr.heap.size, 0, none⟩) 0 0).ownBlock ∨ v.ownBlock = some (wr.drew.alloc o).heap.size) : ∀ b, v.ownBlock = some b → wr.heap.size ≤ b := fun b hb => by
  have h2 := ((Keep.refl [] wr).drew.alloc o).size
  rcases h with h | h
  · rw [h] at hb
    injection hb with hb
    exact Nat.le_of_eq hb
  · rw [h] at hb
    injection hb with hb
    omega
theorem own_new7 {wr w6 : World} {v v' : Value} (h0 : ∀ b, v.ownBlock = some b → wr.heap.size ≤ b) (h : v'.ownBlock = v.ownBlock ∨ v'.ownBlock = some w6.heap.size) (hk : Keep [] wr w6) : ∀ b, v'.ownBlock = some b → wr.heap.size ≤ b := fun b hb => by
  rcases h with h | h
  · exact h0 b (by rw [← h]; exact hb)
  · rw [h] at hb
    injection hb with hb
    have := hk.size
    omega
theorem infoEdge : (Try.prog.info? 50).map (fun i => (i.zero, i.size, i.bytes)) = some (some (.int .u64 0), 1, 8) := by kernel_rfl
theorem Gone.grow {w3 : World} {had3 : List Nat} {vh3 : Value} {o : Obj} (h : Gone c w0 m0 cb fb w2 i2 s2 L G had L2 G2 had2 n vh) (hown : w3.ownsRow w0.heap.size 50 1 vh3 had3.length (u64s had3)) (hg : (w2.alloc o).grownBy w3 vh.ownBlock) (hat : vh3.ownBlock = vh.ownBlock ∨ vh3.ownBlock = some (w2.alloc o).heap.size) :
    Gone c w0 m0 cb fb w3 i2 s2 L G had3 L2 G2 had2 n vh3 := by
  obtain ⟨vL, vG, h1, ⟨bL, oL, cL, xL, e1, e2, e3, e4, e5⟩, ⟨bG, oG, cG, xG, f1, f2, f3, f4, f5⟩⟩ := h.hf
  have hk : Keep vh.ownBlock.toList w2 w3 := ((Keep.refl _ w2).alloc o).trans (Keep.of_grown hg) (fun x hx => .inl hx)
  have hnb : ∀ {b t : Nat} {cs : Array Value}, Blk w2 b t cs → 50 ≠ t → b ∉ vh.ownBlock.toList := fun hb hne hm => own_ne h.hh hb hne (by simpa using hm)
  refine ⟨h.hm.keep hk (fun x hx hm => h.hhf x (by simpa using hm) hx) (hnb h.hm.hP (by decide)), h.im, h.hr, h.hk.trans hk (fun x hx => .inr (h.hh.lt x (by simpa using hx)).1), h.new, h.hc.keep hk (hnb h.hc (by decide)), h.cbf, ⟨vL, vG, h1.keep hk (hnb h1 (by decide)), ⟨bL, oL, cL, xL, e1, e2, e3.keep hk (hnb e3 (by decide)), e4, e5⟩, ⟨bG, oG, cG, xG, f1, f2, f3.keep hk (hnb f3 (by decide)), f4, f5⟩⟩, h.fbf, h.fbn, hown, fun b hb hx => ?_⟩
  rcases hat with e | e
  · exact h.hhf b (by rw [← e]; exact hb) hx
  · rw [e] at hb
    have h2 := h.hm.foot_lt b hx
    have h3 : (w2.alloc o).heap.size = w2.heap.size + 1 := by simp
    injection hb with hb
    omega
/-- The reference's cells stay where a call made new memory alone. -/
theorem Gone.fcells {w3 : World} {xL xG : Value} (h : Gone c w0 m0 cb fb w2 i2 s2 L G had L2 G2 had2 n vh) (hk : Keep [] w2 w3) (h0 : w2.cell? ⟨fb, 0, none⟩ = some xL) (h1 : w2.cell? ⟨fb, 1, none⟩ = some xG) :
    w3.cell? ⟨fb, 0, none⟩ = some xL ∧ w3.cell? ⟨fb, 1, none⟩ = some xG ∧ w3.frozen? ⟨fb, 0, none⟩ = false ∧ w3.frozen? ⟨fb, 1, none⟩ = false := by
  obtain ⟨vL, vG, hF, _, _⟩ := h.hf
  have hF3 := hF.keep hk (by simp)
  exact ⟨(hk.cell hF.lt (by simp)).trans h0, (hk.cell hF.lt (by simp)).trans h1, hF3.frozen 0, hF3.frozen 1⟩
theorem Gone.loop (h : Gone c w0 m0 cb fb w2 i2 s2 L2 G2 had2 L2 G2 had2 n vh) : LoopS c w0 m0 cb fb w2 i2 s2 L2 G2 had2 n vh :=
  ⟨h.hm, h.im, h.hr, h.hk, h.new, h.hc, h.cbf, h.hf, h.fbf, h.fbn, h.hh, h.hhf⟩
theorem thread_at (h : AtRest c s L G had n) {k : Nat} (hk : k < c.thr.toNat) : ∃ t, s.ths[k]? = some t ∧ t.frs.length = 0 := by
  have hl : k < s.ths.length := by rw [h.thl]; exact hk
  exact ⟨_, List.getElem?_eq_getElem hl, by rw [h.idle _ (List.getElem_mem hl)]; rfl⟩
def RetAt (w : World) (i : MI) (k e : Nat) : Prop := ∃ ti, i.tis[k]? = some ti ∧ w.cell? ⟨ti.tb, 0, none⟩ = some (.int .u64 (e : Nat))
theorem RetAt.keep {S : List Nat} {w3 : World} {k e : Nat} (hm : MachAt w2 i2 s2) (h : RetAt w2 i2 k e) (hk : Keep S w2 w3) (hs : ∀ x, x ∈ i2.foot → x ∉ S) : RetAt w3 i2 k e := by
  obtain ⟨ti, h1, h2⟩ := h
  obtain ⟨t', ht'⟩ := hm.get (List.mem_of_getElem? h1)
  refine ⟨ti, h1, (hk.cell ht'.ht.lt (hs _ ?_)).trans h2⟩
  exact MI.mem_foot.2 (.inr (.inr (.inr (.inr (.inr (.inr (.inr ⟨ti, List.mem_of_getElem? h1, by simp [ThI.foot]⟩)))))))
theorem Gone.ret0 {w3 : World} {k e : Nat} (h : Gone c w0 m0 cb fb w2 i2 s2 L G had L2 G2 had2 n vh) (hr : RetAt w2 i2 k e) (hk : Keep [] w2 w3) : RetAt w3 i2 k e := hr.keep h.hm hk (by simp)
theorem Gone.ret1 {k e : Nat} (h : Gone c w0 m0 cb fb w2 i2 s2 L G had L2 G2 had2 n vh) (hr : RetAt w2 i2 k e) (vL vG : Value) : RetAt ((w2.setCell ⟨fb, 0, none⟩ vL).setCell ⟨fb, 1, none⟩ vG) i2 k e :=
  hr.keep (S := [fb]) h.hm (((Keep.refl _ _).set_ _ (.inl (by simp))).set_ _ (.inl (by simp))) (fun x hx => by
    simp only [List.mem_singleton]
    rintro rfl
    exact h.fbf hx)
theorem ret_at {w : World} {i : MI} {s : MS} {k e : Nat} {t : ThS} (h : MachAt w i s) (ht : s.ths[k]? = some t) (he : t.ret.getD 0 0 = e) : RetAt w i k e := by
  obtain ⟨ti, h1⟩ := h.thAt ht
  have hth := h.th k ti t h1 ht
  refine ⟨ti, h1, ?_⟩
  rw [hth.ht.cell]
  have := hth.rl
  cases hr : t.ret with
  | nil => rw [hr] at this; cases this
  | cons a b =>
    rw [hr] at he
    simp at he
    simp [thCells, u64s, hr, he]
theorem gone_take {a k : Nat} (h : LoopS c w0 m0 cb fb wr i s (a :: L) G had n vh) (hk : k < c.thr.toNat) (hn : n ≤ 1000) :
    Calls Try.prog 20 #[.pointer (some ⟨m0, 0, none⟩), .int .i64 (k : Nat), fnV 9, .int .i64 10, .int .i64 1, .slice none 0 0] wr fun r w2 => r = .returned (.tuple #[.int .i64 4, .bool true]) ∧ ∃ i2 s2, Gone c w0 m0 cb fb w2 i2 s2 (a :: L) G had L G (had ++ [mkE a (G.getD (a - 1) 0)]) (n + 1) vh ∧ RetAt w2 i2 k (mkE a (G.getD (a - 1) 0)) := by
  obtain ⟨t, ht, hd⟩ := thread_at h.hr hk
  obtain ⟨s2, h1, h2, h3, t2, h4, h5⟩ := rest_take (k := k) h.hr ht hn
  have := alone17 slots_do enter_slots (RunsAt k 0 SlotsOk PS.slots) wr i s h.hm k t ht (by omega) 10 (by omega) 1 (.slice none 0 0) [] (.inl ⟨rfl, rfl⟩) (by simp) h1 (by rw [hd]; exact drives_runs k 0 SlotsOk PS.slots)
  rw [hd, h2, h.im] at this
  refine this.mono ?_
  rintro r w2 ⟨rfl, i2, hm2, hg⟩
  exact ⟨rfl, i2, s2, h.gone hm2 hg h3, ret_at hm2 h4 h5⟩
theorem gone_take0 {k : Nat} (h : LoopS c w0 m0 cb fb wr i s [] G had n vh) (hk : k < c.thr.toNat) (hn : n ≤ 1000) :
    Calls Try.prog 20 #[.pointer (some ⟨m0, 0, none⟩), .int .i64 (k : Nat), fnV 9, .int .i64 10, .int .i64 1, .slice none 0 0] wr fun r w2 => r = .returned (.tuple #[.int .i64 2, .bool true]) ∧ ∃ i2 s2, Gone c w0 m0 cb fb w2 i2 s2 [] G had [] G had (n + 1) vh ∧ RetAt w2 i2 k 0 := by
  obtain ⟨t, ht, hd⟩ := thread_at h.hr hk
  obtain ⟨s2, h1, h2, h3, t2, h4, h5⟩ := rest_take0 (k := k) h.hr ht hn
  have := alone17 slots_do enter_slots (RunsAt k 0 SlotsOk PS.slots) wr i s h.hm k t ht (by omega) 10 (by omega) 1 (.slice none 0 0) [] (.inl ⟨rfl, rfl⟩) (by simp) h1 (by rw [hd]; exact drives_runs k 0 SlotsOk PS.slots)
  rw [hd, h2, h.im] at this
  refine this.mono ?_
  rintro r w2 ⟨rfl, i2, hm2, hg⟩
  exact ⟨rfl, i2, s2, h.gone hm2 hg h3, ret_at hm2 h4 h5⟩
theorem give_facts {j e k : Nat} (h : AtRest c s L G had n) (hk : k < c.thr.toNat) (hn : n ≤ 1000) (hj : had[j]? = some e) : 1 ≤ slotE e ∧ slotE e ≤ G.length ∧ G.getD (slotE e - 1) 0 + 1 < 2 ^ 49 ∧ e < 2 ^ 64 := by
  obtain ⟨t, ht, hd⟩ := thread_at h hk
  obtain ⟨h1, h2, h3, _⟩ := rest_give (k := k) h ht hn hj
  refine ⟨h1, h2, by omega, ?_⟩
  obtain ⟨a, ha, rfl⟩ := h.hadI e (List.mem_of_getElem? hj)
  have := (h.free.hrng a ha).2
  have := h.ok.s2
  exact mkE_lt _ _ (by omega)
theorem gone_give {j e k : Nat} {v : Value} (h : LoopS c w0 m0 cb fb wr i s L G had n vh) (hk : k < c.thr.toNat) (hn : n ≤ 1000) (hj : had[j]? = some e) {wx : World} (hkx : Keep [] wr wx) (hv : Wds wx v [e]) :
    Calls Try.prog 20 #[.pointer (some ⟨m0, 0, none⟩), .int .i64 (k : Nat), fnV 9, .int .i64 10, .int .i64 2, v] wx fun r w2 => r = .returned (.tuple #[.int .i64 4, .bool true]) ∧ ∃ i2 s2, Gone c w0 m0 cb fb w2 i2 s2 L G had (slotE e :: L) (G.set (slotE e - 1) (G.getD (slotE e - 1) 0 + 1)) (had.take j ++ had.drop (j + 1)) (n + 1) vh ∧ Goes wx w2 i i2 := by
  obtain ⟨t, ht, hd⟩ := thread_at h.hr hk
  obtain ⟨_, _, _, s2, h1, h2, h3⟩ := rest_give (k := k) h.hr ht hn hj
  have := alone17 slots_do enter_slots (RunsAt k 0 SlotsOk PS.slots) wx i s (h.hm.keep0 hkx) k t ht (by omega) 10 (by omega) 2 v [e] hv (by simp) h1 (by rw [hd]; exact drives_runs k 0 SlotsOk PS.slots)
  rw [hd, h2, h.im] at this
  refine this.mono ?_
  rintro r w2 ⟨rfl, i2, hm2, hg⟩
  have hx : LoopS c w0 m0 cb fb wx i s L G had n vh := ⟨h.hm.keep0 hkx, h.im, h.hr, h.hk.trans hkx (by simp), h.new, h.hc.keep hkx (by simp), h.cbf, by
    obtain ⟨vL, vG, q1, q2, q3⟩ := h.hf
    exact ⟨vL, vG, q1.keep hkx (by simp), q2.keep0 hkx, q3.keep0 hkx⟩, h.fbf, h.fbn, own_keep h.hh hkx (by simp), h.hhf⟩
  exact ⟨rfl, i2, s2, hx.gone hm2 hg h3, hg⟩
end
end Go.Proofs.Ytlbhjahmgdghoaa
