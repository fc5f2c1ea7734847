/- Package frame: Call and Back by their contracts. Conditions: as in the text ahead; a frame takes at most 24 registers, an answer at most 12 words. -/
import Derived.Test.YtoghcikfkkmfkaaGreatFrame
import Derived.Deep.DeepCutAuto
import Derived.Deep.MidRow
namespace Go.Proofs.YtoghcikfkkmfkaaGreat
open Go.RowKit

/-- A slice of words that is handed over: nil, or the cells of a block from its head on. -/
def Wds (w : World) (v : Value) (l : List Nat) : Prop :=
  (v = .slice none 0 0 ∧ l = []) ∨ ∃ b cap cs, v = .slice (some ⟨b, 0, none⟩) l.length cap ∧ Blk w b 22 cs ∧ ∀ (k x : Nat), l[k]? = some x → cs[k]? = some (Value.int .u64 (x : Nat))
theorem Wds.keep {w w' : World} {v : Value} {l : List Nat} (h : Wds w v l) (hk : Keep [] w w') : Wds w' v l := by
  rcases h with h | ⟨b, cap, cs, hv, hb, hc⟩
  · exact .inl h
  · exact .inr ⟨b, cap, cs, hv, hb.keep hk (by simp), hc⟩
def padTo (n : Nat) (l : List Nat) : List Nat := l ++ List.replicate (n - l.length) 0
theorem infoPtr : (Tryz.prog.info? 49).map (fun i => (i.zero, i.size, i.bytes)) = some (some (.pointer none), 1, 8) := by kernel_rfl
def FrS.made (fn : Int) (l : List Nat) : FrS := ⟨fn, 0, padTo 24 l⟩
def ThS.pushed (s : ThS) (fn : Int) (l : List Nat) : ThS := { s with frs := s.frs ++ [FrS.made fn l] }

theorem wds_src {w : World} {A : Option Addr} {cap : Nat} {l : List Nat} {o : Obj} (h : Wds w (.slice A l.length cap) l) (hp : 0 < (u64s l).length) : ∃ ad, A = some ad ∧ ∀ j v, (u64s l)[j]? = some v → (w.alloc o).cell? (ad.add j) = some v := by
  rcases h with ⟨_, rfl⟩ | ⟨b, c, cs, hv, hb, hc⟩
  · simp [u64s] at hp
  · injection hv with hA
    refine ⟨_, hA, fun j v hj => ?_⟩
    rw [Addr_add_zero, (hb.alloc o).cell]
    simp only [u64s, List.getElem?_map, Option.map_eq_some_iff] at hj
    obtain ⟨x, hx, rfl⟩ := hj
    exact hc j x hx
theorem Keep.setRow {S : List Nat} (w : World) (g : Nat) (cs : Array Value) (hg : g ∈ S) : Keep S w (w.setRow g cs) :=
  ⟨rfl, rfl, rfl, by simp [World.setRow], fun k _ hn => by
    simp only [World.setRow, Array.getElem?_modify]
    rw [if_neg (fun e : g = k => hn (by rw [← e]; exact hg))]⟩
theorem wpList_copy_keep {P : Program} {w : World} {ops : Array Oper} {rest : List Oper} {o : Oper} {a : Act} {Q : Exit → Act → World → Prop} (hgd : o.guard = none) (d s : Operand) (dT sT : TypeId)
    (ho : o.op = .call { callee := .builtin .copy, args := #[d, s], argTypes := #[dT, sT] }) (elem : TypeId) (hu : P.underlying dT = some (.slice elem)) (hsz : (P.info? elem).map (·.size) = some 1)
    (dp sp : Option Addr) (dLen dCap sLen sCap : Nat) (hd : a.eval d = .slice dp dLen dCap) (hs : a.eval s = .slice sp sLen sCap)
    (g off : Nat) (cur : List Value) (t : TypeId) (hg : w.heap[g]? = some (.cells cur.toArray t (0, 0))) (cs : List Value) (hn : cs.length = Nat.min sLen dLen)
    (hpos : 0 < cs.length → dp = some ⟨g, off, none⟩ ∧ ∃ ad, sp = some ad ∧ ∀ j v, cs[j]? = some v → w.cell? (ad.add j) = some v)
    (hfit : off + cs.length ≤ cur.length) (h1 : ∀ v ∈ cs, v.oneCell' = true)
    (h : ∀ w', Hid (w'.heap[g]? = some (.cells (splice cur off cs).toArray t (0, 0))) → Keep [g] w w' → wpList P ops Q rest (a.put o.dst (goInt cs.length)) w') :
    wpList P ops Q (o :: rest) a w := by
  by_cases h0 : cs.length = 0
  · obtain rfl : cs = [] := List.eq_nil_of_length_eq_zero h0
    refine wpList_copy_nothing hgd d s dT sT ho elem hu hsz dp sp dLen dCap sLen sCap hd hs (by simpa using hn.symm) ?_
    exact h w (show _ = _ by simpa [splice] using hg) (Keep.refl _ _)
  · obtain ⟨rfl, ad, rfl, hsrc⟩ := hpos (by omega)
    refine wpList_copy_own hgd d s dT sT ho elem hu hsz g off dLen dCap ad sLen sCap hd hs cur.toArray t hg cs hn hsrc (by simpa using hfit) h1 ?_
    exact h _ (show _ = _ by simpa [splice] using setRow_heap w g _ _ t _ hg) (Keep.setRow _ _ _ (by simp))
theorem wds_src' {w : World} {A : Option Addr} {cap : Nat} {l : List Nat} (h : Wds w (.slice A l.length cap) l) (hp : 0 < (u64s l).length) : ∃ ad, A = some ad ∧ ∀ j v, (u64s l)[j]? = some v → w.cell? (ad.add j) = some v := by
  rcases h with ⟨_, rfl⟩ | ⟨b, c, cs, hv, hb, hc⟩
  · simp [u64s] at hp
  · injection hv with hA
    refine ⟨_, hA, fun j v hj => ?_⟩
    rw [Addr_add_zero, hb.cell]
    simp only [u64s, List.getElem?_map, Option.map_eq_some_iff] at hj
    obtain ⟨x, hx, rfl⟩ := hj
    exact hc j x hx
theorem wds_far {w w2 : World} {v : Value} {l : List Nat} {b : Nat} {cs : Array Value} (h : Wds w v l) (hk : Keep [b] w w2) (hb : Blk w b 59 cs) : Wds w2 v l := by
  rcases h with h | ⟨b', cap, cs', hv, hb', hc⟩
  · exact .inl h
  · exact .inr ⟨b', cap, cs', hv, hb'.keep hk (by simpa using hb'.ne_ hb (by decide)), hc⟩
theorem call_keep {w w1 w2 : World} {i : ThI} {s : ThS} {o : Obj} (h : ThAt w i s) (hb : Below w.heap.size w w1) (hg : (w1.alloc o).grownBy w2 i.fv.ownBlock) : Blk w2 i.tb 59 (thCells i s).toArray := by
  have h1 := (h.ht.keep (Keep.of_below (S := []) hb) (by simp)).alloc o
  refine h1.keep (Keep.of_grown hg) (fun hm => ?_)
  exact own_ne h.hf h.ht (by decide) (by simpa using hm)
theorem call_c24 {w w1 w2 : World} {i : ThI} {s : ThS} {o : Obj} (h : ThAt w i s) (hb : Below w.heap.size w w1) (hg : (w1.alloc o).grownBy w2 i.fv.ownBlock) : w2.cell? ⟨i.tb, 24, none⟩ = some i.fv := by
  rw [(call_keep h hb hg).cell, ← h.ht.cell, h.c24]
theorem call_f24 {w w1 w2 : World} {i : ThI} {s : ThS} {o : Obj} (h : ThAt w i s) (hb : Below w.heap.size w w1) (hg : (w1.alloc o).grownBy w2 i.fv.ownBlock) : w2.frozen? ⟨i.tb, 24, none⟩ = false := (call_keep h hb hg).frozen 24

theorem splice_made (fn : Int) (l : List Nat) : splice (FrS.made fn []).cells 2 (u64s l) = (FrS.made fn l).cells := by
  have e : (FrS.made fn []).cells = .int .i64 fn :: .int .i64 0 :: u64s (List.replicate 24 0) := by simp [FrS.made, FrS.cells, padTo]
  rw [e]
  unfold splice
  rw [u64s_length]
  simp only [List.take_succ_cons, List.take_zero, FrS.cells, FrS.made, padTo, List.cons_append, List.nil_append]
  rw [show 2 + l.length = l.length + 1 + 1 by omega]
  simp only [List.drop_succ_cons, u64s, List.map_append, List.map_replicate, List.drop_replicate]
theorem thCells_set24 (i : ThI) (s : ThS) (hr : s.ret.length = 12) (fs : List FrS) (b : List Nat) (v : Value) : (thCells i s).toArray.setIfInBounds 24 v = (thCells ⟨i.tb, b, v, i.rv, i.sv⟩ { s with frs := fs }).toArray := by
  simp only [thCells, List.setIfInBounds_toArray]
  congr 1
  rw [List.set_append_right _ _ (by rw [u64s_length, hr]; omega), u64s_length, hr]
  rfl
theorem call_done {w w1 w2 : World} {i : ThI} {s : ThS} {fn : Int} {l : List Nat} {o : Obj} {gv cv : Nat} (h : ThAt w i s) (hl : l.length ≤ 24)
    (hb1 : Hid (w1.heap[w.heap.size]? = some (.cells (splice (FrS.made fn []).cells 2 (u64s l)).toArray 48 (0, 0)))) (hbel : Below w.heap.size w w1)
    (hown : w2.ownsRow 0 49 1 (.slice (some ⟨gv, 0, none⟩) (s.frs.length + 1) cv) (s.frs.length + 1) (i.fbs.map ptr ++ [.pointer (some ⟨w.heap.size, 0, none⟩)]))
    (hg : (w1.alloc o).grownBy w2 i.fv.ownBlock) (hat : (Value.slice (some ⟨gv, 0, none⟩) (s.frs.length + 1) cv).ownBlock = i.fv.ownBlock ∨ (Value.slice (some ⟨gv, 0, none⟩) (s.frs.length + 1) cv).ownBlock = some (w1.alloc o).heap.size) :
    ∃ i' : ThI, ThAt (w2.setCell ⟨i.tb, 24, none⟩ (.slice (some ⟨gv, 0, none⟩) (s.frs.length + 1) cv)) i' (s.pushed fn l) ∧ i'.tb = i.tb ∧ (∀ x, x ∈ i'.foot → x ∈ i.foot ∨ w.heap.size ≤ x) ∧ Keep i.foot w (w2.setCell ⟨i.tb, 24, none⟩ (.slice (some ⟨gv, 0, none⟩) (s.frs.length + 1) cv)) := by
  have hk2 : Keep i.fv.ownBlock.toList w w2 := ((Keep.of_below hbel).alloc o).trans (Keep.of_grown hg) (fun x hx => .inl hx)
  have hk : Keep (i.tb :: i.fv.ownBlock.toList) w (w2.setCell ⟨i.tb, 24, none⟩ (.slice (some ⟨gv, 0, none⟩) (s.frs.length + 1) cv)) := (hk2.mono (fun x hx => List.mem_cons_of_mem _ hx)).set_ _ (.inl (by simp))
  have ht2 := call_keep h hbel hg
  have hnew1 : Blk w1 w.heap.size 48 (FrS.made fn l).cells.toArray := by rw [← splice_made fn l]; exact hb1.out
  have hfv : i.fv.ownBlock ≠ some w.heap.size := fun e => by have := own_lt h.hf e; omega
  have hnew2 : Blk w2 w.heap.size 48 (FrS.made fn l).cells.toArray := (hnew1.alloc o).keep (Keep.of_grown hg) (by simpa using hfv)
  have hnn : w.heap.size ≠ i.tb := by have := h.ht.lt; omega
  have hfoot : ∀ b, b ∈ i.fbs → b ∉ i.tb :: i.fv.ownBlock.toList := by
    intro b hb hm
    obtain ⟨k, hk, rfl⟩ := List.getElem_of_mem hb
    have hf := h.frame k (by rw [← h.fbl]; exact hk)
    rcases List.mem_cons.1 hm with e | hm
    · exact hf.1.ne_ h.ht (by decide) e
    · exact own_ne h.hf hf.1 (by decide) (by simpa using hm)
  refine ⟨⟨i.tb, i.fbs ++ [w.heap.size], .slice (some ⟨gv, 0, none⟩) (s.frs.length + 1) cv, i.rv, i.sv⟩, ⟨?_, h.rl, ?_, ?_, ?_, ?_, ?_⟩, rfl, ?_, hk.mono ?_⟩
  · have := ht2.set_ 24 (.slice (some ⟨gv, 0, none⟩) (s.frs.length + 1) cv)
    rw [thCells_set24 i s h.rl (s.pushed fn l).frs (i.fbs ++ [w.heap.size])] at this
    exact this
  · have e : (s.pushed fn l).frs.length = s.frs.length + 1 := by simp [ThS.pushed]
    rw [e]
    refine own_same ?_ (fun g hgg => Below.heap_setCell _ _ _ _ (fun e => own_ne hown ht2 (by decide) (by rw [hgg, e])))
    simpa [ptr] using hown
  · intro k b f hb hf
    simp only [ThS.pushed] at hf
    by_cases hk' : k < s.frs.length
    · rw [List.getElem?_append_left hk'] at hf
      rw [List.getElem?_append_left (by rw [h.fbl]; exact hk')] at hb
      exact (h.fr k b f hb hf).keep hk (hfoot b (List.mem_of_getElem? hb))
    · rw [List.getElem?_append_right (by omega)] at hf
      rw [List.getElem?_append_right (by rw [h.fbl]; omega), h.fbl] at hb
      have h0 : k - s.frs.length = 0 := by
        rcases Nat.eq_zero_or_pos (k - s.frs.length) with h | h
        · exact h
        · rw [List.getElem?_eq_none (by simp; omega)] at hf; cases hf
      rw [h0] at hf hb
      simp at hf hb
      subst hf hb
      exact ⟨hnew2.far (p := ⟨i.tb, 24, none⟩) hnn _, by simp [FrS.made, padTo]; omega⟩
  · refine List.nodup_append.2 ⟨h.nd, by simp, fun a ha b hb => ?_⟩
    simp at hb
    subst hb
    have := h.foot_lt a (by simp [ThI.foot, ha])
    omega
  · exact own_keep h.hrow hk (fun g hg hm => by
      obtain ⟨cs, hb⟩ := own_blk h.hrow hg
      rcases List.mem_cons.1 hm with e | hm
      · exact hb.ne_ h.ht (by decide) e
      · exact own_ne h.hf hb (by decide) (by simpa using hm))
  · exact own_keep h.hstk hk (fun g hg hm => by
      obtain ⟨cs, hb⟩ := own_blk h.hstk hg
      rcases List.mem_cons.1 hm with e | hm
      · exact hb.ne_ h.ht (by decide) e
      · exact own_ne h.hf hb (by decide) (by simpa using hm))
  · intro x hx
    simp only [ThI.foot, List.mem_cons, List.mem_append, Option.mem_toList, List.not_mem_nil, or_false] at hx ⊢
    rcases hx with hx | (hx | hx) | hx | hx | hx
    · exact .inl (.inl hx)
    · exact .inl (.inr (.inl hx))
    · exact .inr (by omega)
    · rcases hat with e | e
      · exact .inl (.inr (.inr (.inl (e ▸ hx))))
      · right
        rw [e] at hx
        have := hbel.size
        simp at hx
        omega
    · exact .inl (.inr (.inr (.inr (.inl hx))))
    · exact .inl (.inr (.inr (.inr (.inr hx))))
  · intro x hx
    simp only [ThI.foot, List.mem_cons, List.mem_append] at hx ⊢
    rcases hx with hx | hx
    · exact .inl hx
    · exact .inr (.inr (.inl hx))

set_option maxRecDepth 100000 in
set_option maxHeartbeats 1000000 in
theorem frame_call (w : World) (i : ThI) (s : ThS) (h : ThAt w i s) (hd : s.frs.length ≤ 1000) (fn : Int) (v : Value) (l : List Nat) (hv : Wds w v l) (hl : l.length ≤ 24) :
    Calls Tryz.prog 15 #[ptr i.tb, .int .i64 fn, v] w fun r w' => r = .returned (.tuple #[]) ∧ ∃ i' : ThI, ThAt w' i' (s.pushed fn l) ∧ i'.tb = i.tb ∧ (∀ x, x ∈ i'.foot → x ∈ i.foot ∨ w.heap.size ≤ x) ∧ Keep i.foot w w' := by
  have hc := h.c24
  have H := Lib.hid h
  have hlt := h.ht.lt
  obtain ⟨A, n, cap, rfl⟩ : ∃ A n cap, v = .slice A n cap := by
    rcases hv with ⟨rfl, _⟩ | ⟨b, cap, cs, rfl, _⟩ <;> exact ⟨_, _, _, rfl⟩
  have hn : n = l.length := by
    rcases hv with ⟨h1, rfl⟩ | ⟨b, cap, cs, h1, _⟩
    · injection h1
    · injection h1
  subst hn
  have HV := Lib.hid hv
  have HL := Lib.hid hl
  have HD := Lib.hid hd
  clear h hv hl hd
  unfold ptr
  go_enter Tryz.func15, Tryz.ntmps15
  go_wp2_with (first
    | (with_reducible refine wpList_copy_splice rfl (.tmp 15) (.tmp 16) 43 43 rfl 22 Tryz.underlying43 (by kernel_rfl) (some ⟨w.heap.size, 2, none⟩) A 24 24 l.length cap rfl rfl w.heap.size 2 (FrS.made fn []).cells 48 ?c1 (u64s l) ?c2 ?c3 ?c4 (u64s_one l) w.heap.size w ?c5 (Nat.le_refl _) ?_); (case c1 => exact heap_alloc_new w _); (case c2 => have := HL.out; rw [u64s_length]; simp only [Nat.min_def]; split <;> omega); (case c3 => exact fun hp => ⟨rfl, wds_src HV.out hp⟩); (case c4 => have := HL.out; simp [u64s_length, FrS.made, FrS.cells, padTo]; omega); (case c5 => exact (Below.refl _ _).alloc (Nat.le_refl _) _); intro w1 hb1 hbel; have hc1 : w1.cell? ⟨i.tb, 24, none⟩ = some i.fv := (hbel.cell (p := ⟨i.tb, 24, none⟩) hlt).trans hc; have HB1 := Lib.hid hbel; clear hbel hc
    | (at_builtin; obtain ⟨i0, hi, hz0, hz1, hz2⟩ := info_parts infoPtr; refine wpList_append_own_at _ rfl (.tmp 22) (.tmp 24) 56 rfl 0 49 i0 (.pointer none) 1 8 Tryz.underlying56 hi hz0 hz1 hz2 rfl (by decide) i.fv s.frs.length (i.fbs.map ptr) rfl ?d1 ⟨w1.heap.size, 0, none⟩ 1 1 [.pointer (some ⟨w.heap.size, 0, none⟩)] rfl rfl ?d2 ?d3 ?d4 ?d5 (Nat.zero_le _) ?_; (case d1 => exact (own_keep H.out.hf (Keep.of_below (S := []) HB1.out) (by simp)).alloc _); (case d2 => exact cell_one_new _ _ _); (case d3 => simp [Value.oneCell']); (case d4 => have := HD.out; unfold maxLen; omega); (case d5 => have := HD.out; omega); clear hi hz0 hz1 hz2; intro v' w2 hown hg _ hat; obtain ⟨gv, cv, rfl, _, _⟩ := World.ownsRow.form hown (by omega); have HW := Lib.hid hown; have HG := Lib.hid hg; have HA := Lib.hid hat; clear hown hg hat hc1; have hc2 := call_c24 H.out HB1.out HG.out; have hf2 := call_f24 H.out HB1.out HG.out))
  go_end0
  exact ⟨rfl, call_done H.out HL.out hb1 HB1.out HW.out HG.out HA.out⟩

/-- Cells written one behind the other into a block that is known whole. -/
theorem Blk.setCells {b t : Nat} : ∀ (vs old pre post : List Value) (w : World), Blk w b t (pre ++ (old ++ post)).toArray → old.length = vs.length → Blk (w.setCells b pre.length vs) b t (pre ++ (vs ++ post)).toArray
  | [], old, _, _, _, h, hl => by
    cases old with
    | nil => exact h
    | cons a l => simp at hl
  | v :: vs, old, pre, post, _, h, hl => by
    cases old with
    | nil => simp at hl
    | cons a l =>
      have h1 := h.set_ pre.length v
      have e : (pre ++ (a :: l ++ post)).toArray.setIfInBounds pre.length v = ((pre ++ [v]) ++ (l ++ post)).toArray := by
        simp
      rw [e] at h1
      have h2 := Blk.setCells vs l (pre ++ [v]) post _ h1 (by simpa using hl)
      have e2 : (pre ++ [v]).length = pre.length + 1 := by simp
      rw [e2] at h2
      simpa [World.setCells] using h2
theorem Keep.setCells {S : List Nat} {b : Nat} {w0 : World} (hb : b ∈ S) : ∀ (vs : List Value) (o : Nat) (w : World), Keep S w0 w → Keep S w0 (w.setCells b o vs)
  | [], _, _, h => h
  | v :: vs, o, _, h => Keep.setCells hb vs (o + 1) _ (h.set_ v (.inl hb))
theorem Blk.there {w : World} {b t o n : Nat} {cs : Array Value} (h : Blk w b t cs) (hn : o + n ≤ cs.size) : w.there b o n := fun i hi => by
  refine ⟨?_, h.frozen _⟩
  rw [h.cell, Array.getElem?_eq_getElem (by omega)]
  rfl
def ThS.popped (s : ThS) (l : List Nat) : ThS := { s with frs := s.frs.dropLast, ret := padTo 12 l }
theorem back_done {w w2 w3 : World} {i : ThI} {s : ThS} {l : List Nat} {g n cp : Nat} (h : ThAt w i s) (hf : i.fv = .slice (some ⟨g, 0, none⟩) s.frs.length cp) (hn : s.frs.length = n + 1) (hl : l.length ≤ 12)
    (hb3 : Hid (w3.heap[i.tb]? = some (.cells (splice (u64s (List.replicate 12 0) ++ (s.ses.cells ++ [.slice (some ⟨g, 0, none⟩) n cp, i.rv, i.sv])) 0 (u64s l)).toArray 59 (0, 0)))) (hk : Keep [i.tb] w w2) (hk3 : Keep [i.tb] w2 w3) :
    ∃ i' : ThI, ThAt w3 i' (s.popped l) ∧ i'.tb = i.tb ∧ i'.fbs = i.fbs.dropLast ∧ (∀ x, x ∈ i'.foot → x ∈ i.foot) ∧ Keep [i.tb] w w3 := by
  have hk' : Keep [i.tb] w w3 := hk.trans hk3 (fun x hx => .inl hx)
  have e : splice (u64s (List.replicate 12 0) ++ (s.ses.cells ++ [.slice (some ⟨g, 0, none⟩) n cp, i.rv, i.sv])) 0 (u64s l) = thCells ⟨i.tb, i.fbs.dropLast, .slice (some ⟨g, 0, none⟩) n cp, i.rv, i.sv⟩ (s.popped l) := by
    simp only [splice, List.take_zero, List.nil_append, Nat.zero_add, thCells, ThS.popped, padTo, u64s_length]
    rw [List.drop_append_of_le_length (by rw [u64s_length]; simp; omega)]
    simp only [u64s, List.map_append, List.map_replicate, List.drop_replicate, List.append_assoc]
  rw [e] at hb3
  have hfl := h.fbl
  have hdl : (s.frs.dropLast).length = n := by simp [hn]
  refine ⟨⟨i.tb, i.fbs.dropLast, .slice (some ⟨g, 0, none⟩) n cp, i.rv, i.sv⟩, ⟨hb3.out, ?_, ?_, ?_, ?_, ?_, ?_⟩, rfl, rfl, ?_, hk'⟩
  · simp [ThS.popped, padTo]; omega
  · show w3.ownsRow 0 _ 1 _ (s.frs.dropLast).length _
    rw [hdl]
    have h1 := h.hf
    rw [hf, hn] at h1
    have hne : i.fbs ≠ [] := by intro e; rw [e] at hfl; simp at hfl; omega
    have e2 : i.fbs.map ptr = i.fbs.dropLast.map ptr ++ [ptr (i.fbs.getLast hne)] := by
      rw [← List.map_singleton, ← List.map_append, List.dropLast_concat_getLast]
    rw [e2] at h1
    refine own_keep (ownsRow_pop (by simp [hfl, hn]) h1) hk' (fun x hx hm => ?_)
    simp [Value.ownBlock] at hx
    subst hx
    refine own_ne h.hf h.ht (by decide) ?_
    rw [hf]
    simpa [Value.ownBlock] using hm
  · intro k b f hb hf2
    simp only [ThS.popped] at hf2
    have hk1 : k < n := by
      rcases Nat.lt_or_ge k n with hlt | hge
      · exact hlt
      · rw [List.getElem?_eq_none (by rw [hdl]; exact hge)] at hf2; cases hf2
    rw [List.getElem?_dropLast, if_pos (by omega)] at hb hf2
    have hfr := h.fr k b f hb hf2
    exact hfr.keep hk' (by simpa using hfr.1.ne_ h.ht (by decide))
  · exact h.nd.sublist (List.dropLast_sublist _)
  · exact own_keep h.hrow hk' (fun x hx hm => by
      obtain ⟨cs, hb⟩ := own_blk h.hrow hx
      exact hb.ne_ h.ht (by decide) (by simpa using hm))
  · exact own_keep h.hstk hk' (fun x hx hm => by
      obtain ⟨cs, hb⟩ := own_blk h.hstk hx
      exact hb.ne_ h.ht (by decide) (by simpa using hm))
  · intro x hx
    simp only [ThI.foot, List.mem_cons, List.mem_append] at hx ⊢
    rcases hx with hx | hx | hx | hx
    · exact .inl hx
    · exact .inr (.inl ((List.dropLast_sublist _).subset hx))
    · refine .inr (.inr (.inl ?_))
      rw [hf]
      simpa [Value.ownBlock] using hx
    · exact .inr (.inr (.inr hx))

set_option maxRecDepth 100000 in
set_option maxHeartbeats 1000000 in
theorem frame_back (w : World) (i : ThI) (s : ThS) (h : ThAt w i s) (hp : 0 < s.frs.length) (v : Value) (l : List Nat) (hv : Wds w v l) (hl : l.length ≤ 12) :
    Calls Tryz.prog 98 #[ptr i.tb, v] w fun r w' => r = .returned (.tuple #[]) ∧ ∃ i' : ThI, ThAt w' i' (s.popped l) ∧ i'.tb = i.tb ∧ i'.fbs = i.fbs.dropLast ∧ (∀ x, x ∈ i'.foot → x ∈ i.foot) ∧ Keep [i.tb] w w' := by
  have hc := h.c24
  have hf := h.ht.frozen
  obtain ⟨A, m, cap, rfl⟩ : ∃ A n cap, v = .slice A n cap := by
    rcases hv with ⟨rfl, _⟩ | ⟨b, cap, cs, rfl, _⟩ <;> exact ⟨_, _, _, rfl⟩
  have hm : m = l.length := by
    rcases hv with ⟨h1, rfl⟩ | ⟨b, cap, cs, h1, _⟩
    · injection h1
    · injection h1
  subst hm
  obtain ⟨g, cp, hfv, hle, hcm, hj⟩ := h.fvForm hp
  clear hj
  obtain ⟨n, hn⟩ : ∃ n, s.frs.length = n + 1 := ⟨s.frs.length - 1, by omega⟩
  rw [hfv, hn] at hc
  rw [hn] at hle
  unfold maxLen at hcm
  have HV := Lib.hid hv
  have HL := Lib.hid hl
  have H := Lib.hid h
  have HF := Lib.hid hfv
  have HN := Lib.hid hn
  clear h hp hv hl hfv hn
  unfold ptr
  go_enter Tryz.func98, Tryz.ntmps98
  go_wp2_with fail
  have w0 : IntKind.i64.wrap (n : Int) = (n : Int) := IntWalk.i64_in _ (by omega)
  have h0 : (0 : Int) ≤ (n : Int) := by omega
  have h1 : (n : Int) ≤ (cp : Int) := by omega
  refine wp_region_still_tail 14 (by kernel_rfl) (by kernel_rfl) ?_
  simp only [List.take_succ_cons, List.take_zero, List.drop_succ_cons, List.drop_zero]
  iterate 14 still_step
  refine wpStill_nil ?_
  change wpList _ _ _ _ _ w.drew
  clear w0 h0 h1
  have B0 := (H.out.ht.set_ 24 (.slice (some ⟨g, 0, none⟩) n cp)).drew
  rw [thCells_set24 _ _ H.out.rl s.frs.dropLast i.fbs.dropLast] at B0
  go_upto_region 3 with (fail)
  have HK : Keep [i.tb] w (w.setCell ⟨i.tb, 24, none⟩ (.slice (some ⟨g, 0, none⟩) n cp)).drew := ((Keep.refl _ _).set_ _ (.inl (by simp))).drew
  have HB0 := Lib.hid B0
  clear B0 hc hf
  have HK' := Lib.hid HK
  clear HK
  generalize (w.setCell ⟨i.tb, 24, none⟩ (.slice (some ⟨g, 0, none⟩) n cp)).drew = w1 at HB0 HK' ⊢
  go_step
  iterate 12 go_step
  refine wpList_store_mid rfl 53 (.tmp 29) (.tmp 27) rfl i.tb 0 #[.int .u64 0, .int .u64 0, .int .u64 0, .int .u64 0, .int .u64 0, .int .u64 0, .int .u64 0, .int .u64 0, .int .u64 0, .int .u64 0, .int .u64 0, .int .u64 0] rfl rfl ?t1 (by kernel_rfl) (by kernel_rfl) ?_
  case t1 => exact HB0.out.there (by simp [thCells, u64s_length, H.out.rl, SesS.cells])
  have HB1 : Blk (w1.setCells i.tb 0 (u64s (List.replicate 12 0))) i.tb 59 (u64s (List.replicate 12 0) ++ (s.ses.cells ++ [.slice (some ⟨g, 0, none⟩) n cp, i.rv, i.sv])).toArray := Blk.setCells (u64s (List.replicate 12 0)) (u64s s.ret) [] _ w1 HB0.out (by simp [u64s_length, H.out.rl])
  have HK1 : Keep [i.tb] w (w1.setCells i.tb 0 (u64s (List.replicate 12 0))) := Keep.setCells (b := i.tb) (by simp) (u64s (List.replicate 12 0)) 0 w1 HK'.out
  change wpList _ _ _ _ _ (w1.setCells i.tb 0 (u64s (List.replicate 12 0)))
  clear HB0 HK'
  generalize w1.setCells i.tb 0 (u64s (List.replicate 12 0)) = w2 at HB1 HK1 ⊢
  have HB1 := Lib.hid HB1
  have HK1 := Lib.hid HK1
  go_wp2_with ((with_reducible refine wpList_copy_keep rfl (.tmp 33) (.tmp 34) 43 43 rfl 22 Tryz.underlying43 (by kernel_rfl) (some ⟨i.tb, 0, none⟩) A 12 12 l.length cap rfl rfl i.tb 0 (u64s (List.replicate 12 0) ++ (s.ses.cells ++ [.slice (some ⟨g, 0, none⟩) n cp, i.rv, i.sv])) 59 ?c1 (u64s l) ?c2 ?c3 ?c4 (u64s_one l) ?_); (case c1 => exact HB1.out); (case c2 => have := HL.out; rw [u64s_length]; simp only [Nat.min_def]; split <;> omega); (case c3 => exact fun hp => ⟨rfl, wds_src' (wds_far HV.out HK1.out H.out.ht) hp⟩); (case c4 => have := HL.out; simp only [List.length_append, u64s_length, List.length_replicate]; omega); intro w3 hb3 hbel; have HB3 := Lib.hid hbel; clear hbel)
  go_end0
  exact ⟨rfl, back_done H.out HF.out HN.out HL.out hb3 HK1.out HB3.out⟩
end Go.Proofs.YtoghcikfkkmfkaaGreat
