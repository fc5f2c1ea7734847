/- SlotsCrowd: what the law itself keeps in memory: rows of edges, one a thread, and flags. Plain lemmas over the words of memory. -/
import Derived.Test.YtlbhjahmgdghoaaSc
import Derived.Test.YtlbhjahmgdghoaaCrd
import Derived.Test.YtlbhjahmgdghoaaLoop17
namespace Go.Proofs.Ytlbhjahmgdghoaa
open Go.RowKit

theorem infoEdges : (Try.prog.info? 45).map (fun i => (i.zero, i.size, i.bytes)) = some (some (.slice none 0 0), 1, 24) := by kernel_rfl
theorem made_rows {w : World} {b n : Nat} (h1 : 1 ≤ n) (h6 : n ≤ 6) (hm : w.ownsRow b 45 1 (.slice (some ⟨b, 0, none⟩) n n) n (madeCells (Value.slice none 0 0).cells (n * 1)).toList) : ∃ xt, Blk w b 45 (List.replicate n (.slice none 0 0) ++ xt).toArray := by
  have e : (madeCells (Value.slice none 0 0).cells (n * 1)).toList = List.replicate n (.slice none 0 0) := by
    have : n = 1 ∨ n = 2 ∨ n = 3 ∨ n = 4 ∨ n = 5 ∨ n = 6 := by omega
    rcases this with rfl | rfl | rfl | rfl | rfl | rfl <;> simp [madeCells, Value.cells, List.replicate, List.range_succ]
  rw [e] at hm
  exact own_blkX hm (by omega)
structure MemR (wr w0 : World) (c : ConfS) (cb hb eb : Nat) (had : List (List Nat)) (vs : List Value) (emp : List Bool) : Prop where
  hc : Blk wr cb 24 c.cells
  hh : ∃ xt, Blk wr hb 45 (vs ++ xt).toArray
  hbn : w0.heap.size ≤ hb
  he : ∃ xt, Blk wr eb 4 (boolsL emp ++ xt).toArray
  ebn : w0.heap.size ≤ eb
  vl : vs.length = had.length
  row : ∀ (k : Nat) (v : Value) (l : List Nat), vs[k]? = some v → had[k]? = some l → wr.ownsRow w0.heap.size 50 1 v l.length (u64s l)
  apart : ∀ (k j : Nat) (v v' : Value) (b : Nat), vs[k]? = some v → vs[j]? = some v' → k ≠ j → v.ownBlock = some b → v'.ownBlock ≠ some b
section
variable {c : ConfS} {w0 wr w2 : World} {m0 cb hb eb k : Nat} {i i2 : MI} {s s2 : MS} {had : List (List Nat)} {vs : List Value} {emp : List Bool} {v v' : Value} {l l' : List Nat}
theorem MemR.keep0 (h : MemR wr w0 c cb hb eb had vs emp) (hk : Keep [] wr w2) : MemR w2 w0 c cb hb eb had vs emp := by
  obtain ⟨xt, h1⟩ := h.hh
  obtain ⟨xu, h2⟩ := h.he
  exact ⟨h.hc.keep hk (by simp), ⟨xt, h1.keep hk (by simp)⟩, h.hbn, ⟨xu, h2.keep hk (by simp)⟩, h.ebn, h.vl, fun k v l hv hl => own_keep (h.row k v l hv hl) hk (by simp), h.apart⟩
theorem MemR.go (h : MemR wr w0 c cb hb eb had vs emp) (hm : MachAt wr i s) (hg : Goes wr w2 i i2) : MemR w2 w0 c cb hb eb had vs emp := by
  obtain ⟨xt, h1⟩ := h.hh
  obtain ⟨xu, h2⟩ := h.he
  exact ⟨hm.goBlk hg h.hc (by decide), ⟨xt, hm.goBlk hg h1 (by decide)⟩, h.hbn, ⟨xu, hm.goBlk hg h2 (by decide)⟩, h.ebn, h.vl, fun k v l hv hl => hm.goOwn hg (h.row k v l hv hl) (by decide), h.apart⟩
theorem MemR.at_ (h : MemR wr w0 c cb hb eb had vs emp) (hk : k < had.length) : ∃ v, vs[k]? = some v ∧ wr.cell? ⟨hb, k, none⟩ = some v ∧ wr.frozen? ⟨hb, k, none⟩ = false ∧ wr.ownsRow w0.heap.size 50 1 v (had.getD k []).length (u64s (had.getD k [])) := by
  have hv : k < vs.length := by rw [h.vl]; exact hk
  refine ⟨vs[k], List.getElem?_eq_getElem hv, ?_, ?_, ?_⟩
  · obtain ⟨xt, h1⟩ := h.hh
    rw [h1.cell, List.getElem?_toArray, List.getElem?_append_left hv]
    exact List.getElem?_eq_getElem hv
  · obtain ⟨xt, h1⟩ := h.hh
    exact h1.frozen k
  · refine h.row k _ _ (List.getElem?_eq_getElem hv) ?_
    rw [List.getD_eq_getElem?_getD, List.getElem?_eq_getElem hk]
    rfl
theorem MemR.get (h : MemR wr w0 c cb hb eb had vs emp) (hk : k < had.length) (hv : vs[k]? = some v) : wr.cell? ⟨hb, k, none⟩ = some v ∧ wr.frozen? ⟨hb, k, none⟩ = false ∧ wr.ownsRow w0.heap.size 50 1 v (had.getD k []).length (u64s (had.getD k [])) := by
  obtain ⟨v', h1, h2, h3, h4⟩ := h.at_ hk
  rw [hv] at h1
  injection h1 with h1
  subst h1
  exact ⟨h2, h3, h4⟩
theorem own_slice {w : World} {base n : Nat} {t : TypeId} {v : Value} {xs : List Value} (h : w.ownsRow base t 1 v n xs) : ∃ A cap, v = .slice A n cap ∧ n ≤ cap ∧ (0 < n → ∃ g, A = some ⟨g, 0, none⟩) := by
  obtain ⟨hl, ⟨h1, h2⟩ | ⟨g, cap, cur, hv, _, _, hc, _⟩⟩ := h
  · exact ⟨none, 0, by rw [h1, h2], by omega, fun h => by omega⟩
  · exact ⟨_, cap, hv, hc, fun _ => ⟨g, rfl⟩⟩
theorem MemR.e0 (h : MemR wr w0 c cb hb eb had vs emp) (hk : k < emp.length) : wr.cell? ⟨eb, k, none⟩ = some (.bool (emp.getD k false)) := by
  obtain ⟨xt, h3⟩ := h.he
  rw [h3.cell, List.getElem?_toArray]
  exact boolsL_get hk
theorem MemR.ef (h : MemR wr w0 c cb hb eb had vs emp) (j : Nat) : wr.frozen? ⟨eb, j, none⟩ = false := by
  obtain ⟨xt, h3⟩ := h.he
  exact h3.frozen j
theorem MemR.c0 (h : MemR wr w0 c cb hb eb had vs emp) : wr.cell? ⟨cb, 0, none⟩ = some (.int .i64 c.thr) := h.hc.cell 0
theorem MemR.putE {x : Bool} (h : MemR wr w0 c cb hb eb had vs emp) (hk : k < emp.length) : MemR (wr.setCell ⟨eb, k, none⟩ (.bool x)) w0 c cb hb eb had vs (emp.set k x) := by
  obtain ⟨xt, h1⟩ := h.hh
  obtain ⟨xu, h2⟩ := h.he
  have hkk : Keep [eb] wr (wr.setCell ⟨eb, k, none⟩ (.bool x)) := (Keep.refl _ _).set_ _ (.inl (by simp))
  exact ⟨h.hc.far (p := ⟨eb, k, none⟩) (h.hc.ne_ h2 (by decide)) _, ⟨xt, h1.far (p := ⟨eb, k, none⟩) (h1.ne_ h2 (by decide)) _⟩, h.hbn, ⟨xu, blk_bool h2 k x hk⟩, h.ebn, h.vl, fun j v l hv hl => own_keep (h.row j v l hv hl) hkk (fun g hg hm => own_ne (h.row j v l hv hl) h2 (by decide) (by rw [hg, List.mem_singleton.1 hm])), h.apart⟩
theorem MachC.putE {x : Bool} (h : MachC w0 m0 wr i s) (hr : MemR wr w0 c cb hb eb had vs emp) : MachC w0 m0 (wr.setCell ⟨eb, k, none⟩ (.bool x)) i s := by
  obtain ⟨xu, h2⟩ := hr.he
  exact h.set_ h2 (by decide) (by decide) hr.ebn _ _
/-- A thread's row turns. -/
theorem MemR.put (h : MemR wr w0 c cb hb eb had vs emp) (hk : k < had.length) (hv : vs[k]? = some v) (hkk : Keep v.ownBlock.toList wr w2) (hown : w2.ownsRow w0.heap.size 50 1 v' l'.length (u64s l')) (hat : v'.ownBlock = v.ownBlock ∨ ∀ b, v'.ownBlock = some b → wr.heap.size ≤ b) :
    MemR (w2.setCell ⟨hb, k, none⟩ v') w0 c cb hb eb (had.set k l') (vs.set k v') emp := by
  obtain ⟨xt, h1⟩ := h.hh
  obtain ⟨xu, h2⟩ := h.he
  have hvl : k < vs.length := by rw [h.vl]; exact hk
  have hrow := h.row k v _ hv (List.getElem?_eq_getElem hk)
  have hnb : ∀ {b t : Nat} {cs : Array Value}, Blk wr b t cs → t ≠ 50 → b ∉ v.ownBlock.toList := fun hb ht hm => own_ne hrow hb (Ne.symm ht) (by simpa using hm)
  have h1' := h1.keep hkk (hnb h1 (by decide))
  have h2' := h2.keep hkk (hnb h2 (by decide))
  have hc' := h.hc.keep hkk (hnb h.hc (by decide))
  have hset : Keep [hb] w2 (w2.setCell ⟨hb, k, none⟩ v') := (Keep.refl _ _).set_ _ (.inl (by simp))
  have hold : ∀ (j : Nat) (x : Value) (m : List Nat), j ≠ k → vs[j]? = some x → had[j]? = some m → w2.ownsRow w0.heap.size 50 1 x m.length (u64s m) := fun j x m hj hx hm =>
    own_keep (h.row j x m hx hm) hkk (fun g hg hmm => h.apart j k x v g hx hv hj hg (by simpa using hmm))
  have hkeepS : ∀ {x : Value} {n : Nat} {xs : List Value}, w2.ownsRow w0.heap.size 50 1 x n xs → (w2.setCell ⟨hb, k, none⟩ v').ownsRow w0.heap.size 50 1 x n xs := fun ho =>
    own_keep ho hset (fun g hg hm => own_ne ho h1' (by decide) (by rw [hg, List.mem_singleton.1 hm]))
  refine ⟨hc'.far (p := ⟨hb, k, none⟩) (hc'.ne_ h1' (by decide)) _, ⟨xt, ?_⟩, h.hbn, ⟨xu, h2'.far (p := ⟨hb, k, none⟩) (h2'.ne_ h1' (by decide)) _⟩, h.ebn, by simpa using h.vl, fun j x m hx hm => ?_, fun a j x y b hx hy haj hxb => ?_⟩
  · have := h1'.set_ k v'
    have e : (vs.set k v' ++ xt) = (vs ++ xt).set k v' := by rw [List.set_append_left _ _ hvl]
    rw [e]
    simpa using this
  · by_cases e : k = j
    · subst e
      rw [List.getElem?_set_self hvl] at hx
      rw [List.getElem?_set_self hk] at hm
      injection hx with hx
      injection hm with hm
      subst hx hm
      exact hkeepS hown
    · rw [List.getElem?_set_ne e] at hx hm
      exact hkeepS (hold j x m (fun e2 => e e2.symm) hx hm)
  · have hfar : ∀ (j : Nat) (x : Value) (b : Nat), j ≠ k → vs[j]? = some x → x.ownBlock = some b → v'.ownBlock ≠ some b := fun j x b hj hx hxb e2 => by
      rcases hat with e | e
      · exact h.apart j k x v b hx hv hj hxb (by rw [← e]; exact e2)
      · have hm : ∃ m, had[j]? = some m := ⟨_, List.getElem?_eq_getElem (by rw [← h.vl]; exact (List.getElem?_eq_some_iff.1 hx).1)⟩
        obtain ⟨m, hm⟩ := hm
        have := own_lt (h.row j x m hx hm) hxb
        have := e b e2
        omega
    by_cases ea : k = a
    · subst ea
      rw [List.getElem?_set_self hvl] at hx
      rw [List.getElem?_set_ne haj] at hy
      injection hx with hx
      subst hx
      exact fun e2 => hfar j y b (fun e => haj e.symm) hy e2 hxb
    · rw [List.getElem?_set_ne ea] at hx
      by_cases ej : k = j
      · subst ej
        rw [List.getElem?_set_self hvl] at hy
        injection hy with hy
        subst hy
        exact hfar a x b (fun e => ea e.symm) hx hxb
      · rw [List.getElem?_set_ne ej] at hy
        exact h.apart a j x y b hx hy haj hxb
theorem MachC.put (h : MachC w0 m0 wr i s) (hr : MemR wr w0 c cb hb eb had vs emp) (hk : k < had.length) (hv : vs[k]? = some v) (hkk : Keep v.ownBlock.toList wr w2) (x : Value) : MachC w0 m0 (w2.setCell ⟨hb, k, none⟩ x) i s := by
  obtain ⟨xt, h1⟩ := hr.hh
  have hrow := hr.row k v _ hv (List.getElem?_eq_getElem hk)
  have hnb : ∀ {b t : Nat} {cs : Array Value}, Blk wr b t cs → t ≠ 50 → b ∉ v.ownBlock.toList := fun hb ht hm => own_ne hrow hb (Ne.symm ht) (by simpa using hm)
  have h2 : MachC w0 m0 w2 i s := h.turn hkk (fun b hb => by
    have hb' : v.ownBlock = some b := by simpa using hb
    refine ⟨(hrow.lt b hb').1, h.hm.own_foot hrow (by decide) b hb', fun e => ?_⟩
    obtain ⟨cs, hbb⟩ := own_blk hrow hb'
    exact Blk.ne_ h.hm.hP hbb (by decide) e.symm)
  exact h2.set_ (h1.keep hkk (hnb h1 (by decide))) (by decide) (by decide) hr.hbn _ _
end
theorem own_at2 {wr : World} {v v2 : Value} {o : Obj} (h : v2.ownBlock = v.ownBlock ∨ v2.ownBlock = some (wr.alloc o).heap.size) : v2.ownBlock = v.ownBlock ∨ ∀ b, v2.ownBlock = some b → wr.heap.size ≤ b := by
  rcases h with h | h
  · exact .inl h
  · right
    intro b hb
    rw [h] at hb
    injection hb with hb
    rw [← hb]
    simp
/-- Flags, so many of them turned on. -/
def orUp (b : Bool) (j : Nat) (l : List Bool) : List Bool := (l.take j).map (· || b) ++ l.drop j
theorem orUp_zero (b : Bool) (l : List Bool) : orUp b 0 l = l := by simp [orUp]
theorem orUp_all (b : Bool) (l : List Bool) : orUp b l.length l = l.map (· || b) := by simp [orUp]
theorem orUp_len (b : Bool) (j : Nat) (l : List Bool) : (orUp b j l).length = l.length := by
  unfold orUp
  rw [List.length_append, List.length_map, ← List.length_append, List.take_append_drop]
theorem orUp_get {b : Bool} {j : Nat} {l : List Bool} (h : j < l.length) : (orUp b j l).getD j false = l.getD j false := by
  unfold orUp
  rw [List.getD_eq_getElem?_getD, List.getD_eq_getElem?_getD, List.getElem?_append_right (by simp; omega), List.length_map, List.length_take, Nat.min_eq_left (by omega), Nat.sub_self, List.getElem?_drop]
  simp
theorem orUp_set {b : Bool} {j : Nat} {l : List Bool} (h : j < l.length) : (orUp b j l).set j (l.getD j false || b) = orUp b (j + 1) l := by
  unfold orUp
  rw [List.set_append_right _ _ (by simp; omega), List.length_map, List.length_take, Nat.min_eq_left (by omega), Nat.sub_self, List.take_succ_eq_append_getElem h, List.map_append, List.append_assoc]
  congr 1
  rw [List.drop_eq_getElem_cons h, List.getD_eq_getElem?_getD, List.getElem?_eq_getElem h]
  rfl
theorem bareE_or {L L' : List Nat} {emp : List Bool} : bareE L L' emp = emp.map (· || (decide (L.length = 0) || decide (L'.length = 0))) := rfl
def BareOut (L : List Nat) (w : World) (r : Ending) (w' : World) : Prop := Keep [] w w' ∧ ∃ A cap, r = .returned (.slice A L.length cap)
set_option maxRecDepth 100000 in
set_option maxHeartbeats 1000000 in
theorem law17_bare {w : World} {i : MI} {s : MS} {L : List Nat} (h : MachAt w i s) (hl : s.mem.ws.length = wordsN s.conf) (hsm : Small s.mem.ws) (hch : chainOf s.conf s.mem.ws = (L, true)) :
    Calls Try.prog 28 #[.pointer (some ⟨i.m, 0, none⟩)] w (BareOut L w) := by
  have H := Lib.hid h
  have HL := Lib.hid hl
  have HSM := Lib.hid hsm
  have HCH := Lib.hid hch
  have HO := Lib.hid h.ok
  clear h hl hsm hch
  go_enter Try.func28, Try.ntmps28
  go_wp2_with fail
  refine (m_plan H.out).mono ?_
  rintro r x ⟨rfl, rfl⟩
  go_wp2_with fail
  refine (m_conf H.out).mono ?_
  rintro r x ⟨rfl, hk⟩
  have HX := Lib.hid (H.out.keep0 hk)
  have HKx := Lib.hid hk
  clear hk
  rw [show s.conf.cells = #[.int .i64 s.conf.thr, .int .i64 s.conf.slots, .int .u64 s.conf.stamps] from rfl]
  go_wp2_with fail
  refine (m_mem HX.out).mono ?_
  rintro r y ⟨rfl, rfl⟩
  go_wp2_with fail
  refine (m_words HX.out (by rw [HL.out]; have := wordsN_ge HO.out; omega)).mono ?_
  rintro r y ⟨g, cp, xt, rfl, hw, hgn, hk⟩
  have HKy := Lib.hid (HKx.out.trans hk (by simp))
  have KC := ref17_chain s.conf y HO.out s.mem.ws g cp xt hw HL.out HSM.out
  rw [HCH.out, ← HL.out, show s.conf.cells = #[.int .i64 s.conf.thr, .int .i64 s.conf.slots, .int .u64 s.conf.stamps] from rfl] at KC
  clear hk hw hgn
  go_wp2_with fail
  refine KC.mono ?_
  clear KC
  rintro r z ⟨hk, v, rfl, hown⟩
  have HKz := Lib.hid (HKy.out.trans hk (by simp))
  obtain ⟨A, cap, rfl, _⟩ := own_slice hown
  clear hk hown
  go_wp2_with fail
  go_ret
  exact ⟨HKz.out, A, cap, rfl⟩
/-- What a round's tests will find. -/
def FlowS (s' : MS) (k : Nat) (fn : Int) (left : Bool) (had : List (List Nat)) (emp' : List Bool) (had2 : List (List Nat)) : Prop :=
  ((left = true ∨ fn = 2) ∧ had2 = had) ∨
  (left = false ∧ fn = 1 ∧ ∃ t2 e, s'.ths[k]? = some t2 ∧ t2.ret.getD 0 0 = e ∧ ((e = 0 ∧ emp'.getD k false = true ∧ had2 = had) ∨ (e ≠ 0 ∧ e < 2 ^ 64 ∧ s'.gd.leads e = true ∧ nodeE e = e ∧ (∀ j x, x ∈ had.getD j [] → slotE x ≠ slotE e ∧ x < 2 ^ 64) ∧ had2 = had.set k (had.getD k [] ++ [e]))))
theorem mkE_ne {a g : Nat} (h1 : 1 ≤ a) (h2 : a < 4096) : mkE a g ≠ 0 := fun e => by
  have := slotE_mkE (g := g) h2
  rw [e] at this
  have h0 : slotE 0 = 0 := by decide
  omega
theorem OutS.flow {c : ConfS} {s s' : MS} {k : Nat} {fn : Int} {left : Bool} {own : Nat → Own} {L G : List Nat} {had : List (List Nat)} {emp : List Bool} {n : Nat} {own' : Nat → Own} {L' G' : List Nat} (hh : CrS c s own L G had emp n) (h : OutS c s s' k fn left own L G had emp n own' L' G') :
    ∃ had2, CrS c s' own' L' G' had2 (bareE L L' emp) (n + 1) ∧ FlowS s' k fn left had (bareE L L' emp) had2 := by
  have hx64 : ∀ j x, x ∈ had.getD j [] → x < 2 ^ 64 := fun j x hx => by
    obtain ⟨a, h1, h2, _, rfl⟩ := hh.hadI j x hx
    have := hh.hp.ok.s2
    exact mkE_lt _ _ (by omega)
  cases h with
  | on h1 h2 => exact ⟨had, h2, .inl ⟨.inl h1, rfl⟩⟩
  | gave h1 h2 h3 => exact ⟨had, h3, .inl ⟨.inr h2, rfl⟩⟩
  | none_ t2 h1 h2 h3 h4 h5 h6 => exact ⟨had, h6, .inr ⟨h1, h2, t2, 0, h3, h4, .inl ⟨rfl, h5, rfl⟩⟩⟩
  | told a t2 h1 h2 h3 h4 h5 h6 h7 h8 h9 h10 =>
    have hs2 := h10.hp.ok.s2
    have ha : a < 4096 := by omega
    refine ⟨_, h10, .inr ⟨h1, h2, t2, _, h3, h4, .inr ⟨mkE_ne h5 ha, mkE_lt _ _ (by omega), ?_, nodeE_mkE ha, fun j x hx => ⟨by rw [slotE_mkE ha]; exact h9 j x hx, hx64 j x hx⟩, rfl⟩⟩⟩
    have hgl : s'.gd.gens.length = c.slots.toNat + 1 := by rw [h10.hp.gq]; simp [h10.hp.glen]
    have hgD : s'.gd.gens.getD a 0 = G'.getD (a - 1) 0 := by
      rw [h10.hp.gq]
      obtain ⟨b, rfl⟩ : ∃ b, a = b + 1 := ⟨a - 1, by omega⟩
      simp
    unfold GuardS.leads GuardS.edge
    rw [slotE_mkE ha, if_pos ⟨h5, by omega⟩, hgD]
    simp [h8]
end Go.Proofs.Ytlbhjahmgdghoaa
