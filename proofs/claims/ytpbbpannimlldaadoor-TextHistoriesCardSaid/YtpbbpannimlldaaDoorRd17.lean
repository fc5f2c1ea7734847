/- text.ReadHistory by its contract. Conditions: the library's tables and errors are as they were laid; at most 20000 bytes. -/
import Derived.Test.YtpbbpannimlldaaDoorRd15
import Derived.Test.YtpbbpannimlldaaDoorRd16
import Derived.Test.YtpbbpannimlldaaDoorRd8
import Derived.Maps.OwnIn
namespace Go.Proofs.YtpbbpannimlldaaDoor
open Go.RowKit Go.Shelf
attribute [local go_sem] Oper.semAt_some

def bareE (e : EvX) : EvX := ⟨e.thr, e.back, e.c, ⟨e.a.kind, e.a.key, e.a.val, e.a.n, e.a.ps, none, 0⟩⟩
/-- Events in memory of one's own. -/
structure EvsR (base : Nat) (w : World) (v : Value) (evs : List EvX) : Prop where
  own : w.ownsRow base 45 12 v evs.length (evs.flatMap evL)
  rows : ∀ e ∈ evs, w.ownsRow base 51 2 (.slice e.a.pA e.a.ps.length e.a.pc) e.a.ps.length (e.a.ps.flatMap pairC)
theorem EvsR.keep {base : Nat} {w w2 : World} {v : Value} {evs : List EvX} {S : List Nat} (h : EvsR base w v evs) (hk : Keep S w w2) (hS : ∀ b ∈ S, ∀ t cs, Blk w b t cs → t ≠ 45 ∧ t ≠ 51) : EvsR base w2 v evs :=
  ⟨own_keep h.own hk (fun g hg hm => by obtain ⟨cs, hb⟩ := own_blk h.own hg; exact (hS g hm _ _ hb).1 rfl), fun e he => own_keep (h.rows e he) hk (fun g hg hm => by obtain ⟨cs, hb⟩ := own_blk (h.rows e he) hg; exact (hS g hm _ _ hb).2 rfl)⟩
theorem heap_keep {S : List Nat} {w w2 : World} (hk : Keep S w w2) {b : Nat} {o : Obj} (h : w.heap[b]? = some o) (hn : b ∉ S) : w2.heap[b]? = some o :=
  (hk.block b (Array.getElem?_eq_some_iff.1 h).1 hn).trans h
theorem keep_putObj {S : List Nat} {w0 w : World} (h : Keep S w0 w) {r : Nat} (o : Obj) (hr : r ∈ S ∨ w0.heap.size ≤ r) : Keep S w0 (w.putObj r o) :=
  ⟨h.os, h.tape, h.output, by rw [World.putObj_size]; exact h.size, fun k hk hn => by
    rw [World.putObj_heap_other (fun e => by subst e; rcases hr with hr | hr; exact hn hr; omega)]
    exact h.block k hk hn⟩
theorem blk_no_loop {w : World} {b : Nat} {L : Loop} (h : w.heap[b]? = some (.loop L)) {t : TypeId} {cs : Array Value} (hb : Blk w b t cs) : False := by
  unfold Blk at hb
  rw [h] at hb
  cases hb
theorem evR_err {s : List UInt8} {k : Int} (h : evR s = .error k) : k ≠ 0 := by
  unfold evR at h
  generalize cutZ 32 s = ws at h
  by_cases h3 : ws.length < 3
  · rw [evW_few h3] at h; injection h with h; subst h; decide
  · obtain ⟨f, n, x, r, rfl⟩ := three_of h3
    cases hp : parseZ n with
    | none => rw [evW_bad hp] at h; injection h with h; subst h; decide
    | some t =>
      by_cases hf : f = backB
      · rw [evW_back hp hf] at h
        cases hr : readA (x :: r) with
        | ok a => rw [hr] at h; cases h
        | error k2 => rw [hr] at h; injection h with h; subst h; exact readA_err hr
      · by_cases hb : f = beginB
        · rw [evW_begin hp hf hb] at h
          cases hr : readC (x :: r) with
          | ok a => rw [hr] at h; cases h
          | error k2 => rw [hr] at h; injection h with h; subst h; exact readC_err hr
        · rw [evW_other hf hb] at h; injection h with h; subst h; decide
/-- Between two rounds: u is left to read. -/
structure HsJ (s : List UInt8) (w : World) (lb eb l db : Nat) (L : Loop) (u : List UInt8) (W : World) : Prop where
  hk : Keep [] w W
  lp : W.heap[l]? = some (.loop L)
  df : W.heap[db]? = some (.deferred (some []))
  e : Blk W eb 27 #[.int .i64 0]
  st : ∃ evs acc v, Blk W lb 39 #[v] ∧ EvsR w.heap.size W v evs ∧ evs.map bareE = acc.map bareE ∧ evs.length + u.length ≤ s.length ∧ resH acc (cutZ 10 u) = readH s
theorem HsJ.keep {s : List UInt8} {w : World} {lb eb l db : Nat} {L : Loop} {u : List UInt8} {W W2 : World} (h : HsJ s w lb eb l db L u W) (hk : Keep [] W W2) : HsJ s w lb eb l db L u W2 := by
  obtain ⟨evs, acc, v, h1, h2, h3, h4, h5⟩ := h.st
  exact ⟨h.hk.trans hk (by simp), heap_keep hk h.lp (by simp), heap_keep hk h.df (by simp), h.e.keep hk (by simp), evs, acc, v, h1.keep hk (by simp), h2.keep hk (by simp), h3, h4, h5⟩
/-- Behind a panic. -/
structure HsP (s : List UInt8) (w : World) (lb eb db : Nat) (ch : List PanicEntry) (W : World) : Prop where
  hk : Keep [] w W
  df : W.heap[db]? = some (.deferred (some []))
  e : Blk W eb 27 #[.int .i64 0]
  st : ∃ k v, ch = [{ v := .iface 27 (.int .i64 k), recovered := false }] ∧ k ≠ 0 ∧ readH s = .error k ∧ Blk W lb 39 #[v]
def setE (e : EvX) (A : Option Addr) (c : Nat) : EvX := ⟨e.thr, e.back, e.c, ⟨e.a.kind, e.a.key, e.a.val, e.a.n, e.a.ps, A, c⟩⟩
theorem cut_cases (u : List UInt8) : ∃ line rest wh, Lib.cut u [10] = (line, rest, wh) ∧ line.length ≤ u.length ∧ ((wh = false ∧ line = u ∧ cutZ 10 u = [u]) ∨ (wh = true ∧ rest.length < u.length ∧ cutZ 10 u = line :: cutZ 10 rest)) := by
  rcases cut_line u with ⟨h1, h2⟩ | ⟨a, b, h1, h2, h3, h4⟩
  · exact ⟨_, _, _, h1, Nat.le_refl _, .inl ⟨rfl, rfl, h2⟩⟩
  · exact ⟨_, _, _, h1, h2, .inr ⟨rfl, h3, h4⟩⟩
theorem new_second (w : World) (o o2 : Obj) : ((w.alloc o).alloc o2).heap[w.heap.size + 1]? = some o2 := by
  have := heap_alloc_new (w.alloc o) o2
  rwa [World.size_alloc] at this
theorem Blk.type {w : World} {b t t2 : Nat} {cs cs2 : Array Value} (h : Blk w b t cs) (h2 : Blk w b t2 cs2) : t = t2 := by
  rcases Nat.decEq t t2 with hn | he
  · exact absurd rfl (h.ne_ h2 hn)
  · exact he
structure HisG (base : Nat) (wA w7 : World) (v : Value) (evs : List EvX) (lb eb l db : Nat) (y : Value) (L : Loop) (W2 : World) : Prop where
  b : Blk w7 lb 39 #[y]
  e : Blk w7 eb 27 #[.int .i64 0]
  l : w7.heap[l]? = some (.loop L)
  d : w7.heap[db]? = some (.deferred (some []))
  rows : ∀ e ∈ evs, w7.ownsRow base 51 2 (.slice e.a.pA e.a.ps.length e.a.pc) e.a.ps.length (e.a.ps.flatMap pairC)
  other : ∀ {b2 n : Nat} {u : Value} {xs : List Value}, wA.ownsRow b2 51 2 u n xs → w7.ownsRow b2 51 2 u n xs
  keep : ∀ {w : World}, Keep [] w W2 → base = w.heap.size → Keep [] w w7
theorem his_grown {base : Nat} {W2 wA w7 : World} {v : Value} {evs : List EvX} {lb eb l db : Nat} {y : Value} {L : Loop} (hev : EvsR base W2 v evs) (hk : Keep [] W2 wA) (hg : wA.grownBy w7 v.ownBlock) (hb : Blk W2 lb 39 #[y]) (he : Blk W2 eb 27 #[.int .i64 0]) (hl : W2.heap[l]? = some (.loop L)) (hd : W2.heap[db]? = some (.deferred (some []))) :
    HisG base wA w7 v evs lb eb l db y L W2 := by
  have hown := own_keep hev.own hk (by simp)
  have hkG : Keep v.ownBlock.toList wA w7 := Keep.of_grown hg
  have hin : ∀ b, b ∈ v.ownBlock.toList → v.ownBlock = some b := fun b hb => by simpa using hb
  have hrow : ∀ {b2 n : Nat} {u : Value} {xs : List Value}, wA.ownsRow b2 51 2 u n xs → w7.ownsRow b2 51 2 u n xs := fun h => own_keep h hkG (fun g hg2 hm => by
    obtain ⟨cs, hb2⟩ := own_blk hown (hin g hm)
    exact own_ne h hb2 (by decide) hg2)
  refine ⟨(hb.keep hk (by simp)).keep hkG (fun hm => own_ne hown (hb.keep hk (by simp)) (by decide) (hin _ hm)), (he.keep hk (by simp)).keep hkG (fun hm => own_ne hown (he.keep hk (by simp)) (by decide) (hin _ hm)), ?_, ?_, fun e h => hrow (own_keep (hev.rows e h) hk (by simp)), hrow, fun hw hbase => (hw.trans hk (by simp)).trans hkG (fun x hx => .inr (by have := own_ge hown (hin x hx); omega))⟩
  · have h1 := heap_keep hk hl (by simp)
    refine heap_keep hkG h1 (fun hm => ?_)
    obtain ⟨cs, hb2⟩ := own_blk hown (hin _ hm)
    exact blk_no_loop h1 hb2
  · have h1 := heap_keep hk hd (by simp)
    refine heap_keep hkG h1 (fun hm => ?_)
    obtain ⟨cs, hb2⟩ := own_blk hown (hin _ hm)
    unfold Blk at hb2
    rw [h1] at hb2
    cases hb2
def HsR (s : List UInt8) (w : World) (lb eb l db : Nat) (L : Loop) : Ending → World → Prop
  | .returned _, W => HsJ s w lb eb l db L [] W
  | .panicked ch, W => HsP s w lb eb db ch W
  | .outgrown, _ => False
def ReadHOut (s : List UInt8) (w : World) (r : Ending) (w' : World) : Prop := Keep [] w w' ∧ match readH s with
  | .ok es => ∃ A cap evs, r = .returned (.tuple #[.slice A evs.length cap, .int .i64 0]) ∧ EvsR w.heap.size w' (.slice A evs.length cap) evs ∧ evs.map bareE = es.map bareE
  | .error k => r = .returned (.tuple #[.slice none 0 0, .int .i64 k])
theorem infoEv : (Tryd.prog.info? 45).map (fun i => (i.zero, i.size, i.bytes)) = some (some (.agg evC0), 12, 112) := by kernel_rfl
set_option maxRecDepth 100000 in
set_option maxHeartbeats 4000000 in
theorem text_readHistory (s : List UInt8) (w : World) (hs : s.length ≤ 20000) (ht : TabsOk w) : Calls Tryd.prog 13 #[.string ⟨s.toArray⟩] w (ReadHOut s w) := by
  have HT := Lib.hid ht
  have HS5 := Lib.hid hs
  clear ht hs
  have hmf : ∀ (fn : Fn) (first cap : Array Value) (w : World), (Instr.makeFunc fn first cap).run Tryd.prog w = .ok (.func fn first cap) w := fun _ _ _ _ => rfl
  refine calls_of_at Tryd.func13 rfl ?_
  simp only [Tryd.ntmps13, List.size_toArray, List.length_cons, List.length_nil, Nat.reduceAdd, Nat.reduceSub, Array.replicate_succ, Array.replicate_zero, List.push_toArray, List.append_toArray, List.nil_append, List.cons_append]
  refine wpAt_step fun K hK => ?_
  go_wp2_with fail
  refine wpAt_step fun K hK => ?_
  go_wp2_with fail
  refine wpAt_seq ?_
  refine wpAt_step fun K hK => ?_
  go_wp2_with fail
  refine wpAt_block ?_
  have hsz1 : (w.alloc (.cells #[.string ⟨s.toArray⟩] 9)).heap.size = w.heap.size + 1 := by show (w.heap.push _).size = _; simp
  have hsz2 : ((w.alloc (.cells #[.string ⟨s.toArray⟩] 9)).alloc (.cells #[.slice none 0 0] 39)).heap.size = w.heap.size + 1 + 1 := by show ((w.alloc _).heap.push _).size = _; simp
  have HSB := Lib.hid (((Blk.new w 9 #[.string ⟨s.toArray⟩]).alloc (.cells #[.slice none 0 0] 39)).alloc (.cells #[.int .i64 0] 27))
  have hlb := (Blk.new (w.alloc (.cells #[.string ⟨s.toArray⟩] 9)) 39 #[.slice none 0 0]).alloc (.cells #[.int .i64 0] 27)
  have heb := Blk.new ((w.alloc (.cells #[.string ⟨s.toArray⟩] 9)).alloc (.cells #[.slice none 0 0] 39)) 27 #[.int .i64 0]
  rw [hsz1] at hlb
  rw [hsz2] at heb
  have HK0 := Lib.hid ((((Keep.refl [] w).alloc (.cells #[.string ⟨s.toArray⟩] 9)).alloc (.cells #[.slice none 0 0] 39)).alloc (.cells #[.int .i64 0] 27))
  generalize ((w.alloc _).alloc _).alloc _ = W0 at HSB hlb heb HK0 ⊢
  have HLB := Lib.hid hlb
  have HEB := Lib.hid heb
  clear hlb heb hsz1 hsz2
  generalize hen : w.heap.size + 1 + 1 = eb at HEB ⊢
  generalize hln : w.heap.size + 1 = lb at HLB ⊢
  have HNE : Hid (w.heap.size ≤ eb) := Lib.hid (by omega)
  have HNL : Hid (w.heap.size ≤ lb) := Lib.hid (by omega)
  clear hen hln
  generalize hsn : w.heap.size = sb at HSB ⊢
  have HNS : Hid (w.heap.size ≤ sb) := Lib.hid (by omega)
  clear hsn
  refine wpAt_enter (n := 2) rfl (by simp [invoke, go_sem]; rfl) ?_
  intro L W1 hL hW1 hlp hdf
  have HL := Lib.hid hL
  have hkw : Keep [] W0 W1 := by rw [hW1]; exact ((Keep.refl [] W0).alloc _).alloc _
  have hsb1 : W1.cell? ⟨sb, 0, none⟩ = some (.string ⟨s.toArray⟩) := (HSB.out.keep hkw (by simp)).cell 0
  have HJ : Hid (HsJ s w lb eb (W0.heap.size + 1) W0.heap.size L s W1) := Lib.hid ⟨HK0.out.trans hkw (by simp), hlp, hdf, HEB.out.keep hkw (by simp), [], [], _, HLB.out.keep hkw (by simp), ⟨⟨rfl, .inl ⟨rfl, rfl⟩⟩, fun e he => by cases he⟩, rfl, by simp, by rw [resH_nil]; rfl⟩
  have HND : Hid (w.heap.size ≤ W0.heap.size) := Lib.hid HK0.out.size
  clear hL hW1 hlp hdf hkw
  generalize W0.heap.size = db at *
  have HST : Hid (∀ u W, u ≠ [] → u.length ≤ 20000 → HsJ s w lb eb (db + 1) db L u W → YieldAt Fence.wide 0 Tryd.prog (db + 1) #[.string ⟨(Lib.cut u [10]).1.toArray⟩, .bool (Lib.cut u [10]).2.2] W (fun e W' => (e = .returned (.bool true) ∧ HsJ s w lb eb (db + 1) db L (Lib.cut u [10]).2.1 W') ∨ (∃ ch, e = .panicked ch ∧ HsR s w lb eb (db + 1) db L (.panicked ch) W'))) := Lib.hid (by
    intro u W hne hu hj
    have HJ0 := Lib.hid hj
    have HNEU := Lib.hid hne
    obtain ⟨line, rest, wh, hc, hll, hcase⟩ := cut_cases u
    rw [hc]
    dsimp only
    have hlp := hj.lp
    rw [HL.out] at hlp
    obtain ⟨evs, acc, v, hb, hev, hmap, hcnt, hres⟩ := hj.st
    obtain ⟨A, cap, rfl⟩ := own_form hev.own
    have HBADR : Hid (∀ k, evR line = .error k → readH s = .error k) := Lib.hid (fun k hk => by
      rw [← hres]
      rcases hcase with ⟨_, rfl, hz⟩ | ⟨_, _, hz⟩
      · rw [hz, resH_last acc hne, hk]
      · rw [hz]
        cases hr : cutZ 10 rest with
        | nil => exact absurd hr (cutZ_ne _ _)
        | cons y r => exact resH_bad acc hk)
    have HEND : Hid (wh = false → ∀ e, evR line = .ok e → readH s = .error 5) := Lib.hid (fun hw e he => by
      rw [← hres]
      rcases hcase with ⟨_, rfl, hz⟩ | ⟨hw2, _, _⟩
      · rw [hz, resH_last acc hne, he]
      · rw [hw] at hw2; cases hw2)
    have HNEXT : Hid (wh = true → rest.length < u.length ∧ ∀ e, evR line = .ok e → resH (acc ++ [e]) (cutZ 10 rest) = readH s) := Lib.hid (fun hw => by
      rcases hcase with ⟨hw2, _, _⟩ | ⟨_, hlt, hz⟩
      · rw [hw] at hw2; cases hw2
      · refine ⟨hlt, fun e he => ?_⟩
        rw [← hres, hz]
        cases hr : cutZ 10 rest with
        | nil => exact absurd hr (cutZ_ne _ _)
        | cons y r => rw [resH_step acc he])
    obtain ⟨W2, hW2⟩ : ∃ W2, W2 = W.putObj (db + 1) (.loop { L with state := .busy }) := ⟨_, rfl⟩
    have hbeg : (Instr.beginRound (db + 1)).run Tryd.prog W = .ok () W2 := by rw [hW2]; exact run_beginRound hj.lp (by rw [HL.out])
    have hlp2 : W2.heap[db + 1]? = some (.loop { L with state := .busy }) := by rw [hW2]; exact World.putObj_heap_same (Array.getElem?_eq_some_iff.1 hj.lp).1
    have hk2 : Keep [db + 1] W W2 := by rw [hW2]; exact keep_putObj (Keep.refl _ _) _ (.inl (by simp))
    have hno : ∀ t cs, Blk W (db + 1) t cs → False := fun t cs h => blk_no_loop hj.lp h
    have HLP2 := Lib.hid hlp2
    have HDF2 := Lib.hid (heap_keep hk2 hj.df (by simp))
    have HE2 := Lib.hid (hj.e.keep hk2 (fun hm => hno _ _ (by rw [← List.mem_singleton.1 hm]; exact hj.e)))
    have HB2 := Lib.hid (hb.keep hk2 (fun hm => hno _ _ (by rw [← List.mem_singleton.1 hm]; exact hb)))
    have HEV2 := Lib.hid (hev.keep hk2 (fun b hm t cs h => (hno _ _ (by rw [← List.mem_singleton.1 hm]; exact h)).elim))
    have HK2 := Lib.hid (hj.hk.trans hk2 (fun x hx => .inr (by rw [List.mem_singleton.1 hx]; have := HND.out; omega)))
    have HBEG := Lib.hid hbeg
    have HMAP := Lib.hid hmap
    have HCNT := Lib.hid hcnt
    have HUL := Lib.hid hu
    have KE := Lib.hid (text_eventR line W2 (by omega) (HT.out.keep HK2.out))
    unfold EvOut panE at KE
    refine ⟨_, _, _, _, run_yield hlp rfl, ?_⟩
    clear hj hne hc hll hcase hb hev hmap hcnt hres hW2 hbeg hlp2 hk2 hno hu hlp
    refine round_law_k Tryd.func13 trivial ?_
    intro K hK
    dsimp only
    simp only [List.zip_toArray, List.zip_cons_cons, List.zip_nil_right, List.size_toArray, List.length_cons, List.length_nil, List.foldl_toArray', List.foldl_cons, List.foldl_nil, List.setIfInBounds_toArray, List.set_cons_succ, List.set_cons_zero]
    gi_wp2
    refine ⟨W2, HBEG.out, ?_⟩
    cases hvr : evR line with
    | error k =>
      rw [hvr] at KE
      have HRD := Lib.hid (HBADR.out k hvr)
      have HK0 := Lib.hid (evR_err hvr)
      clear hvr
      gi_wp2_with (refine ⟨trivial, rfl, ?_⟩; gi_at_call 34; refine (CallsIn.inRound (db + 1) (callsIn_wide.2 KE.out)).mono ?_; rintro r w3 ⟨hk, rfl⟩; have HKN := Lib.hid hk; clear hk)
      exact ⟨rfl, .inr ⟨_, rfl, HK2.out.trans HKN.out (by simp), heap_keep HKN.out HDF2.out (by simp), HE2.out.keep HKN.out (by simp), k, _, rfl, HK0.out, HRD.out, HB2.out.keep HKN.out (by simp)⟩⟩
    | ok e =>
      rw [hvr] at KE
      have HVR := Lib.hid hvr
      clear hvr
      cases wh with
      | false =>
        have HRD := Lib.hid (HEND.out rfl e HVR.out)
        gi_wp2_with (refine ⟨trivial, rfl, ?_⟩; gi_at_call 34; refine (CallsIn.inRound (db + 1) (callsIn_wide.2 KE.out)).mono ?_; rintro r w3 ⟨hk, A2, c2, rfl, ho⟩; have HKN := Lib.hid (hk.alloc (.cells #[.int .i64 e.thr, .bool e.back, .int .i64 e.c.op, .int .i64 e.c.key, .int .i64 e.c.val, .int .i64 e.c.hi, .int .i64 e.c.lim, .int .i64 e.a.kind, .int .i64 e.a.key, .int .i64 e.a.val, .int .i64 e.a.n, .slice A2 e.a.ps.length c2] 45)); clear hk ho)
        exact ⟨rfl, .inr ⟨_, rfl, HK2.out.trans HKN.out (by simp), heap_keep HKN.out HDF2.out (by simp), HE2.out.keep HKN.out (by simp), 5, _, rfl, by decide, HRD.out, HB2.out.keep HKN.out (by simp)⟩⟩
      | true =>
        obtain ⟨hrl, hnx⟩ := HNEXT.out rfl
        have HRL := Lib.hid hrl
        have HNX := Lib.hid (hnx e HVR.out)
        clear hrl hnx
        obtain ⟨i0, hi, hz0, hz1, hz2⟩ := info_partsT infoEv
        have HI0 := Lib.hid hi
        have HZ0 := Lib.hid hz0
        have HZ1 := Lib.hid hz1
        have HZ2 := Lib.hid hz2
        clear hi hz0 hz1 hz2
        gi_wp2_with (first | (refine ⟨trivial, rfl, ?_⟩; gi_at_call 34; refine (CallsIn.inRound (db + 1) (callsIn_wide.2 KE.out)).mono ?_; rintro r w3 ⟨hk, A2, c2, rfl, ho⟩; have HK3 := Lib.hid hk; have HO3 := Lib.hid (own_more ho HK2.out.size); have hl0 : (w3.alloc (.cells #[.int .i64 e.thr, .bool e.back, .int .i64 e.c.op, .int .i64 e.c.key, .int .i64 e.c.val, .int .i64 e.c.hi, .int .i64 e.c.lim, .int .i64 e.a.kind, .int .i64 e.a.key, .int .i64 e.a.val, .int .i64 e.a.n, .slice A2 e.a.ps.length c2] 45)).cell? ⟨lb, 0, none⟩ = some (.slice A evs.length cap) := ((HB2.out.keep hk (by simp)).alloc _).cell 0; have HNB := Lib.hid (new_second w3 (.cells #[.int .i64 e.thr, .bool e.back, .int .i64 e.c.op, .int .i64 e.c.key, .int .i64 e.c.val, .int .i64 e.c.hi, .int .i64 e.c.lim, .int .i64 e.a.kind, .int .i64 e.a.key, .int .i64 e.a.val, .int .i64 e.a.n, .slice A2 e.a.ps.length c2] 45) (.cells #[.int .i64 e.thr, .bool e.back, .int .i64 e.c.op, .int .i64 e.c.key, .int .i64 e.c.val, .int .i64 e.c.hi, .int .i64 e.c.lim, .int .i64 e.a.kind, .int .i64 e.a.key, .int .i64 e.a.val, .int .i64 e.a.n, .slice A2 e.a.ps.length c2] 45)); have HKA := Lib.hid ((hk.alloc (.cells #[.int .i64 e.thr, .bool e.back, .int .i64 e.c.op, .int .i64 e.c.key, .int .i64 e.c.val, .int .i64 e.c.hi, .int .i64 e.c.lim, .int .i64 e.a.kind, .int .i64 e.a.key, .int .i64 e.a.val, .int .i64 e.a.n, .slice A2 e.a.ps.length c2] 45)).alloc (.cells #[.int .i64 e.thr, .bool e.back, .int .i64 e.c.op, .int .i64 e.c.key, .int .i64 e.c.val, .int .i64 e.c.hi, .int .i64 e.c.lim, .int .i64 e.a.kind, .int .i64 e.a.key, .int .i64 e.a.val, .int .i64 e.a.n, .slice A2 e.a.ps.length c2] 45)); have HOA := Lib.hid (own_keep (own_more ho HK2.out.size) (((Keep.refl [] w3).alloc (.cells #[.int .i64 e.thr, .bool e.back, .int .i64 e.c.op, .int .i64 e.c.key, .int .i64 e.c.val, .int .i64 e.c.hi, .int .i64 e.c.lim, .int .i64 e.a.kind, .int .i64 e.a.key, .int .i64 e.a.val, .int .i64 e.a.n, .slice A2 e.a.ps.length c2] 45)).alloc (.cells #[.int .i64 e.thr, .bool e.back, .int .i64 e.c.op, .int .i64 e.c.key, .int .i64 e.c.val, .int .i64 e.c.hi, .int .i64 e.c.lim, .int .i64 e.a.kind, .int .i64 e.a.key, .int .i64 e.a.val, .int .i64 e.a.n, .slice A2 e.a.ps.length c2] 45)) (by simp)); clear hk ho) | (gi_at_builtin; go_loud (refine wpListIn_append_own_at _ rfl (.tmp 16) (.tmp 18) 39 rfl w.heap.size 45 i0 (.agg evC0) 12 112 Tryd.underlying39 HI0.out HZ0.out HZ1.out HZ2.out rfl (by decide) (.slice A evs.length cap) evs.length (evs.flatMap evL) rfl (own_keep (S := []) HEV2.out.own ((HK3.out.alloc _).alloc _) (by simp)) ⟨_, 0, none⟩ 1 1 (evL (setE e A2 c2)) rfl rfl (World.news_of_block HNB.out) (by simp [evL, setE, EvX.cells, Value.oneCell']) (by have := HCNT.out; have := HS5.out; unfold maxLen; omega) (by have := HCNT.out; have := HS5.out; omega) (Nat.le_trans HK2.out.size ((HK3.out.alloc _).alloc _).size) ?_); intro v2 w7 hown hg hnil hat; clear hnil hat; go_loud (obtain ⟨A5, c5, rfl⟩ := own_form hown); have HG := Lib.hid (his_grown HEV2.out HKA.out hg HB2.out HE2.out HLP2.out HDF2.out); have hc7 : w7.cell? ⟨lb, 0, none⟩ = some (.slice A evs.length cap) := HG.out.b.cell 0; have hf7 := HG.out.b.frozen 0; have HOW := Lib.hid hown; clear hown hg hl0))
        have hnl : lb ≠ db + 1 := fun h => blk_no_loop HG.out.l (h ▸ HG.out.b)
        have hnd : lb ≠ db := fun h => by have h1 := HG.out.d; have h2 := HG.out.b; rw [← h] at h1; unfold Blk at h2; rw [h1] at h2; cases h2
        have hk8 : Keep [lb] w7 (w7.setCell ⟨lb, 0, none⟩ (.slice A5 (evs.length + 1) c5)) := (Keep.refl _ _).set_ _ (.inl (by simp))
        have hb8 := HG.out.b.set_ 0 (.slice A5 (evs.length + 1) c5)
        have he8 := HG.out.e.far (p := ⟨lb, 0, none⟩) (HG.out.e.ne_ HG.out.b (by decide)) (.slice A5 (evs.length + 1) c5)
        have hl8 := heap_keep hk8 HG.out.l (by simp; exact fun h => hnl h.symm)
        have hd8 := heap_keep hk8 HG.out.d (by simp; exact fun h => hnd h.symm)
        have hev7 : EvsR w.heap.size w7 (.slice A5 (evs.length + 1) c5) (evs ++ [setE e A2 c2]) := ⟨by rw [List.length_append, List.length_singleton, List.flatMap_append]; simpa using HOW.out, fun x hx => by
          rcases List.mem_append.1 hx with h1 | h1
          · exact HG.out.rows x h1
          · rw [List.mem_singleton.1 h1]; exact HG.out.other HOA.out⟩
        have hev8 := hev7.keep hk8 (fun b hm t cs h => by
          have h2 : Blk w7 lb t cs := by rw [← List.mem_singleton.1 hm]; exact h
          have h3 : t = 39 := Blk.type h2 HG.out.b
          subst h3
          exact ⟨by decide, by decide⟩)
        have hk7 := HG.out.keep HK2.out rfl
        have hk08 := hk7.trans hk8 (fun x hx => .inr (by rw [List.mem_singleton.1 hx]; exact HNL.out))
        generalize w7.setCell _ _ = w8 at hb8 he8 hl8 hd8 hev8 hk08 ⊢
        refine ⟨_, _, run_endRound none hl8, .inl ⟨rfl, ?_⟩⟩
        have hno : ∀ t cs, Blk w8 (db + 1) t cs → False := fun t cs h => blk_no_loop hl8 h
        have hkp : ∀ o, Keep [db + 1] w8 (w8.putObj (db + 1) o) := fun o => keep_putObj (Keep.refl _ _) o (.inl (by simp))
        refine ⟨hk08.trans (hkp _) (fun x hx => .inr (by rw [List.mem_singleton.1 hx]; have := HND.out; omega)), ?_, heap_keep (hkp _) hd8 (by simp), he8.keep (hkp _) (fun hm => hno _ _ (by rw [← List.mem_singleton.1 hm]; exact he8)), evs ++ [setE e A2 c2], acc ++ [e], _, hb8.keep (hkp _) (fun hm => hno _ _ (by rw [← List.mem_singleton.1 hm]; exact hb8)), hev8.keep (hkp _) (fun b hm t cs h => (hno _ _ (by rw [← List.mem_singleton.1 hm]; exact h)).elim), ?_, ?_, HNX.out⟩
        · rw [World.putObj_heap_same (Array.getElem?_eq_some_iff.1 hl8).1, HL.out]
          rfl
        · rw [List.map_append, List.map_append, HMAP.out]
          rfl
        · have h1 := HCNT.out
          have h2 := HRL.out
          rw [List.length_append, List.length_singleton]
          omega)
  have KL := Lib.hid (text_lines (db + 1) s W1 (HsJ s w lb eb (db + 1) db L) (HsR s w lb eb (db + 1) db L) HJ.out HS5.out (fun u W h => HT.out.keep h.hk) (fun u W n h => h.keep ((Keep.refl [] W).drewN n)) (fun W v h => h) HST.out)
  clear HST
  refine CallsIn.mono (R := HsR s w lb eb (db + 1) db L) ?_ ?_
  · refine callsIn_of_wp Tryd.func32 rfl trivial ?_ rfl
    simp only [Tryd.ntmps32, List.size_toArray, List.length_cons, List.length_nil, Nat.reduceAdd, Nat.reduceSub, Array.replicate_succ, Array.replicate_zero, List.push_toArray, List.append_toArray, List.nil_append, List.cons_append]
    gi_wp2_with (refine ⟨trivial, ?_⟩; gi_at_call 33; refine (KL.out).mono ?_; intro e w2 h; have HH := Lib.hid h; clear h)
    · go_end0
      exact HH.out
    · exact ⟨rfl, HH.out⟩
  clear KL HJ hsb1
  intro e W2 hr
  cases e with
  | outgrown => exact hr.elim
  | panicked ch =>
    obtain ⟨k, v, rfl, hk0, hrd, hb⟩ := hr.st
    have HK0 := Lib.hid hk0
    have HRD := Lib.hid hrd
    refine ⟨_, db, _, _, rfl, rfl, run_takeDeferred hr.df, ?_⟩
    have hkp : Keep [db] W2 (W2.putObj db (.deferred none)) := keep_putObj (Keep.refl _ _) _ (.inl (by simp))
    have hdn : ∀ t cs, Blk W2 db t cs → False := fun t cs hb => by unfold Blk at hb; rw [hr.df] at hb; cases hb
    have HE3 := Lib.hid (hr.e.keep hkp (fun hm => hdn _ _ (by rw [← List.mem_singleton.1 hm]; exact hr.e)))
    have HB3 := Lib.hid (hb.keep hkp (fun hm => hdn _ _ (by rw [← List.mem_singleton.1 hm]; exact hb)))
    have HK3 := Lib.hid (hr.hk.trans hkp (fun x hx => .inr (by rw [List.mem_singleton.1 hx]; exact HND.out)))
    clear hr hk0 hrd hb hkp hdn
    generalize W2.putObj _ _ = W3 at HE3 HB3 HK3 ⊢
    refine leaves_cons (f := 31) (args := #[.pointer (some ⟨eb, 0, none⟩), .pointer (some ⟨lb, 0, none⟩)]) (by simp) (by simp [go_sem]) ?_
    refine (catch_his_pan eb lb (.int .i64 0) v k [] W3 HE3.out HB3.out HK0.out).mono ?_
    rintro e u' w6 ⟨rfl, rfl, hk, hef, hbf⟩
    have HBF := Lib.hid hbf
    have HEF := Lib.hid hef
    have HKF := Lib.hid (HK3.out.trans hk (fun x hx => .inr (by have := HNE.out; have := HNL.out; simp at hx; rcases hx with rfl | rfl <;> assumption)))
    clear hk hef hbf
    have hq0 : w6.cell? ⟨lb, 0, none⟩ = some (.slice none 0 0) := HBF.out.cell 0
    have hq5 : w6.cell? ⟨eb, 0, none⟩ = some (.int .i64 k) := HEF.out.cell 0
    simp [Leaves, settle, results, Tryd.results13, go_sem, hq0, hq5]
    exact ⟨HKF.out, by rw [HRD.out] <;> rfl⟩
  | returned v =>
    have hlp := hr.lp
    rw [HL.out] at hlp
    refine ⟨_, run_endLoop hlp (by simp), ?_⟩
    change wpAt _ _ _ _ _ _
    obtain ⟨evs, acc, v, hb, hev, hmap, hlen, hres⟩ := hr.st
    have HRD : Hid (readH s = .ok acc) := Lib.hid (hres.symm.trans (resH_end acc))
    have HMP := Lib.hid hmap
    have hkp : ∀ o, Keep [db + 1] W2 (W2.putObj (db + 1) o) := fun o => keep_putObj (Keep.refl _ _) o (.inl (by simp))
    have hno : ∀ t cs, Blk W2 (db + 1) t cs → False := fun t cs h => blk_no_loop hr.lp h
    generalize hW4 : W2.putObj (db + 1) _ = W4
    have hk4 : Keep [db + 1] W2 W4 := hW4 ▸ hkp _
    have HB4 := Lib.hid (hb.keep hk4 (fun hm => hno _ _ (by rw [← List.mem_singleton.1 hm]; exact hb)))
    have HE4 := Lib.hid (hr.e.keep hk4 (fun hm => hno _ _ (by rw [← List.mem_singleton.1 hm]; exact hr.e)))
    have HEV4 := Lib.hid (hev.keep hk4 (fun b hm t cs h => (hno _ _ (by rw [← List.mem_singleton.1 hm]; exact h)).elim))
    have HK4 := Lib.hid (hr.hk.trans hk4 (fun x hx => .inr (by rw [List.mem_singleton.1 hx]; have := HND.out; omega)))
    have HD4 := Lib.hid (heap_keep hk4 hr.df (by simp))
    clear hr hlp hb hev hmap hlen hres hkp hno hW4 hk4
    obtain ⟨A, cap, rfl⟩ := own_form HEV4.out.own
    have HLE : Hid (lb ≠ eb) := Lib.hid (HB4.out.ne_ HE4.out (by decide))
    have hc0 : W4.cell? ⟨lb, 0, none⟩ = some (.slice A evs.length cap) := HB4.out.cell 0
    have hf0 := HB4.out.frozen 0
    have hc1 : W4.cell? ⟨eb, 0, none⟩ = some (.int .i64 0) := HE4.out.cell 0
    have hf1 := HE4.out.frozen 0
    have hc2 : (W4.setCell ⟨lb, 0, none⟩ (.slice A evs.length cap)).cell? ⟨eb, 0, none⟩ = some (.int .i64 0) := (HE4.out.far (p := ⟨lb, 0, none⟩) (Ne.symm HLE.out) (.slice A evs.length cap)).cell 0
    have hf2 := (HE4.out.far (p := ⟨lb, 0, none⟩) (Ne.symm HLE.out) (.slice A evs.length cap)).frozen 0
    refine wpAt_step fun K hK => ?_
    go_wp2_with fail
    refine wpAt_ret ?_
    clear hc0 hf0 hc1 hf1 hc2 hf2
    have hk5 : Keep [lb, eb] W4 ((W4.setCell ⟨lb, 0, none⟩ (.slice A evs.length cap)).setCell ⟨eb, 0, none⟩ (.int .i64 0)) := ((Keep.refl _ _).set_ (p := ⟨lb, 0, none⟩) _ (.inl (by simp))).set_ (p := ⟨eb, 0, none⟩) _ (.inl (by simp))
    have HB5 := Lib.hid ((HB4.out.set_ 0 (.slice A evs.length cap)).far (p := ⟨eb, 0, none⟩) HLE.out (.int .i64 0))
    have HE5 := Lib.hid ((HE4.out.far (p := ⟨lb, 0, none⟩) (Ne.symm HLE.out) (.slice A evs.length cap)).set_ 0 (.int .i64 0))
    have hty : ∀ b ∈ [lb, eb], ∀ t cs, Blk W4 b t cs → t ≠ 45 ∧ t ≠ 51 := fun b hm t cs h => by
      simp at hm
      rcases hm with rfl | rfl
      · obtain rfl := Blk.type h HB4.out; exact ⟨by decide, by decide⟩
      · obtain rfl := Blk.type h HE4.out; exact ⟨by decide, by decide⟩
    have HEV5 := Lib.hid (HEV4.out.keep hk5 hty)
    have HK5 := Lib.hid (HK4.out.trans hk5 (fun x hx => .inr (by have := HNE.out; have := HNL.out; simp at hx; rcases hx with rfl | rfl <;> assumption)))
    have HD5 := Lib.hid (heap_keep hk5 HD4.out (by
      have h1 := HD4.out
      simp only [List.mem_cons, List.not_mem_nil, or_false]
      rintro (rfl | rfl)
      · have h2 := HB4.out; unfold Blk at h2; rw [h1] at h2; cases h2
      · have h2 := HE4.out; unfold Blk at h2; rw [h1] at h2; cases h2))
    clear hk5 hty
    generalize World.setCell (World.setCell W4 _ _) _ _ = W5 at HB5 HE5 HEV5 HK5 HD5 ⊢
    clear HB4 HE4 HEV4 HK4 HD4
    refine ⟨_, db, _, _, rfl, rfl, run_takeDeferred HD5.out, ?_⟩
    have hkp : Keep [db] W5 (W5.putObj db (.deferred none)) := keep_putObj (Keep.refl _ _) _ (.inl (by simp))
    have hdn : ∀ t cs, Blk W5 db t cs → False := fun t cs hb => by have := HD5.out; unfold Blk at hb; rw [this] at hb; cases hb
    have HB6 := Lib.hid (HB5.out.keep hkp (fun hm => hdn _ _ (by rw [← List.mem_singleton.1 hm]; exact HB5.out)))
    have HE6 := Lib.hid (HE5.out.keep hkp (fun hm => hdn _ _ (by rw [← List.mem_singleton.1 hm]; exact HE5.out)))
    have HEV6 := Lib.hid (HEV5.out.keep hkp (fun b hm t cs h => (hdn _ _ (by rw [← List.mem_singleton.1 hm]; exact h)).elim))
    have HK6 := Lib.hid (HK5.out.trans hkp (fun x hx => .inr (by rw [List.mem_singleton.1 hx]; exact HND.out)))
    clear hkp hdn
    generalize W5.putObj _ _ = W6 at HB6 HE6 HEV6 HK6 ⊢
    clear HB5 HE5 HEV5 HK5 HD5
    refine leaves_cons (f := 31) (args := #[.pointer (some ⟨eb, 0, none⟩), .pointer (some ⟨lb, 0, none⟩)]) (by simp) (by simp [go_sem]) ?_
    refine (catch_his_idle eb lb (.int .i64 0) W6 (HE6.out.cell 0) (HE6.out.frozen 0)).mono ?_
    rintro e u' w7 ⟨rfl, rfl, rfl⟩
    have hk7 : Keep [eb] W6 (W6.setCell ⟨eb, 0, none⟩ (.int .i64 0)) := (Keep.refl _ _).set_ (p := ⟨eb, 0, none⟩) _ (.inl (by simp))
    have HB7 := Lib.hid (HB6.out.far (p := ⟨eb, 0, none⟩) HLE.out (.int .i64 0))
    have HE7 := Lib.hid (HE6.out.set_ 0 (.int .i64 0))
    have HEV7 := Lib.hid (HEV6.out.keep hk7 (fun b hm t cs h => by
      have h2 : Blk W6 eb t cs := by rw [← List.mem_singleton.1 hm]; exact h
      obtain rfl := Blk.type h2 HE6.out
      exact ⟨by decide, by decide⟩))
    have HK7 := Lib.hid (HK6.out.trans hk7 (fun x hx => .inr (by rw [List.mem_singleton.1 hx]; exact HNE.out)))
    clear hk7
    generalize W6.setCell _ _ = w7 at HB7 HE7 HEV7 HK7 ⊢
    have hq0 : w7.cell? ⟨lb, 0, none⟩ = some (.slice A evs.length cap) := HB7.out.cell 0
    have hq5 : w7.cell? ⟨eb, 0, none⟩ = some (.int .i64 0) := HE7.out.cell 0
    simp [Leaves, settle, results, Tryd.results13, go_sem, hq0, hq5]
    exact ⟨HK7.out, by rw [HRD.out]; exact ⟨A, cap, evs, rfl, HEV7.out, HMP.out⟩⟩
end Go.Proofs.YtpbbpannimlldaaDoor
