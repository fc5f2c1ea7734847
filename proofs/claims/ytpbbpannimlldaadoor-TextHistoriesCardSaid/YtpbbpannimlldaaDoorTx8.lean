/- A history, written: text.History by its contract (a strings.Builder under the library's contracts). Conditions: the library's table is as it was laid; numbers are int64, at most 4100 events, at most 4100 pairs each. -/
import Derived.Test.YtpbbpannimlldaaDoorTxV
namespace Go.Proofs.YtpbbpannimlldaaDoor
open Go.RowKit Go.Lib

theorem Tryd.lays166 : Go.Proofs.Lays.n166 Tryd.prog Tryd.lays156_ren := { Tryd.lays156 with }
theorem bld_write (B b : Nat) (bs : List Value) (s : ByteArray) (w : World) (h : Lib.IsBuilderF 72 5 B b bs w) (hlen : bs.length + s.size ≤ 140737488355328) (hBw : B ≤ w.heap.size) :
    Calls Tryd.prog 35 #[.pointer (some ⟨b, 0, none⟩), .string s] w fun e w' => e = .returned (.tuple #[.int .i64 s.size, .nilIface]) ∧ (Lib.BuilderAtF 72 5 B b (.pointer (some ⟨b, 0, none⟩)) (bs ++ Lib.strCells s) w' ∧ Below B w w' ∧ Lib.OthersKept 5 (some b) w w') := Any.Builder_WriteString_k Tryd.lays166 Tryd.Builder_Extra_156 B b bs s w h hlen hBw
theorem bldAt_keep {T e : TypeId} {B b : Nat} {p : Value} {bs : List Value} {w w' : World} (h : Lib.BuilderAtF T e B b p bs w) (hk : Keep [] w w') : Lib.BuilderAtF T e B b p bs w' := by
  have hlt := h.lt
  obtain ⟨hB, v, hv, hown, hne⟩ := h
  have hb := Keep.below hk
  exact ⟨hB, v, (hb.block b hlt).trans hv, hown.kept (row := none) ⟨hb.os, hb.tape, hb.output, hb.size, fun k hk _ => hb.block k hk⟩ (Classical.em _), hne⟩
theorem bld_keep {T e : TypeId} {B b : Nat} {bs : List Value} {w w' : World} (h : Lib.IsBuilderF T e B b bs w) (hk : Keep [] w w') : Lib.IsBuilderF T e B b bs w' := h.elim (fun x => .inl (bldAt_keep x hk)) (fun x => .inr (bldAt_keep x hk))
def ev0 : EvX := ⟨0, false, ⟨0, 0, 0, 0, 0⟩, ⟨0, 0, 0, 0, [], none, 0⟩⟩
def evL (e : EvX) : List Value := e.cells.toList
theorem ElAt.at_evx {w : World} {A : Option Addr} {l : List EvX} (h : ElAt evL w A l) {k : Nat} (hk : k < l.length) : ∃ b o, A = some ⟨b, o, none⟩ ∧ b < w.heap.size ∧ w.cell? ⟨b, o + k * 12, none⟩ = some (.int .i64 (l.getD k ev0).thr) ∧ w.cell? ⟨b, o + k * 12 + 1, none⟩ = some (.bool (l.getD k ev0).back) ∧ w.cell? ⟨b, o + k * 12 + 2, none⟩ = some (.int .i64 (l.getD k ev0).c.op) ∧ w.cell? ⟨b, o + k * 12 + 3, none⟩ = some (.int .i64 (l.getD k ev0).c.key) ∧ w.cell? ⟨b, o + k * 12 + 4, none⟩ = some (.int .i64 (l.getD k ev0).c.val) ∧ w.cell? ⟨b, o + k * 12 + 5, none⟩ = some (.int .i64 (l.getD k ev0).c.hi) ∧ w.cell? ⟨b, o + k * 12 + 6, none⟩ = some (.int .i64 (l.getD k ev0).c.lim) ∧ w.cell? ⟨b, o + k * 12 + 7, none⟩ = some (.int .i64 (l.getD k ev0).a.kind) ∧ w.cell? ⟨b, o + k * 12 + 8, none⟩ = some (.int .i64 (l.getD k ev0).a.key) ∧ w.cell? ⟨b, o + k * 12 + 9, none⟩ = some (.int .i64 (l.getD k ev0).a.val) ∧ w.cell? ⟨b, o + k * 12 + 10, none⟩ = some (.int .i64 (l.getD k ev0).a.n) ∧ w.cell? ⟨b, o + k * 12 + 11, none⟩ = some (.slice (l.getD k ev0).a.pA (l.getD k ev0).a.ps.length (l.getD k ev0).a.pc) := by
  obtain ⟨b, o, h1, h2, h3⟩ := h (by omega)
  have hc : ∀ j u, (evL (l.getD k ev0))[j]? = some u → w.cell? ⟨b, o + k * 12 + j, none⟩ = some u := fun j u hu => by
    rw [Nat.add_assoc]
    exact h3 _ _ (flat_at evL 12 (fun _ => rfl) l k j u ev0 hk hu)
  exact ⟨b, o, h1, h2, hc 0 _ rfl, hc 1 _ rfl, hc 2 _ rfl, hc 3 _ rfl, hc 4 _ rfl, hc 5 _ rfl, hc 6 _ rfl, hc 7 _ rfl, hc 8 _ rfl, hc 9 _ rfl, hc 10 _ rfl, hc 11 _ rfl⟩
theorem histZ_take {l : List EvX} {k : Nat} (h : k < l.length) : histZ (l.take (k + 1)) = histZ (l.take k) ++ (evZ (l.getD k ev0) ++ [10]) := by
  unfold histZ
  rw [take_snoc l ev0 h, List.flatMap_append]
  simp
theorem histZ_len : ∀ l : List EvX, (∀ e ∈ l, e.Fit ∧ e.a.ps.length ≤ 4100) → (histZ l).length ≤ 210001 * l.length
  | [], _ => by simp [histZ]
  | e :: l, h => by
    have h0 := h e (by simp)
    have h1 := evZ_len e h0.1 h0.2
    have h2 := histZ_len l (fun m hm => h m (by simp [hm]))
    unfold histZ at *
    rw [List.flatMap_cons, List.length_append, List.length_append, List.length_cons]
    simp only [List.length_cons, List.length_nil]
    omega
theorem byteCells_snoc (a b : List UInt8) : Lib.byteCells a ++ Lib.strCells ⟨b.toArray⟩ = Lib.byteCells (a ++ b) := by
  simp [Lib.byteCells, Lib.strCells]
theorem byteCells_len (a : List UInt8) : (Lib.byteCells a).length = a.length := by simp [Lib.byteCells]
set_option maxHeartbeats 4000000 in
theorem text_history (w : World) (A : Option Addr) (l : List EvX) (cap : Nat) (hE : ElAt evL w A l) (hl : l.length ≤ 4100) (he : ∀ e ∈ l, EvIn w e ∧ e.a.ps.length ≤ 4100) (ht : TabOk w) : Calls Tryd.prog 16 #[.slice A l.length cap] w (TextOut (histZ l) w) := by
  have HE := Lib.hid hE
  have HL := Lib.hid hl
  have HI := Lib.hid he
  have HT := Lib.hid ht
  have HB := Lib.hid (Lib.IsBuilderF.of (Lib.fresh_isBuilder 72 5 w))
  have HK := Lib.hid ((Below.refl w.heap.size w).alloc (Nat.le_refl _) (.cells #[.pointer none, .slice none 0 0] 72))
  have hl0 : ((l.length : Nat) : Int) ≤ 4100 := by omega
  clear hE hl he ht
  go_enter Tryd.func16, Tryd.ntmps16
  go_upto_region 2 with fail
  generalize w.alloc _ = w1 at HB HK ⊢
  go_wp2_with fail
  go_loopg [8] l.length (fun g v8 wr => ∃ k : Nat, k ≤ l.length ∧ g = l.length - k ∧ v8 = .int .i64 (k : Nat) ∧ Below w.heap.size w wr ∧ IsBuilderF 72 5 w.heap.size w.heap.size (byteCells (histZ (l.take k))) wr)
  case atStart => exact ⟨0, Nat.zero_le _, rfl, rfl, HK.out, HB.out⟩
  case round =>
    obtain ⟨k, hk, rfl, rfl, hbl, hbu⟩ := hrel
    have HW := Lib.hid hbl
    have HU := Lib.hid hbu
    clear hbl hbu HB HK
    have hk0 : (0 : Int) ≤ ((k : Nat) : Int) := by omega
    have hk6 : ((k : Nat) : Int) ≤ 4100 := by omega
    have HKW : Hid (Keep [] w wr) := Lib.hid (Keep.of_below HW.out)
    have HHL : Hid ((histZ (l.take k)).length ≤ 900000000) := Lib.hid (by
      have h1 := histZ_len (l.take k) (fun e he => ⟨(HI.out e (List.mem_of_mem_take he)).1.fit, (HI.out e (List.mem_of_mem_take he)).2⟩)
      have h2 := HL.out
      rw [List.length_take] at h1
      omega)
    by_cases hlt : k < l.length
    · have hz : ((k : Nat) : Int) < ((l.length : Nat) : Int) := by omega
      obtain ⟨b, o, hA, _, c0, c1, c2, c3, c4, c5, c6, c7, c8, c9, c10, c11⟩ := (HE.out.keep HKW.out).at_evx hlt
      subst hA
      have HTK := Lib.hid (histZ_take hlt)
      have HEI := Lib.hid (HI.out (l.getD k ev0) (by rw [List.getD_eq_getElem?_getD, List.getElem?_eq_getElem hlt]; exact List.getElem_mem hlt))
      have HLT := Lib.hid hlt
      clear hlt
      generalize hs2 : histZ (l.take (k + 1)) = s2 at HTK
      have HS := Lib.hid hs2
      clear hs2
      generalize histZ (l.take k) = s1 at *
      generalize l.getD k ev0 = e at *
      have KE := Lib.hid (fun (W : World) (hk : Keep [] w W) => text_event e W (HEI.out.1.keep hk) HEI.out.2 (HT.out.keep hk))
      rw [show e.cells = #[.int .i64 e.thr, .bool e.back, .int .i64 e.c.op, .int .i64 e.c.key, .int .i64 e.c.val, .int .i64 e.c.hi, .int .i64 e.c.lim, .int .i64 e.a.kind, .int .i64 e.a.key, .int .i64 e.a.val, .int .i64 e.a.n, .slice e.a.pA e.a.ps.length e.a.pc] from rfl] at KE
      unfold TextOut at KE
      have hel := evZ_len e HEI.out.1.fit HEI.out.2
      have hn1 : ¬ 9223372036854775807 < (evZ e).length + 1 := by omega
      have HEL := Lib.hid hel
      generalize evZ e = ez at *
      clear hel
      go_upto_region 5 with fail
      have HB2 := Lib.hid (Blk.new wr 45 #[.int .i64 e.thr, .bool e.back, .int .i64 e.c.op, .int .i64 e.c.key, .int .i64 e.c.val, .int .i64 e.c.hi, .int .i64 e.c.lim, .int .i64 e.a.kind, .int .i64 e.a.key, .int .i64 e.a.val, .int .i64 e.a.n, .slice e.a.pA e.a.ps.length e.a.pc])
      have HK2 := Lib.hid (HKW.out.alloc (.cells #[.int .i64 e.thr, .bool e.back, .int .i64 e.c.op, .int .i64 e.c.key, .int .i64 e.c.val, .int .i64 e.c.hi, .int .i64 e.c.lim, .int .i64 e.a.kind, .int .i64 e.a.key, .int .i64 e.a.val, .int .i64 e.a.n, .slice e.a.pA e.a.ps.length e.a.pc] 45))
      have HU2 := Lib.hid (HU.out.alloc (.cells #[.int .i64 e.thr, .bool e.back, .int .i64 e.c.op, .int .i64 e.c.key, .int .i64 e.c.val, .int .i64 e.c.hi, .int .i64 e.c.lim, .int .i64 e.a.kind, .int .i64 e.a.key, .int .i64 e.a.val, .int .i64 e.a.n, .slice e.a.pA e.a.ps.length e.a.pc] 45))
      have HW2 := Lib.hid (HW.out.alloc HW.out.size (.cells #[.int .i64 e.thr, .bool e.back, .int .i64 e.c.op, .int .i64 e.c.key, .int .i64 e.c.val, .int .i64 e.c.hi, .int .i64 e.c.lim, .int .i64 e.a.kind, .int .i64 e.a.key, .int .i64 e.a.val, .int .i64 e.a.n, .slice e.a.pA e.a.ps.length e.a.pc] 45))
      generalize wr.heap.size = eb at HB2 ⊢
      generalize wr.alloc _ = w2 at HB2 HK2 HU2 HW2 ⊢
      clear c0 c1 c2 c3 c4 c5 c6 c7 c8 c9 c10 c11
      have c0 : w2.cell? ⟨eb, 0, none⟩ = some (.int .i64 e.thr) := HB2.out.cell 0
      have c1 : w2.cell? ⟨eb, 1, none⟩ = some (.bool e.back) := HB2.out.cell 1
      have c2 : w2.cell? ⟨eb, 2, none⟩ = some (.int .i64 e.c.op) := HB2.out.cell 2
      have c3 : w2.cell? ⟨eb, 3, none⟩ = some (.int .i64 e.c.key) := HB2.out.cell 3
      have c4 : w2.cell? ⟨eb, 4, none⟩ = some (.int .i64 e.c.val) := HB2.out.cell 4
      have c5 : w2.cell? ⟨eb, 5, none⟩ = some (.int .i64 e.c.hi) := HB2.out.cell 5
      have c6 : w2.cell? ⟨eb, 6, none⟩ = some (.int .i64 e.c.lim) := HB2.out.cell 6
      have c7 : w2.cell? ⟨eb, 7, none⟩ = some (.int .i64 e.a.kind) := HB2.out.cell 7
      have c8 : w2.cell? ⟨eb, 8, none⟩ = some (.int .i64 e.a.key) := HB2.out.cell 8
      have c9 : w2.cell? ⟨eb, 9, none⟩ = some (.int .i64 e.a.val) := HB2.out.cell 9
      have c10 : w2.cell? ⟨eb, 10, none⟩ = some (.int .i64 e.a.n) := HB2.out.cell 10
      have c11 : w2.cell? ⟨eb, 11, none⟩ = some (.slice e.a.pA e.a.ps.length e.a.pc) := HB2.out.cell 11
      go_wp2_with fail
      refine (KE.out _ HK2.out).mono ?_
      rintro r x ⟨rfl, hk⟩
      have HU3 := Lib.hid (bld_keep HU2.out hk)
      have HW3 := Lib.hid (HW2.out.trans ((Keep.below hk).mono HK2.out.size))
      clear hk c0 c1 c2 c3 c4 c5 c6 c7 c8 c9 c10 c11
      have HCQ : Hid ((⟨ez.toArray⟩ : ByteArray) ++ ⟨#[10]⟩ = ⟨(ez ++ [10]).toArray⟩) := Lib.hid (by rw [← catL])
      have KW := Lib.hid (bld_write _ _ _ (⟨(ez ++ [10]).toArray⟩ : ByteArray) x HU3.out (by rw [byteCells_len]; show s1.length + (ez ++ [10]).toArray.size ≤ _; have h1 := HEL.out; have h2 := HHL.out; simp; omega) HW3.out.size)
      go_wp2_with fail
      rw [HCQ.out]
      refine KW.out.mono ?_
      rintro r y ⟨rfl, hb, hbel, _⟩
      have HU4 := Lib.hid (Or.inr (a := Lib.BuilderAtF 72 5 w.heap.size w.heap.size (.pointer none) (byteCells s1 ++ strCells ⟨(ez ++ [10]).toArray⟩) y) hb)
      have HW4 := Lib.hid (HW3.out.trans hbel)
      clear hb hbel
      rw [byteCells_snoc] at HU4
      go_wp2_with fail
      go_roundg (l.length - (k + 1))
      case measure => have := HLT.out; omega
      case rel => exact ⟨k + 1, HLT.out, rfl, by go_num, HW4.out, by rw [HS.out, HTK.out]; exact HU4.out⟩
    · have hz : ¬ ((k : Nat) : Int) < ((l.length : Nat) : Int) := by omega
      obtain rfl : k = l.length := by omega
      rw [List.take_length] at HU
      have KS := Lib.hid (Tryd.Builder_String_any_f _ _ _ wr HU.out HW.out.size)
      go_wp2_with fail
      refine KS.out.mono ?_
      rintro r y ⟨rfl, _, hbel⟩
      have HW4 := Lib.hid (HW.out.trans hbel)
      clear hbel
      go_wp2_with fail
      go_ret
      exact ⟨rfl, Keep.of_below HW4.out⟩
end Go.Proofs.YtpbbpannimlldaaDoor
