/- A text's words: of, next, number, end, call.Op by their contracts. Conditions: the library's tables and errors are as they were laid; at most 20000 bytes. -/
import Derived.Test.YtpbbpannimlldaaDoorRd1
import Derived.Test.YtpbbpannimlldaaDoorRdQ
namespace Go.Proofs.YtpbbpannimlldaaDoor
open Go.RowKit

/-- The words that are left. -/
structure WdR (w0 w : World) (wb : Nat) (ws : List (List UInt8)) : Prop where
  hk : Keep [] w0 w
  new : w0.heap.size ≤ wb
  len : ∀ s ∈ ws, s.length ≤ 20000
  num : ws.length ≤ 20001
  row : ∃ A cap g cs, Blk w wb 88 #[.slice A ws.length cap] ∧ Blk w g 9 cs ∧ ws.length ≤ cap ∧ cap ≤ 20001 ∧ (0 < ws.length → ∃ o, A = some ⟨g, o, none⟩ ∧ ∀ (j : Nat) s, ws[j]? = some s → cs[o + j]? = some (.string ⟨s.toArray⟩))
theorem WdR.keep {w0 w w2 : World} {wb : Nat} {ws : List (List UInt8)} (h : WdR w0 w wb ws) (hk : Keep [] w w2) : WdR w0 w2 wb ws := by
  obtain ⟨A, cap, g, cs, h1, h2, h3⟩ := h.row
  exact ⟨h.hk.trans hk (by simp), h.new, h.len, h.num, A, cap, g, cs, h1.keep hk (by simp), h2.keep hk (by simp), h3⟩
def NextOut (w0 w : World) (wb : Nat) (ws : List (List UInt8)) (r : Ending) (w' : World) : Prop := Keep [wb] w w' ∧ match ws with
  | [] => r = panE 4 ∧ WdR w0 w' wb []
  | s :: t => r = .returned (.string ⟨s.toArray⟩) ∧ WdR w0 w' wb t
set_option maxHeartbeats 1000000 in
theorem words_next (w0 w : World) (wb : Nat) (ws : List (List UInt8)) (h : WdR w0 w wb ws) : Calls Tryd.prog 45 #[.pointer (some ⟨wb, 0, none⟩)] w (NextOut w0 w wb ws) := by
  obtain ⟨A, cap, g, cs, hb, hg, hcap, hcap2, hrow⟩ := h.row
  have H := Lib.hid h
  have hc0 : w.cell? ⟨wb, 0, none⟩ = some (.slice A ws.length cap) := hb.cell 0
  cases ws with
  | nil =>
    clear h hb hg hrow
    go_enter Tryd.func45, Tryd.ntmps45
    go_wp2_with fail
    exact ⟨rfl, Keep.refl _ _, rfl, H.out⟩
  | cons s t =>
    obtain ⟨o, rfl, hw⟩ := hrow (by simp)
    have hs : w.cell? ⟨g, o, none⟩ = some (.string ⟨s.toArray⟩) := by rw [hg.cell]; exact hw 0 s rfl
    have HB := Lib.hid hb
    have HG := Lib.hid hg
    have HW := Lib.hid hw
    have hfz := hb.frozen 0
    have hn : (s :: t).length = t.length + 1 := rfl
    rw [hn] at hc0 hcap
    have hz0 : (1 : Int) ≤ ((t.length + 1 : Nat) : Int) := by omega
    have hz1 : ((t.length + 1 : Nat) : Int) ≤ (cap : Int) := by omega
    have hz2 : (cap : Int) ≤ 20001 := by omega
    have hne : g ≠ wb := HG.out.ne_ HB.out (by decide)
    have HNE := Lib.hid hne
    have fin : ∀ (A2 : Option Addr) (c2 : Nat), t.length ≤ c2 → c2 ≤ 20001 → (0 < t.length → A2 = some ⟨g, o + 1, none⟩) → NextOut w0 w wb (s :: t) (.returned (.string ⟨s.toArray⟩)) (w.setCell ⟨wb, 0, none⟩ (.slice A2 t.length c2)) := fun A2 c2 h1 h2 h3 => by
      have hkS : Keep [wb] w (w.setCell ⟨wb, 0, none⟩ (.slice A2 t.length c2)) := (Keep.refl _ _).set_ _ (.inl (by simp))
      refine ⟨hkS, rfl, H.out.hk.trans hkS (fun x hx => .inr (by rw [List.mem_singleton.1 hx]; exact H.out.new)), H.out.new, fun x hx => H.out.len x (by simp [hx]), by have := H.out.num; simp at this; omega, A2, c2, g, cs, HB.out.set_ 0 _, HG.out.far (p := ⟨wb, 0, none⟩) HNE.out _, h1, h2, fun h0 => ⟨o + 1, h3 h0, fun j x hx => ?_⟩⟩
      have := HW.out (j + 1) x (by simpa using hx)
      rw [show o + 1 + j = o + (j + 1) by omega]
      exact this
    have HFIN := Lib.hid fin
    clear h hb hg hrow hw fin hne
    by_cases hc1 : cap = 1
    · subst hc1
      go_enter Tryd.func45, Tryd.ntmps45
      go_wp2_with fail
      all_goals
        go_ret
        have h0 : t.length = 0 := by omega
        have hf := HFIN.out (some ⟨g, o, none⟩) 0 (by omega) (by omega) (fun h0 => by omega)
        rw [h0] at hf
        exact hf
    · go_enter Tryd.func45, Tryd.ntmps45
      go_wp2_with fail
      all_goals
        go_ret
        exact HFIN.out (some ⟨g, o + 1, none⟩) (cap - 1) (by omega) (by omega) (fun _ => rfl)
/-- A number, or the panic that there is none. -/
def NumbOut (w0 w : World) (wb : Nat) (ws : List (List UInt8)) (r : Ending) (w' : World) : Prop := Keep [wb] w w' ∧ match ws with
  | [] => r = panE 4
  | s :: t => match parseZ s with
    | some n => r = .returned (.int .i64 n) ∧ WdR w0 w' wb t
    | none => r = panE 4
set_option maxHeartbeats 1000000 in
theorem words_number (w0 w : World) (wb : Nat) (ws : List (List UInt8)) (h : WdR w0 w wb ws) (ht : TabsOk w0) : Calls Tryd.prog 46 #[.pointer (some ⟨wb, 0, none⟩)] w (NumbOut w0 w wb ws) := by
  have H := Lib.hid h
  have KX := Lib.hid (words_next w0 w wb ws h)
  unfold NextOut panE at KX
  have HT := Lib.hid ht
  clear h ht
  cases ws with
  | nil =>
    go_enter Tryd.func46, Tryd.ntmps46
    go_wp2_with fail
    refine KX.out.mono ?_
    rintro r x ⟨hk, rfl, _⟩
    have HK := Lib.hid hk
    clear hk KX
    go_wp2_with fail
    exact ⟨rfl, HK.out, rfl⟩
  | cons s t =>
    have KP := Lib.hid (fun (W : World) (hk : Keep [] w0 W) => text_parse s W (H.out.len s (by simp)) (HT.out.keep hk))
    unfold ParseOut panE at KP
    go_enter Tryd.func46, Tryd.ntmps46
    go_wp2_with fail
    refine KX.out.mono ?_
    rintro r x ⟨hk, rfl, hx⟩
    have HK := Lib.hid hk
    have HX := Lib.hid hx
    clear hk hx KX
    cases hp : parseZ s with
    | some n =>
      rw [hp] at KP
      have HPZ := Lib.hid hp
      clear hp
      go_wp2_with fail
      refine (KP.out _ HX.out.hk).mono ?_
      rintro r y ⟨hk, rfl⟩
      have HK2 := Lib.hid (HK.out.trans hk (by simp))
      have HX2 := Lib.hid (HX.out.keep hk)
      clear hk KP
      go_wp2_with fail
      go_ret
      refine ⟨HK2.out, ?_⟩
      show (match parseZ s with | some n => _ | none => _)
      rw [HPZ.out]
      exact ⟨rfl, HX2.out⟩
    | none =>
      rw [hp] at KP
      have HPZ := Lib.hid hp
      clear hp
      go_wp2_with fail
      refine (KP.out _ HX.out.hk).mono ?_
      rintro r y ⟨hk, rfl⟩
      have HK2 := Lib.hid (HK.out.trans hk (by simp))
      clear hk KP
      go_wp2_with fail
      refine ⟨rfl, HK2.out, ?_⟩
      show (match parseZ s with | some n => _ | none => _)
      rw [HPZ.out]
      rfl
theorem words_end (w0 w : World) (wb : Nat) (ws : List (List UInt8)) (h : WdR w0 w wb ws) : Calls Tryd.prog 47 #[.pointer (some ⟨wb, 0, none⟩)] w fun r w' => w = w' ∧ r = if ws = [] then .returned (.tuple #[]) else panE 4 := by
  obtain ⟨A, cap, g, cs, hb, _, _, _, _⟩ := h.row
  have hc0 : w.cell? ⟨wb, 0, none⟩ = some (.slice A ws.length cap) := hb.cell 0
  clear hb
  cases ws with
  | nil =>
    clear h
    go_enter Tryd.func47, Tryd.ntmps47
    go_wp2_with fail
    first | go_end0 | refine bodyPost_ret (results_none rfl _ _ _) rfl ?_
    exact ⟨rfl, rfl⟩
  | cons s t =>
    have hn : (s :: t).length = t.length + 1 := rfl
    rw [hn] at hc0
    have hz : (0 : Int) < ((t.length + 1 : Nat) : Int) := by omega
    clear h
    go_enter Tryd.func47, Tryd.ntmps47
    go_wp2_with fail
    exact ⟨rfl, rfl, rfl⟩
theorem cutZ_count (c : UInt8) : ∀ l : List UInt8, (cutZ c l).length = l.count c + 1
  | [] => rfl
  | b :: t => by
    by_cases h : b = c
    · subst h
      rw [cutZ_hit, List.count_cons_self, List.length_cons, cutZ_count b t]
    · cases e : cutZ c t with
      | nil => exact absurd e (cutZ_ne c t)
      | cons x r =>
        have := cutZ_count c t
        rw [e] at this
        rw [cutZ_miss h e, List.count_cons_of_ne h]
        exact this
theorem countB_count (c : UInt8) (l : List UInt8) : Lib.countB ⟨l.toArray⟩ ⟨#[c]⟩ = l.count c := count_one c l (l.length + 1) (by omega)
set_option maxHeartbeats 1000000 in
theorem text_of (s : List UInt8) (w : World) (hs : s.length ≤ 20000) (ht : TabsOk w) : Calls Tryd.prog 22 #[.string ⟨s.toArray⟩] w fun r w' => ∃ wb, r = .returned (.pointer (some ⟨wb, 0, none⟩)) ∧ WdR w w' wb (cutZ 32 s) := by
  obtain ⟨m, hm⟩ := ht.max
  have hsz : (⟨s.toArray⟩ : ByteArray).size = s.length := by show s.toArray.size = _; simp
  have K0 := Tryd.strings_Split ⟨s.toArray⟩ ⟨#[32]⟩ m w (by rw [hsz]; omega) hm (by decide)
  have hlen : Lib.countB ⟨s.toArray⟩ ⟨#[32]⟩ + 1 = (cutZ 32 s).length := by rw [countB_count, cutZ_count]
  have hwe := words_eq 32 s
  rw [hlen] at K0
  generalize hcs : ((Lib.splitB ⟨#[32]⟩ 0 (Lib.countB ⟨s.toArray⟩ ⟨#[32]⟩) ⟨s.toArray⟩).map Value.string).toArray = cs at K0
  have HCS : Hid (∀ (j : Nat) x, (cutZ 32 s)[j]? = some x → cs[0 + j]? = some (.string ⟨x.toArray⟩)) := Lib.hid (fun j x hx => by
    rw [← hwe, List.getElem?_map] at hx
    rw [← hcs, Nat.zero_add, List.getElem?_toArray, List.getElem?_map]
    cases hb : (Lib.splitB ⟨#[32]⟩ 0 (Lib.countB ⟨s.toArray⟩ ⟨#[32]⟩) ⟨s.toArray⟩)[j]? with
    | none => rw [hb] at hx; cases hx
    | some y =>
      rw [hb] at hx
      injection hx with hx
      rw [← hx]
      rfl)
  have HLN := Lib.hid (cutZ_len 32 s)
  have HSL := Lib.hid hs
  have KS := Lib.hid K0
  clear K0 hlen hwe hcs hm ht hs hsz
  generalize cutZ 32 s = ws at *
  generalize hn : ws.length = n at KS
  have HN := Lib.hid hn
  clear hn
  go_enter Tryd.func22, Tryd.ntmps22
  go_wp2_with fail
  refine KS.out.mono ?_
  rintro r x ⟨rfl, rfl⟩
  go_wp2_with fail
  go_ret
  refine ⟨_, rfl, ((Keep.refl [] w).alloc _).alloc _, by simp, fun x hx => ?_, ?_, some ⟨w.heap.size, 0, none⟩, n, w.heap.size, cs, ?_, (Blk.new w _ _).alloc _, ?_, ?_, fun _ => ⟨0, rfl, HCS.out⟩⟩
  · have := HLN.out.2 x hx
    have := HSL.out
    omega
  · have := HLN.out.1
    have := HSL.out
    omega
  · have := Blk.new (w.alloc (.cells cs 9)) 88 #[.slice (some ⟨w.heap.size, 0, none⟩) n n]
    rw [HN.out]
    rw [show (w.alloc (.cells cs 9)).heap.size = w.heap.size + 1 from (by show (w.heap.push _).size = _; simp)] at this
    exact this
  · have := HN.out; omega
  · have := HN.out
    have := HLN.out.1
    have := HSL.out
    omega
end Go.Proofs.YtpbbpannimlldaaDoor
