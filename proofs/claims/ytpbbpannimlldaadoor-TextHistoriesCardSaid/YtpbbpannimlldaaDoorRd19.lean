/- The reference's ReadHistory by its contract. Condition: at most 20000 bytes. -/
import Derived.Test.YtpbbpannimlldaaDoorRd13
import Derived.Test.YtpbbpannimlldaaDoorRd17
import Derived.Test.YtpbbpannimlldaaDoorRdK
namespace Go.Proofs.YtpbbpannimlldaaDoor
open Go.RowKit

theorem ElAt.drop2 {w : World} {g : Nat} {x y : List UInt8} {l : List (List UInt8)} (h : ElAt strC w (some ⟨g, 0, none⟩) (x :: y :: l)) : ElAt strC w (some ⟨g, 2, none⟩) l := fun _ => by
  obtain ⟨b, o, h1, h2, h3⟩ := h (by simp)
  injection h1 with h1
  injection h1 with hb ho
  subst hb ho
  refine ⟨g, 2, rfl, h2, fun j u hj => ?_⟩
  have := h3 (j + 2) u hj
  rw [show 0 + (j + 2) = 2 + j by omega] at this
  exact this
/-- What the reference's ReadHistory holds at a round's head. -/
structure RhR (w wq : World) (LA : Option Addr) (lc : Nat) (L : List (List UInt8)) (v : Value) (evs : List EvX) : Prop where
  hk : Keep [] w wq
  lo : wq.ownsRow w.heap.size 9 1 (.slice LA L.length lc) L.length (strL L)
  ev : EvsR w.heap.size wq v evs
theorem RhR.keep {w wq w2 : World} {LA : Option Addr} {lc : Nat} {L : List (List UInt8)} {v : Value} {evs : List EvX} (h : RhR w wq LA lc L v evs) (hk : Keep [] wq w2) : RhR w w2 LA lc L v evs := ⟨h.hk.trans hk (by simp), own_keep h.lo hk (by simp), h.ev.keep hk (fun b hb => by cases hb)⟩
theorem RhR.add {w wq w2 : World} {LA A5 A2 : Option Addr} {lc c5 c2 : Nat} {L : List (List UInt8)} {v : Value} {evs : List EvX} {e : EvX} (h : RhR w wq LA lc L v evs) (hown : w2.ownsRow w.heap.size 45 12 (.slice A5 (evs.length + 1) c5) (evs.length + 1) (evs.flatMap evL ++ evL (setE e A2 c2))) (hg : wq.grownBy w2 v.ownBlock) (hp : wq.ownsRow w.heap.size 51 2 (.slice A2 e.a.ps.length c2) e.a.ps.length (e.a.ps.flatMap pairC)) :
    RhR w w2 LA lc L (.slice A5 (evs.length + 1) c5) (evs ++ [setE e A2 c2]) := by
  have hkG : Keep v.ownBlock.toList wq w2 := Keep.of_grown hg
  have hin : ∀ b, b ∈ v.ownBlock.toList → v.ownBlock = some b := fun b hb => by simpa using hb
  have hrow : ∀ {t : TypeId} {n size : Nat} {u : Value} {xs : List Value}, t ≠ 45 → wq.ownsRow w.heap.size t size u n xs → w2.ownsRow w.heap.size t size u n xs := fun hne h2 => own_keep h2 hkG (fun g hg2 hm => by
    obtain ⟨cs, hb2⟩ := own_blk h.ev.own (hin g hm)
    exact own_ne h2 hb2 hne hg2)
  refine ⟨h.hk.trans hkG (fun x hx => .inr (own_ge h.ev.own (hin x hx))), hrow (by decide) h.lo, ⟨by rw [List.length_append, List.length_singleton, List.flatMap_append]; simpa using hown, fun x hx => ?_⟩⟩
  rcases List.mem_append.1 hx with h1 | h1
  · exact hrow (by decide) (h.ev.rows x h1)
  · rw [List.mem_singleton.1 h1]; exact hrow (by decide) hp
set_option maxRecDepth 100000 in
set_option maxHeartbeats 16000000 in
theorem ref35_readHistory (s : List UInt8) (w : World) (hs : s.length ≤ 20000) : Calls Tryd.prog 14 #[.string ⟨s.toArray⟩] w (ReadHOut s w) := by
  have HOUT : Hid (∀ (r : Ending) (W : World), Keep [] w W → (match hisR (cutZ 10 s) with
    | .ok es => ∃ A cap evs, r = .returned (.tuple #[.slice A evs.length cap, .int .i64 0]) ∧ EvsR w.heap.size W (.slice A evs.length cap) evs ∧ evs.map bareE = es.map bareE
    | .error k => r = .returned (.tuple #[.slice none 0 0, .int .i64 k])) → ReadHOut s w r W) := Lib.hid (fun r W h1 h2 => ⟨h1, h2⟩)
  have KC := Lib.hid (fun (W : World) => ref35_cut 10 s W hs)
  unfold CutOut at KC
  obtain ⟨hln, hll⟩ := cutZ_len 10 s
  have HLN : Hid ((cutZ 10 s).length ≤ 20001) := Lib.hid (by omega)
  have HLL : Hid (∀ x ∈ cutZ 10 s, x.length ≤ 20000) := Lib.hid (fun x hx => by have := hll x hx; omega)
  have HL0 : Hid (0 < (cutZ 10 s).length) := Lib.hid (List.length_pos_iff.2 (cutZ_ne 10 s))
  clear hs hln hll
  generalize hrr : hisR (cutZ 10 s) = rr at HOUT
  have HRR := Lib.hid hrr
  clear hrr
  generalize cutZ 10 s = L at *
  go_enter Tryd.func14, Tryd.ntmps14
  go_wp2_with fail
  refine (KC.out _).mono ?_
  rintro r w1 ⟨hk, LA, lc, rfl, ho⟩
  have HR0 : Hid (RhR w w1 LA lc L (.slice none 0 0) []) := Lib.hid ⟨hk, ho, ⟨rfl, .inl ⟨rfl, rfl⟩⟩, fun e he => by cases he⟩
  clear hk ho KC
  have hl0 : (1 : Int) ≤ ((L.length : Nat) : Int) := by have := HL0.out; omega
  have hl1 : ((L.length : Nat) : Int) ≤ 20001 := by have := HLN.out; omega
  go_wp2_with fail
  go_loopg [4, 6] L.length (fun g v4 v6 wq => ∃ (i : Nat) (evs acc : List EvX), i < L.length ∧ g = L.length - i ∧ v6 = .int .i64 (i : Nat) ∧ RhR w wq LA lc L v4 evs ∧ evs.map bareE = acc.map bareE ∧ evs.length ≤ i ∧ resH acc (L.drop i) = rr)
  case atStart => exact ⟨0, [], [], HL0.out, rfl, rfl, HR0.out, rfl, Nat.le_refl _, by rw [List.drop_zero, resH_nil]; exact HRR.out⟩
  case round =>
    obtain ⟨i, evs, acc, hi, rfl, rfl, hr, hmap, hcnt, hres⟩ := hrel
    obtain ⟨A4, c4, rfl⟩ := own_form hr.ev.own
    have HR := Lib.hid hr
    have HMAP := Lib.hid hmap
    have HCNT := Lib.hid hcnt
    have HI := Lib.hid hi
    have hi0 : (0 : Int) ≤ ((i : Nat) : Int) := by omega
    have hi1 : ((i : Nat) : Int) < ((L.length : Nat) : Int) := by omega
    have hsub : IntKind.i64.wrap (((L.length : Nat) : Int) - 1) = ((L.length : Nat) : Int) - 1 := IntWalk.i64_in _ (by omega)
    obtain ⟨lg, lc2, hlv, _, _⟩ := own_some HR.out.lo HL0.out
    injection hlv with hA2 _ hc2
    subst hA2 hc2
    have hcx : wr.cell? ⟨lg, i, none⟩ = some (.string ⟨(L.getD i []).toArray⟩) := by
      rw [own_cell HR.out.lo hi]
      unfold strL
      rw [List.getElem?_map, List.getD_eq_getElem?_getD, List.getElem?_eq_getElem hi]
      rfl
    have hdr : L.drop i = L.getD i [] :: L.drop (i + 1) := by
      rw [List.drop_eq_getElem_cons hi]
      congr 1
      rw [List.getD_eq_getElem?_getD, List.getElem?_eq_getElem hi]
      rfl
    have HX5 : Hid ((L.getD i []).length ≤ 20000) := Lib.hid (HLL.out _ (by
      rw [List.getD_eq_getElem?_getD, List.getElem?_eq_getElem hi]
      exact List.getElem_mem hi))
    rw [hdr] at hres
    clear hr hmap hcnt hi hdr HR0
    generalize L.getD i [] = x at *
    by_cases hlast : i + 1 = L.length
    · have hb1 : (((i : Nat) : Int) == ((L.length : Nat) : Int) - 1) = true := by rw [beq_iff_eq]; omega
      rw [hlast, List.drop_length] at hres
      cases x with
      | nil =>
        rw [resH_end] at hres
        have HRS := Lib.hid hres.symm
        clear hres hlast
        go_wp2_with fail
        go_ret2
        exact HOUT.out _ _ HR.out.hk (by rw [HRS.out]; exact ⟨A4, c4, evs, rfl, HR.out.ev, HMAP.out⟩)
      | cons x0 xt =>
        rw [resH_last acc (by simp)] at hres
        have HBAD : Hid (∀ k, evR (x0 :: xt) = .error k → rr = .error k) := Lib.hid (fun k hk => by rw [← hres, hk])
        have HGOOD : Hid (∀ e, evR (x0 :: xt) = .ok e → rr = .error 5) := Lib.hid (fun e he => by rw [← hres, he])
        clear hres hlast
        have KC2 := Lib.hid (fun (W : World) => ref35_cut 32 (x0 :: xt) W HX5.out)
        unfold CutOut at KC2
        have HEV : Hid (evR (x0 :: xt) = evW (cutZ 32 (x0 :: xt))) := Lib.hid rfl
        obtain ⟨hwn, hwl⟩ := cutZ_len 32 (x0 :: xt)
        have HWN : Hid ((cutZ 32 (x0 :: xt)).length ≤ 20001) := Lib.hid (by have := HX5.out; omega)
        have HWL : Hid (∀ z ∈ cutZ 32 (x0 :: xt), z.length ≤ 20000) := Lib.hid (fun z hz => by have := hwl z hz; have := HX5.out; omega)
        clear hwn hwl
        generalize cutZ 32 (x0 :: xt) = ws at *
        go_wp2_with fail
        refine (KC2.out _).mono ?_
        rintro r w2 ⟨hk, WA, wc, rfl, ho⟩
        have HK2 := Lib.hid hk
        have HWO := Lib.hid (own_more ho HR.out.hk.size)
        clear hk ho KC2 hcx
        by_cases h3 : ws.length < 3
        · have hz3 : ((ws.length : Nat) : Int) < 3 := by omega
          have HE := Lib.hid (HBAD.out 4 (HEV.out.trans (evW_few h3)))
          clear h3
          go_wp2_with fail
          go_ret2
          exact HOUT.out _ _ (HR.out.hk.trans HK2.out (by simp)) (by rw [HE.out] <;> rfl)
        obtain ⟨f, n, y2, rest, rfl⟩ := three_of h3
        have hz3 : ¬ (((f :: n :: y2 :: rest).length : Nat) : Int) < 3 := by simp; omega
        have hz3b : ¬ ((rest.length : Nat) : Int) + 1 + 1 + 1 < 3 := by omega
        clear h3
        obtain ⟨wg, wc2, hwv, _, _⟩ := own_some HWO.out (by simp)
        injection hwv with hA2 _ hc2
        subst hA2 hc2
        have hw0 : w2.cell? ⟨wg, 0, none⟩ = some (.string ⟨f.toArray⟩) := own_cell HWO.out (by simp)
        have hw1 : w2.cell? ⟨wg, 1, none⟩ = some (.string ⟨n.toArray⟩) := own_cell HWO.out (by simp)
        have hcap := own_cap HWO.out
        have HEL : Hid (ElAt strC w2 (some ⟨wg, 0, none⟩) (f :: n :: y2 :: rest)) := Lib.hid (by have h := HWO.out; rw [strL_flat] at h; exact ElAt.of_own h rfl)
        have hc3 : (3 : Int) ≤ (wc : Int) := by have := hcap.1; simp at this; omega
        have hc9 : (wc : Int) ≤ 9223372036854775807 := by have := hcap.2; unfold maxLen at this; omega
        have hr0 : (0 : Int) ≤ ((rest.length : Nat) : Int) := by omega
        have hr2 : ((rest.length : Nat) : Int) ≤ 20000 := by have := HWN.out; simp at this; omega
        clear hcap
        have HN5 : Hid (n.length ≤ 20000) := Lib.hid (HWL.out n (by simp))
        have HOKW : Hid (WsOk w2 (some ⟨wg, 2, none⟩) (y2 :: rest)) := Lib.hid ⟨HEL.out.drop2, fun z hz => HWL.out z (by simp at hz ⊢; rcases hz with h | h; exact .inr (.inr (.inl h)); exact .inr (.inr (.inr h))), by have := HWN.out; simp at this ⊢; omega⟩
        have KPN := Lib.hid (fun (W : World) => ref35_parse n W HN5.out)
        unfold RParseOut at KPN
        have KRA := Lib.hid (fun (W : World) (hk : Keep [] w2 W) => ref35_readAnswer W (some ⟨wg, 2, none⟩) (wc - 2) y2 rest (HOKW.out.keep hk))
        have KRC := Lib.hid (fun (W : World) (hk : Keep [] w2 W) => (ref35_readCall W (some ⟨wg, 2, none⟩) (wc - 2) y2 rest (HOKW.out.keep hk)).mono (fun _ _ h => CalR.of_ref h))
        unfold CalR at KRC
        rw [show (y2 :: rest).length = rest.length + 1 from rfl] at KRA KRC
        by_cases hfb : f = backB
        · have hfb2 : f = [98, 97, 99, 107] := hfb
          subst hfb2
          cases hp : parseZ n with
          | none =>
            have HE := Lib.hid (HBAD.out 4 (HEV.out.trans (evW_bad hp)))
            rw [hp, show (none : Option Int).isSome = false from rfl] at KPN
            clear hp hfb
            go_wp2_with fail
            refine (KPN.out _).mono ?_
            rintro r z ⟨rfl, rfl⟩
            go_wp2_with fail
            go_ret2
            exact HOUT.out _ _ (HR.out.hk.trans HK2.out (by simp)) (by rw [HE.out] <;> rfl)
          | some tn =>
            have HE0 := Lib.hid (HEV.out.trans (evW_back hp hfb))
            rw [hp, show (some tn).isSome = true from rfl, show numOf n = tn by unfold numOf; rw [hp]] at KPN
            clear hp hfb
            obtain ⟨⟨c, ce⟩, hcp⟩ : ∃ p, callP (y2 :: rest) = p := ⟨_, rfl⟩
            rw [hcp] at KRC
            dsimp only at KRC
            clear hcp
            unfold RAnsOut at KRA
            cases hra : readA (y2 :: rest) with
            | error k =>
              rw [hra] at KRA HE0
              have HE := Lib.hid (HBAD.out k HE0.out)
              have HNZ : Hid ((k != 0) = true) := Lib.hid (by rw [bne_iff_ne]; exact readA_err hra)
              clear hra
              go_wp2_with fail
              refine (KPN.out _).mono ?_
              rintro r z ⟨rfl, rfl⟩
              clear KPN
              go_upto_region 15 with fail
              have HEB := Lib.hid (Blk.new w2 45 #[.int .i64 tn, .bool true, .int .i64 0, .int .i64 0, .int .i64 0, .int .i64 0, .int .i64 0, .int .i64 0, .int .i64 0, .int .i64 0, .int .i64 0, .slice none 0 0])
              have HK3 := Lib.hid ((Keep.refl [] w2).alloc (.cells #[.int .i64 tn, .bool true, .int .i64 0, .int .i64 0, .int .i64 0, .int .i64 0, .int .i64 0, .int .i64 0, .int .i64 0, .int .i64 0, .int .i64 0, .slice none 0 0] 45))
              have HNE : Hid (w2.heap.size ≤ w2.heap.size) := Lib.hid (Nat.le_refl _)
              generalize hen : w2.heap.size = eb at HEB ⊢
              have HEN := Lib.hid hen
              clear hen HNE
              generalize w2.alloc _ = w3 at HEB HK3 ⊢
              clear hw0 hw1
              go_wp2_with fail
              refine (KRA.out _ HK3.out).mono ?_
              rintro r w4 ⟨hk, rfl⟩
              rw [show zeroA = #[.int .i64 0, .int .i64 0, .int .i64 0, .int .i64 0, .slice none 0 0] from rfl]
              have HK4 := Lib.hid (HK3.out.trans hk (by simp))
              have HE4 := Lib.hid (HEB.out.keep hk (by simp))
              clear hk HK3 HEB KRA
              go_upto_region 16 with fail
              have HA5 := Lib.hid (Blk.new w4 33 #[.int .i64 0, .int .i64 0, .int .i64 0, .int .i64 0, .slice none 0 0])
              have HE5 := Lib.hid (HE4.out.alloc (.cells #[.int .i64 0, .int .i64 0, .int .i64 0, .int .i64 0, .slice none 0 0] 33))
              have HK5 := Lib.hid (HK4.out.alloc (.cells #[.int .i64 0, .int .i64 0, .int .i64 0, .int .i64 0, .slice none 0 0] 33))
              generalize w4.heap.size = ab at HA5 ⊢
              generalize w4.alloc _ = w5 at HA5 HE5 HK5 ⊢
              go_wp2_with fail
              refine (KRC.out _ HK5.out).mono ?_
              rintro r w6 ⟨rfl, hk⟩
              have HK6 := Lib.hid (HK5.out.trans hk (by simp))
              have HE6 := Lib.hid (HE5.out.keep hk (by simp))
              have HA6 := Lib.hid (HA5.out.keep hk (by simp))
              clear hk HK5 HE5 HA5 KRC
              go_upto_region 17 with fail
              have HC7 := Lib.hid (Blk.new w6 26 #[.int .i64 c.op, .int .i64 c.key, .int .i64 c.val, .int .i64 c.hi, .int .i64 c.lim])
              have HE7 := Lib.hid (HE6.out.alloc (.cells #[.int .i64 c.op, .int .i64 c.key, .int .i64 c.val, .int .i64 c.hi, .int .i64 c.lim] 26))
              have HA7 := Lib.hid (HA6.out.alloc (.cells #[.int .i64 c.op, .int .i64 c.key, .int .i64 c.val, .int .i64 c.hi, .int .i64 c.lim] 26))
              have HK7 := Lib.hid (HK6.out.alloc (.cells #[.int .i64 c.op, .int .i64 c.key, .int .i64 c.val, .int .i64 c.hi, .int .i64 c.lim] 26))
              generalize w6.heap.size = cb at HC7 ⊢
              generalize w6.alloc _ = w7 at HC7 HA7 HE7 HK7 ⊢
              have e0 : w7.cell? ⟨eb, 0, none⟩ = some (.int .i64 tn) := HE7.out.cell 0
              have ef0 := HE7.out.frozen 0
              have e1 : w7.cell? ⟨eb, 1, none⟩ = some (.bool true) := HE7.out.cell 1
              have ef1 := HE7.out.frozen 1
              have e2 : w7.cell? ⟨eb, 2, none⟩ = some (.int .i64 0) := HE7.out.cell 2
              have ef2 := HE7.out.frozen 2
              have e3 : w7.cell? ⟨eb, 3, none⟩ = some (.int .i64 0) := HE7.out.cell 3
              have ef3 := HE7.out.frozen 3
              have e4 : w7.cell? ⟨eb, 4, none⟩ = some (.int .i64 0) := HE7.out.cell 4
              have ef4 := HE7.out.frozen 4
              have e5 : w7.cell? ⟨eb, 5, none⟩ = some (.int .i64 0) := HE7.out.cell 5
              have ef5 := HE7.out.frozen 5
              have e6 : w7.cell? ⟨eb, 6, none⟩ = some (.int .i64 0) := HE7.out.cell 6
              have ef6 := HE7.out.frozen 6
              have e7 : w7.cell? ⟨eb, 7, none⟩ = some (.int .i64 0) := HE7.out.cell 7
              have ef7 := HE7.out.frozen 7
              have e8 : w7.cell? ⟨eb, 8, none⟩ = some (.int .i64 0) := HE7.out.cell 8
              have ef8 := HE7.out.frozen 8
              have e9 : w7.cell? ⟨eb, 9, none⟩ = some (.int .i64 0) := HE7.out.cell 9
              have ef9 := HE7.out.frozen 9
              have e10 : w7.cell? ⟨eb, 10, none⟩ = some (.int .i64 0) := HE7.out.cell 10
              have ef10 := HE7.out.frozen 10
              have e11 : w7.cell? ⟨eb, 11, none⟩ = some (.slice none 0 0) := HE7.out.cell 11
              have ef11 := HE7.out.frozen 11
              have b0 : w7.cell? ⟨ab, 0, none⟩ = some (.int .i64 0) := HA7.out.cell 0
              have b1 : w7.cell? ⟨ab, 1, none⟩ = some (.int .i64 0) := HA7.out.cell 1
              have b2 : w7.cell? ⟨ab, 2, none⟩ = some (.int .i64 0) := HA7.out.cell 2
              have b3 : w7.cell? ⟨ab, 3, none⟩ = some (.int .i64 0) := HA7.out.cell 3
              have b4 : w7.cell? ⟨ab, 4, none⟩ = some (.slice none 0 0) := HA7.out.cell 4
              have hnz := HNZ.out
              go_wp2_with fail
              go_ret2
              have hkS := (Keep.refl [eb] w7)
              exact HOUT.out _ _ (((HR.out.hk.trans HK2.out (by simp)).trans HK7.out (by simp)).trans ((((((hkS.set_ (p := ⟨eb, 7, none⟩) _ (.inl (List.mem_singleton.2 rfl))).set_ (p := ⟨eb, 8, none⟩) _ (.inl (List.mem_singleton.2 rfl))).set_ (p := ⟨eb, 9, none⟩) _ (.inl (List.mem_singleton.2 rfl))).set_ (p := ⟨eb, 10, none⟩) _ (.inl (List.mem_singleton.2 rfl))).set_ (p := ⟨eb, 11, none⟩) _ (.inl (List.mem_singleton.2 rfl)))) (fun x hx => .inr (by rw [List.mem_singleton.1 hx]; exact Nat.le_trans (Nat.le_trans HR.out.hk.size HK2.out.size) (Nat.le_of_eq HEN.out)))) (by rw [HE.out] <;> rfl)
            | ok a =>
              rw [hra] at KRA HE0
              have HE := Lib.hid (HGOOD.out _ HE0.out)
              clear hra
              go_wp2_with fail
              refine (KPN.out _).mono ?_
              rintro r z ⟨rfl, rfl⟩
              clear KPN
              go_upto_region 15 with fail
              have HEB := Lib.hid (Blk.new w2 45 #[.int .i64 tn, .bool true, .int .i64 0, .int .i64 0, .int .i64 0, .int .i64 0, .int .i64 0, .int .i64 0, .int .i64 0, .int .i64 0, .int .i64 0, .slice none 0 0])
              have HK3 := Lib.hid ((Keep.refl [] w2).alloc (.cells #[.int .i64 tn, .bool true, .int .i64 0, .int .i64 0, .int .i64 0, .int .i64 0, .int .i64 0, .int .i64 0, .int .i64 0, .int .i64 0, .int .i64 0, .slice none 0 0] 45))
              have HNE : Hid (w2.heap.size ≤ w2.heap.size) := Lib.hid (Nat.le_refl _)
              generalize hen : w2.heap.size = eb at HEB ⊢
              have HEN := Lib.hid hen
              clear hen HNE
              generalize w2.alloc _ = w3 at HEB HK3 ⊢
              clear hw0 hw1
              go_wp2_with fail
              refine (KRA.out _ HK3.out).mono ?_
              rintro r w4 ⟨hk, A2, p2, rfl, ho⟩
              have HP4 := Lib.hid (own_more ho (Nat.le_trans (Nat.le_trans HR.out.hk.size HK2.out.size) HK3.out.size))
              clear ho
              have HK4 := Lib.hid (HK3.out.trans hk (by simp))
              have HE4 := Lib.hid (HEB.out.keep hk (by simp))
              clear hk HK3 HEB KRA
              go_upto_region 16 with fail
              have HA5 := Lib.hid (Blk.new w4 33 #[.int .i64 a.kind, .int .i64 a.key, .int .i64 a.val, .int .i64 a.n, .slice A2 a.ps.length p2])
              have HE5 := Lib.hid (HE4.out.alloc (.cells #[.int .i64 a.kind, .int .i64 a.key, .int .i64 a.val, .int .i64 a.n, .slice A2 a.ps.length p2] 33))
              have HK5 := Lib.hid (HK4.out.alloc (.cells #[.int .i64 a.kind, .int .i64 a.key, .int .i64 a.val, .int .i64 a.n, .slice A2 a.ps.length p2] 33))
              have HP5 := Lib.hid (own_keep HP4.out ((Keep.refl [] w4).alloc (.cells #[.int .i64 a.kind, .int .i64 a.key, .int .i64 a.val, .int .i64 a.n, .slice A2 a.ps.length p2] 33)) (by simp))
              generalize w4.heap.size = ab at HA5 ⊢
              generalize w4.alloc _ = w5 at HA5 HE5 HK5 HP5 ⊢
              go_wp2_with fail
              refine (KRC.out _ HK5.out).mono ?_
              rintro r w6 ⟨rfl, hk⟩
              have HK6 := Lib.hid (HK5.out.trans hk (by simp))
              have HE6 := Lib.hid (HE5.out.keep hk (by simp))
              have HA6 := Lib.hid (HA5.out.keep hk (by simp))
              have HP6 := Lib.hid (own_keep HP5.out hk (by simp))
              clear hk HK5 HE5 HA5 KRC
              go_upto_region 17 with fail
              have HC7 := Lib.hid (Blk.new w6 26 #[.int .i64 c.op, .int .i64 c.key, .int .i64 c.val, .int .i64 c.hi, .int .i64 c.lim])
              have HE7 := Lib.hid (HE6.out.alloc (.cells #[.int .i64 c.op, .int .i64 c.key, .int .i64 c.val, .int .i64 c.hi, .int .i64 c.lim] 26))
              have HA7 := Lib.hid (HA6.out.alloc (.cells #[.int .i64 c.op, .int .i64 c.key, .int .i64 c.val, .int .i64 c.hi, .int .i64 c.lim] 26))
              have HK7 := Lib.hid (HK6.out.alloc (.cells #[.int .i64 c.op, .int .i64 c.key, .int .i64 c.val, .int .i64 c.hi, .int .i64 c.lim] 26))
              have HP7 := Lib.hid (own_keep HP6.out ((Keep.refl [] w6).alloc (.cells #[.int .i64 c.op, .int .i64 c.key, .int .i64 c.val, .int .i64 c.hi, .int .i64 c.lim] 26)) (by simp))
              generalize w6.heap.size = cb at HC7 ⊢
              generalize w6.alloc _ = w7 at HC7 HA7 HE7 HK7 HP7 ⊢
              have e0 : w7.cell? ⟨eb, 0, none⟩ = some (.int .i64 tn) := HE7.out.cell 0
              have ef0 := HE7.out.frozen 0
              have e1 : w7.cell? ⟨eb, 1, none⟩ = some (.bool true) := HE7.out.cell 1
              have ef1 := HE7.out.frozen 1
              have e2 : w7.cell? ⟨eb, 2, none⟩ = some (.int .i64 0) := HE7.out.cell 2
              have ef2 := HE7.out.frozen 2
              have e3 : w7.cell? ⟨eb, 3, none⟩ = some (.int .i64 0) := HE7.out.cell 3
              have ef3 := HE7.out.frozen 3
              have e4 : w7.cell? ⟨eb, 4, none⟩ = some (.int .i64 0) := HE7.out.cell 4
              have ef4 := HE7.out.frozen 4
              have e5 : w7.cell? ⟨eb, 5, none⟩ = some (.int .i64 0) := HE7.out.cell 5
              have ef5 := HE7.out.frozen 5
              have e6 : w7.cell? ⟨eb, 6, none⟩ = some (.int .i64 0) := HE7.out.cell 6
              have ef6 := HE7.out.frozen 6
              have e7 : w7.cell? ⟨eb, 7, none⟩ = some (.int .i64 0) := HE7.out.cell 7
              have ef7 := HE7.out.frozen 7
              have e8 : w7.cell? ⟨eb, 8, none⟩ = some (.int .i64 0) := HE7.out.cell 8
              have ef8 := HE7.out.frozen 8
              have e9 : w7.cell? ⟨eb, 9, none⟩ = some (.int .i64 0) := HE7.out.cell 9
              have ef9 := HE7.out.frozen 9
              have e10 : w7.cell? ⟨eb, 10, none⟩ = some (.int .i64 0) := HE7.out.cell 10
              have ef10 := HE7.out.frozen 10
              have e11 : w7.cell? ⟨eb, 11, none⟩ = some (.slice none 0 0) := HE7.out.cell 11
              have ef11 := HE7.out.frozen 11
              have b0 : w7.cell? ⟨ab, 0, none⟩ = some (.int .i64 a.kind) := HA7.out.cell 0
              have b1 : w7.cell? ⟨ab, 1, none⟩ = some (.int .i64 a.key) := HA7.out.cell 1
              have b2 : w7.cell? ⟨ab, 2, none⟩ = some (.int .i64 a.val) := HA7.out.cell 2
              have b3 : w7.cell? ⟨ab, 3, none⟩ = some (.int .i64 a.n) := HA7.out.cell 3
              have b4 : w7.cell? ⟨ab, 4, none⟩ = some (.slice A2 a.ps.length p2) := HA7.out.cell 4
              go_upto_region 21 with fail
              have HE8 : Hid (Blk _ eb 45 #[.int .i64 tn, .bool true, .int .i64 0, .int .i64 0, .int .i64 0, .int .i64 0, .int .i64 0, .int .i64 a.kind, .int .i64 a.key, .int .i64 a.val, .int .i64 a.n, .slice A2 a.ps.length p2]) := Lib.hid (((((HE7.out.set_ 7 (.int .i64 a.kind)).set_ 8 (.int .i64 a.key)).set_ 9 (.int .i64 a.val)).set_ 10 (.int .i64 a.n)).set_ 11 (.slice A2 a.ps.length p2))
              have hk8 := ((((((Keep.refl [eb] w7).set_ (p := ⟨eb, 7, none⟩) (.int .i64 a.kind) (.inl (List.mem_singleton.2 rfl))).set_ (p := ⟨eb, 8, none⟩) (.int .i64 a.key) (.inl (List.mem_singleton.2 rfl))).set_ (p := ⟨eb, 9, none⟩) (.int .i64 a.val) (.inl (List.mem_singleton.2 rfl))).set_ (p := ⟨eb, 10, none⟩) (.int .i64 a.n) (.inl (List.mem_singleton.2 rfl))).set_ (p := ⟨eb, 11, none⟩) (.slice A2 a.ps.length p2) (.inl (List.mem_singleton.2 rfl)))
              have HP8 := Lib.hid (own_keep HP7.out hk8 (fun g hg hm => own_ne HP7.out HE7.out (by decide) (by rw [hg, List.mem_singleton.1 hm])))
              have HK8 := Lib.hid ((HK2.out.trans HK7.out (by simp)).trans hk8 (fun x hx => .inr (by rw [List.mem_singleton.1 hx]; exact Nat.le_trans HK2.out.size (Nat.le_of_eq HEN.out))))
              clear hk8 e0 ef0 e1 ef1 e2 ef2 e3 ef3 e4 ef4 e5 ef5 e6 ef6 e7 ef7 e8 ef8 e9 ef9 e10 ef10 e11 ef11 b0 b1 b2 b3 b4
              generalize World.setCell _ ⟨eb, 11, none⟩ _ = w8 at HE8 HK8 HP8 ⊢
              go_wp2_with fail
              go_ret2
              exact HOUT.out _ _ (HR.out.hk.trans HK8.out (by simp)) (by rw [HE.out] <;> rfl)
        by_cases hfg : f = beginB
        · have hfg2 : f = [98, 101, 103, 105, 110] := hfg
          subst hfg2
          cases hp : parseZ n with
          | none =>
            have HE := Lib.hid (HBAD.out 4 (HEV.out.trans (evW_bad hp)))
            rw [hp, show (none : Option Int).isSome = false from rfl] at KPN
            clear hp hfb hfg
            go_wp2_with fail
            refine (KPN.out _).mono ?_
            rintro r z ⟨rfl, rfl⟩
            go_wp2_with fail
            go_ret2
            exact HOUT.out _ _ (HR.out.hk.trans HK2.out (by simp)) (by rw [HE.out] <;> rfl)
          | some tn =>
            have HE0 := Lib.hid (HEV.out.trans (evW_begin hp hfb hfg))
            rw [hp, show (some tn).isSome = true from rfl, show numOf n = tn by unfold numOf; rw [hp]] at KPN
            clear hp hfb hfg
            have KRB : Hid (∀ (W : World), Keep [] w2 W → Calls Tryd.prog 11 #[.slice (some ⟨wg, 2, none⟩) (rest.length + 1) (wc - 2)] W (AnsR (ansP (y2 :: rest)).1 (ansP (y2 :: rest)).2 W)) := Lib.hid (fun W hk => (KRA.out W hk).mono (fun _ _ h => AnsR.of_ref h))
            clear KRA
            obtain ⟨⟨a, ae⟩, hap⟩ : ∃ p, ansP (y2 :: rest) = p := ⟨_, rfl⟩
            rw [hap] at KRB
            dsimp only at KRB
            unfold AnsR at KRB
            clear hap
            cases hrc : readC (y2 :: rest) with
            | error k =>
              have hcp : callP (y2 :: rest) = (⟨0, 0, 0, 0, 0⟩, k) := by unfold callP; rw [hrc]; rfl
              rw [hcp] at KRC
              rw [hrc] at HE0
              dsimp only at KRC
              have HE := Lib.hid (HBAD.out k HE0.out)
              have HNZ : Hid ((k != 0) = true) := Lib.hid (by rw [bne_iff_ne]; exact readC_err hrc)
              clear hrc hcp
              go_wp2_with fail
              refine (KPN.out _).mono ?_
              rintro r z ⟨rfl, rfl⟩
              clear KPN
              go_upto_region 15 with fail
              have HEB := Lib.hid (Blk.new w2 45 #[.int .i64 tn, .bool false, .int .i64 0, .int .i64 0, .int .i64 0, .int .i64 0, .int .i64 0, .int .i64 0, .int .i64 0, .int .i64 0, .int .i64 0, .slice none 0 0])
              have HK3 := Lib.hid ((Keep.refl [] w2).alloc (.cells #[.int .i64 tn, .bool false, .int .i64 0, .int .i64 0, .int .i64 0, .int .i64 0, .int .i64 0, .int .i64 0, .int .i64 0, .int .i64 0, .int .i64 0, .slice none 0 0] 45))
              have HNE : Hid (w2.heap.size ≤ w2.heap.size) := Lib.hid (Nat.le_refl _)
              generalize hen : w2.heap.size = eb at HEB ⊢
              have HEN := Lib.hid hen
              clear hen HNE
              generalize w2.alloc _ = w3 at HEB HK3 ⊢
              clear hw0 hw1
              go_wp2_with fail
              refine (KRB.out _ HK3.out).mono ?_
              rintro r w4 ⟨hk, A2, p2, rfl, _⟩
              have HK4 := Lib.hid (HK3.out.trans hk (by simp))
              have HE4 := Lib.hid (HEB.out.keep hk (by simp))
              clear hk HK3 HEB KRB
              go_upto_region 16 with fail
              have HA5 := Lib.hid (Blk.new w4 33 #[.int .i64 a.kind, .int .i64 a.key, .int .i64 a.val, .int .i64 a.n, .slice A2 a.ps.length p2])
              have HE5 := Lib.hid (HE4.out.alloc (.cells #[.int .i64 a.kind, .int .i64 a.key, .int .i64 a.val, .int .i64 a.n, .slice A2 a.ps.length p2] 33))
              have HK5 := Lib.hid (HK4.out.alloc (.cells #[.int .i64 a.kind, .int .i64 a.key, .int .i64 a.val, .int .i64 a.n, .slice A2 a.ps.length p2] 33))
              generalize w4.heap.size = ab at HA5 ⊢
              generalize w4.alloc _ = w5 at HA5 HE5 HK5 ⊢
              go_wp2_with fail
              refine (KRC.out _ HK5.out).mono ?_
              rintro r w6 ⟨rfl, hk⟩
              have HK6 := Lib.hid (HK5.out.trans hk (by simp))
              have HE6 := Lib.hid (HE5.out.keep hk (by simp))
              have HA6 := Lib.hid (HA5.out.keep hk (by simp))
              clear hk HK5 HE5 HA5 KRC
              go_upto_region 17 with fail
              have HC7 := Lib.hid (Blk.new w6 26 #[.int .i64 0, .int .i64 0, .int .i64 0, .int .i64 0, .int .i64 0])
              have HE7 := Lib.hid (HE6.out.alloc (.cells #[.int .i64 0, .int .i64 0, .int .i64 0, .int .i64 0, .int .i64 0] 26))
              have HA7 := Lib.hid (HA6.out.alloc (.cells #[.int .i64 0, .int .i64 0, .int .i64 0, .int .i64 0, .int .i64 0] 26))
              have HK7 := Lib.hid (HK6.out.alloc (.cells #[.int .i64 0, .int .i64 0, .int .i64 0, .int .i64 0, .int .i64 0] 26))
              generalize w6.heap.size = cb at HC7 ⊢
              generalize w6.alloc _ = w7 at HC7 HA7 HE7 HK7 ⊢
              have e0 : w7.cell? ⟨eb, 0, none⟩ = some (.int .i64 tn) := HE7.out.cell 0
              have ef0 := HE7.out.frozen 0
              have e1 : w7.cell? ⟨eb, 1, none⟩ = some (.bool false) := HE7.out.cell 1
              have ef1 := HE7.out.frozen 1
              have e2 : w7.cell? ⟨eb, 2, none⟩ = some (.int .i64 0) := HE7.out.cell 2
              have ef2 := HE7.out.frozen 2
              have e3 : w7.cell? ⟨eb, 3, none⟩ = some (.int .i64 0) := HE7.out.cell 3
              have ef3 := HE7.out.frozen 3
              have e4 : w7.cell? ⟨eb, 4, none⟩ = some (.int .i64 0) := HE7.out.cell 4
              have ef4 := HE7.out.frozen 4
              have e5 : w7.cell? ⟨eb, 5, none⟩ = some (.int .i64 0) := HE7.out.cell 5
              have ef5 := HE7.out.frozen 5
              have e6 : w7.cell? ⟨eb, 6, none⟩ = some (.int .i64 0) := HE7.out.cell 6
              have ef6 := HE7.out.frozen 6
              have e7 : w7.cell? ⟨eb, 7, none⟩ = some (.int .i64 0) := HE7.out.cell 7
              have ef7 := HE7.out.frozen 7
              have e8 : w7.cell? ⟨eb, 8, none⟩ = some (.int .i64 0) := HE7.out.cell 8
              have ef8 := HE7.out.frozen 8
              have e9 : w7.cell? ⟨eb, 9, none⟩ = some (.int .i64 0) := HE7.out.cell 9
              have ef9 := HE7.out.frozen 9
              have e10 : w7.cell? ⟨eb, 10, none⟩ = some (.int .i64 0) := HE7.out.cell 10
              have ef10 := HE7.out.frozen 10
              have e11 : w7.cell? ⟨eb, 11, none⟩ = some (.slice none 0 0) := HE7.out.cell 11
              have ef11 := HE7.out.frozen 11
              have b0 : w7.cell? ⟨cb, 0, none⟩ = some (.int .i64 0) := HC7.out.cell 0
              have b1 : w7.cell? ⟨cb, 1, none⟩ = some (.int .i64 0) := HC7.out.cell 1
              have b2 : w7.cell? ⟨cb, 2, none⟩ = some (.int .i64 0) := HC7.out.cell 2
              have b3 : w7.cell? ⟨cb, 3, none⟩ = some (.int .i64 0) := HC7.out.cell 3
              have b4 : w7.cell? ⟨cb, 4, none⟩ = some (.int .i64 0) := HC7.out.cell 4
              have hnz := HNZ.out
              go_wp2_with fail
              go_ret2
              have hkS := (Keep.refl [eb] w7)
              exact HOUT.out _ _ (((HR.out.hk.trans HK2.out (by simp)).trans HK7.out (by simp)).trans ((((((hkS.set_ (p := ⟨eb, 2, none⟩) _ (.inl (List.mem_singleton.2 rfl))).set_ (p := ⟨eb, 3, none⟩) _ (.inl (List.mem_singleton.2 rfl))).set_ (p := ⟨eb, 4, none⟩) _ (.inl (List.mem_singleton.2 rfl))).set_ (p := ⟨eb, 5, none⟩) _ (.inl (List.mem_singleton.2 rfl))).set_ (p := ⟨eb, 6, none⟩) _ (.inl (List.mem_singleton.2 rfl)))) (fun x hx => .inr (by rw [List.mem_singleton.1 hx]; exact Nat.le_trans (Nat.le_trans HR.out.hk.size HK2.out.size) (Nat.le_of_eq HEN.out)))) (by rw [HE.out] <;> rfl)
            | ok c =>
              have hcp : callP (y2 :: rest) = (c, 0) := by unfold callP; rw [hrc]
              rw [hcp] at KRC
              rw [hrc] at HE0
              dsimp only at KRC
              have HE := Lib.hid (HGOOD.out _ HE0.out)
              clear hrc hcp
              go_wp2_with fail
              refine (KPN.out _).mono ?_
              rintro r z ⟨rfl, rfl⟩
              clear KPN
              go_upto_region 15 with fail
              have HEB := Lib.hid (Blk.new w2 45 #[.int .i64 tn, .bool false, .int .i64 0, .int .i64 0, .int .i64 0, .int .i64 0, .int .i64 0, .int .i64 0, .int .i64 0, .int .i64 0, .int .i64 0, .slice none 0 0])
              have HK3 := Lib.hid ((Keep.refl [] w2).alloc (.cells #[.int .i64 tn, .bool false, .int .i64 0, .int .i64 0, .int .i64 0, .int .i64 0, .int .i64 0, .int .i64 0, .int .i64 0, .int .i64 0, .int .i64 0, .slice none 0 0] 45))
              have HNE : Hid (w2.heap.size ≤ w2.heap.size) := Lib.hid (Nat.le_refl _)
              generalize hen : w2.heap.size = eb at HEB ⊢
              have HEN := Lib.hid hen
              clear hen HNE
              generalize w2.alloc _ = w3 at HEB HK3 ⊢
              clear hw0 hw1
              go_wp2_with fail
              refine (KRB.out _ HK3.out).mono ?_
              rintro r w4 ⟨hk, A2, p2, rfl, _⟩
              have HK4 := Lib.hid (HK3.out.trans hk (by simp))
              have HE4 := Lib.hid (HEB.out.keep hk (by simp))
              clear hk HK3 HEB KRB
              go_upto_region 16 with fail
              have HA5 := Lib.hid (Blk.new w4 33 #[.int .i64 a.kind, .int .i64 a.key, .int .i64 a.val, .int .i64 a.n, .slice A2 a.ps.length p2])
              have HE5 := Lib.hid (HE4.out.alloc (.cells #[.int .i64 a.kind, .int .i64 a.key, .int .i64 a.val, .int .i64 a.n, .slice A2 a.ps.length p2] 33))
              have HK5 := Lib.hid (HK4.out.alloc (.cells #[.int .i64 a.kind, .int .i64 a.key, .int .i64 a.val, .int .i64 a.n, .slice A2 a.ps.length p2] 33))
              generalize w4.heap.size = ab at HA5 ⊢
              generalize w4.alloc _ = w5 at HA5 HE5 HK5 ⊢
              go_wp2_with fail
              refine (KRC.out _ HK5.out).mono ?_
              rintro r w6 ⟨rfl, hk⟩
              have HK6 := Lib.hid (HK5.out.trans hk (by simp))
              have HE6 := Lib.hid (HE5.out.keep hk (by simp))
              have HA6 := Lib.hid (HA5.out.keep hk (by simp))
              clear hk HK5 HE5 HA5 KRC
              go_upto_region 17 with fail
              have HC7 := Lib.hid (Blk.new w6 26 #[.int .i64 c.op, .int .i64 c.key, .int .i64 c.val, .int .i64 c.hi, .int .i64 c.lim])
              have HE7 := Lib.hid (HE6.out.alloc (.cells #[.int .i64 c.op, .int .i64 c.key, .int .i64 c.val, .int .i64 c.hi, .int .i64 c.lim] 26))
              have HA7 := Lib.hid (HA6.out.alloc (.cells #[.int .i64 c.op, .int .i64 c.key, .int .i64 c.val, .int .i64 c.hi, .int .i64 c.lim] 26))
              have HK7 := Lib.hid (HK6.out.alloc (.cells #[.int .i64 c.op, .int .i64 c.key, .int .i64 c.val, .int .i64 c.hi, .int .i64 c.lim] 26))
              generalize w6.heap.size = cb at HC7 ⊢
              generalize w6.alloc _ = w7 at HC7 HA7 HE7 HK7 ⊢
              have e0 : w7.cell? ⟨eb, 0, none⟩ = some (.int .i64 tn) := HE7.out.cell 0
              have ef0 := HE7.out.frozen 0
              have e1 : w7.cell? ⟨eb, 1, none⟩ = some (.bool false) := HE7.out.cell 1
              have ef1 := HE7.out.frozen 1
              have e2 : w7.cell? ⟨eb, 2, none⟩ = some (.int .i64 0) := HE7.out.cell 2
              have ef2 := HE7.out.frozen 2
              have e3 : w7.cell? ⟨eb, 3, none⟩ = some (.int .i64 0) := HE7.out.cell 3
              have ef3 := HE7.out.frozen 3
              have e4 : w7.cell? ⟨eb, 4, none⟩ = some (.int .i64 0) := HE7.out.cell 4
              have ef4 := HE7.out.frozen 4
              have e5 : w7.cell? ⟨eb, 5, none⟩ = some (.int .i64 0) := HE7.out.cell 5
              have ef5 := HE7.out.frozen 5
              have e6 : w7.cell? ⟨eb, 6, none⟩ = some (.int .i64 0) := HE7.out.cell 6
              have ef6 := HE7.out.frozen 6
              have e7 : w7.cell? ⟨eb, 7, none⟩ = some (.int .i64 0) := HE7.out.cell 7
              have ef7 := HE7.out.frozen 7
              have e8 : w7.cell? ⟨eb, 8, none⟩ = some (.int .i64 0) := HE7.out.cell 8
              have ef8 := HE7.out.frozen 8
              have e9 : w7.cell? ⟨eb, 9, none⟩ = some (.int .i64 0) := HE7.out.cell 9
              have ef9 := HE7.out.frozen 9
              have e10 : w7.cell? ⟨eb, 10, none⟩ = some (.int .i64 0) := HE7.out.cell 10
              have ef10 := HE7.out.frozen 10
              have e11 : w7.cell? ⟨eb, 11, none⟩ = some (.slice none 0 0) := HE7.out.cell 11
              have ef11 := HE7.out.frozen 11
              have b0 : w7.cell? ⟨cb, 0, none⟩ = some (.int .i64 c.op) := HC7.out.cell 0
              have b1 : w7.cell? ⟨cb, 1, none⟩ = some (.int .i64 c.key) := HC7.out.cell 1
              have b2 : w7.cell? ⟨cb, 2, none⟩ = some (.int .i64 c.val) := HC7.out.cell 2
              have b3 : w7.cell? ⟨cb, 3, none⟩ = some (.int .i64 c.hi) := HC7.out.cell 3
              have b4 : w7.cell? ⟨cb, 4, none⟩ = some (.int .i64 c.lim) := HC7.out.cell 4
              go_upto_region 21 with fail
              have HE8 : Hid (Blk _ eb 45 #[.int .i64 tn, .bool false, .int .i64 c.op, .int .i64 c.key, .int .i64 c.val, .int .i64 c.hi, .int .i64 c.lim, .int .i64 0, .int .i64 0, .int .i64 0, .int .i64 0, .slice none 0 0]) := Lib.hid (((((HE7.out.set_ 2 (.int .i64 c.op)).set_ 3 (.int .i64 c.key)).set_ 4 (.int .i64 c.val)).set_ 5 (.int .i64 c.hi)).set_ 6 (.int .i64 c.lim))
              have hk8 := ((((((Keep.refl [eb] w7).set_ (p := ⟨eb, 2, none⟩) (.int .i64 c.op) (.inl (List.mem_singleton.2 rfl))).set_ (p := ⟨eb, 3, none⟩) (.int .i64 c.key) (.inl (List.mem_singleton.2 rfl))).set_ (p := ⟨eb, 4, none⟩) (.int .i64 c.val) (.inl (List.mem_singleton.2 rfl))).set_ (p := ⟨eb, 5, none⟩) (.int .i64 c.hi) (.inl (List.mem_singleton.2 rfl))).set_ (p := ⟨eb, 6, none⟩) (.int .i64 c.lim) (.inl (List.mem_singleton.2 rfl)))
              have HK8 := Lib.hid ((HK2.out.trans HK7.out (by simp)).trans hk8 (fun x hx => .inr (by rw [List.mem_singleton.1 hx]; exact Nat.le_trans HK2.out.size (Nat.le_of_eq HEN.out))))
              clear hk8 e0 ef0 e1 ef1 e2 ef2 e3 ef3 e4 ef4 e5 ef5 e6 ef6 e7 ef7 e8 ef8 e9 ef9 e10 ef10 e11 ef11 b0 b1 b2 b3 b4
              generalize World.setCell _ ⟨eb, 6, none⟩ _ = w8 at HE8 HK8 ⊢
              go_wp2_with fail
              go_ret2
              exact HOUT.out _ _ (HR.out.hk.trans HK8.out (by simp)) (by rw [HE.out] <;> rfl)
        · have q1 : (f != [98, 101, 103, 105, 110]) = true := by rw [bne_iff_ne]; exact hfg
          have q2 : (f != [98, 97, 99, 107]) = true := by rw [bne_iff_ne]; exact hfb
          have q3 : (f == [98, 101, 103, 105, 110]) = false := by rw [beq_eq_false_iff_ne]; exact hfg
          have q4 : (f == [98, 97, 99, 107]) = false := by rw [beq_eq_false_iff_ne]; exact hfb
          have q5 : ¬ f = [98, 101, 103, 105, 110] := hfg
          have q6 : ¬ f = [98, 97, 99, 107] := hfb
          have HE := Lib.hid (HBAD.out 4 (HEV.out.trans (evW_other hfb hfg)))
          clear hfb hfg
          go_wp2_with fail
          go_ret2
          exact HOUT.out _ _ (HR.out.hk.trans HK2.out (by simp)) (by rw [HE.out] <;> rfl)
    · have hb1 : (((i : Nat) : Int) == ((L.length : Nat) : Int) - 1) = false := by rw [beq_eq_false_iff_ne]; omega
      have HI2 : Hid (i + 1 < L.length) := Lib.hid (by have := HI.out; omega)
      obtain ⟨y, r, hyr⟩ : ∃ y r, L.drop (i + 1) = y :: r := by
        cases hd : L.drop (i + 1) with
        | nil => have := HI2.out; rw [List.drop_eq_nil_iff] at hd; omega
        | cons y r => exact ⟨y, r, rfl⟩
      rw [hyr] at hres
      have HBAD : Hid (∀ k, evR x = .error k → rr = .error k) := Lib.hid (fun k hk => by rw [← hres, resH_bad acc hk])
      have HGOOD : Hid (∀ e, evR x = .ok e → resH (acc ++ [e]) (L.drop (i + 1)) = rr) := Lib.hid (fun e he => by rw [← hres, hyr, resH_step acc he])
      clear hres hyr hlast
      have KC2 := Lib.hid (fun (W : World) => ref35_cut 32 x W HX5.out)
      unfold CutOut at KC2
      have HEV : Hid (evR x = evW (cutZ 32 x)) := Lib.hid rfl
      obtain ⟨hwn, hwl⟩ := cutZ_len 32 x
      have HWN : Hid ((cutZ 32 x).length ≤ 20001) := Lib.hid (by have := HX5.out; omega)
      have HWL : Hid (∀ z ∈ cutZ 32 x, z.length ≤ 20000) := Lib.hid (fun z hz => by have := hwl z hz; have := HX5.out; omega)
      clear hwn hwl
      generalize cutZ 32 x = ws at *
      go_wp2_with fail
      refine (KC2.out _).mono ?_
      rintro r w2 ⟨hk, WA, wc, rfl, ho⟩
      have HK2 := Lib.hid hk
      have HWO := Lib.hid (own_more ho HR.out.hk.size)
      clear hk ho KC2 hcx
      by_cases h3 : ws.length < 3
      · have hz3 : ((ws.length : Nat) : Int) < 3 := by omega
        have HE := Lib.hid (HBAD.out 4 (HEV.out.trans (evW_few h3)))
        clear h3
        go_wp2_with fail
        go_ret2
        exact HOUT.out _ _ (HR.out.hk.trans HK2.out (by simp)) (by rw [HE.out] <;> rfl)
      obtain ⟨f, n, y2, rest, rfl⟩ := three_of h3
      have hz3 : ¬ (((f :: n :: y2 :: rest).length : Nat) : Int) < 3 := by simp; omega
      have hz3b : ¬ ((rest.length : Nat) : Int) + 1 + 1 + 1 < 3 := by omega
      clear h3
      obtain ⟨wg, wc2, hwv, _, _⟩ := own_some HWO.out (by simp)
      injection hwv with hA2 _ hc2
      subst hA2 hc2
      have hw0 : w2.cell? ⟨wg, 0, none⟩ = some (.string ⟨f.toArray⟩) := own_cell HWO.out (by simp)
      have hw1 : w2.cell? ⟨wg, 1, none⟩ = some (.string ⟨n.toArray⟩) := own_cell HWO.out (by simp)
      have hcap := own_cap HWO.out
      have HEL : Hid (ElAt strC w2 (some ⟨wg, 0, none⟩) (f :: n :: y2 :: rest)) := Lib.hid (by have h := HWO.out; rw [strL_flat] at h; exact ElAt.of_own h rfl)
      have hc3 : (3 : Int) ≤ (wc : Int) := by have := hcap.1; simp at this; omega
      have hc9 : (wc : Int) ≤ 9223372036854775807 := by have := hcap.2; unfold maxLen at this; omega
      have hr0 : (0 : Int) ≤ ((rest.length : Nat) : Int) := by omega
      have hr2 : ((rest.length : Nat) : Int) ≤ 20000 := by have := HWN.out; simp at this; omega
      clear hcap
      have HN5 : Hid (n.length ≤ 20000) := Lib.hid (HWL.out n (by simp))
      have HOKW : Hid (WsOk w2 (some ⟨wg, 2, none⟩) (y2 :: rest)) := Lib.hid ⟨HEL.out.drop2, fun z hz => HWL.out z (by simp at hz ⊢; rcases hz with h | h; exact .inr (.inr (.inl h)); exact .inr (.inr (.inr h))), by have := HWN.out; simp at this ⊢; omega⟩
      have KPN := Lib.hid (fun (W : World) => ref35_parse n W HN5.out)
      unfold RParseOut at KPN
      have KRA := Lib.hid (fun (W : World) (hk : Keep [] w2 W) => ref35_readAnswer W (some ⟨wg, 2, none⟩) (wc - 2) y2 rest (HOKW.out.keep hk))
      have KRC := Lib.hid (fun (W : World) (hk : Keep [] w2 W) => (ref35_readCall W (some ⟨wg, 2, none⟩) (wc - 2) y2 rest (HOKW.out.keep hk)).mono (fun _ _ h => CalR.of_ref h))
      unfold CalR at KRC
      rw [show (y2 :: rest).length = rest.length + 1 from rfl] at KRA KRC
      by_cases hfb : f = backB
      · have hfb2 : f = [98, 97, 99, 107] := hfb
        subst hfb2
        cases hp : parseZ n with
        | none =>
          have HE := Lib.hid (HBAD.out 4 (HEV.out.trans (evW_bad hp)))
          rw [hp, show (none : Option Int).isSome = false from rfl] at KPN
          clear hp hfb
          go_wp2_with fail
          refine (KPN.out _).mono ?_
          rintro r z ⟨rfl, rfl⟩
          go_wp2_with fail
          go_ret2
          exact HOUT.out _ _ (HR.out.hk.trans HK2.out (by simp)) (by rw [HE.out] <;> rfl)
        | some tn =>
          have HE0 := Lib.hid (HEV.out.trans (evW_back hp hfb))
          rw [hp, show (some tn).isSome = true from rfl, show numOf n = tn by unfold numOf; rw [hp]] at KPN
          clear hp hfb
          obtain ⟨⟨c, ce⟩, hcp⟩ : ∃ p, callP (y2 :: rest) = p := ⟨_, rfl⟩
          rw [hcp] at KRC
          dsimp only at KRC
          clear hcp
          unfold RAnsOut at KRA
          cases hra : readA (y2 :: rest) with
          | error k =>
            rw [hra] at KRA HE0
            have HE := Lib.hid (HBAD.out k HE0.out)
            have HNZ : Hid ((k != 0) = true) := Lib.hid (by rw [bne_iff_ne]; exact readA_err hra)
            clear hra
            go_wp2_with fail
            refine (KPN.out _).mono ?_
            rintro r z ⟨rfl, rfl⟩
            clear KPN
            go_upto_region 15 with fail
            have HEB := Lib.hid (Blk.new w2 45 #[.int .i64 tn, .bool true, .int .i64 0, .int .i64 0, .int .i64 0, .int .i64 0, .int .i64 0, .int .i64 0, .int .i64 0, .int .i64 0, .int .i64 0, .slice none 0 0])
            have HK3 := Lib.hid ((Keep.refl [] w2).alloc (.cells #[.int .i64 tn, .bool true, .int .i64 0, .int .i64 0, .int .i64 0, .int .i64 0, .int .i64 0, .int .i64 0, .int .i64 0, .int .i64 0, .int .i64 0, .slice none 0 0] 45))
            have HNE : Hid (w2.heap.size ≤ w2.heap.size) := Lib.hid (Nat.le_refl _)
            generalize hen : w2.heap.size = eb at HEB ⊢
            have HEN := Lib.hid hen
            clear hen HNE
            generalize w2.alloc _ = w3 at HEB HK3 ⊢
            clear hw0 hw1
            go_wp2_with fail
            refine (KRA.out _ HK3.out).mono ?_
            rintro r w4 ⟨hk, rfl⟩
            rw [show zeroA = #[.int .i64 0, .int .i64 0, .int .i64 0, .int .i64 0, .slice none 0 0] from rfl]
            have HK4 := Lib.hid (HK3.out.trans hk (by simp))
            have HE4 := Lib.hid (HEB.out.keep hk (by simp))
            clear hk HK3 HEB KRA
            go_upto_region 16 with fail
            have HA5 := Lib.hid (Blk.new w4 33 #[.int .i64 0, .int .i64 0, .int .i64 0, .int .i64 0, .slice none 0 0])
            have HE5 := Lib.hid (HE4.out.alloc (.cells #[.int .i64 0, .int .i64 0, .int .i64 0, .int .i64 0, .slice none 0 0] 33))
            have HK5 := Lib.hid (HK4.out.alloc (.cells #[.int .i64 0, .int .i64 0, .int .i64 0, .int .i64 0, .slice none 0 0] 33))
            generalize w4.heap.size = ab at HA5 ⊢
            generalize w4.alloc _ = w5 at HA5 HE5 HK5 ⊢
            go_wp2_with fail
            refine (KRC.out _ HK5.out).mono ?_
            rintro r w6 ⟨rfl, hk⟩
            have HK6 := Lib.hid (HK5.out.trans hk (by simp))
            have HE6 := Lib.hid (HE5.out.keep hk (by simp))
            have HA6 := Lib.hid (HA5.out.keep hk (by simp))
            clear hk HK5 HE5 HA5 KRC
            go_upto_region 17 with fail
            have HC7 := Lib.hid (Blk.new w6 26 #[.int .i64 c.op, .int .i64 c.key, .int .i64 c.val, .int .i64 c.hi, .int .i64 c.lim])
            have HE7 := Lib.hid (HE6.out.alloc (.cells #[.int .i64 c.op, .int .i64 c.key, .int .i64 c.val, .int .i64 c.hi, .int .i64 c.lim] 26))
            have HA7 := Lib.hid (HA6.out.alloc (.cells #[.int .i64 c.op, .int .i64 c.key, .int .i64 c.val, .int .i64 c.hi, .int .i64 c.lim] 26))
            have HK7 := Lib.hid (HK6.out.alloc (.cells #[.int .i64 c.op, .int .i64 c.key, .int .i64 c.val, .int .i64 c.hi, .int .i64 c.lim] 26))
            generalize w6.heap.size = cb at HC7 ⊢
            generalize w6.alloc _ = w7 at HC7 HA7 HE7 HK7 ⊢
            have e0 : w7.cell? ⟨eb, 0, none⟩ = some (.int .i64 tn) := HE7.out.cell 0
            have ef0 := HE7.out.frozen 0
            have e1 : w7.cell? ⟨eb, 1, none⟩ = some (.bool true) := HE7.out.cell 1
            have ef1 := HE7.out.frozen 1
            have e2 : w7.cell? ⟨eb, 2, none⟩ = some (.int .i64 0) := HE7.out.cell 2
            have ef2 := HE7.out.frozen 2
            have e3 : w7.cell? ⟨eb, 3, none⟩ = some (.int .i64 0) := HE7.out.cell 3
            have ef3 := HE7.out.frozen 3
            have e4 : w7.cell? ⟨eb, 4, none⟩ = some (.int .i64 0) := HE7.out.cell 4
            have ef4 := HE7.out.frozen 4
            have e5 : w7.cell? ⟨eb, 5, none⟩ = some (.int .i64 0) := HE7.out.cell 5
            have ef5 := HE7.out.frozen 5
            have e6 : w7.cell? ⟨eb, 6, none⟩ = some (.int .i64 0) := HE7.out.cell 6
            have ef6 := HE7.out.frozen 6
            have e7 : w7.cell? ⟨eb, 7, none⟩ = some (.int .i64 0) := HE7.out.cell 7
            have ef7 := HE7.out.frozen 7
            have e8 : w7.cell? ⟨eb, 8, none⟩ = some (.int .i64 0) := HE7.out.cell 8
            have ef8 := HE7.out.frozen 8
            have e9 : w7.cell? ⟨eb, 9, none⟩ = some (.int .i64 0) := HE7.out.cell 9
            have ef9 := HE7.out.frozen 9
            have e10 : w7.cell? ⟨eb, 10, none⟩ = some (.int .i64 0) := HE7.out.cell 10
            have ef10 := HE7.out.frozen 10
            have e11 : w7.cell? ⟨eb, 11, none⟩ = some (.slice none 0 0) := HE7.out.cell 11
            have ef11 := HE7.out.frozen 11
            have b0 : w7.cell? ⟨ab, 0, none⟩ = some (.int .i64 0) := HA7.out.cell 0
            have b1 : w7.cell? ⟨ab, 1, none⟩ = some (.int .i64 0) := HA7.out.cell 1
            have b2 : w7.cell? ⟨ab, 2, none⟩ = some (.int .i64 0) := HA7.out.cell 2
            have b3 : w7.cell? ⟨ab, 3, none⟩ = some (.int .i64 0) := HA7.out.cell 3
            have b4 : w7.cell? ⟨ab, 4, none⟩ = some (.slice none 0 0) := HA7.out.cell 4
            have hnz := HNZ.out
            go_wp2_with fail
            go_ret2
            have hkS := (Keep.refl [eb] w7)
            exact HOUT.out _ _ (((HR.out.hk.trans HK2.out (by simp)).trans HK7.out (by simp)).trans ((((((hkS.set_ (p := ⟨eb, 7, none⟩) _ (.inl (List.mem_singleton.2 rfl))).set_ (p := ⟨eb, 8, none⟩) _ (.inl (List.mem_singleton.2 rfl))).set_ (p := ⟨eb, 9, none⟩) _ (.inl (List.mem_singleton.2 rfl))).set_ (p := ⟨eb, 10, none⟩) _ (.inl (List.mem_singleton.2 rfl))).set_ (p := ⟨eb, 11, none⟩) _ (.inl (List.mem_singleton.2 rfl)))) (fun x hx => .inr (by rw [List.mem_singleton.1 hx]; exact Nat.le_trans (Nat.le_trans HR.out.hk.size HK2.out.size) (Nat.le_of_eq HEN.out)))) (by rw [HE.out] <;> rfl)
          | ok a =>
            rw [hra] at KRA HE0
            have HE := Lib.hid (HGOOD.out _ HE0.out)
            clear hra
            go_wp2_with fail
            refine (KPN.out _).mono ?_
            rintro r z ⟨rfl, rfl⟩
            clear KPN
            go_upto_region 15 with fail
            have HEB := Lib.hid (Blk.new w2 45 #[.int .i64 tn, .bool true, .int .i64 0, .int .i64 0, .int .i64 0, .int .i64 0, .int .i64 0, .int .i64 0, .int .i64 0, .int .i64 0, .int .i64 0, .slice none 0 0])
            have HK3 := Lib.hid ((Keep.refl [] w2).alloc (.cells #[.int .i64 tn, .bool true, .int .i64 0, .int .i64 0, .int .i64 0, .int .i64 0, .int .i64 0, .int .i64 0, .int .i64 0, .int .i64 0, .int .i64 0, .slice none 0 0] 45))
            have HNE : Hid (w2.heap.size ≤ w2.heap.size) := Lib.hid (Nat.le_refl _)
            generalize hen : w2.heap.size = eb at HEB ⊢
            have HEN := Lib.hid hen
            clear hen HNE
            generalize w2.alloc _ = w3 at HEB HK3 ⊢
            clear hw0 hw1
            go_wp2_with fail
            refine (KRA.out _ HK3.out).mono ?_
            rintro r w4 ⟨hk, A2, p2, rfl, ho⟩
            have HP4 := Lib.hid (own_more ho (Nat.le_trans (Nat.le_trans HR.out.hk.size HK2.out.size) HK3.out.size))
            clear ho
            have HK4 := Lib.hid (HK3.out.trans hk (by simp))
            have HE4 := Lib.hid (HEB.out.keep hk (by simp))
            clear hk HK3 HEB KRA
            go_upto_region 16 with fail
            have HA5 := Lib.hid (Blk.new w4 33 #[.int .i64 a.kind, .int .i64 a.key, .int .i64 a.val, .int .i64 a.n, .slice A2 a.ps.length p2])
            have HE5 := Lib.hid (HE4.out.alloc (.cells #[.int .i64 a.kind, .int .i64 a.key, .int .i64 a.val, .int .i64 a.n, .slice A2 a.ps.length p2] 33))
            have HK5 := Lib.hid (HK4.out.alloc (.cells #[.int .i64 a.kind, .int .i64 a.key, .int .i64 a.val, .int .i64 a.n, .slice A2 a.ps.length p2] 33))
            have HP5 := Lib.hid (own_keep HP4.out ((Keep.refl [] w4).alloc (.cells #[.int .i64 a.kind, .int .i64 a.key, .int .i64 a.val, .int .i64 a.n, .slice A2 a.ps.length p2] 33)) (by simp))
            generalize w4.heap.size = ab at HA5 ⊢
            generalize w4.alloc _ = w5 at HA5 HE5 HK5 HP5 ⊢
            go_wp2_with fail
            refine (KRC.out _ HK5.out).mono ?_
            rintro r w6 ⟨rfl, hk⟩
            have HK6 := Lib.hid (HK5.out.trans hk (by simp))
            have HE6 := Lib.hid (HE5.out.keep hk (by simp))
            have HA6 := Lib.hid (HA5.out.keep hk (by simp))
            have HP6 := Lib.hid (own_keep HP5.out hk (by simp))
            clear hk HK5 HE5 HA5 KRC
            go_upto_region 17 with fail
            have HC7 := Lib.hid (Blk.new w6 26 #[.int .i64 c.op, .int .i64 c.key, .int .i64 c.val, .int .i64 c.hi, .int .i64 c.lim])
            have HE7 := Lib.hid (HE6.out.alloc (.cells #[.int .i64 c.op, .int .i64 c.key, .int .i64 c.val, .int .i64 c.hi, .int .i64 c.lim] 26))
            have HA7 := Lib.hid (HA6.out.alloc (.cells #[.int .i64 c.op, .int .i64 c.key, .int .i64 c.val, .int .i64 c.hi, .int .i64 c.lim] 26))
            have HK7 := Lib.hid (HK6.out.alloc (.cells #[.int .i64 c.op, .int .i64 c.key, .int .i64 c.val, .int .i64 c.hi, .int .i64 c.lim] 26))
            have HP7 := Lib.hid (own_keep HP6.out ((Keep.refl [] w6).alloc (.cells #[.int .i64 c.op, .int .i64 c.key, .int .i64 c.val, .int .i64 c.hi, .int .i64 c.lim] 26)) (by simp))
            generalize w6.heap.size = cb at HC7 ⊢
            generalize w6.alloc _ = w7 at HC7 HA7 HE7 HK7 HP7 ⊢
            have e0 : w7.cell? ⟨eb, 0, none⟩ = some (.int .i64 tn) := HE7.out.cell 0
            have ef0 := HE7.out.frozen 0
            have e1 : w7.cell? ⟨eb, 1, none⟩ = some (.bool true) := HE7.out.cell 1
            have ef1 := HE7.out.frozen 1
            have e2 : w7.cell? ⟨eb, 2, none⟩ = some (.int .i64 0) := HE7.out.cell 2
            have ef2 := HE7.out.frozen 2
            have e3 : w7.cell? ⟨eb, 3, none⟩ = some (.int .i64 0) := HE7.out.cell 3
            have ef3 := HE7.out.frozen 3
            have e4 : w7.cell? ⟨eb, 4, none⟩ = some (.int .i64 0) := HE7.out.cell 4
            have ef4 := HE7.out.frozen 4
            have e5 : w7.cell? ⟨eb, 5, none⟩ = some (.int .i64 0) := HE7.out.cell 5
            have ef5 := HE7.out.frozen 5
            have e6 : w7.cell? ⟨eb, 6, none⟩ = some (.int .i64 0) := HE7.out.cell 6
            have ef6 := HE7.out.frozen 6
            have e7 : w7.cell? ⟨eb, 7, none⟩ = some (.int .i64 0) := HE7.out.cell 7
            have ef7 := HE7.out.frozen 7
            have e8 : w7.cell? ⟨eb, 8, none⟩ = some (.int .i64 0) := HE7.out.cell 8
            have ef8 := HE7.out.frozen 8
            have e9 : w7.cell? ⟨eb, 9, none⟩ = some (.int .i64 0) := HE7.out.cell 9
            have ef9 := HE7.out.frozen 9
            have e10 : w7.cell? ⟨eb, 10, none⟩ = some (.int .i64 0) := HE7.out.cell 10
            have ef10 := HE7.out.frozen 10
            have e11 : w7.cell? ⟨eb, 11, none⟩ = some (.slice none 0 0) := HE7.out.cell 11
            have ef11 := HE7.out.frozen 11
            have b0 : w7.cell? ⟨ab, 0, none⟩ = some (.int .i64 a.kind) := HA7.out.cell 0
            have b1 : w7.cell? ⟨ab, 1, none⟩ = some (.int .i64 a.key) := HA7.out.cell 1
            have b2 : w7.cell? ⟨ab, 2, none⟩ = some (.int .i64 a.val) := HA7.out.cell 2
            have b3 : w7.cell? ⟨ab, 3, none⟩ = some (.int .i64 a.n) := HA7.out.cell 3
            have b4 : w7.cell? ⟨ab, 4, none⟩ = some (.slice A2 a.ps.length p2) := HA7.out.cell 4
            go_upto_region 21 with fail
            have HE8 : Hid (Blk _ eb 45 #[.int .i64 tn, .bool true, .int .i64 0, .int .i64 0, .int .i64 0, .int .i64 0, .int .i64 0, .int .i64 a.kind, .int .i64 a.key, .int .i64 a.val, .int .i64 a.n, .slice A2 a.ps.length p2]) := Lib.hid (((((HE7.out.set_ 7 (.int .i64 a.kind)).set_ 8 (.int .i64 a.key)).set_ 9 (.int .i64 a.val)).set_ 10 (.int .i64 a.n)).set_ 11 (.slice A2 a.ps.length p2))
            have hk8 := ((((((Keep.refl [eb] w7).set_ (p := ⟨eb, 7, none⟩) (.int .i64 a.kind) (.inl (List.mem_singleton.2 rfl))).set_ (p := ⟨eb, 8, none⟩) (.int .i64 a.key) (.inl (List.mem_singleton.2 rfl))).set_ (p := ⟨eb, 9, none⟩) (.int .i64 a.val) (.inl (List.mem_singleton.2 rfl))).set_ (p := ⟨eb, 10, none⟩) (.int .i64 a.n) (.inl (List.mem_singleton.2 rfl))).set_ (p := ⟨eb, 11, none⟩) (.slice A2 a.ps.length p2) (.inl (List.mem_singleton.2 rfl)))
            have HP8 := Lib.hid (own_keep HP7.out hk8 (fun g hg hm => own_ne HP7.out HE7.out (by decide) (by rw [hg, List.mem_singleton.1 hm])))
            have HK8 := Lib.hid ((HK2.out.trans HK7.out (by simp)).trans hk8 (fun x hx => .inr (by rw [List.mem_singleton.1 hx]; exact Nat.le_trans HK2.out.size (Nat.le_of_eq HEN.out))))
            clear hk8 e0 ef0 e1 ef1 e2 ef2 e3 ef3 e4 ef4 e5 ef5 e6 ef6 e7 ef7 e8 ef8 e9 ef9 e10 ef10 e11 ef11 b0 b1 b2 b3 b4
            generalize World.setCell _ ⟨eb, 11, none⟩ _ = w8 at HE8 HK8 HP8 ⊢
            have e0 : w8.cell? ⟨eb, 0, none⟩ = some (.int .i64 tn) := HE8.out.cell 0
            have e1 : w8.cell? ⟨eb, 1, none⟩ = some (.bool true) := HE8.out.cell 1
            have e2 : w8.cell? ⟨eb, 2, none⟩ = some (.int .i64 0) := HE8.out.cell 2
            have e3 : w8.cell? ⟨eb, 3, none⟩ = some (.int .i64 0) := HE8.out.cell 3
            have e4 : w8.cell? ⟨eb, 4, none⟩ = some (.int .i64 0) := HE8.out.cell 4
            have e5 : w8.cell? ⟨eb, 5, none⟩ = some (.int .i64 0) := HE8.out.cell 5
            have e6 : w8.cell? ⟨eb, 6, none⟩ = some (.int .i64 0) := HE8.out.cell 6
            have e7 : w8.cell? ⟨eb, 7, none⟩ = some (.int .i64 a.kind) := HE8.out.cell 7
            have e8 : w8.cell? ⟨eb, 8, none⟩ = some (.int .i64 a.key) := HE8.out.cell 8
            have e9 : w8.cell? ⟨eb, 9, none⟩ = some (.int .i64 a.val) := HE8.out.cell 9
            have e10 : w8.cell? ⟨eb, 10, none⟩ = some (.int .i64 a.n) := HE8.out.cell 10
            have e11 : w8.cell? ⟨eb, 11, none⟩ = some (.slice A2 a.ps.length p2) := HE8.out.cell 11
            have HR8 := Lib.hid (HR.out.keep HK8.out)
            have HP9 : Hid (w8.ownsRow w.heap.size 51 2 (.slice A2 (EvX.mk tn true ⟨0, 0, 0, 0, 0⟩ a).a.ps.length p2) (EvX.mk tn true ⟨0, 0, 0, 0, 0⟩ a).a.ps.length ((EvX.mk tn true ⟨0, 0, 0, 0, 0⟩ a).a.ps.flatMap pairC)) := Lib.hid HP8.out
            go_wp2_with (at_builtin; obtain ⟨i0, hi, hz0, hz1, hz2⟩ := info_partsT infoEv; refine wpList_append_own_at _ rfl (.tmp 98) (.tmp 100) 39 rfl w.heap.size 45 i0 (.agg evC0) 12 112 Tryd.underlying39 hi hz0 hz1 hz2 rfl (by decide) (.slice A4 evs.length c4) evs.length (evs.flatMap evL) rfl (own_keep (S := []) HR8.out.ev.own ((Keep.refl [] _).alloc _) (by simp)) ⟨_, 0, none⟩ 1 1 (evL (setE (EvX.mk tn true ⟨0, 0, 0, 0, 0⟩ a) A2 p2)) rfl rfl (World.news_of_block (heap_alloc_new _ _)) (by simp [evL, setE, EvX.cells, ans0, Value.oneCell']) (by have := HCNT.out; have := HI.out; have := HLN.out; unfold maxLen; omega) (by have := HCNT.out; have := HI.out; have := HLN.out; omega) (Nat.le_trans HR8.out.hk.size ((Keep.refl [] _).alloc _).size) ?_; clear hi hz0 hz1 hz2; intro v5 w9 hown hg _ _; obtain ⟨A5, c5, rfl⟩ := own_form hown; have HR9 := Lib.hid (RhR.add (e := (EvX.mk tn true ⟨0, 0, 0, 0, 0⟩ a)) (HR8.out.keep ((Keep.refl [] _).alloc _)) hown hg (own_keep HP9.out ((Keep.refl [] _).alloc _) (by simp))); clear hown hg)
            go_roundg (L.length - (i + 1))
            case measure => have := HI2.out; omega
            case rel => exact ⟨i + 1, evs ++ [setE (EvX.mk tn true ⟨0, 0, 0, 0, 0⟩ a) A2 p2], acc ++ [(EvX.mk tn true ⟨0, 0, 0, 0, 0⟩ a)], HI2.out, rfl, by go_num, HR9.out, by rw [List.map_append, List.map_append, HMAP.out]; rfl, by have := HCNT.out; rw [List.length_append, List.length_singleton]; omega, HE.out⟩
      by_cases hfg : f = beginB
      · have hfg2 : f = [98, 101, 103, 105, 110] := hfg
        subst hfg2
        cases hp : parseZ n with
        | none =>
          have HE := Lib.hid (HBAD.out 4 (HEV.out.trans (evW_bad hp)))
          rw [hp, show (none : Option Int).isSome = false from rfl] at KPN
          clear hp hfb hfg
          go_wp2_with fail
          refine (KPN.out _).mono ?_
          rintro r z ⟨rfl, rfl⟩
          go_wp2_with fail
          go_ret2
          exact HOUT.out _ _ (HR.out.hk.trans HK2.out (by simp)) (by rw [HE.out] <;> rfl)
        | some tn =>
          have HE0 := Lib.hid (HEV.out.trans (evW_begin hp hfb hfg))
          rw [hp, show (some tn).isSome = true from rfl, show numOf n = tn by unfold numOf; rw [hp]] at KPN
          clear hp hfb hfg
          have KRB : Hid (∀ (W : World), Keep [] w2 W → Calls Tryd.prog 11 #[.slice (some ⟨wg, 2, none⟩) (rest.length + 1) (wc - 2)] W (AnsR (ansP (y2 :: rest)).1 (ansP (y2 :: rest)).2 W)) := Lib.hid (fun W hk => (KRA.out W hk).mono (fun _ _ h => AnsR.of_ref h))
          clear KRA
          obtain ⟨⟨a, ae⟩, hap⟩ : ∃ p, ansP (y2 :: rest) = p := ⟨_, rfl⟩
          rw [hap] at KRB
          dsimp only at KRB
          unfold AnsR at KRB
          clear hap
          cases hrc : readC (y2 :: rest) with
          | error k =>
            have hcp : callP (y2 :: rest) = (⟨0, 0, 0, 0, 0⟩, k) := by unfold callP; rw [hrc]; rfl
            rw [hcp] at KRC
            rw [hrc] at HE0
            dsimp only at KRC
            have HE := Lib.hid (HBAD.out k HE0.out)
            have HNZ : Hid ((k != 0) = true) := Lib.hid (by rw [bne_iff_ne]; exact readC_err hrc)
            clear hrc hcp
            go_wp2_with fail
            refine (KPN.out _).mono ?_
            rintro r z ⟨rfl, rfl⟩
            clear KPN
            go_upto_region 15 with fail
            have HEB := Lib.hid (Blk.new w2 45 #[.int .i64 tn, .bool false, .int .i64 0, .int .i64 0, .int .i64 0, .int .i64 0, .int .i64 0, .int .i64 0, .int .i64 0, .int .i64 0, .int .i64 0, .slice none 0 0])
            have HK3 := Lib.hid ((Keep.refl [] w2).alloc (.cells #[.int .i64 tn, .bool false, .int .i64 0, .int .i64 0, .int .i64 0, .int .i64 0, .int .i64 0, .int .i64 0, .int .i64 0, .int .i64 0, .int .i64 0, .slice none 0 0] 45))
            have HNE : Hid (w2.heap.size ≤ w2.heap.size) := Lib.hid (Nat.le_refl _)
            generalize hen : w2.heap.size = eb at HEB ⊢
            have HEN := Lib.hid hen
            clear hen HNE
            generalize w2.alloc _ = w3 at HEB HK3 ⊢
            clear hw0 hw1
            go_wp2_with fail
            refine (KRB.out _ HK3.out).mono ?_
            rintro r w4 ⟨hk, A2, p2, rfl, _⟩
            have HK4 := Lib.hid (HK3.out.trans hk (by simp))
            have HE4 := Lib.hid (HEB.out.keep hk (by simp))
            clear hk HK3 HEB KRB
            go_upto_region 16 with fail
            have HA5 := Lib.hid (Blk.new w4 33 #[.int .i64 a.kind, .int .i64 a.key, .int .i64 a.val, .int .i64 a.n, .slice A2 a.ps.length p2])
            have HE5 := Lib.hid (HE4.out.alloc (.cells #[.int .i64 a.kind, .int .i64 a.key, .int .i64 a.val, .int .i64 a.n, .slice A2 a.ps.length p2] 33))
            have HK5 := Lib.hid (HK4.out.alloc (.cells #[.int .i64 a.kind, .int .i64 a.key, .int .i64 a.val, .int .i64 a.n, .slice A2 a.ps.length p2] 33))
            generalize w4.heap.size = ab at HA5 ⊢
            generalize w4.alloc _ = w5 at HA5 HE5 HK5 ⊢
            go_wp2_with fail
            refine (KRC.out _ HK5.out).mono ?_
            rintro r w6 ⟨rfl, hk⟩
            have HK6 := Lib.hid (HK5.out.trans hk (by simp))
            have HE6 := Lib.hid (HE5.out.keep hk (by simp))
            have HA6 := Lib.hid (HA5.out.keep hk (by simp))
            clear hk HK5 HE5 HA5 KRC
            go_upto_region 17 with fail
            have HC7 := Lib.hid (Blk.new w6 26 #[.int .i64 0, .int .i64 0, .int .i64 0, .int .i64 0, .int .i64 0])
            have HE7 := Lib.hid (HE6.out.alloc (.cells #[.int .i64 0, .int .i64 0, .int .i64 0, .int .i64 0, .int .i64 0] 26))
            have HA7 := Lib.hid (HA6.out.alloc (.cells #[.int .i64 0, .int .i64 0, .int .i64 0, .int .i64 0, .int .i64 0] 26))
            have HK7 := Lib.hid (HK6.out.alloc (.cells #[.int .i64 0, .int .i64 0, .int .i64 0, .int .i64 0, .int .i64 0] 26))
            generalize w6.heap.size = cb at HC7 ⊢
            generalize w6.alloc _ = w7 at HC7 HA7 HE7 HK7 ⊢
            have e0 : w7.cell? ⟨eb, 0, none⟩ = some (.int .i64 tn) := HE7.out.cell 0
            have ef0 := HE7.out.frozen 0
            have e1 : w7.cell? ⟨eb, 1, none⟩ = some (.bool false) := HE7.out.cell 1
            have ef1 := HE7.out.frozen 1
            have e2 : w7.cell? ⟨eb, 2, none⟩ = some (.int .i64 0) := HE7.out.cell 2
            have ef2 := HE7.out.frozen 2
            have e3 : w7.cell? ⟨eb, 3, none⟩ = some (.int .i64 0) := HE7.out.cell 3
            have ef3 := HE7.out.frozen 3
            have e4 : w7.cell? ⟨eb, 4, none⟩ = some (.int .i64 0) := HE7.out.cell 4
            have ef4 := HE7.out.frozen 4
            have e5 : w7.cell? ⟨eb, 5, none⟩ = some (.int .i64 0) := HE7.out.cell 5
            have ef5 := HE7.out.frozen 5
            have e6 : w7.cell? ⟨eb, 6, none⟩ = some (.int .i64 0) := HE7.out.cell 6
            have ef6 := HE7.out.frozen 6
            have e7 : w7.cell? ⟨eb, 7, none⟩ = some (.int .i64 0) := HE7.out.cell 7
            have ef7 := HE7.out.frozen 7
            have e8 : w7.cell? ⟨eb, 8, none⟩ = some (.int .i64 0) := HE7.out.cell 8
            have ef8 := HE7.out.frozen 8
            have e9 : w7.cell? ⟨eb, 9, none⟩ = some (.int .i64 0) := HE7.out.cell 9
            have ef9 := HE7.out.frozen 9
            have e10 : w7.cell? ⟨eb, 10, none⟩ = some (.int .i64 0) := HE7.out.cell 10
            have ef10 := HE7.out.frozen 10
            have e11 : w7.cell? ⟨eb, 11, none⟩ = some (.slice none 0 0) := HE7.out.cell 11
            have ef11 := HE7.out.frozen 11
            have b0 : w7.cell? ⟨cb, 0, none⟩ = some (.int .i64 0) := HC7.out.cell 0
            have b1 : w7.cell? ⟨cb, 1, none⟩ = some (.int .i64 0) := HC7.out.cell 1
            have b2 : w7.cell? ⟨cb, 2, none⟩ = some (.int .i64 0) := HC7.out.cell 2
            have b3 : w7.cell? ⟨cb, 3, none⟩ = some (.int .i64 0) := HC7.out.cell 3
            have b4 : w7.cell? ⟨cb, 4, none⟩ = some (.int .i64 0) := HC7.out.cell 4
            have hnz := HNZ.out
            go_wp2_with fail
            go_ret2
            have hkS := (Keep.refl [eb] w7)
            exact HOUT.out _ _ (((HR.out.hk.trans HK2.out (by simp)).trans HK7.out (by simp)).trans ((((((hkS.set_ (p := ⟨eb, 2, none⟩) _ (.inl (List.mem_singleton.2 rfl))).set_ (p := ⟨eb, 3, none⟩) _ (.inl (List.mem_singleton.2 rfl))).set_ (p := ⟨eb, 4, none⟩) _ (.inl (List.mem_singleton.2 rfl))).set_ (p := ⟨eb, 5, none⟩) _ (.inl (List.mem_singleton.2 rfl))).set_ (p := ⟨eb, 6, none⟩) _ (.inl (List.mem_singleton.2 rfl)))) (fun x hx => .inr (by rw [List.mem_singleton.1 hx]; exact Nat.le_trans (Nat.le_trans HR.out.hk.size HK2.out.size) (Nat.le_of_eq HEN.out)))) (by rw [HE.out] <;> rfl)
          | ok c =>
            have hcp : callP (y2 :: rest) = (c, 0) := by unfold callP; rw [hrc]
            rw [hcp] at KRC
            rw [hrc] at HE0
            dsimp only at KRC
            have HE := Lib.hid (HGOOD.out _ HE0.out)
            clear hrc hcp
            go_wp2_with fail
            refine (KPN.out _).mono ?_
            rintro r z ⟨rfl, rfl⟩
            clear KPN
            go_upto_region 15 with fail
            have HEB := Lib.hid (Blk.new w2 45 #[.int .i64 tn, .bool false, .int .i64 0, .int .i64 0, .int .i64 0, .int .i64 0, .int .i64 0, .int .i64 0, .int .i64 0, .int .i64 0, .int .i64 0, .slice none 0 0])
            have HK3 := Lib.hid ((Keep.refl [] w2).alloc (.cells #[.int .i64 tn, .bool false, .int .i64 0, .int .i64 0, .int .i64 0, .int .i64 0, .int .i64 0, .int .i64 0, .int .i64 0, .int .i64 0, .int .i64 0, .slice none 0 0] 45))
            have HNE : Hid (w2.heap.size ≤ w2.heap.size) := Lib.hid (Nat.le_refl _)
            generalize hen : w2.heap.size = eb at HEB ⊢
            have HEN := Lib.hid hen
            clear hen HNE
            generalize w2.alloc _ = w3 at HEB HK3 ⊢
            clear hw0 hw1
            go_wp2_with fail
            refine (KRB.out _ HK3.out).mono ?_
            rintro r w4 ⟨hk, A2, p2, rfl, _⟩
            have HK4 := Lib.hid (HK3.out.trans hk (by simp))
            have HE4 := Lib.hid (HEB.out.keep hk (by simp))
            clear hk HK3 HEB KRB
            go_upto_region 16 with fail
            have HA5 := Lib.hid (Blk.new w4 33 #[.int .i64 a.kind, .int .i64 a.key, .int .i64 a.val, .int .i64 a.n, .slice A2 a.ps.length p2])
            have HE5 := Lib.hid (HE4.out.alloc (.cells #[.int .i64 a.kind, .int .i64 a.key, .int .i64 a.val, .int .i64 a.n, .slice A2 a.ps.length p2] 33))
            have HK5 := Lib.hid (HK4.out.alloc (.cells #[.int .i64 a.kind, .int .i64 a.key, .int .i64 a.val, .int .i64 a.n, .slice A2 a.ps.length p2] 33))
            generalize w4.heap.size = ab at HA5 ⊢
            generalize w4.alloc _ = w5 at HA5 HE5 HK5 ⊢
            go_wp2_with fail
            refine (KRC.out _ HK5.out).mono ?_
            rintro r w6 ⟨rfl, hk⟩
            have HK6 := Lib.hid (HK5.out.trans hk (by simp))
            have HE6 := Lib.hid (HE5.out.keep hk (by simp))
            have HA6 := Lib.hid (HA5.out.keep hk (by simp))
            clear hk HK5 HE5 HA5 KRC
            go_upto_region 17 with fail
            have HC7 := Lib.hid (Blk.new w6 26 #[.int .i64 c.op, .int .i64 c.key, .int .i64 c.val, .int .i64 c.hi, .int .i64 c.lim])
            have HE7 := Lib.hid (HE6.out.alloc (.cells #[.int .i64 c.op, .int .i64 c.key, .int .i64 c.val, .int .i64 c.hi, .int .i64 c.lim] 26))
            have HA7 := Lib.hid (HA6.out.alloc (.cells #[.int .i64 c.op, .int .i64 c.key, .int .i64 c.val, .int .i64 c.hi, .int .i64 c.lim] 26))
            have HK7 := Lib.hid (HK6.out.alloc (.cells #[.int .i64 c.op, .int .i64 c.key, .int .i64 c.val, .int .i64 c.hi, .int .i64 c.lim] 26))
            generalize w6.heap.size = cb at HC7 ⊢
            generalize w6.alloc _ = w7 at HC7 HA7 HE7 HK7 ⊢
            have e0 : w7.cell? ⟨eb, 0, none⟩ = some (.int .i64 tn) := HE7.out.cell 0
            have ef0 := HE7.out.frozen 0
            have e1 : w7.cell? ⟨eb, 1, none⟩ = some (.bool false) := HE7.out.cell 1
            have ef1 := HE7.out.frozen 1
            have e2 : w7.cell? ⟨eb, 2, none⟩ = some (.int .i64 0) := HE7.out.cell 2
            have ef2 := HE7.out.frozen 2
            have e3 : w7.cell? ⟨eb, 3, none⟩ = some (.int .i64 0) := HE7.out.cell 3
            have ef3 := HE7.out.frozen 3
            have e4 : w7.cell? ⟨eb, 4, none⟩ = some (.int .i64 0) := HE7.out.cell 4
            have ef4 := HE7.out.frozen 4
            have e5 : w7.cell? ⟨eb, 5, none⟩ = some (.int .i64 0) := HE7.out.cell 5
            have ef5 := HE7.out.frozen 5
            have e6 : w7.cell? ⟨eb, 6, none⟩ = some (.int .i64 0) := HE7.out.cell 6
            have ef6 := HE7.out.frozen 6
            have e7 : w7.cell? ⟨eb, 7, none⟩ = some (.int .i64 0) := HE7.out.cell 7
            have ef7 := HE7.out.frozen 7
            have e8 : w7.cell? ⟨eb, 8, none⟩ = some (.int .i64 0) := HE7.out.cell 8
            have ef8 := HE7.out.frozen 8
            have e9 : w7.cell? ⟨eb, 9, none⟩ = some (.int .i64 0) := HE7.out.cell 9
            have ef9 := HE7.out.frozen 9
            have e10 : w7.cell? ⟨eb, 10, none⟩ = some (.int .i64 0) := HE7.out.cell 10
            have ef10 := HE7.out.frozen 10
            have e11 : w7.cell? ⟨eb, 11, none⟩ = some (.slice none 0 0) := HE7.out.cell 11
            have ef11 := HE7.out.frozen 11
            have b0 : w7.cell? ⟨cb, 0, none⟩ = some (.int .i64 c.op) := HC7.out.cell 0
            have b1 : w7.cell? ⟨cb, 1, none⟩ = some (.int .i64 c.key) := HC7.out.cell 1
            have b2 : w7.cell? ⟨cb, 2, none⟩ = some (.int .i64 c.val) := HC7.out.cell 2
            have b3 : w7.cell? ⟨cb, 3, none⟩ = some (.int .i64 c.hi) := HC7.out.cell 3
            have b4 : w7.cell? ⟨cb, 4, none⟩ = some (.int .i64 c.lim) := HC7.out.cell 4
            go_upto_region 21 with fail
            have HE8 : Hid (Blk _ eb 45 #[.int .i64 tn, .bool false, .int .i64 c.op, .int .i64 c.key, .int .i64 c.val, .int .i64 c.hi, .int .i64 c.lim, .int .i64 0, .int .i64 0, .int .i64 0, .int .i64 0, .slice none 0 0]) := Lib.hid (((((HE7.out.set_ 2 (.int .i64 c.op)).set_ 3 (.int .i64 c.key)).set_ 4 (.int .i64 c.val)).set_ 5 (.int .i64 c.hi)).set_ 6 (.int .i64 c.lim))
            have hk8 := ((((((Keep.refl [eb] w7).set_ (p := ⟨eb, 2, none⟩) (.int .i64 c.op) (.inl (List.mem_singleton.2 rfl))).set_ (p := ⟨eb, 3, none⟩) (.int .i64 c.key) (.inl (List.mem_singleton.2 rfl))).set_ (p := ⟨eb, 4, none⟩) (.int .i64 c.val) (.inl (List.mem_singleton.2 rfl))).set_ (p := ⟨eb, 5, none⟩) (.int .i64 c.hi) (.inl (List.mem_singleton.2 rfl))).set_ (p := ⟨eb, 6, none⟩) (.int .i64 c.lim) (.inl (List.mem_singleton.2 rfl)))
            have HK8 := Lib.hid ((HK2.out.trans HK7.out (by simp)).trans hk8 (fun x hx => .inr (by rw [List.mem_singleton.1 hx]; exact Nat.le_trans HK2.out.size (Nat.le_of_eq HEN.out))))
            clear hk8 e0 ef0 e1 ef1 e2 ef2 e3 ef3 e4 ef4 e5 ef5 e6 ef6 e7 ef7 e8 ef8 e9 ef9 e10 ef10 e11 ef11 b0 b1 b2 b3 b4
            generalize World.setCell _ ⟨eb, 6, none⟩ _ = w8 at HE8 HK8 ⊢
            have e0 : w8.cell? ⟨eb, 0, none⟩ = some (.int .i64 tn) := HE8.out.cell 0
            have e1 : w8.cell? ⟨eb, 1, none⟩ = some (.bool false) := HE8.out.cell 1
            have e2 : w8.cell? ⟨eb, 2, none⟩ = some (.int .i64 c.op) := HE8.out.cell 2
            have e3 : w8.cell? ⟨eb, 3, none⟩ = some (.int .i64 c.key) := HE8.out.cell 3
            have e4 : w8.cell? ⟨eb, 4, none⟩ = some (.int .i64 c.val) := HE8.out.cell 4
            have e5 : w8.cell? ⟨eb, 5, none⟩ = some (.int .i64 c.hi) := HE8.out.cell 5
            have e6 : w8.cell? ⟨eb, 6, none⟩ = some (.int .i64 c.lim) := HE8.out.cell 6
            have e7 : w8.cell? ⟨eb, 7, none⟩ = some (.int .i64 0) := HE8.out.cell 7
            have e8 : w8.cell? ⟨eb, 8, none⟩ = some (.int .i64 0) := HE8.out.cell 8
            have e9 : w8.cell? ⟨eb, 9, none⟩ = some (.int .i64 0) := HE8.out.cell 9
            have e10 : w8.cell? ⟨eb, 10, none⟩ = some (.int .i64 0) := HE8.out.cell 10
            have e11 : w8.cell? ⟨eb, 11, none⟩ = some (.slice none 0 0) := HE8.out.cell 11
            have HR8 := Lib.hid (HR.out.keep HK8.out)
            have HP9 : Hid (w8.ownsRow w.heap.size 51 2 (.slice none (EvX.mk tn false c ans0).a.ps.length 0) (EvX.mk tn false c ans0).a.ps.length ((EvX.mk tn false c ans0).a.ps.flatMap pairC)) := Lib.hid ⟨rfl, .inl ⟨rfl, rfl⟩⟩
            go_wp2_with (at_builtin; obtain ⟨i0, hi, hz0, hz1, hz2⟩ := info_partsT infoEv; refine wpList_append_own_at _ rfl (.tmp 98) (.tmp 100) 39 rfl w.heap.size 45 i0 (.agg evC0) 12 112 Tryd.underlying39 hi hz0 hz1 hz2 rfl (by decide) (.slice A4 evs.length c4) evs.length (evs.flatMap evL) rfl (own_keep (S := []) HR8.out.ev.own ((Keep.refl [] _).alloc _) (by simp)) ⟨_, 0, none⟩ 1 1 (evL (setE (EvX.mk tn false c ans0) none 0)) rfl rfl (World.news_of_block (heap_alloc_new _ _)) (by simp [evL, setE, EvX.cells, ans0, Value.oneCell']) (by have := HCNT.out; have := HI.out; have := HLN.out; unfold maxLen; omega) (by have := HCNT.out; have := HI.out; have := HLN.out; omega) (Nat.le_trans HR8.out.hk.size ((Keep.refl [] _).alloc _).size) ?_; clear hi hz0 hz1 hz2; intro v5 w9 hown hg _ _; obtain ⟨A5, c5, rfl⟩ := own_form hown; have HR9 := Lib.hid (RhR.add (e := (EvX.mk tn false c ans0)) (HR8.out.keep ((Keep.refl [] _).alloc _)) hown hg (own_keep HP9.out ((Keep.refl [] _).alloc _) (by simp))); clear hown hg)
            go_roundg (L.length - (i + 1))
            case measure => have := HI2.out; omega
            case rel => exact ⟨i + 1, evs ++ [setE (EvX.mk tn false c ans0) none 0], acc ++ [(EvX.mk tn false c ans0)], HI2.out, rfl, by go_num, HR9.out, by rw [List.map_append, List.map_append, HMAP.out]; rfl, by have := HCNT.out; rw [List.length_append, List.length_singleton]; omega, HE.out⟩
      · have q1 : (f != [98, 101, 103, 105, 110]) = true := by rw [bne_iff_ne]; exact hfg
        have q2 : (f != [98, 97, 99, 107]) = true := by rw [bne_iff_ne]; exact hfb
        have q3 : (f == [98, 101, 103, 105, 110]) = false := by rw [beq_eq_false_iff_ne]; exact hfg
        have q4 : (f == [98, 97, 99, 107]) = false := by rw [beq_eq_false_iff_ne]; exact hfb
        have q5 : ¬ f = [98, 101, 103, 105, 110] := hfg
        have q6 : ¬ f = [98, 97, 99, 107] := hfb
        have HE := Lib.hid (HBAD.out 4 (HEV.out.trans (evW_other hfb hfg)))
        clear hfb hfg
        go_wp2_with fail
        go_ret2
        exact HOUT.out _ _ (HR.out.hk.trans HK2.out (by simp)) (by rw [HE.out] <;> rfl)
end Go.Proofs.YtpbbpannimlldaaDoor
