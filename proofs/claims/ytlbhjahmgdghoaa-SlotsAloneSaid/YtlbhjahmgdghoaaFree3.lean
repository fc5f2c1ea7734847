/- Take and Give, alone, from rest to rest. Plain lemmas. -/
import Derived.Test.YtlbhjahmgdghoaaFree2
namespace Go.Proofs.Ytlbhjahmgdghoaa
open Go.RowKit

def EndsP (n : Nat) (q q' : PS) : Prop := RunsP 0 SlotsOk PS.slots n q ∧ ∀ f i, psGo PS.slots 0 (f + n) i q = (q', i + n, true)
section
variable {c : ConfS} {ws ws' : List Nat} {acc : Int} {gd gd' : GuardS} {ret ret' : List Nat} {ses : SesS} {row : List (Int × Int)} {stk : List Nat} {st : Int} {f f' : FrS}
theorem ok_one (ha : acc ≤ 100000) (hr : Small f.r) (hsl : gd.slips = 0) (h2 : f.fn = 1 → f.pc = 2 → f.reg 2 < 4096) (hg : Small gd.gens) : SlotsOk (onePS c ws acc gd ret ses row stk st f) := by
  refine ⟨⟨?_, ?_, fun k => ?_, ?_⟩, h2, hg⟩
  · show acc ≤ 4611686018427387904
    omega
  · show 0 < 1
    decide
  · exact small_get hr k
  · show gd.slips ≤ 4611686018427387904
    omega
theorem ends_one {q' : PS} {n : Nat} (hok : SlotsOk (onePS c ws acc gd ret ses row stk st f)) (ha : acc ≤ 100000) (h0 : 0 ≤ st) (h1 : st ≤ 100000)
    (h : PS.slots (onePS c ws acc gd ret ses row stk st f) = onePS c ws' (acc + 1) gd' ret ses row stk st f') (hn : EndsP n (onePS c ws' (acc + 1) gd' ret ses row stk (st + 1) f') q') :
    EndsP (n + 1) (onePS c ws acc gd ret ses row stk st f) q' := by
  have hs := stepped_one h rfl
  refine ⟨⟨?_, hok, ?_, .inr ?_⟩, fun g i => ?_⟩
  · show 0 < 1
    decide
  · refine ⟨h0, ?_, ?_, ?_, ?_⟩
    · show st ≤ 4611686018427387904
      omega
    · show acc ≤ 4611686018427387904
      omega
    · rw [h]
      show acc + 1 ≤ 4611686018427387999
      omega
    · rw [h]
      rfl
  · rw [hs]
    exact hn.1
  · show psGo PS.slots 0 ((g + n) + 1) i _ = _
    unfold psGo
    rw [hs, if_neg (by show ¬ 1 ≤ 0; decide), hn.2 g (i + 1)]
    congr 2
    omega
theorem ends_done (hok : SlotsOk (onePS c ws acc gd ret ses row stk st f)) (ha : acc ≤ 100000) (h0 : 0 ≤ st) (h1 : st ≤ 100000)
    (h : PS.slots (onePS c ws acc gd ret ses row stk st f) = donePS c ws' (acc + 1) gd' ret' ses row stk st) :
    EndsP 1 (onePS c ws acc gd ret ses row stk st f) (donePS c ws' (acc + 1) gd' ret' ses row stk (st + 1)) := by
  have hs := stepped_done h rfl
  refine ⟨⟨?_, hok, ?_, .inl ?_⟩, fun g i => ?_⟩
  · show 0 < 1
    decide
  · refine ⟨h0, ?_, ?_, ?_, ?_⟩
    · show st ≤ 4611686018427387904
      omega
    · show acc ≤ 4611686018427387904
      omega
    · rw [h]
      show acc + 1 ≤ 4611686018427387999
      omega
    · rw [h]
      rfl
  · rw [hs]
    exact Nat.le_refl 0
  · show psGo PS.slots 0 (g + 1) i _ = _
    unfold psGo
    rw [hs, if_pos (by exact Nat.le_refl 0)]
theorem ends_none (hok : SlotsOk (onePS c ws acc gd ret ses row stk st f)) (ha : acc ≤ 100000) (h0 : 0 ≤ st) (h1 : st ≤ 100000)
    (h : PS.slots (onePS c ws acc gd ret ses row stk st f) = donePS c ws' acc gd' ret' ses row stk st) :
    EndsP 1 (onePS c ws acc gd ret ses row stk st f) (donePS c ws' acc gd' ret' ses row stk (st + 1)) := by
  have hs := stepped_none h rfl
  refine ⟨⟨?_, hok, ?_, .inl ?_⟩, fun g i => ?_⟩
  · show 0 < 1
    decide
  · refine ⟨h0, ?_, ?_, ?_, ?_⟩
    · show st ≤ 4611686018427387904
      omega
    · show acc ≤ 4611686018427387904
      omega
    · rw [h]
      show acc ≤ 4611686018427387999
      omega
    · rw [h]
      rfl
  · rw [hs]
    exact Nat.le_refl 0
  · show psGo PS.slots 0 (g + 1) i _ = _
    unfold psGo
    rw [hs, if_pos (by exact Nat.le_refl 0)]
end
theorem small_pad {n : Nat} {l : List Nat} (h : Small l) : Small (padTo n l) := fun g hg => by
  unfold padTo at hg
  rcases List.mem_append.1 hg with hg | hg
  · exact h g hg
  · rw [List.eq_of_mem_replicate hg]; decide
section
variable {c : ConfS} {ws : List Nat} {acc : Int} {gd : GuardS} {L G : List Nat} {ret : List Nat} {ses : SesS} {row : List (Int × Int)} {stk : List Nat} {st : Int}
theorem Free.gsmall (h : Free c ws gd L G) : Small gd.gens := by
  rw [h.gq]
  intro g hg
  rcases List.mem_cons.1 hg with rfl | hg
  · decide
  · have := h.gb g hg
    omega
theorem ends_take {a : Nat} (h : Free c ws gd (a :: L) G) (ho : c.Ok) (ha0 : acc ≤ 90000) (hs0 : 0 ≤ st) (hs1 : st ≤ 90000) :
    EndsP 4 (onePS c ws acc gd ret ses row stk st (FrS.made 1 [])) (donePS c (ws.set 2 (chgN (ws.getD 2 0) (ws.getD (ixN c a 0) 0))) (acc + 1 + 1 + 1 + 1) (gd.takeS a) (padTo 12 [mkE a (G.getD (a - 1) 0)]) ses row stk (st + 1 + 1 + 1 + 1)) := by
  have h2 := h.two ho
  have hra := h.rng a (by simp)
  have hsl : slotE (ws.getD 2 0) = a := h.chain.1
  have hnx : ws.getD (ixN c a 0) 0 < 4096 := links_lt h.chain.2 (fun b hb => h.rng b (by simp [hb])) ho
  have hi0 : ixN c a 0 < ws.length := by rw [h.len]; exact ixN_lt ho hra.1 hra.2 (by omega)
  have hi1 : ixN c a 1 < ws.length := by rw [h.len]; exact ixN_lt ho hra.1 hra.2 (by omega)
  have hh : ws.getD 2 0 < 2 ^ 64 := small_get h.sm 2
  have hr0 : Small (padTo 24 []) := small_pad (by intro g hg; cases hg)
  have hl0 : (padTo 24 []).length = 24 := by simp [padTo]
  obtain ⟨ht, hte⟩ := h.takes ho
  have hg3 := ht.gsmall
  have hg0 := h.gsmall
  generalize hH : ws.getD 2 0 = H at *
  generalize hN : ws.getD (ixN c a 0) 0 = N at *
  show EndsP 4 (onePS c ws acc gd ret ses row stk st ⟨1, 0, padTo 24 []⟩) _
  generalize padTo 24 [] = r at *
  have hr1 : Small (r.set 1 H) := small_set hr0 hh
  have hr2 : Small ((r.set 1 H).set 2 N) := small_set hr1 (by omega)
  have e1 : (⟨1, 1, r.set 1 H⟩ : FrS).reg 1 = H := reg_set (by omega)
  have e2 : (⟨1, 2, (r.set 1 H).set 2 N⟩ : FrS).reg 2 = N := reg_set (by simp; omega)
  have e3 : (⟨1, 2, (r.set 1 H).set 2 N⟩ : FrS).reg 1 = H := (reg_set_ne (pc' := 1) (by decide)).trans e1
  have e4 : (⟨1, 3, (r.set 1 H).set 2 N⟩ : FrS).reg 1 = H := e3
  have t0 := takeP_0 (c := c) (acc := acc) (gd := gd) (ret := ret) (ses := ses) (row := row) (stk := stk) (st := st) (r := r) h2
  rw [hH] at t0
  have t1 := takeP_1 (c := c) (acc := acc + 1) (gd := gd) (ret := ret) (ses := ses) (row := row) (stk := stk) (st := st + 1) (r := r.set 1 H) (by rw [e1]; exact hsl) hra.1 hra.2 hi0
  rw [hN] at t1
  have t2 := takeP_2 (c := c) (acc := acc + 1 + 1) (gd := gd) (ret := ret) (ses := ses) (row := row) (stk := stk) (st := st + 1 + 1) h2 e3 e2 hH hsl
  have t3 := takeP_3 (c := c) (ws := ws.set 2 (chgN H N)) (acc := acc + 1 + 1 + 1) (gd := gd.takeS a) (ret := ret) (ses := ses) (row := row) (stk := stk) (st := st + 1 + 1 + 1) (r := (r.set 1 H).set 2 N) (by rw [e4]; exact hsl) hra.1 hra.2 (by simpa using hi1)
  rw [getD_set_ne (ixN_two c a 1), h.gw a hra.1 hra.2] at t3
  refine ends_one (ok_one (by omega) hr0 h.slips (fun _ h => by simp at h) hg0) (by omega) (by omega) (by omega) t0 ?_
  refine ends_one (ok_one (by omega) hr1 h.slips (fun _ h => by simp at h) hg0) (by omega) (by omega) (by omega) t1 ?_
  refine ends_one (ok_one (by omega) hr2 h.slips (fun _ _ => by rw [e2]; exact hnx) hg0) (by omega) (by omega) (by omega) t2 ?_
  exact ends_done (ok_one (by omega) hr2 ht.slips (fun _ h => by simp at h) hg3) (by omega) (by omega) (by omega) t3
theorem ends_take0 (h : Free c ws gd [] G) (ho : c.Ok) (ha0 : acc ≤ 90000) (hs0 : 0 ≤ st) (hs1 : st ≤ 90000) :
    EndsP 2 (onePS c ws acc gd ret ses row stk st (FrS.made 1 [])) (donePS c ws (acc + 1) gd (padTo 12 [0]) ses row stk (st + 1 + 1)) := by
  have h2 := h.two ho
  have hsl : slotE (ws.getD 2 0) = 0 := h.chain
  have hh : ws.getD 2 0 < 2 ^ 64 := small_get h.sm 2
  have hr0 : Small (padTo 24 []) := small_pad (by intro g hg; cases hg)
  have hl0 : (padTo 24 []).length = 24 := by simp [padTo]
  have hg0 := h.gsmall
  generalize hH : ws.getD 2 0 = H at *
  show EndsP 2 (onePS c ws acc gd ret ses row stk st ⟨1, 0, padTo 24 []⟩) _
  generalize padTo 24 [] = r at *
  have hr1 : Small (r.set 1 H) := small_set hr0 hh
  have e1 : (⟨1, 1, r.set 1 H⟩ : FrS).reg 1 = H := reg_set (by omega)
  have t0 := takeP_0 (c := c) (acc := acc) (gd := gd) (ret := ret) (ses := ses) (row := row) (stk := stk) (st := st) (r := r) h2
  rw [hH] at t0
  have t1 := takeP_1_none (c := c) (ws := ws) (acc := acc + 1) (gd := gd) (ret := ret) (ses := ses) (row := row) (stk := stk) (st := st + 1) (r := r.set 1 H) (by rw [e1]; exact hsl)
  refine ends_one (ok_one (by omega) hr0 h.slips (fun _ h => by simp at h) hg0) (by omega) (by omega) (by omega) t0 ?_
  exact ends_none (ok_one (by omega) hr1 h.slips (fun _ h => by simp at h) hg0) (by omega) (by omega) (by omega) t1
theorem ends_give {a g : Nat} (h : Free c ws gd L G) (ho : c.Ok) (ha : a ∈ gd.held) (hg : G.getD (a - 1) 0 = g) (hb : g + 1 < 2 ^ 49) (ha0 : acc ≤ 90000) (hs0 : 0 ≤ st) (hs1 : st ≤ 90000) :
    EndsP 4 (onePS c ws acc gd ret ses row stk st (FrS.made 2 [mkE a g])) (donePS c (((ws.set (ixN c a 1) (g + 1)).set (ixN c a 0) (slotE (ws.getD 2 0))).set 2 (chgN (ws.getD 2 0) a)) (acc + 1 + 1 + 1 + 1) (gd.dropS (mkE a g)) (padTo 12 []) ses row stk (st + 1 + 1 + 1 + 1)) := by
  have h2 := h.two ho
  have hra := h.hrng a ha
  have hlt : a < 4096 := by have := ho.s2; omega
  have hi0 : ixN c a 0 < ws.length := by rw [h.len]; exact ixN_lt ho hra.1 hra.2 (by omega)
  have hi1 : ixN c a 1 < ws.length := by rw [h.len]; exact ixN_lt ho hra.1 hra.2 (by omega)
  have hh : ws.getD 2 0 < 2 ^ 64 := small_get h.sm 2
  have hr0 : Small (padTo 24 [mkE a g]) := small_pad (by intro x hx; rw [List.mem_singleton.1 hx]; exact mkE_lt a g hlt)
  have hl0 : (padTo 24 [mkE a g]).length = 24 := by simp [padTo]
  have he0 : (padTo 24 [mkE a g]).getD 0 0 = mkE a g := by simp [padTo]
  obtain ⟨ht, hte⟩ := h.gives ho ha hg hb
  have hg3 := ht.gsmall
  have hg0 := h.gsmall
  generalize hH : ws.getD 2 0 = H at *
  show EndsP 4 (onePS c ws acc gd ret ses row stk st ⟨2, 0, padTo 24 [mkE a g]⟩) _
  generalize padTo 24 [mkE a g] = r at *
  have hr1 : Small (r.set 1 H) := small_set hr0 hh
  have e0 : (⟨2, 0, r⟩ : FrS).reg 0 = mkE a g := he0
  have e1 : (⟨2, 1, r.set 1 H⟩ : FrS).reg 1 = H := reg_set (by omega)
  have e2 : (⟨2, 1, r.set 1 H⟩ : FrS).reg 0 = mkE a g := (reg_set_ne (pc' := 0) (by decide)).trans e0
  have e3 : (⟨2, 2, r.set 1 H⟩ : FrS).reg 1 = H := e1
  have e4 : (⟨2, 2, r.set 1 H⟩ : FrS).reg 0 = mkE a g := e2
  have hs : slotE (mkE a g) = a := slotE_mkE hlt
  have t0 := give_0p (c := c) (acc := acc) (gd := gd) (ret := ret) (ses := ses) (row := row) (stk := stk) (st := st) e0 hs hra.1 hra.2 hi1
  rw [gen_next hlt (by omega)] at t0
  have hH1 : (ws.set (ixN c a 1) (g + 1)).getD 2 0 = H := by rw [getD_set_ne (ixN_two c a 1).symm]; exact hH
  have hH2 : ((ws.set (ixN c a 1) (g + 1)).set (ixN c a 0) (slotE H)).getD 2 0 = H := by rw [getD_set_ne (ixN_two c a 0).symm]; exact hH1
  have t1 := give_3p (c := c) (ws := ws.set (ixN c a 1) (g + 1)) (acc := acc + 1) (gd := gd.dropS (mkE a g)) (ret := ret) (ses := ses) (row := row) (stk := stk) (st := st + 1) (r := r) (by simpa using h2)
  rw [hH1] at t1
  have t2 := give_1p (c := c) (ws := ws.set (ixN c a 1) (g + 1)) (acc := acc + 1 + 1) (gd := gd.dropS (mkE a g)) (ret := ret) (ses := ses) (row := row) (stk := stk) (st := st + 1 + 1) e2 e1 hs hra.1 hra.2 (by simpa using hi0)
  have t3 := give_2p (c := c) (ws := (ws.set (ixN c a 1) (g + 1)).set (ixN c a 0) (slotE H)) (acc := acc + 1 + 1 + 1) (gd := gd.dropS (mkE a g)) (ret := ret) (ses := ses) (row := row) (stk := stk) (st := st + 1 + 1 + 1) (by simpa using h2) e4 e3 hH2
  rw [hs] at t3
  have hgs : (gd.dropS (mkE a g)).slips = 0 := ht.slips
  refine ends_one (ok_one (by omega) hr0 h.slips (fun _ h => by simp at h) hg0) (by omega) (by omega) (by omega) t0 ?_
  refine ends_one (ok_one (by omega) hr0 hgs (fun _ h => by simp at h) hg3) (by omega) (by omega) (by omega) t1 ?_
  refine ends_one (ok_one (by omega) hr1 hgs (fun _ h => by simp at h) hg3) (by omega) (by omega) (by omega) t2 ?_
  exact ends_done (ok_one (by omega) hr1 hgs (fun h => by simp at h) hg3) (by omega) (by omega) (by omega) t3
end
end Go.Proofs.Ytlbhjahmgdghoaa
