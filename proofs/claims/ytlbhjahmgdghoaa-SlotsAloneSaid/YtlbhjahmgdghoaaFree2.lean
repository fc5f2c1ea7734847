/- The free list at rest, and what Take and Give, alone, make of it. Plain lemmas. -/
import Derived.Test.YtlbhjahmgdghoaaFree1
namespace Go.Proofs.Ytlbhjahmgdghoaa
open Go.RowKit

theorem slotE_mkE {s g : Nat} (h : s < 4096) : slotE (mkE s g) = s := by
  unfold slotE mkE fld setF
  simp only [Nat.reducePow, Nat.reduceAdd, Nat.div_one, Nat.pow_zero]
  omega
theorem genE_mkE {s g : Nat} (h : s < 4096) (hg : g < 2 ^ 50) : genE (mkE s g) = g := by
  unfold genE mkE fld setF
  simp only [Nat.reducePow, Nat.reduceAdd] at hg ⊢
  omega
theorem nodeE_mkE {s g : Nat} (h : s < 4096) : nodeE (mkE s g) = mkE s g := by
  unfold nodeE mkE fld setF
  simp only [Nat.reducePow, Nat.reduceAdd, Nat.div_one, Nat.pow_zero]
  omega
theorem slotE_head {s m : Nat} (h : s < 4096) : slotE (headN s m) = s := by
  unfold slotE headN fld setF
  simp only [Nat.reducePow, Nat.reduceAdd, Nat.div_one, Nat.pow_zero]
  omega
theorem slotE_chg {s h0 : Nat} (h : s < 4096) : slotE (chgN h0 s) = s := slotE_head h
theorem chg_lt {s h0 : Nat} (h : s < 4096) : chgN h0 s < 2 ^ 64 := headN_lt _ _ h
theorem gen_next {s g : Nat} (h : s < 4096) (hg : g + 1 < 2 ^ 50) : genE (mkE 0 (genE (mkE s g) + 1)) = g + 1 := by
  rw [genE_mkE h (by omega), genE_mkE (by omega) hg]

def Links (c : ConfS) (ws : List Nat) : Nat → List Nat → Prop
  | s, [] => s = 0
  | s, a :: l => s = a ∧ Links c ws (ws.getD (ixN c a 0) 0) l
structure Free (c : ConfS) (ws : List Nat) (gd : GuardS) (L G : List Nat) : Prop where
  len : ws.length = wordsN c
  sm : Small ws
  glen : G.length = c.slots.toNat
  gq : gd.gens = 0 :: G
  gw : ∀ s : Nat, 1 ≤ s → (s : Int) ≤ c.slots → ws.getD (ixN c s 1) 0 = G.getD (s - 1) 0
  gb : ∀ g, g ∈ G → g < 2 ^ 49
  chain : Links c ws (slotE (ws.getD 2 0)) L
  nd : L.Nodup
  rng : ∀ s, s ∈ L → 1 ≤ s ∧ (s : Int) ≤ c.slots
  hnd : gd.held.Nodup
  hrng : ∀ s, s ∈ gd.held → 1 ≤ s ∧ (s : Int) ≤ c.slots
  part : ∀ s : Nat, 1 ≤ s → (s : Int) ≤ c.slots → (s ∈ gd.held ↔ s ∉ L)
  slips : gd.slips = 0
theorem getD_set_ne {ws : List Nat} {p q v : Nat} (h : p ≠ q) : (ws.set p v).getD q 0 = ws.getD q 0 := by
  rw [List.getD_eq_getElem?_getD, List.getD_eq_getElem?_getD, List.getElem?_set_ne h]
theorem getD_set_eq {ws : List Nat} {p v : Nat} (h : p < ws.length) : (ws.set p v).getD p 0 = v := by
  rw [List.getD_eq_getElem?_getD, List.getElem?_set_self h]
  rfl
theorem links_set {c : ConfS} {ws : List Nat} {p v : Nat} : ∀ (l : List Nat) (s : Nat), (∀ a, a ∈ l → p ≠ ixN c a 0) → Links c ws s l → Links c (ws.set p v) s l
  | [], _, _, h => h
  | a :: l, s, hn, h => by
    refine ⟨h.1, ?_⟩
    rw [getD_set_ne (hn a (by simp))]
    exact links_set l _ (fun b hb => hn b (by simp [hb])) h.2
theorem links_lt {c : ConfS} {ws : List Nat} {s : Nat} {l : List Nat} (h : Links c ws s l) (hr : ∀ a, a ∈ l → 1 ≤ a ∧ (a : Int) ≤ c.slots) (ho : c.Ok) : s < 4096 := by
  cases l with
  | nil => have : s = 0 := h; omega
  | cons a l =>
    have := h.1
    have := (hr a (by simp)).2
    have := ho.s2
    omega
theorem ixN_two (c : ConfS) (a f : Nat) : 2 ≠ ixN c a f := by unfold ixN; omega
theorem ixN_inj {c : ConfS} {a b : Nat} (ha : 1 ≤ a) (hb : 1 ≤ b) (h : a ≠ b) : ixN c a 0 ≠ ixN c b 0 := by unfold ixN; omega
theorem ixN_inj1 {c : ConfS} {a b : Nat} (ha : 1 ≤ a) (hb : 1 ≤ b) (h : a ≠ b) : ixN c a 1 ≠ ixN c b 1 := by unfold ixN; omega
theorem ixN_01 {c : ConfS} {a b : Nat} : ixN c a 0 ≠ ixN c b 1 := by unfold ixN; omega
theorem small_set {ws : List Nat} {p v : Nat} (h : Small ws) (hv : v < 2 ^ 64) : Small (ws.set p v) := fun g hg => (List.mem_or_eq_of_mem_set hg).elim (h g) (fun e => by omega)
section
variable {c : ConfS} {ws : List Nat} {gd : GuardS} {L G : List Nat}
theorem Free.two (h : Free c ws gd L G) (ho : c.Ok) : 2 < ws.length := by
  have := h.len
  have := wordsN_ge ho
  omega
theorem Free.glt (h : Free c ws gd L G) (k : Nat) : G.getD k 0 < 2 ^ 49 := by
  rw [List.getD_eq_getElem?_getD]
  cases hx : G[k]? with
  | none => simp
  | some x => exact h.gb x (List.mem_of_getElem? hx)
theorem Free.gensD (h : Free c ws gd L G) {a : Nat} (ha : 1 ≤ a) : gd.gens.getD a 0 = G.getD (a - 1) 0 := by
  rw [h.gq]
  obtain ⟨b, rfl⟩ : ∃ b, a = b + 1 := ⟨a - 1, by omega⟩
  simp
theorem Free.few (h : Free c ws gd L G) (ho : c.Ok) : L.length ≤ 251 := by
  refine nodup_few 251 L h.nd (fun k hk => ?_)
  have := (h.rng k hk).2
  have := ho.s2
  omega
theorem Free.takes {a : Nat} (h : Free c ws gd (a :: L) G) (ho : c.Ok) : Free c (ws.set 2 (chgN (ws.getD 2 0) (ws.getD (ixN c a 0) 0))) (gd.takeS a) L G ∧ gd.takeS a = { gd with held := a :: gd.held } := by
  have hra := h.rng a (by simp)
  have hnd := List.nodup_cons.1 h.nd
  have hah : a ∉ gd.held := fun hm => ((h.part a hra.1 hra.2).1 hm) (by simp)
  have hgl : gd.gens.length = c.slots.toNat + 1 := by rw [h.gq]; simp [h.glen]
  have e : gd.takeS a = { gd with held := a :: gd.held } := by
    unfold GuardS.takeS
    rw [if_pos ⟨hra.1, by have := hra.2; omega, hah⟩]
  have hlt : ws.getD (ixN c a 0) 0 < 4096 := links_lt h.chain.2 (fun b hb => h.rng b (by simp [hb])) ho
  refine ⟨?_, e⟩
  rw [e]
  refine ⟨by simpa using h.len, small_set h.sm (chg_lt hlt), h.glen, h.gq, fun s h1 h2 => ?_, h.gb, ?_, hnd.2, fun s hs => h.rng s (by simp [hs]), ?_, fun s hs => ?_, fun s h1 h2 => ?_, h.slips⟩
  · rw [getD_set_ne (ixN_two c s 1)]
    exact h.gw s h1 h2
  · rw [getD_set_eq (h.two ho), slotE_chg hlt]
    exact links_set _ _ (fun b _ => ixN_two c b 0) h.chain.2
  · exact List.nodup_cons.2 ⟨hah, h.hnd⟩
  · rcases List.mem_cons.1 hs with rfl | hs
    · exact hra
    · exact h.hrng s hs
  · have := h.part s h1 h2
    constructor
    · intro hs hl
      rcases List.mem_cons.1 hs with rfl | hs
      · exact hnd.1 hl
      · exact (this.1 hs) (by simp [hl])
    · intro hl
      by_cases e2 : s = a
      · simp [e2]
      · exact List.mem_cons_of_mem _ (this.2 (fun hm => (List.mem_cons.1 hm).elim e2 hl))
theorem Free.gives (h : Free c ws gd L G) (ho : c.Ok) {a g : Nat} (ha : a ∈ gd.held) (hg : G.getD (a - 1) 0 = g) (hb : g + 1 < 2 ^ 49) :
    Free c (((ws.set (ixN c a 1) (g + 1)).set (ixN c a 0) (slotE (ws.getD 2 0))).set 2 (chgN (ws.getD 2 0) a)) (gd.dropS (mkE a g)) (a :: L) (G.set (a - 1) (g + 1)) ∧ gd.dropS (mkE a g) = { gd with held := gd.held.erase a, gens := 0 :: G.set (a - 1) (g + 1) } := by
  have hra := h.hrng a ha
  have hs2 := ho.s2
  have hlt : a < 4096 := by omega
  have hgl : gd.gens.length = c.slots.toNat + 1 := by rw [h.gq]; simp [h.glen]
  have hld : gd.leads (mkE a g) = true := by
    unfold GuardS.leads GuardS.edge
    rw [slotE_mkE hlt, if_pos ⟨hra.1, by omega⟩, h.gensD hra.1, hg]
    simp [ha]
  have hin : inc64 g = g + 1 := by
    unfold inc64
    exact Nat.mod_eq_of_lt (by omega)
  have e : gd.dropS (mkE a g) = { gd with held := gd.held.erase a, gens := 0 :: G.set (a - 1) (g + 1) } := by
    unfold GuardS.dropS
    rw [if_pos hld, slotE_mkE hlt, h.gensD hra.1, hg, hin, h.gq]
    obtain ⟨b, rfl⟩ : ∃ b, a = b + 1 := ⟨a - 1, by omega⟩
    simp
  have hal : a ∉ L := (h.part a hra.1 hra.2).1 ha
  have hs0 : slotE (ws.getD 2 0) < 4096 := slotE_lt _
  have hi1 : ixN c a 1 < ws.length := by rw [h.len]; exact ixN_lt ho hra.1 hra.2 (by omega)
  have hi0 : ixN c a 0 < ws.length := by rw [h.len]; exact ixN_lt ho hra.1 hra.2 (by omega)
  refine ⟨?_, e⟩
  rw [e]
  refine ⟨by simpa using h.len, small_set (small_set (small_set h.sm (by omega)) (by omega)) (chg_lt hlt), by simpa using h.glen, rfl, fun s h1 h2 => ?_, fun x hx => ?_, ?_, List.nodup_cons.2 ⟨hal, h.nd⟩, fun s hs => ?_, h.hnd.erase a, fun s hs => h.hrng s (List.mem_of_mem_erase hs), fun s h1 h2 => ?_, h.slips⟩
  · rw [getD_set_ne (ixN_two c s 1), getD_set_ne ixN_01]
    by_cases e2 : s = a
    · subst e2
      rw [getD_set_eq hi1, getD_set_eq (by rw [h.glen]; omega)]
    · rw [getD_set_ne (ixN_inj1 hra.1 h1 (fun e3 => e2 e3.symm)), getD_set_ne (by omega)]
      exact h.gw s h1 h2
  · exact (List.mem_or_eq_of_mem_set hx).elim (h.gb x) (fun e => by omega)
  · rw [getD_set_eq (by simpa using h.two ho), slotE_chg hlt]
    refine ⟨rfl, ?_⟩
    rw [getD_set_ne (ixN_two c a 0), getD_set_eq (by simpa using hi0)]
    refine links_set _ _ (fun b _ => ixN_two c b 0) (links_set _ _ (fun b hb => ixN_inj hra.1 (h.rng b hb).1 (fun e3 => hal (e3 ▸ hb))) (links_set _ _ (fun b _ => ixN_01.symm) h.chain))
  · rcases List.mem_cons.1 hs with rfl | hs
    · exact hra
    · exact h.rng s hs
  · have := h.part s h1 h2
    show s ∈ gd.held.erase a ↔ _
    rw [h.hnd.mem_erase_iff]
    constructor
    · rintro ⟨hs, hm⟩ hl
      rcases List.mem_cons.1 hl with e2 | hl
      · exact hs e2
      · exact this.1 hm hl
    · intro hl
      exact ⟨fun e2 => hl (by simp [e2]), this.2 (fun hm => hl (by simp [hm]))⟩
theorem chainGo_links : ∀ (l : List Nat) (f s : Nat) (acc : List Nat), Links c ws s l → (∀ a, a ∈ l → 1 ≤ a ∧ (a : Int) ≤ c.slots) → c.Ok → acc.length + l.length ≤ c.slots.toNat → l.length < f → chainGo c ws f s acc = (acc ++ l, true)
  | [], f, s, acc, h, _, _, _, hf => by
    obtain ⟨f, rfl⟩ : ∃ g, f = g + 1 := ⟨f - 1, by simp at hf; omega⟩
    have : s = 0 := h
    unfold chainGo
    rw [if_pos this]
    simp
  | a :: l, f, s, acc, h, hr, ho, hl, hf => by
    simp only [List.length_cons] at hl hf
    obtain ⟨f, rfl⟩ : ∃ g, f = g + 1 := ⟨f - 1, by omega⟩
    have hra := hr a (by simp)
    have hs : s = a := h.1
    have hn : linkAt c ws s < 4096 := by rw [hs]; exact links_lt h.2 (fun b hb => hr b (by simp [hb])) ho
    unfold chainGo
    rw [if_neg (by omega), if_neg (by have := hra.2; omega), if_neg (by omega), chainGo_links l f _ (acc ++ [s]) (by rw [hs]; exact h.2) (fun b hb => hr b (by simp [hb])) ho (by simp; omega) (by omega), hs]
    simp
theorem Free.chained (h : Free c ws gd L G) (ho : c.Ok) : chainOf c ws = (L, true) := by
  have hl : L.length ≤ c.slots.toNat := by
    have h2 : (L.map (· - 1)).Nodup := by
      refine List.pairwise_map.2 (List.Pairwise.imp_of_mem ?_ h.nd)
      intro a b ha hb hab
      have := (h.rng a ha).1
      have := (h.rng b hb).1
      show a - 1 ≠ b - 1
      have : a ≠ b := hab
      omega
    have := nodup_few c.slots.toNat (L.map (· - 1)) h2 (fun k hk => by
      obtain ⟨a, ha, rfl⟩ := List.mem_map.1 hk
      have := h.rng a ha
      omega)
    simpa using this
  unfold chainOf
  rw [chainGo_links L _ _ [] (by have := h.chain; unfold slotE fld at this; simpa using this) h.rng ho (by simp; exact hl) (by omega)]
  simp
end
end Go.Proofs.Ytlbhjahmgdghoaa
