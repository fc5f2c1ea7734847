/- The slots' layer between any two steps of any threads: whose each slot is. Plain lemmas. Condition: few steps were done. SlotsCrowd: what holds between any two steps, and what one step of any thread leaves. Plain lemmas. Condition: few steps were done. SlotsCrowd: one step of any thread; a call; the start; at rest. Plain lemmas. Condition: few steps were done. SlotsCrowd: a call, the start, the crowd at its end. Plain lemmas. Condition: few steps were done. -/
import Derived.Test.YtlbhjahmgdghoaaRest17
import Derived.Test.YtlbhjahmgdghoaaEnds
namespace Go.Proofs.Ytlbhjahmgdghoaa
open Go.RowKit

/-- Whose a slot is: on the free list; held by whoever is above this layer; held by a thread within Take; about to be given, or given and not yet on the list, by a thread within Give. -/
inductive Own where
  | free
  | used (u : Nat)
  | took (k : Nat)
  | due (k : Nat)
  | gone (k : Nat)
def Own.isHeld : Own → Bool
  | .free => false
  | .gone _ => false
  | _ => true
def Own.within (k : Nat) (o : Own) : Prop := o = .took k ∨ o = .due k ∨ o = .gone k
def updO (own : Nat → Own) (a : Nat) (o : Own) : Nat → Own := fun s => if s = a then o else own s
theorem updO_eq (own : Nat → Own) (a : Nat) (o : Own) : updO own a o a = o := if_pos rfl
theorem updO_ne {own : Nat → Own} {a s : Nat} {o : Own} (h : s ≠ a) : updO own a o s = own s := if_neg h
structure HeapC (c : ConfS) (ws : List Nat) (gd : GuardS) (own : Nat → Own) (L G : List Nat) (n : Nat) : Prop where
  ok : c.Ok
  len : ws.length = wordsN c
  sm : Small ws
  glen : G.length = c.slots.toNat
  gq : gd.gens = 0 :: G
  gw : ∀ s : Nat, 1 ≤ s → (s : Int) ≤ c.slots → ws.getD (ixN c s 1) 0 = G.getD (s - 1) 0
  gn : ∀ g, g ∈ G → g ≤ n
  chain : Links c ws (slotE (ws.getD 2 0)) L
  nd : L.Nodup
  fr : ∀ s : Nat, s ∈ L ↔ (1 ≤ s ∧ (s : Int) ≤ c.slots ∧ own s = .free)
  hnd : gd.held.Nodup
  hl : ∀ s : Nat, s ∈ gd.held ↔ (1 ≤ s ∧ (s : Int) ≤ c.slots ∧ (own s).isHeld = true)
  slips : gd.slips = 0
  hdn : fld (ws.getD 2 0) 12 52 ≤ n
/-- A head that was read: it is the head, or was one ahead of it. -/
def Was (ws : List Nat) (h : Nat) : Prop := h = ws.getD 2 0 ∨ fld h 12 52 < fld (ws.getD 2 0) 12 52
/-- Where a thread stands within Take or Give. -/
inductive SlF (c : ConfS) (ws : List Nat) (own : Nat → Own) (G : List Nat) (k : Nat) (emp : Bool) : FrS → Prop
  | t0 (r : List Nat) : SlF c ws own G k emp ⟨1, 0, r⟩
  | t1 (r : List Nat) : Was ws ((⟨1, 1, r⟩ : FrS).reg 1) → (slotE ((⟨1, 1, r⟩ : FrS).reg 1) : Int) ≤ c.slots → (slotE ((⟨1, 1, r⟩ : FrS).reg 1) = 0 → emp = true) → SlF c ws own G k emp ⟨1, 1, r⟩
  | t2 (r : List Nat) : Was ws ((⟨1, 2, r⟩ : FrS).reg 1) → 1 ≤ slotE ((⟨1, 2, r⟩ : FrS).reg 1) → (slotE ((⟨1, 2, r⟩ : FrS).reg 1) : Int) ≤ c.slots → ((⟨1, 2, r⟩ : FrS).reg 1 = ws.getD 2 0 → (⟨1, 2, r⟩ : FrS).reg 2 = ws.getD (ixN c (slotE (ws.getD 2 0)) 0) 0) → SlF c ws own G k emp ⟨1, 2, r⟩
  | t3 (r : List Nat) : 1 ≤ slotE ((⟨1, 3, r⟩ : FrS).reg 1) → (slotE ((⟨1, 3, r⟩ : FrS).reg 1) : Int) ≤ c.slots → own (slotE ((⟨1, 3, r⟩ : FrS).reg 1)) = .took k → SlF c ws own G k emp ⟨1, 3, r⟩
  | g0 (r : List Nat) (s : Nat) : (⟨2, 0, r⟩ : FrS).reg 0 = mkE s (G.getD (s - 1) 0) → 1 ≤ s → (s : Int) ≤ c.slots → own s = .due k → SlF c ws own G k emp ⟨2, 0, r⟩
  | g3 (r : List Nat) (s g : Nat) : (⟨2, 3, r⟩ : FrS).reg 0 = mkE s g → 1 ≤ s → (s : Int) ≤ c.slots → own s = .gone k → SlF c ws own G k emp ⟨2, 3, r⟩
  | g1 (r : List Nat) (s g : Nat) : (⟨2, 1, r⟩ : FrS).reg 0 = mkE s g → 1 ≤ s → (s : Int) ≤ c.slots → own s = .gone k → Was ws ((⟨2, 1, r⟩ : FrS).reg 1) → SlF c ws own G k emp ⟨2, 1, r⟩
  | g2 (r : List Nat) (s g : Nat) : (⟨2, 2, r⟩ : FrS).reg 0 = mkE s g → 1 ≤ s → (s : Int) ≤ c.slots → own s = .gone k → Was ws ((⟨2, 2, r⟩ : FrS).reg 1) → ws.getD (ixN c s 0) 0 = slotE ((⟨2, 2, r⟩ : FrS).reg 1) → SlF c ws own G k emp ⟨2, 2, r⟩
/-- What others' steps leave to a thread. -/
structure Spares (c : ConfS) (k : Nat) (ws : List Nat) (own : Nat → Own) (G ws' : List Nat) (own' : Nat → Own) (G' : List Nat) : Prop where
  hd : ws'.getD 2 0 = ws.getD 2 0 ∨ fld (ws.getD 2 0) 12 52 < fld (ws'.getD 2 0) 12 52
  mine : ∀ s, (own s).within k → own' s = own s
  lnk : ∀ s : Nat, 1 ≤ s → (own s = .free ∨ own s = .gone k) → ws'.getD (ixN c s 0) 0 = ws.getD (ixN c s 0) 0
  gen : ∀ s, 1 ≤ s → own s = .due k → G'.getD (s - 1) 0 = G.getD (s - 1) 0
theorem Spares.refl {c : ConfS} {k : Nat} {ws : List Nat} {own : Nat → Own} {G : List Nat} : Spares c k ws own G ws own G := ⟨.inl rfl, fun _ _ => rfl, fun _ _ _ => rfl, fun _ _ _ => rfl⟩
theorem Was.go {ws ws' : List Nat} {h : Nat} (hw : Was ws h) (hd : ws'.getD 2 0 = ws.getD 2 0 ∨ fld (ws.getD 2 0) 12 52 < fld (ws'.getD 2 0) 12 52) : Was ws' h := by
  unfold Was at hw ⊢
  rcases hd with e | e
  · rw [e]
    exact hw
  · right
    rcases hw with rfl | h1
    · exact e
    · omega
theorem Was.not {ws ws' : List Nat} {h : Nat} (hw : Was ws h) (hd : fld (ws.getD 2 0) 12 52 < fld (ws'.getD 2 0) 12 52) (e : h = ws'.getD 2 0) : False := by
  subst e
  rcases hw with e | e
  · rw [e] at hd
    exact Nat.lt_irrefl _ hd
  · omega
section
variable {c : ConfS} {ws ws' : List Nat} {gd gd' : GuardS} {own own' : Nat → Own} {L L' G G' : List Nat} {n k : Nat} {emp : Bool}
theorem HeapC.two (h : HeapC c ws gd own L G n) : 2 < ws.length := by
  have := h.len
  have := wordsN_ge h.ok
  omega
theorem HeapC.ix (h : HeapC c ws gd own L G n) {s f : Nat} (h1 : 1 ≤ s) (h2 : (s : Int) ≤ c.slots) (hf : f ≤ 6) : ixN c s f < ws.length := by
  rw [h.len]
  exact ixN_lt h.ok h1 h2 (by omega)
/-- The head's slot is the first of the list, or 0. -/
theorem HeapC.first (h : HeapC c ws gd own L G n) : (slotE (ws.getD 2 0) = 0 ∧ L = []) ∨ (∃ L2, L = slotE (ws.getD 2 0) :: L2 ∧ 1 ≤ slotE (ws.getD 2 0) ∧ (slotE (ws.getD 2 0) : Int) ≤ c.slots ∧ own (slotE (ws.getD 2 0)) = .free) := by
  have hc := h.chain
  cases hL : L with
  | nil =>
    rw [hL] at hc
    exact .inl ⟨hc, rfl⟩
  | cons a l =>
    rw [hL] at hc
    have e := hc.1
    have h1 := (h.fr a).1 (by rw [hL]; simp)
    right
    rw [e]
    exact ⟨l, rfl, h1⟩
theorem HeapC.slot_le (h : HeapC c ws gd own L G n) : (slotE (ws.getD 2 0) : Int) ≤ c.slots := by
  rcases h.first with ⟨h1, _⟩ | ⟨_, _, _, h1, _⟩
  · rw [h1]
    have := h.ok.s1
    omega
  · exact h1
theorem SlF.go {f : FrS} (hs : SlF c ws own G k emp f) (h : HeapC c ws gd own L G n) (hp : Spares c k ws own G ws' own' G') {emp' : Bool} (he : emp = true → emp' = true) : SlF c ws' own' G' k emp' f := by
  cases hs with
  | t0 r => exact .t0 r
  | t1 r h1 h2 h3 => exact .t1 r (h1.go hp.hd) h2 (fun e => he (h3 e))
  | t2 r h1 h2 h3 h4 =>
    refine .t2 r (h1.go hp.hd) h2 h3 (fun e => ?_)
    rcases hp.hd with e1 | e1
    · rw [e1] at e
      have e2 := h4 e
      rw [e1, hp.lnk _ (by rw [← e]; exact h2) ?_]
      · exact e2
      · left
        rcases h.first with ⟨h5, _⟩ | ⟨_, _, _, _, h5⟩
        · rw [← e] at h5
          omega
        · exact h5
    · exact (h1.not e1 e).elim
  | t3 r h1 h2 h3 => exact .t3 r h1 h2 (by rw [hp.mine _ (.inl h3)]; exact h3)
  | g0 r s h1 h2 h3 h4 => exact .g0 r s (by rw [hp.gen s h2 h4]; exact h1) h2 h3 (by rw [hp.mine s (.inr (.inl h4))]; exact h4)
  | g3 r s g h1 h2 h3 h4 => exact .g3 r s g h1 h2 h3 (by rw [hp.mine s (.inr (.inr h4))]; exact h4)
  | g1 r s g h1 h2 h3 h4 h5 => exact .g1 r s g h1 h2 h3 (by rw [hp.mine s (.inr (.inr h4))]; exact h4) (h5.go hp.hd)
  | g2 r s g h1 h2 h3 h4 h5 h6 => exact .g2 r s g h1 h2 h3 (by rw [hp.mine s (.inr (.inr h4))]; exact h4) (h5.go hp.hd) (by rw [hp.lnk s h2 (.inr h4)]; exact h6)
theorem HeapC.more (h : HeapC c ws gd own L G n) : HeapC c ws gd own L G (n + 1) := ⟨h.ok, h.len, h.sm, h.glen, h.gq, h.gw, fun g hg => Nat.le_succ_of_le (h.gn g hg), h.chain, h.nd, h.fr, h.hnd, h.hl, h.slips, Nat.le_succ_of_le h.hdn⟩
/-- A slot that is held changes hands. -/
theorem HeapC.hands (h : HeapC c ws gd own L G n) {a : Nat} {o : Own} (h1 : (own a).isHeld = true) (h2 : o.isHeld = true) : HeapC c ws gd (updO own a o) L G n := by
  have hne : ∀ {x : Own}, x.isHeld = true → x ≠ .free := fun hx e => by rw [e] at hx; cases hx
  refine ⟨h.ok, h.len, h.sm, h.glen, h.gq, h.gw, h.gn, h.chain, h.nd, fun s => ?_, h.hnd, fun s => ?_, h.slips, h.hdn⟩
  · rw [h.fr s]
    by_cases e : s = a
    · subst e
      rw [updO_eq]
      exact ⟨fun h3 => (hne h1 h3.2.2).elim, fun h3 => (hne h2 h3.2.2).elim⟩
    · rw [updO_ne e]
  · rw [h.hl s]
    by_cases e : s = a
    · subst e
      rw [updO_eq, h1, h2]
    · rw [updO_ne e]
theorem Spares.hands {a : Nat} {o : Own} (h1 : ¬ (own a).within k) : Spares c k ws own G ws (updO own a o) G :=
  ⟨.inl rfl, fun _ hs => updO_ne (fun e => h1 (e ▸ hs)), fun _ _ _ => rfl, fun _ _ _ => rfl⟩
theorem chg_fld {h x : Nat} (hx : x < 4096) (hn : fld h 12 52 ≤ 1000000) : fld (chgN h x) 12 52 = fld h 12 52 + 1 := by
  unfold chgN headN fld setF at *
  simp only [Nat.reducePow, Nat.reduceAdd] at *
  omega
/-- Take's swing. -/
theorem HeapC.takes (h : HeapC c ws gd own L G n) (hn : n ≤ 900000) {nxt : Nat} (hh : 1 ≤ slotE (ws.getD 2 0)) (hx : nxt = ws.getD (ixN c (slotE (ws.getD 2 0)) 0) 0) :
    nxt < 4096 ∧ gd.takeS (slotE (ws.getD 2 0)) = { gd with held := slotE (ws.getD 2 0) :: gd.held } ∧ HeapC c (ws.set 2 (chgN (ws.getD 2 0) nxt)) (gd.takeS (slotE (ws.getD 2 0))) (updO own (slotE (ws.getD 2 0)) (.took k)) (L.drop 1) G (n + 1) ∧ own (slotE (ws.getD 2 0)) = .free ∧ L ≠ [] := by
  rcases h.first with ⟨h1, _⟩ | ⟨L2, hL, _, hr2, hof⟩
  · omega
  have hwd := h.hdn
  have htwo := h.two
  generalize hhd : ws.getD 2 0 = hd at *
  generalize ha : slotE hd = a at *
  have hc := h.chain
  rw [hhd, hL, ha] at hc
  have hc2 := hc.2
  rw [← hx] at hc2
  have hnd := List.nodup_cons.1 (hL ▸ h.nd)
  have hah : a ∉ gd.held := fun hm => by
    have := ((h.hl a).1 hm).2.2
    rw [hof] at this
    cases this
  have hgl : gd.gens.length = c.slots.toNat + 1 := by rw [h.gq]; simp [h.glen]
  have e : gd.takeS a = { gd with held := a :: gd.held } := by
    unfold GuardS.takeS
    rw [if_pos ⟨hh, by omega, hah⟩]
  have hlt : nxt < 4096 := links_lt hc2 (fun b hb => by
    have := (h.fr b).1 (by rw [hL]; simp [hb])
    exact ⟨this.1, this.2.1⟩) h.ok
  have hdr : L.drop 1 = L2 := by rw [hL]; rfl
  refine ⟨hlt, e, ?_, hof, by rw [hL]; simp⟩
  rw [e, hdr]
  have hnew : (ws.set 2 (chgN hd nxt)).getD 2 0 = chgN hd nxt := getD_set_eq htwo
  refine ⟨h.ok, by simpa using h.len, small_set h.sm (chg_lt hlt), h.glen, h.gq, fun s h1 h2 => ?_, fun g hg => Nat.le_succ_of_le (h.gn g hg), ?_, hnd.2, fun s => ?_, List.nodup_cons.2 ⟨hah, h.hnd⟩, fun s => ?_, h.slips, ?_⟩
  · rw [getD_set_ne (ixN_two c s 1)]
    exact h.gw s h1 h2
  · rw [hnew, slotE_chg hlt]
    exact links_set _ _ (fun b _ => ixN_two c b 0) hc2
  · have hf := h.fr s
    rw [hL] at hf
    by_cases e2 : s = a
    · subst e2
      rw [updO_eq]
      exact ⟨fun hm => (hnd.1 hm).elim, fun hm => by cases hm.2.2⟩
    · rw [updO_ne e2, ← hf]
      simp [e2]
  · show s ∈ a :: gd.held ↔ _
    by_cases e2 : s = a
    · subst e2
      rw [updO_eq]
      simp [hh, hr2, Own.isHeld]
    · rw [updO_ne e2, ← h.hl s]
      simp [e2]
  · rw [hnew, chg_fld hlt (by omega)]
    omega
theorem Spares.takes {a nxt : Nat} (h : HeapC c ws gd own L G n) (hn : n ≤ 900000) (hlt : nxt < 4096) (ha : own a = .free) (o : Own) : Spares c k ws own G (ws.set 2 (chgN (ws.getD 2 0) nxt)) (updO own a o) G := by
  have h1 := h.hdn
  refine ⟨.inr ?_, fun s hs => updO_ne (fun e => ?_), fun s _ _ => getD_set_ne (ixN_two c s 0), fun _ _ _ => rfl⟩
  · rw [getD_set_eq h.two, chg_fld hlt (by omega)]
    omega
  · subst e
    rcases hs with h2 | h2 | h2 <;> (rw [ha] at h2; cases h2)
/-- Give's first step. -/
theorem HeapC.drops (h : HeapC c ws gd own L G n) (hn : n ≤ 900000) {a : Nat} (h1 : 1 ≤ a) (h2 : (a : Int) ≤ c.slots) (ho : (own a).isHeld = true) :
    genE (mkE 0 (genE (mkE a (G.getD (a - 1) 0)) + 1)) = G.getD (a - 1) 0 + 1 ∧ gd.dropS (mkE a (G.getD (a - 1) 0)) = { gd with held := gd.held.erase a, gens := 0 :: G.set (a - 1) (G.getD (a - 1) 0 + 1) } ∧
      HeapC c (ws.set (ixN c a 1) (G.getD (a - 1) 0 + 1)) (gd.dropS (mkE a (G.getD (a - 1) 0))) (updO own a (.gone k)) L (G.set (a - 1) (G.getD (a - 1) 0 + 1)) (n + 1) := by
  have hs2 := h.ok.s2
  have hlt : a < 4096 := by omega
  have hgb : G.getD (a - 1) 0 ≤ n := by
    rw [List.getD_eq_getElem?_getD]
    cases hx : G[a - 1]? with
    | none => simp
    | some x => exact h.gn x (List.mem_of_getElem? hx)
  have hgD : gd.gens.getD a 0 = G.getD (a - 1) 0 := by
    rw [h.gq]
    obtain ⟨b, rfl⟩ : ∃ b, a = b + 1 := ⟨a - 1, by omega⟩
    simp
  have hgl : gd.gens.length = c.slots.toNat + 1 := by rw [h.gq]; simp [h.glen]
  have hag : a ∈ gd.held := (h.hl a).2 ⟨h1, h2, ho⟩
  have hgen := gen_next (s := a) (g := G.getD (a - 1) 0) hlt (by omega)
  generalize hgg : G.getD (a - 1) 0 = g at *
  have hld : gd.leads (mkE a g) = true := by
    unfold GuardS.leads GuardS.edge
    rw [slotE_mkE hlt, if_pos ⟨h1, by omega⟩, hgD]
    simp [hag]
  have hin : inc64 g = g + 1 := by
    unfold inc64
    exact Nat.mod_eq_of_lt (by omega)
  have e : gd.dropS (mkE a g) = { gd with held := gd.held.erase a, gens := 0 :: G.set (a - 1) (g + 1) } := by
    unfold GuardS.dropS
    rw [if_pos hld, slotE_mkE hlt, hgD, hin, h.gq]
    obtain ⟨b, rfl⟩ : ∃ b, a = b + 1 := ⟨a - 1, by omega⟩
    simp
  have hi1 := h.ix (s := a) (f := 1) h1 h2 (by decide)
  have hnf : own a ≠ .free := fun e2 => by rw [e2] at ho; cases ho
  refine ⟨hgen, e, ?_⟩
  rw [e]
  refine ⟨h.ok, by simpa using h.len, small_set h.sm (by omega), by simpa using h.glen, rfl, fun s h3 h4 => ?_, fun x hx => ?_, ?_, h.nd, fun s => ?_, h.hnd.erase a, fun s => ?_, h.slips, ?_⟩
  · by_cases e2 : s = a
    · subst e2
      rw [getD_set_eq hi1, getD_set_eq (by rw [h.glen]; omega)]
    · rw [getD_set_ne (ixN_inj1 h1 h3 (fun e3 => e2 e3.symm)), getD_set_ne (by omega)]
      exact h.gw s h3 h4
  · exact (List.mem_or_eq_of_mem_set hx).elim (fun h5 => Nat.le_succ_of_le (h.gn x h5)) (fun e => by omega)
  · rw [getD_set_ne (ixN_two c a 1).symm]
    exact links_set _ _ (fun b _ => ixN_01.symm) h.chain
  · rw [h.fr s]
    by_cases e2 : s = a
    · subst e2
      rw [updO_eq]
      exact ⟨fun h3 => (hnf h3.2.2).elim, fun h3 => by cases h3.2.2⟩
    · rw [updO_ne e2]
  · show s ∈ gd.held.erase a ↔ _
    rw [h.hnd.mem_erase_iff]
    by_cases e2 : s = a
    · subst e2
      rw [updO_eq]
      exact ⟨fun h3 => (h3.1 rfl).elim, fun h3 => by cases h3.2.2⟩
    · rw [updO_ne e2, ← h.hl s]
      simp [e2]
  · rw [getD_set_ne (ixN_two c a 1).symm]
    exact Nat.le_succ_of_le h.hdn
theorem Spares.drops {a g : Nat} (h1 : 1 ≤ a) (ho : ¬ (own a).within k) (o : Own) : Spares c k ws own G (ws.set (ixN c a 1) g) (updO own a o) (G.set (a - 1) g) := by
  refine ⟨.inl (getD_set_ne (ixN_two c a 1).symm), fun s hs => updO_ne (fun e => ho (e ▸ hs)), fun s _ _ => getD_set_ne ixN_01.symm, fun s h2 hs => getD_set_ne (fun e => ?_)⟩
  obtain rfl : s = a := by omega
  exact ho (.inr (.inl hs))
/-- A link of a slot that isn't on the list. -/
theorem HeapC.link (h : HeapC c ws gd own L G n) {a v : Nat} (h1 : 1 ≤ a) (ho : own a ≠ .free) (hv : v < 2 ^ 64) : HeapC c (ws.set (ixN c a 0) v) gd own L G n := by
  have hal : a ∉ L := fun hm => ho ((h.fr a).1 hm).2.2
  have e : (ws.set (ixN c a 0) v).getD 2 0 = ws.getD 2 0 := getD_set_ne (ixN_two c a 0).symm
  refine ⟨h.ok, by simpa using h.len, small_set h.sm hv, h.glen, h.gq, fun s h3 h4 => ?_, h.gn, ?_, h.nd, h.fr, h.hnd, h.hl, h.slips, by rw [e]; exact h.hdn⟩
  · rw [getD_set_ne ixN_01]
    exact h.gw s h3 h4
  · rw [e]
    exact links_set _ _ (fun b hb => ixN_inj h1 ((h.fr b).1 hb).1 (fun e3 => hal (e3 ▸ hb))) h.chain
theorem Spares.link {a v : Nat} (h1 : 1 ≤ a) (ho : own a ≠ .free) (hk : own a ≠ .gone k) : Spares c k ws own G (ws.set (ixN c a 0) v) own G :=
  ⟨.inl (getD_set_ne (ixN_two c a 0).symm), fun _ _ => rfl, fun s h2 h3 => getD_set_ne (ixN_inj h1 h2 (fun e => by subst e; exact h3.elim ho hk)), fun _ _ _ => rfl⟩
/-- Give's swing. -/
theorem HeapC.gives (h : HeapC c ws gd own L G n) (hn : n ≤ 900000) {a j : Nat} (h1 : 1 ≤ a) (h2 : (a : Int) ≤ c.slots) (ho : own a = .gone j) (hl : ws.getD (ixN c a 0) 0 = slotE (ws.getD 2 0)) :
    HeapC c (ws.set 2 (chgN (ws.getD 2 0) a)) gd (updO own a .free) (a :: L) G (n + 1) := by
  have hs2 := h.ok.s2
  have hlt : a < 4096 := by omega
  have hwd := h.hdn
  have hnew : (ws.set 2 (chgN (ws.getD 2 0) a)).getD 2 0 = chgN (ws.getD 2 0) a := getD_set_eq h.two
  have hal : a ∉ L := fun hm => by
    have := ((h.fr a).1 hm).2.2
    rw [ho] at this
    cases this
  refine ⟨h.ok, by simpa using h.len, small_set h.sm (chg_lt hlt), h.glen, h.gq, fun s h3 h4 => ?_, fun g hg => Nat.le_succ_of_le (h.gn g hg), ?_, List.nodup_cons.2 ⟨hal, h.nd⟩, fun s => ?_, h.hnd, fun s => ?_, h.slips, ?_⟩
  · rw [getD_set_ne (ixN_two c s 1)]
    exact h.gw s h3 h4
  · rw [hnew, slotE_chg hlt]
    refine ⟨rfl, ?_⟩
    rw [getD_set_ne (ixN_two c a 0), hl]
    exact links_set _ _ (fun b _ => ixN_two c b 0) h.chain
  · by_cases e2 : s = a
    · subst e2
      rw [updO_eq]
      simp [h1, h2]
    · rw [updO_ne e2, ← h.fr s]
      simp [e2]
  · rw [h.hl s]
    by_cases e2 : s = a
    · subst e2
      rw [updO_eq, ho]
      exact ⟨fun h3 => (by cases h3.2.2), fun h3 => (by cases h3.2.2)⟩
    · rw [updO_ne e2]
  · rw [hnew, chg_fld hlt (by omega)]
    omega
theorem Spares.gives {a : Nat} (h : HeapC c ws gd own L G n) (hn : n ≤ 900000) (hlt : a < 4096) (ho : ¬ (own a).within k) (o : Own) : Spares c k ws own G (ws.set 2 (chgN (ws.getD 2 0) a)) (updO own a o) G := by
  have h1 := h.hdn
  refine ⟨.inr ?_, fun s hs => updO_ne (fun e => ho (e ▸ hs)), fun s _ _ => getD_set_ne (ixN_two c s 0), fun _ _ _ => rfl⟩
  rw [getD_set_eq h.two, chg_fld hlt (by omega)]
  omega
theorem HeapC.gensmall (h : HeapC c ws gd own L G n) (hn : n ≤ 900000) : Small gd.gens := by
  intro g hg
  rw [h.gq] at hg
  rcases List.mem_cons.1 hg with rfl | hg
  · decide
  · have := h.gn g hg
    omega
/-- The list, as the words have it. -/
theorem HeapC.chained (h : HeapC c ws gd own L G n) : chainOf c ws = (L, true) := by
  have hr : ∀ a, a ∈ L → 1 ≤ a ∧ (a : Int) ≤ c.slots := fun a ha => ⟨((h.fr a).1 ha).1, ((h.fr a).1 ha).2.1⟩
  have hfew : L.length ≤ c.slots.toNat := by
    have := nodup_sub L ((List.range c.slots.toNat).map (· + 1)) h.nd (fun a ha => by
      have := hr a ha
      exact List.mem_map.2 ⟨a - 1, List.mem_range.2 (by omega), by omega⟩)
    simpa using this
  have := chainGo_links (c := c) (ws := ws) L (c.slots.toNat + 2) (slotE (ws.getD 2 0)) [] h.chain hr h.ok (by simpa using hfew) (by omega)
  unfold chainOf
  have e : ws.getD 2 0 % 4096 = slotE (ws.getD 2 0) := by
    unfold slotE fld
    simp
  rw [e, this]
  rfl
end
section
variable {c : ConfS} {ws : List Nat} {acc : Int} {gd : GuardS} {ret : List Nat} {ses : SesS} {row : List (Int × Int)} {stk : List Nat} {st : Int} {r : List Nat}
theorem swung_not {fn pc : Int} {h : Nat} (h2 : 2 < ws.length) (hr : (⟨fn, pc, r⟩ : FrS).reg 1 = h) (hh : ws.getD 2 0 ≠ h) (x : Nat) : (onePS c ws acc gd ret ses row stk st ⟨fn, pc, r⟩).swung x = onePS c ws (acc + 1) gd ret ses row stk st ⟨fn, pc, r⟩ := by
  have e : (⟨ws, acc, false⟩ : MemS).casB 2 h = false := by
    show (inR ws.length [2] && ((⟨ws, acc, false⟩ : MemS).rd 2 == h)) = false
    rw [inR_two h2, rd_two h2]
    simpa using hh
  unfold PS.swung
  show ({ conf := c, mem := (⟨ws, acc, false⟩ : MemS).casS 2 ((⟨fn, pc, r⟩ : FrS).reg 1) (chgN ((⟨fn, pc, r⟩ : FrS).reg 1) x), gd := gd, th := _, steps := st, fault := false } : PS) = _
  rw [hr]
  unfold MemS.casS
  rw [if_neg (by rw [e]; decide)]
  show ({ conf := c, mem := ⟨ws, acc + 1, false || !inR ws.length [2]⟩, gd := gd, th := _, steps := st, fault := false } : PS) = _
  rw [inR_two h2]
  rfl
theorem swings_not {fn pc : Int} {h : Nat} (h2 : 2 < ws.length) (hr : (⟨fn, pc, r⟩ : FrS).reg 1 = h) (hh : ws.getD 2 0 ≠ h) : (onePS c ws acc gd ret ses row stk st ⟨fn, pc, r⟩).swings = false := by
  show (inR ws.length [2] && ((⟨ws, acc, false⟩ : MemS).rd 2 == (⟨fn, pc, r⟩ : FrS).reg 1)) = false
  rw [inR_two h2, rd_two h2, hr]
  simpa using hh
theorem takeP_2n {h : Nat} (h2 : 2 < ws.length) (hr1 : (⟨1, 2, r⟩ : FrS).reg 1 = h) (hh : ws.getD 2 0 ≠ h) :
    PS.slots (onePS c ws acc gd ret ses row stk st ⟨1, 2, r⟩) = onePS c ws (acc + 1) gd ret ses row stk st ⟨1, 0, r⟩ := by
  unfold PS.slots
  rw [if_pos (by rfl)]
  unfold PS.take
  rw [if_neg (by show ¬ (2 : Int) = 0; decide), if_neg (by show ¬ (2 : Int) = 1; decide), if_pos (by rfl), if_neg (by rw [swings_not h2 hr1 hh]; decide)]
  have e2 : (onePS c ws acc gd ret ses row stk st ⟨1, 2, r⟩).setPc 0 = onePS c ws acc gd ret ses row stk st ⟨1, 0, r⟩ := rfl
  rw [e2, swung_not (fn := 1) (pc := 0) h2 hr1 hh]
theorem give_2n {h : Nat} (h2 : 2 < ws.length) (hr1 : (⟨2, 2, r⟩ : FrS).reg 1 = h) (hh : ws.getD 2 0 ≠ h) :
    PS.slots (onePS c ws acc gd ret ses row stk st ⟨2, 2, r⟩) = onePS c ws (acc + 1) gd ret ses row stk st ⟨2, 3, r⟩ := by
  unfold PS.slots
  rw [if_neg (by show ¬ (2 : Int) = 1; decide), if_pos (by rfl)]
  unfold PS.give
  rw [if_neg (by show ¬ (2 : Int) = 0; decide), if_neg (by show ¬ (2 : Int) = 3; decide), if_neg (by show ¬ (2 : Int) = 1; decide), if_neg (by rw [swings_not h2 hr1 hh]; decide)]
  have e2 : (onePS c ws acc gd ret ses row stk st ⟨2, 2, r⟩).setPc 3 = onePS c ws acc gd ret ses row stk st ⟨2, 3, r⟩ := rfl
  rw [e2, swung_not (fn := 2) (pc := 3) h2 hr1 hh]
end
structure CrS (c : ConfS) (s : MS) (own : Nat → Own) (L G : List Nat) (had : List (List Nat)) (emp : List Bool) (n : Nat) : Prop where
  hp : HeapC c s.mem.ws s.gd own L G n
  conf : s.conf = c
  thl : s.ths.length = c.thr.toNat
  f1 : s.fault = false
  f2 : s.mem.fault = false
  a0 : 0 ≤ s.mem.acc
  a1 : s.mem.acc ≤ 10 * n
  s0 : 0 ≤ s.steps
  s1 : s.steps ≤ 10 * n
  hadL : had.length = c.thr.toNat
  empL : emp.length = c.thr.toNat
  hadI : ∀ k e, e ∈ had.getD k [] → ∃ a : Nat, 1 ≤ a ∧ (a : Int) ≤ c.slots ∧ own a = .used (k + 1) ∧ e = mkE a (G.getD (a - 1) 0)
  hadN : ∀ k, ((had.getD k []).map slotE).Nodup
  th : ∀ (k : Nat) (t : ThS), s.ths[k]? = some t → t.frs = [] ∨ ∃ f, t.frs = [f] ∧ Small f.r ∧ f.r.length = 24 ∧ SlF c s.mem.ws own G k (emp.getD k false) f
  gone : ∀ a k, own a = .gone k → ∃ t f, s.ths[k]? = some t ∧ t.frs = [f] ∧ f.fn = 2 ∧ f.pc ≠ 0 ∧ slotE (f.reg 0) = a
section
variable {c : ConfS} {s : MS} {own own' : Nat → Own} {L L' G G' : List Nat} {had had' : List (List Nat)} {emp emp' : List Bool} {n k : Nat} {th : ThS} {f : FrS}
theorem CrS.part_one (h : CrS c s own L G had emp n) (hf : th.frs = [f]) : s.part th = onePS c s.mem.ws s.mem.acc s.gd th.ret th.ses th.row th.stk s.steps f := by
  have h1 := h.conf
  have h2 := h.f1
  have h3 := h.f2
  clear h
  obtain ⟨conf, ⟨ws, acc, mf⟩, gd, ths, st, fl⟩ := s
  obtain ⟨ret, ses, frs, row, stk⟩ := th
  simp only at h1 h2 h3 hf
  subst h1 h2 h3 hf
  rfl
theorem CrS.hk (h : CrS c s own L G had emp n) (ht : s.ths[k]? = some th) : (k : Int) < c.thr := by
  have := (List.getElem?_eq_some_iff.1 ht).1
  have := h.thl
  omega
theorem CrS.room {q : PS} {ws' : List Nat} {acc' : Int} {gd' : GuardS} {th2 : ThS} (h : CrS c s own L G had emp n) (hn : n ≤ 5000) (hq : q = (⟨c, ⟨ws', acc', false⟩, gd', th2, s.steps, false⟩ : PS)) (ha1 : acc' ≤ s.mem.acc + 1) : Room s q := by
  have h1 := h.a1
  have h2 := h.s1
  have h3 := h.s0
  rw [hq]
  exact ⟨h3, by omega, by omega, by show acc' ≤ _; omega, rfl⟩
/-- What a step leaves, where it leaves th2. -/
theorem CrS.next {ws' : List Nat} {acc' : Int} {gd' : GuardS} {th2 : ThS} (h : CrS c s own L G had emp n) (ht : s.ths[k]? = some th)
    (hq : PS.slots (s.part th) = (⟨c, ⟨ws', acc', false⟩, gd', th2, s.steps, false⟩ : PS)) (ha0 : s.mem.acc ≤ acc') (ha1 : acc' ≤ s.mem.acc + 1) (hh : HeapC c ws' gd' own' L' G' (n + 1))
    (hsp : ∀ j, j ≠ k → Spares c j s.mem.ws own G ws' own' G') (hhl : had'.length = c.thr.toNat) (hel : emp'.length = c.thr.toNat) (hem : ∀ j, emp.getD j false = true → emp'.getD j false = true)
    (hI : ∀ j e, e ∈ had'.getD j [] → ∃ a : Nat, 1 ≤ a ∧ (a : Int) ≤ c.slots ∧ own' a = .used (j + 1) ∧ e = mkE a (G'.getD (a - 1) 0)) (hN : ∀ j, ((had'.getD j []).map slotE).Nodup)
    (hk : th2.frs = [] ∨ ∃ f, th2.frs = [f] ∧ Small f.r ∧ f.r.length = 24 ∧ SlF c ws' own' G' k (emp'.getD k false) f)
    (hg : ∀ a, own' a = .gone k → ∃ f, th2.frs = [f] ∧ f.fn = 2 ∧ f.pc ≠ 0 ∧ slotE (f.reg 0) = a) (hgo : ∀ a j, j ≠ k → own' a = .gone j → own a = .gone j) :
    CrS c (s.ran k th PS.slots) own' L' G' had' emp' (n + 1) ∧ s.left th PS.slots = decide (0 < th2.frs.length) ∧ (s.ran k th PS.slots).ths[k]? = some th2 := by
  have hkl := (List.getElem?_eq_some_iff.1 ht).1
  have hst : (s.part th).stepped (PS.slots (s.part th)) = (⟨c, ⟨ws', acc', false⟩, gd', th2, s.steps + 1, false⟩ : PS) := by
    rw [hq]
    show ({ conf := c, mem := ⟨ws', acc', false⟩, gd := gd', th := th2, steps := s.steps + 1, fault := false || decide (1 < acc' - s.mem.acc) } : PS) = _
    rw [decide_eq_false (by omega)]
    rfl
  have hran : s.ran k th PS.slots = s.join k (⟨c, ⟨ws', acc', false⟩, gd', th2, s.steps + 1, false⟩ : PS) := by unfold MS.ran; rw [hst]
  have hlf : s.left th PS.slots = decide (0 < th2.frs.length) := by unfold MS.left; rw [hq]
  have h1 := h.a0
  have h2 := h.a1
  have h3 := h.s0
  have h4 := h.s1
  rw [hran]
  refine ⟨⟨hh, rfl, ?_, rfl, rfl, by show 0 ≤ acc'; omega, by show acc' ≤ _; omega, by show 0 ≤ s.steps + 1; omega, by show s.steps + 1 ≤ _; omega, hhl, hel, hI, hN, ?_, ?_⟩, hlf, part_join hkl⟩
  · show (s.ths.set k _).length = _
    rw [List.length_set]
    exact h.thl
  · intro j t2 hj
    have hj' : (s.ths.set k th2)[j]? = some t2 := hj
    by_cases e1 : k = j
    · subst e1
      rw [List.getElem?_set_self hkl] at hj'
      injection hj' with hj'
      rw [← hj']
      exact hk
    · rw [List.getElem?_set_ne e1] at hj'
      rcases h.th j t2 hj' with h5 | ⟨f, h5, h6, h7, h8⟩
      · exact .inl h5
      · exact .inr ⟨f, h5, h6, h7, h8.go h.hp (hsp j (fun e => e1 e.symm)) (hem j)⟩
  · intro a j ha
    show ∃ t f, (s.ths.set k th2)[j]? = some t ∧ _
    by_cases e1 : j = k
    · subst e1
      obtain ⟨f, h5, h6⟩ := hg a ha
      exact ⟨th2, f, List.getElem?_set_self hkl, h5, h6⟩
    · obtain ⟨t, f, h5, h6⟩ := h.gone a j (hgo a j e1 ha)
      exact ⟨t, f, by rw [List.getElem?_set_ne (fun e => e1 e.symm)]; exact h5, h6⟩
/-- A step that leaves words, guard, owners and what was taken. -/
theorem CrS.same {acc' : Int} {th2 : ThS} (h : CrS c s own L G had emp n) (ht : s.ths[k]? = some th) (hf : th.frs = [f])
    (hq : PS.slots (s.part th) = (⟨c, ⟨s.mem.ws, acc', false⟩, s.gd, th2, s.steps, false⟩ : PS)) (ha0 : s.mem.acc ≤ acc') (ha1 : acc' ≤ s.mem.acc + 1) (hel : emp'.length = c.thr.toNat) (hem : ∀ j, emp.getD j false = true → emp'.getD j false = true)
    (hk : (th2.frs = [] ∧ ¬ (f.fn = 2 ∧ f.pc ≠ 0)) ∨ ∃ f2, th2.frs = [f2] ∧ Small f2.r ∧ f2.r.length = 24 ∧ SlF c s.mem.ws own G k (emp'.getD k false) f2 ∧ f2.fn = f.fn ∧ (f.fn = 2 → f2.pc ≠ 0 ∧ f2.reg 0 = f.reg 0)) :
    CrS c (s.ran k th PS.slots) own L G had emp' (n + 1) ∧ s.left th PS.slots = decide (0 < th2.frs.length) ∧ (s.ran k th PS.slots).ths[k]? = some th2 := by
  refine h.next ht hq ha0 ha1 h.hp.more (fun _ _ => Spares.refl) h.hadL hel hem h.hadI h.hadN ?_ (fun a ha => ?_) (fun _ _ _ h => h)
  · rcases hk with ⟨h1, _⟩ | ⟨f2, h1, h2, h3, h4, _⟩
    · exact .inl h1
    · exact .inr ⟨f2, h1, h2, h3, h4⟩
  · obtain ⟨t, f3, h5, h6, h7, h8, h9⟩ := h.gone a k ha
    rw [ht] at h5
    injection h5 with h5
    rw [← h5, hf] at h6
    injection h6 with h6 _
    subst h6
    rcases hk with ⟨h1, h2⟩ | ⟨f2, h1, h2, h3, h4, h10, h11⟩
    · exact (h2 ⟨h7, h8⟩).elim
    · obtain ⟨h12, h13⟩ := h11 h7
      exact ⟨f2, h1, h10.trans h7, h12, by rw [h13]; exact h9⟩
/-- How many steps are left, at most, of a thread alone. -/
def leftS (hd : Nat) (f : FrS) : Nat :=
  if f.fn = 1 then (if f.pc = 0 then 4 else if f.pc = 1 then (if f.reg 1 = hd then 3 else 6) else if f.pc = 2 then (if f.reg 1 = hd then 2 else 5) else 1)
  else (if f.pc = 0 then 4 else if f.pc = 3 then 3 else if f.pc = 1 then (if f.reg 1 = hd then 2 else 5) else (if f.reg 1 = hd then 1 else 4))
def leftM (s : MS) (t : ThS) : Nat := match t.frs with | [] => 0 | f :: _ => leftS (s.mem.ws.getD 2 0) f
theorem leftM_one (hf : th.frs = [f]) : leftM s th = leftS (s.mem.ws.getD 2 0) f := by unfold leftM; rw [hf]
theorem leftM_nil (hf : th.frs = []) : leftM s th = 0 := by unfold leftM; rw [hf]
def bareE (L L' : List Nat) (emp : List Bool) : List Bool := emp.map (· || (decide (L.length = 0) || decide (L'.length = 0)))
theorem bareE_len {emp : List Bool} : (bareE L L' emp).length = emp.length := by unfold bareE; simp
theorem bareE_up {emp : List Bool} {j : Nat} (h : emp.getD j false = true) : (bareE L L' emp).getD j false = true := by
  unfold bareE
  rw [List.getD_eq_getElem?_getD] at h ⊢
  rw [List.getElem?_map]
  cases hx : emp[j]? with
  | none => rw [hx] at h; cases h
  | some x =>
    rw [hx] at h
    simp only [Option.getD_some] at h
    simp [h]
theorem bareE_nil {emp : List Bool} {j : Nat} (hj : j < emp.length) (h : L = [] ∨ L' = []) : (bareE L L' emp).getD j false = true := by
  unfold bareE
  rw [List.getD_eq_getElem?_getD, List.getElem?_map, List.getElem?_eq_getElem hj]
  rcases h with rfl | rfl <;> simp
/-- One step. -/
inductive OutS (c : ConfS) (s s' : MS) (k : Nat) (fn : Int) (left : Bool) (own : Nat → Own) (L G : List Nat) (had : List (List Nat)) (emp : List Bool) (n : Nat) (own' : Nat → Own) (L' G' : List Nat) : Prop
  | on : left = true → CrS c s' own' L' G' had (bareE L L' emp) (n + 1) → OutS c s s' k fn left own L G had emp n own' L' G'
  | told (a : Nat) (t2 : ThS) : left = false → fn = 1 → s'.ths[k]? = some t2 → t2.ret.getD 0 0 = mkE a (G'.getD (a - 1) 0) → 1 ≤ a → (a : Int) ≤ c.slots → own' a = .used (k + 1) → a ∈ s'.gd.held → (∀ j e, e ∈ had.getD j [] → slotE e ≠ a) → CrS c s' own' L' G' (had.set k (had.getD k [] ++ [mkE a (G'.getD (a - 1) 0)])) (bareE L L' emp) (n + 1) → OutS c s s' k fn left own L G had emp n own' L' G'
  | none_ (t2 : ThS) : left = false → fn = 1 → s'.ths[k]? = some t2 → t2.ret.getD 0 0 = 0 → (bareE L L' emp).getD k false = true → CrS c s' own' L' G' had (bareE L L' emp) (n + 1) → OutS c s s' k fn left own L G had emp n own' L' G'
  | gave : left = false → fn = 2 → CrS c s' own' L' G' had (bareE L L' emp) (n + 1) → OutS c s s' k fn left own L G had emp n own' L' G'
def StepS (c : ConfS) (s : MS) (k : Nat) (th : ThS) (fn : Int) (own : Nat → Own) (L G : List Nat) (had : List (List Nat)) (emp : List Bool) (n : Nat) : Prop :=
  SlotsOk (s.part th) ∧ Room s (PS.slots (s.part th)) ∧ (∃ own' L' G', OutS c s (s.ran k th PS.slots) k fn (s.left th PS.slots) own L G had emp n own' L' G') ∧ ∃ t2, (s.ran k th PS.slots).ths[k]? = some t2 ∧ leftM (s.ran k th PS.slots) t2 < leftM s th
theorem CrS.okS (h : CrS c s own L G had emp n) (hn : n ≤ 5000) (hf : th.frs = [f]) (hs : Small f.r) : SlotsOk (s.part th) := by
  have ha := h.a1
  rw [h.part_one hf]
  exact ok_one (by omega) hs h.hp.slips (h.hp.gensmall (by omega))
theorem sl_of {p q r : PS} (h : p = q) (h2 : PS.slots q = r) : PS.slots p = r := by rw [h]; exact h2
theorem held_tell (h : CrS c s own L G had emp n) {a : Nat} (ha : own a ≠ .used (k + 1)) : ∀ e, e ∈ had.getD k [] → slotE e ≠ a := by
  intro e he
  obtain ⟨b, h1, h2, h3, h4⟩ := h.hadI k e he
  have := h.hp.ok.s2
  rw [h4, slotE_mkE (by omega)]
  intro e2
  subst e2
  exact ha h3
end
section
variable {c : ConfS} {s : MS} {own own' : Nat → Own} {L L' G G' : List Nat} {had had' : List (List Nat)} {emp emp' : List Bool} {n k : Nat} {th : ThS} {f : FrS}
theorem CrS.mine (h : CrS c s own L G had emp n) (ht : s.ths[k]? = some th) (hf : th.frs = [f]) {a : Nat} (ha : own a = .gone k) : f.fn = 2 ∧ f.pc ≠ 0 ∧ slotE (f.reg 0) = a := by
  obtain ⟨t, f3, h5, h6, h7, h8, h9⟩ := h.gone a k ha
  rw [ht] at h5
  injection h5 with h5
  rw [← h5, hf] at h6
  injection h6 with h6 _
  subst h6
  exact ⟨h7, h8, h9⟩
theorem CrS.had_keep (h : CrS c s own L G had emp n) {a : Nat} {o : Own} (ha : ∀ j, own a ≠ .used (j + 1)) : ∀ j e, e ∈ had.getD j [] → ∃ b : Nat, 1 ≤ b ∧ (b : Int) ≤ c.slots ∧ updO own a o b = .used (j + 1) ∧ e = mkE b (G.getD (b - 1) 0) := by
  intro j e he
  obtain ⟨b, h1, h2, h3, h4⟩ := h.hadI j e he
  exact ⟨b, h1, h2, by rw [updO_ne (fun e2 => ha j (by rw [← e2]; exact h3))]; exact h3, h4⟩
theorem not_took {a j : Nat} (h : own a = .took k) (hj : j ≠ k) : ¬ (own a).within j := fun e => by
  rw [h] at e
  rcases e with e | e | e
  · injection e with e
    exact hj e.symm
  · cases e
  · cases e
theorem not_due {a j : Nat} (h : own a = .due k) (hj : j ≠ k) : ¬ (own a).within j := fun e => by
  rw [h] at e
  rcases e with e | e | e
  · cases e
  · injection e with e
    exact hj e.symm
  · cases e
theorem not_gone {a j : Nat} (h : own a = .gone k) (hj : j ≠ k) : ¬ (own a).within j := fun e => by
  rw [h] at e
  rcases e with e | e | e
  · cases e
  · cases e
  · injection e with e
    exact hj e.symm
theorem gone_upd {a b j : Nat} {o : Own} (ho : ∀ j, o ≠ .gone j) (h : updO own a o b = .gone j) : b ≠ a ∧ own b = .gone j := by
  by_cases e : b = a
  · subst e
    rw [updO_eq] at h
    exact (ho j h).elim
  · rw [updO_ne e] at h
    exact ⟨e, h⟩
theorem hadN_add {l : List Nat} {x : Nat} (h : (l.map slotE).Nodup) (hx : ∀ e, e ∈ l → slotE e ≠ slotE x) : ((l ++ [x]).map slotE).Nodup := by
  rw [List.map_append, List.nodup_append]
  refine ⟨h, by simp, fun a ha b hb e => ?_⟩
  obtain ⟨y, hy, rfl⟩ := List.mem_map.1 ha
  simp only [List.map_cons, List.map_nil, List.mem_singleton] at hb
  exact hx y hy (e.trans hb)
theorem getD_nil_ne {l : List (List Nat)} {k j : Nat} {x : List Nat} (h : k ≠ j) : (l.set k x).getD j [] = l.getD j [] := by
  rw [List.getD_eq_getElem?_getD, List.getD_eq_getElem?_getD, List.getElem?_set_ne h]
theorem getD_nil_eq {l : List (List Nat)} {k : Nat} {x : List Nat} (h : k < l.length) : (l.set k x).getD k [] = x := by
  rw [List.getD_eq_getElem?_getD, List.getElem?_set_self h]
  rfl
theorem leftS_13 {hd : Nat} {r : List Nat} : leftS hd ⟨1, 3, r⟩ = 1 := rfl
theorem leftS_10 {hd : Nat} {r : List Nat} : leftS hd ⟨1, 0, r⟩ = 4 := rfl
theorem leftS_11 {hd : Nat} {r : List Nat} : leftS hd ⟨1, 1, r⟩ = if (⟨1, 1, r⟩ : FrS).reg 1 = hd then 3 else 6 := rfl
theorem leftS_12 {hd : Nat} {r : List Nat} : leftS hd ⟨1, 2, r⟩ = if (⟨1, 2, r⟩ : FrS).reg 1 = hd then 2 else 5 := rfl
theorem leftS_20 {hd : Nat} {r : List Nat} : leftS hd ⟨2, 0, r⟩ = 4 := rfl
theorem leftS_23 {hd : Nat} {r : List Nat} : leftS hd ⟨2, 3, r⟩ = 3 := rfl
theorem leftS_21 {hd : Nat} {r : List Nat} : leftS hd ⟨2, 1, r⟩ = if (⟨2, 1, r⟩ : FrS).reg 1 = hd then 2 else 5 := rfl
theorem leftS_22 {hd : Nat} {r : List Nat} : leftS hd ⟨2, 2, r⟩ = if (⟨2, 2, r⟩ : FrS).reg 1 = hd then 1 else 4 := rfl
theorem ran_ws {ws' : List Nat} {acc' : Int} {gd' : GuardS} {th2 : ThS} (hq : PS.slots (s.part th) = (⟨c, ⟨ws', acc', false⟩, gd', th2, s.steps, false⟩ : PS)) : (s.ran k th PS.slots).mem.ws = ws' := by
  unfold MS.ran
  rw [hq]
  rfl
theorem CrS.gd_at (h : CrS c s own L G had emp n) {a : Nat} (h1 : 1 ≤ a) (h2 : (a : Int) ≤ c.slots) (h3 : (own a).isHeld = true) : a ∈ s.gd.held := (h.hp.hl a).2 ⟨h1, h2, h3⟩
set_option maxRecDepth 100000 in
theorem sc_take (h : CrS c s own L G had emp n) (hn : n ≤ 5000) (ht : s.ths[k]? = some th) (hf : th.frs = [f]) (hfn : f.fn = 1) : StepS c s k th f.fn own L G had emp n := by
  have hk := h.hk ht
  have hkn : k < emp.length := by rw [h.empL]; omega
  have hpo := h.part_one hf
  have htwo := h.hp.two
  have hhd64 := small_get h.hp.sm 2
  have hel : ∀ L', (bareE L L' emp).length = c.thr.toNat := fun L' => by rw [bareE_len]; exact h.empL
  have hnog : ∀ a, own a ≠ .gone k := fun a ha => by
    have := (h.mine ht hf ha).1
    rw [hfn] at this
    cases this
  obtain ⟨hsm, hrl, hfr⟩ : Small f.r ∧ f.r.length = 24 ∧ SlF c s.mem.ws own G k (emp.getD k false) f := by
    rcases h.th k th ht with h1 | ⟨f', h1, h2⟩
    · rw [hf] at h1; cases h1
    · rw [hf] at h1
      injection h1 with h1 _
      subst h1
      exact h2
  have hok := h.okS hn hf hsm
  have hlt := leftM_one (s := s) hf
  unfold StepS
  rw [hlt]
  cases hfr with
  | t0 r =>
    replace hrl : r.length = 24 := hrl
    have q := sl_of hpo (takeP_0 htwo)
    have hr1 : (⟨1, 1, r.set 1 (s.mem.ws.getD 2 0)⟩ : FrS).reg 1 = s.mem.ws.getD 2 0 := reg_set (by omega)
    have hz : (⟨1, 1, r.set 1 (s.mem.ws.getD 2 0)⟩ : FrS).reg 1 = s.mem.ws.getD 2 0 → slotE ((⟨1, 1, r.set 1 (s.mem.ws.getD 2 0)⟩ : FrS).reg 1) = 0 → (bareE L L emp).getD k false = true := fun e1 e2 => by
      rw [e1] at e2
      rcases h.hp.first with ⟨_, h2⟩ | ⟨_, _, h2, _⟩
      · exact bareE_nil hkn (.inl h2)
      · omega
    obtain ⟨a1, a2, a3⟩ := h.same (emp' := bareE L L emp) (th2 := ⟨th.ret, th.ses, [⟨1, 1, r.set 1 (s.mem.ws.getD 2 0)⟩], th.row, th.stk⟩) ht hf q (by omega) (by omega) (hel L) (fun _ hj => bareE_up hj) (.inr ⟨_, rfl, small_set hsm hhd64, by simpa using hrl, .t1 _ (.inl hr1) (by rw [hr1]; exact h.hp.slot_le) (hz hr1), rfl, fun e => by cases e⟩)
    refine ⟨hok, h.room hn q (by omega), ⟨own, L, G, .on a2 a1⟩, _, a3, ?_⟩
    rw [leftM_one (f := ⟨1, 1, r.set 1 (s.mem.ws.getD 2 0)⟩) rfl, ran_ws q, leftS_10, leftS_11, if_pos hr1]
    decide
  | t1 r h1 h2 h3 =>
    replace hrl : r.length = 24 := hrl
    by_cases hz : slotE ((⟨1, 1, r⟩ : FrS).reg 1) = 0
    · have q := sl_of hpo (takeP_1_none hz)
      obtain ⟨a1, a2, a3⟩ := h.same (emp' := bareE L L emp) (th2 := ⟨padTo 12 [0], th.ses, [], th.row, th.stk⟩) ht hf q (by omega) (by omega) (hel L) (fun _ hj => bareE_up hj) (.inl ⟨rfl, fun e => by cases e.1⟩)
      refine ⟨hok, h.room hn q (by omega), ⟨own, L, G, .none_ _ a2 rfl a3 rfl (bareE_up (h3 hz)) a1⟩, _, a3, ?_⟩
      rw [leftM_nil rfl, leftS_11]
      split <;> decide
    · have hge : 1 ≤ slotE ((⟨1, 1, r⟩ : FrS).reg 1) := by omega
      have q := sl_of hpo (takeP_1 rfl hge h2 (h.hp.ix hge h2 (by decide)))
      generalize hv : s.mem.ws.getD (ixN c (slotE ((⟨1, 1, r⟩ : FrS).reg 1)) 0) 0 = v at q
      have hv64 : v < 2 ^ 64 := by rw [← hv]; exact small_get h.hp.sm _
      have hr1 : (⟨1, 2, r.set 2 v⟩ : FrS).reg 1 = (⟨1, 1, r⟩ : FrS).reg 1 := reg_set_ne (by decide)
      have hr2 : (⟨1, 2, r.set 2 v⟩ : FrS).reg 2 = v := reg_set (by omega)
      obtain ⟨a1, a2, a3⟩ := h.same (emp' := bareE L L emp) (th2 := ⟨th.ret, th.ses, [⟨1, 2, r.set 2 v⟩], th.row, th.stk⟩) ht hf q (by omega) (by omega) (hel L) (fun _ hj => bareE_up hj) (.inr ⟨_, rfl, small_set hsm hv64, by simpa using hrl, .t2 _ (by rw [hr1]; exact h1) (by rw [hr1]; exact hge) (by rw [hr1]; exact h2) (fun e => by rw [hr1] at e; rw [hr2, ← hv, e]), rfl, fun e => by cases e⟩)
      refine ⟨hok, h.room hn q (by omega), ⟨own, L, G, .on a2 a1⟩, _, a3, ?_⟩
      rw [leftM_one (f := ⟨1, 2, r.set 2 v⟩) rfl, ran_ws q, leftS_11, leftS_12, hr1]
      split <;> decide
  | t2 r h1 h2 h3 h4 =>
    replace hrl : r.length = 24 := hrl
    by_cases he : (⟨1, 2, r⟩ : FrS).reg 1 = s.mem.ws.getD 2 0
    · obtain ⟨b1, b2, b3, b4, b5⟩ := h.hp.takes (k := k) (by omega) (by rw [← he]; exact h2) (h4 he)
      have q := sl_of hpo (takeP_2 (nxt := (⟨1, 2, r⟩ : FrS).reg 2) htwo he rfl rfl rfl b1)
      obtain ⟨a1, a2, a3⟩ := h.next (had' := had) (emp' := bareE L (L.drop 1) emp) (th2 := ⟨th.ret, th.ses, [⟨1, 3, r⟩], th.row, th.stk⟩) ht q (by omega) (by omega) b3 (fun j _ => Spares.takes h.hp (by omega) b1 b4 _) h.hadL (hel _) (fun _ hj => bareE_up hj)
        (h.had_keep (fun j e => by rw [b4] at e; cases e)) h.hadN (.inr ⟨_, rfl, hsm, hrl, .t3 _ h2 h3 (by show updO own _ _ (slotE ((⟨1, 2, r⟩ : FrS).reg 1)) = _; rw [he]; exact updO_eq _ _ _)⟩) (fun a ha => (hnog a (gone_upd (fun _ e => by cases e) ha).2).elim) (fun a j _ ha => (gone_upd (fun _ e => by cases e) ha).2)
      refine ⟨hok, h.room hn q (by omega), ⟨_, _, _, .on a2 a1⟩, _, a3, ?_⟩
      rw [leftM_one (f := ⟨1, 3, r⟩) rfl, leftS_12, leftS_13, if_pos he]
      decide
    · have q := sl_of hpo (takeP_2n htwo rfl (fun e => he e.symm))
      obtain ⟨a1, a2, a3⟩ := h.same (emp' := bareE L L emp) (th2 := ⟨th.ret, th.ses, [⟨1, 0, r⟩], th.row, th.stk⟩) ht hf q (by omega) (by omega) (hel L) (fun _ hj => bareE_up hj) (.inr ⟨_, rfl, hsm, hrl, .t0 _, rfl, fun e => by cases e⟩)
      refine ⟨hok, h.room hn q (by omega), ⟨own, L, G, .on a2 a1⟩, _, a3, ?_⟩
      rw [leftM_one (f := ⟨1, 0, r⟩) rfl, leftS_12, leftS_10, if_neg he]
      decide
  | t3 r h1 h2 h3 =>
    have q := sl_of hpo (takeP_3 rfl h1 h2 (h.hp.ix h1 h2 (by decide)))
    rw [h.hp.gw _ h1 h2] at q
    generalize slotE ((⟨1, 3, r⟩ : FrS).reg 1) = a at h1 h2 h3 q
    have hs2 := h.hp.ok.s2
    have hheld : (own a).isHeld = true := by rw [h3]; rfl
    have hnu : ∀ j, own a ≠ .used (j + 1) := fun j e => by rw [h3] at e; cases e
    have htell : ∀ j e, e ∈ had.getD j [] → slotE e ≠ a := fun j => held_tell h (hnu j)
    have hkh : k < had.length := by rw [h.hadL]; omega
    obtain ⟨a1, a2, a3⟩ := h.next (had' := had.set k (had.getD k [] ++ [mkE a (G.getD (a - 1) 0)])) (emp' := bareE L L emp) (th2 := ⟨padTo 12 [mkE a (G.getD (a - 1) 0)], th.ses, [], th.row, th.stk⟩) ht q (by omega) (by omega) (h.hp.hands (o := .used (k + 1)) hheld rfl).more
      (fun j hj => Spares.hands (not_took h3 hj)) (by simpa using h.hadL) (hel _) (fun _ hj => bareE_up hj)
      (fun j e he => by
        by_cases ej : k = j
        · subst ej
          rw [getD_nil_eq hkh] at he
          rcases List.mem_append.1 he with he | he
          · exact h.had_keep hnu k e he
          · exact ⟨a, h1, h2, updO_eq _ _ _, List.mem_singleton.1 he⟩
        · rw [getD_nil_ne ej] at he
          exact h.had_keep hnu j e he)
      (fun j => by
        by_cases ej : k = j
        · subst ej
          rw [getD_nil_eq hkh]
          exact hadN_add (h.hadN k) (fun e he => by rw [slotE_mkE (by omega)]; exact htell k e he)
        · rw [getD_nil_ne ej]
          exact h.hadN j)
      (.inl rfl) (fun b hb => (hnog b (gone_upd (fun _ e => by cases e) hb).2).elim) (fun b j _ hb => (gone_upd (fun _ e => by cases e) hb).2)
    refine ⟨hok, h.room hn q (by omega), ⟨_, _, _, .told a _ a2 rfl a3 rfl h1 h2 (updO_eq _ _ _) (a1.gd_at h1 h2 (by rw [updO_eq]; rfl)) htell a1⟩, _, a3, ?_⟩
    rw [leftM_nil rfl, leftS_13]
    decide
  | g0 r a e1 => cases hfn
  | g3 r a g e1 => cases hfn
  | g1 r a g e1 => cases hfn
  | g2 r a g e1 => cases hfn
set_option maxRecDepth 100000 in
theorem sc_give (h : CrS c s own L G had emp n) (hn : n ≤ 5000) (ht : s.ths[k]? = some th) (hf : th.frs = [f]) (hfn : f.fn = 2) : StepS c s k th f.fn own L G had emp n := by
  have hpo := h.part_one hf
  have htwo := h.hp.two
  have hhd64 := small_get h.hp.sm 2
  have hs2 := h.hp.ok.s2
  have hel : ∀ L', (bareE L L' emp).length = c.thr.toNat := fun L' => by rw [bareE_len]; exact h.empL
  obtain ⟨hsm, hrl, hfr⟩ : Small f.r ∧ f.r.length = 24 ∧ SlF c s.mem.ws own G k (emp.getD k false) f := by
    rcases h.th k th ht with h1 | ⟨f', h1, h2⟩
    · rw [hf] at h1; cases h1
    · rw [hf] at h1
      injection h1 with h1 _
      subst h1
      exact h2
  have hok := h.okS hn hf hsm
  have hlt := leftM_one (s := s) hf
  have hmine := fun a (ha : own a = .gone k) => h.mine ht hf ha
  unfold StepS
  rw [hlt]
  cases hfr with
  | t0 r => cases hfn
  | t1 r => cases hfn
  | t2 r => cases hfn
  | t3 r => cases hfn
  | g0 r a h1 h2 h3 h4 =>
    have hheld : (own a).isHeld = true := by rw [h4]; rfl
    obtain ⟨b1, b2, b3⟩ := h.hp.drops (k := k) (by omega) h2 h3 hheld
    have q := sl_of hpo (give_0p h1 (slotE_mkE (by omega)) h2 h3 (h.hp.ix h2 h3 (by decide)))
    rw [b1] at q
    have hnu : ∀ j, own a ≠ .used (j + 1) := fun j e => by rw [h4] at e; cases e
    obtain ⟨a1, a2, a3⟩ := h.next (had' := had) (emp' := bareE L L emp) (th2 := ⟨th.ret, th.ses, [⟨2, 3, r⟩], th.row, th.stk⟩) ht q (by omega) (by omega) b3 (fun j hj => Spares.drops h2 (not_due h4 hj) _) h.hadL (hel _) (fun _ hj => bareE_up hj)
      (fun j e he => by
        obtain ⟨b, c1, c2, c3, c4⟩ := h.hadI j e he
        have hba : b ≠ a := fun e2 => hnu j (by rw [← e2]; exact c3)
        exact ⟨b, c1, c2, by rw [updO_ne hba]; exact c3, by rw [getD_set_ne (by omega)]; exact c4⟩)
      h.hadN (.inr ⟨_, rfl, hsm, hrl, .g3 _ a _ h1 h2 h3 (updO_eq _ _ _)⟩)
      (fun b hb => by
        by_cases e : b = a
        · subst e
          exact ⟨_, rfl, rfl, by show (3 : Int) ≠ 0; decide, by show slotE ((⟨2, 0, r⟩ : FrS).reg 0) = b; rw [h1]; exact slotE_mkE (by omega)⟩
        · rw [updO_ne e] at hb
          exact absurd rfl (hmine b hb).2.1)
      (fun b j hj hb => by
        by_cases e : b = a
        · subst e
          rw [updO_eq] at hb
          injection hb with hb
          exact (hj hb.symm).elim
        · rw [updO_ne e] at hb
          exact hb)
    refine ⟨hok, h.room hn q (by omega), ⟨_, _, _, .on a2 a1⟩, _, a3, ?_⟩
    rw [leftM_one (f := ⟨2, 3, r⟩) rfl, leftS_20, leftS_23]
    decide
  | g3 r a g h1 h2 h3 h4 =>
    replace hrl : r.length = 24 := hrl
    have q := sl_of hpo (give_3p htwo)
    have hr1 : (⟨2, 1, r.set 1 (s.mem.ws.getD 2 0)⟩ : FrS).reg 1 = s.mem.ws.getD 2 0 := reg_set (by omega)
    have hr0 : (⟨2, 1, r.set 1 (s.mem.ws.getD 2 0)⟩ : FrS).reg 0 = (⟨2, 3, r⟩ : FrS).reg 0 := reg_set_ne (by decide)
    obtain ⟨a1, a2, a3⟩ := h.same (emp' := bareE L L emp) (th2 := ⟨th.ret, th.ses, [⟨2, 1, r.set 1 (s.mem.ws.getD 2 0)⟩], th.row, th.stk⟩) ht hf q (by omega) (by omega) (hel L) (fun _ hj => bareE_up hj) (.inr ⟨_, rfl, small_set hsm hhd64, by simpa using hrl, .g1 _ a g (by rw [hr0]; exact h1) h2 h3 h4 (.inl hr1), rfl, fun _ => ⟨by show (1 : Int) ≠ 0; decide, hr0⟩⟩)
    refine ⟨hok, h.room hn q (by omega), ⟨own, L, G, .on a2 a1⟩, _, a3, ?_⟩
    rw [leftM_one (f := ⟨2, 1, r.set 1 (s.mem.ws.getD 2 0)⟩) rfl, ran_ws q, leftS_23, leftS_21, if_pos hr1]
    decide
  | g1 r a g h1 h2 h3 h4 h5 =>
    have q := sl_of hpo (give_1p h1 rfl (slotE_mkE (by omega)) h2 h3 (h.hp.ix h2 h3 (by decide)))
    have hnf : own a ≠ .free := fun e => by rw [h4] at e; cases e
    have hv64 : slotE ((⟨2, 1, r⟩ : FrS).reg 1) < 2 ^ 64 := by have := slotE_lt ((⟨2, 1, r⟩ : FrS).reg 1); omega
    have hhd : (s.mem.ws.set (ixN c a 0) (slotE ((⟨2, 1, r⟩ : FrS).reg 1))).getD 2 0 = s.mem.ws.getD 2 0 := getD_set_ne (ixN_two c a 0).symm
    obtain ⟨a1, a2, a3⟩ := h.next (had' := had) (emp' := bareE L L emp) (th2 := ⟨th.ret, th.ses, [⟨2, 2, r⟩], th.row, th.stk⟩) ht q (by omega) (by omega) (h.hp.link h2 hnf hv64).more (fun j hj => Spares.link h2 hnf (fun e => by rw [h4] at e; injection e with e; exact hj e.symm)) h.hadL (hel _) (fun _ hj => bareE_up hj)
      h.hadI h.hadN (.inr ⟨_, rfl, hsm, hrl, .g2 _ a g h1 h2 h3 h4 (h5.go (.inl hhd)) (getD_set_eq (h.hp.ix h2 h3 (by decide)))⟩)
      (fun b hb => ⟨_, rfl, rfl, by show (2 : Int) ≠ 0; decide, (hmine b hb).2.2⟩) (fun _ _ _ hb => hb)
    refine ⟨hok, h.room hn q (by omega), ⟨own, L, G, .on a2 a1⟩, _, a3, ?_⟩
    rw [leftM_one (f := ⟨2, 2, r⟩) rfl, ran_ws q, leftS_21, leftS_22, hhd]
    show (if (⟨2, 1, r⟩ : FrS).reg 1 = _ then 1 else 4) < _
    split <;> decide
  | g2 r a g h1 h2 h3 h4 h5 h6 =>
    by_cases he : (⟨2, 2, r⟩ : FrS).reg 1 = s.mem.ws.getD 2 0
    · have hsa : slotE (mkE a g) = a := slotE_mkE (by omega)
      have q := sl_of hpo (give_2p htwo h1 he rfl)
      rw [hsa] at q
      have b3 := h.hp.gives (by omega) h2 h3 h4 (by rw [h6, he])
      obtain ⟨a1, a2, a3⟩ := h.next (had' := had) (emp' := bareE L (a :: L) emp) (th2 := ⟨padTo 12 [], th.ses, [], th.row, th.stk⟩) ht q (by omega) (by omega) b3 (fun j hj => Spares.gives h.hp (by omega) (by omega) (not_gone h4 hj) _) h.hadL (hel _) (fun _ hj => bareE_up hj)
        (h.had_keep (fun j e => by rw [h4] at e; cases e)) h.hadN (.inl rfl)
        (fun b hb => by
          obtain ⟨e1, e2⟩ := gone_upd (fun _ e => by cases e) hb
          have := (hmine b e2).2.2
          rw [h1, hsa] at this
          exact (e1 this.symm).elim)
        (fun b j _ hb => (gone_upd (fun _ e => by cases e) hb).2)
      refine ⟨hok, h.room hn q (by omega), ⟨_, _, _, .gave a2 rfl a1⟩, _, a3, ?_⟩
      rw [leftM_nil rfl, leftS_22]
      split <;> decide
    · have q := sl_of hpo (give_2n htwo rfl (fun e => he e.symm))
      obtain ⟨a1, a2, a3⟩ := h.same (emp' := bareE L L emp) (th2 := ⟨th.ret, th.ses, [⟨2, 3, r⟩], th.row, th.stk⟩) ht hf q (by omega) (by omega) (hel L) (fun _ hj => bareE_up hj) (.inr ⟨_, rfl, hsm, hrl, .g3 _ a g h1 h2 h3 h4, rfl, fun _ => ⟨by show (3 : Int) ≠ 0; decide, rfl⟩⟩)
      refine ⟨hok, h.room hn q (by omega), ⟨own, L, G, .on a2 a1⟩, _, a3, ?_⟩
      rw [leftM_one (f := ⟨2, 3, r⟩) rfl, leftS_22, leftS_23, if_neg he]
      decide
theorem sc_step (h : CrS c s own L G had emp n) (hn : n ≤ 5000) (ht : s.ths[k]? = some th) (hf : th.frs = [f]) : (f.fn = 1 ∨ f.fn = 2) ∧ StepS c s k th f.fn own L G had emp n := by
  have hfr : SlF c s.mem.ws own G k (emp.getD k false) f := by
    rcases h.th k th ht with h1 | ⟨f', h1, _, _, h2⟩
    · rw [hf] at h1; cases h1
    · rw [hf] at h1
      injection h1 with h1 _
      subst h1
      exact h2
  have hfn : f.fn = 1 ∨ f.fn = 2 := by cases hfr <;> simp
  refine ⟨hfn, ?_⟩
  rcases hfn with h1 | h1
  · exact sc_take h hn ht hf h1
  · exact sc_give h hn ht hf h1
end
section
variable {c : ConfS} {s : MS} {own own' : Nat → Own} {L L' G G' : List Nat} {had had' : List (List Nat)} {emp emp' : List Bool} {n k : Nat} {th : ThS} {f : FrS}
theorem made_len24 {fn : Int} {l : List Nat} (h : l.length ≤ 24) : (FrS.made fn l).r.length = 24 := by
  show (l ++ List.replicate (24 - l.length) 0).length = 24
  simp
  omega
theorem made_small24 {fn : Int} {l : List Nat} (h : Small l) : Small (FrS.made fn l).r := small_pad h
/-- A thread within nothing begins a routine. -/
theorem CrS.call (h : CrS c s own L G had emp n) (ht : s.ths[k]? = some th) (hf : th.frs = []) {fn : Int} {l : List Nat} (hl : l.length ≤ 24) (hls : Small l) (hh : HeapC c s.mem.ws s.gd own' L G n) (hsp : ∀ j, j ≠ k → Spares c j s.mem.ws own G s.mem.ws own' G)
    (hhl : had'.length = c.thr.toNat) (hel : emp'.length = c.thr.toNat) (hem : ∀ j, j ≠ k → emp'.getD j false = emp.getD j false) (hI : ∀ j e, e ∈ had'.getD j [] → ∃ a : Nat, 1 ≤ a ∧ (a : Int) ≤ c.slots ∧ own' a = .used (j + 1) ∧ e = mkE a (G.getD (a - 1) 0)) (hN : ∀ j, ((had'.getD j []).map slotE).Nodup)
    (hk : SlF c s.mem.ws own' G k (emp'.getD k false) (FrS.made fn l)) (hgo : ∀ a j, own' a = .gone j → own a = .gone j) :
    CrS c (s.call k fn l) own' L G had' emp' n ∧ (s.call k fn l).ths[k]? = some (th.pushed fn l) ∧ (th.pushed fn l).frs = [FrS.made fn l] := by
  have hkl := (List.getElem?_eq_some_iff.1 ht).1
  have hfrs : (th.pushed fn l).frs = [FrS.made fn l] := by
    show th.frs ++ [FrS.made fn l] = _
    rw [hf]
    rfl
  rw [call_join ht]
  refine ⟨⟨hh, h.conf, ?_, h.f1, h.f2, h.a0, h.a1, h.s0, h.s1, hhl, hel, hI, hN, ?_, ?_⟩, part_join hkl, hfrs⟩
  · show (s.ths.set k _).length = _
    rw [List.length_set]
    exact h.thl
  · intro t t2 hj
    have hj' : (s.ths.set k (th.pushed fn l))[t]? = some t2 := hj
    by_cases e1 : k = t
    · subst e1
      rw [List.getElem?_set_self hkl] at hj'
      injection hj' with hj'
      rw [← hj']
      exact .inr ⟨_, hfrs, made_small24 hls, made_len24 hl, hk⟩
    · rw [List.getElem?_set_ne e1] at hj'
      rcases h.th t t2 hj' with h5 | ⟨f, h5, h6, h7, h8⟩
      · exact .inl h5
      · refine .inr ⟨f, h5, h6, h7, ?_⟩
        rw [hem t (fun e => e1 e.symm)]
        exact h8.go h.hp (hsp t (fun e => e1 e.symm)) (fun h => h)
  · intro a j ha
    obtain ⟨t, f, h5, h6⟩ := h.gone a j (hgo a j ha)
    refine ⟨t, f, ?_, h6⟩
    show (s.ths.set k (th.pushed fn l))[j]? = some t
    by_cases e1 : k = j
    · subst e1
      rw [ht] at h5
      injection h5 with h5
      rw [← h5, hf] at h6
      cases h6.1
    · rw [List.getElem?_set_ne e1]
      exact h5
theorem setB_ne {l : List Bool} {k j : Nat} {x : Bool} (h : k ≠ j) : (l.set k x).getD j false = l.getD j false := by
  rw [List.getD_eq_getElem?_getD, List.getD_eq_getElem?_getD, List.getElem?_set_ne h]
theorem sc_call_take (h : CrS c s own L G had emp n) (ht : s.ths[k]? = some th) (hf : th.frs = []) :
    CrS c (s.call k 1 []) own L G had (emp.set k false) n ∧ (s.call k 1 []).ths[k]? = some (th.pushed 1 []) ∧ (th.pushed 1 []).frs = [FrS.made 1 []] :=
  h.call ht hf (by simp) (fun g hg => by cases hg) h.hp (fun _ _ => Spares.refl) h.hadL (by simpa using h.empL) (fun j hj => setB_ne (fun e => hj e.symm)) h.hadI h.hadN (.t0 _) (fun _ _ h => h)
theorem CrS.had_at (h : CrS c s own L G had emp n) {j e : Nat} (hj : (had.getD k [])[j]? = some e) : e < 2 ^ 64 := by
  obtain ⟨a, h1, h2, _, rfl⟩ := h.hadI k e (List.mem_of_getElem? hj)
  have := h.hp.ok.s2
  exact mkE_lt _ _ (by omega)
theorem sc_call_give {j e : Nat} (h : CrS c s own L G had emp n) (ht : s.ths[k]? = some th) (hf : th.frs = []) (hj : (had.getD k [])[j]? = some e) :
    ∃ own', CrS c (s.call k 2 [e]) own' L G (had.set k ((had.getD k []).take j ++ (had.getD k []).drop (j + 1))) emp n ∧ (s.call k 2 [e]).ths[k]? = some (th.pushed 2 [e]) ∧ (th.pushed 2 [e]).frs = [FrS.made 2 [e]] := by
  have he64 := h.had_at hj
  obtain ⟨a, h1, h2, h3, rfl⟩ := h.hadI k e (List.mem_of_getElem? hj)
  have hs2 := h.hp.ok.s2
  have hkh : k < had.length := by
    have := h.hk ht
    rw [h.hadL]
    omega
  have hheld : (own a).isHeld = true := by rw [h3]; rfl
  have hnw : ∀ i, ¬ (own a).within i := fun i e => by
    rw [h3] at e
    rcases e with e | e | e <;> cases e
  have hnd := h.hadN k
  generalize hl : had.getD k [] = l at *
  have hsp : l = l.take j ++ mkE a (G.getD (a - 1) 0) :: l.drop (j + 1) := by
    obtain ⟨hj1, hj2⟩ := List.getElem?_eq_some_iff.1 hj
    rw [← hj2]
    rw [← List.drop_eq_getElem_cons hj1, List.take_append_drop]
  rw [hsp, List.map_append, List.map_cons, List.nodup_append, List.nodup_cons, slotE_mkE (by omega)] at hnd
  have hsub : ∀ x, x ∈ l.take j ++ l.drop (j + 1) → x ∈ l ∧ slotE x ≠ a := fun x hx => by
    rcases List.mem_append.1 hx with hx | hx
    · exact ⟨List.mem_of_mem_take hx, fun e => hnd.2.2 (slotE x) (List.mem_map.2 ⟨x, hx, rfl⟩) a (by simp) e⟩
    · exact ⟨List.mem_of_mem_drop hx, fun e => hnd.2.1.1 (List.mem_map.2 ⟨x, hx, e⟩)⟩
  refine ⟨updO own a (.due k), h.call ht hf (by simp) (fun g hg => by rw [List.mem_singleton.1 hg]; exact he64) (h.hp.hands (o := .due k) hheld rfl) (fun i _ => Spares.hands (hnw i)) (by simpa using h.hadL) h.empL (fun _ _ => rfl) ?_ ?_ ?_ (fun b i hb => (gone_upd (fun _ e => by cases e) hb).2)⟩
  · intro i e he
    by_cases ei : k = i
    · subst ei
      rw [getD_nil_eq hkh] at he
      obtain ⟨q1, q2⟩ := hsub e he
      obtain ⟨b, b1, b2, b3, b4⟩ := h.hadI k e (by rw [hl]; exact q1)
      have hba : b ≠ a := fun e2 => q2 (by rw [b4, slotE_mkE (by omega)]; exact e2)
      exact ⟨b, b1, b2, by rw [updO_ne hba]; exact b3, b4⟩
    · rw [getD_nil_ne ei] at he
      obtain ⟨b, b1, b2, b3, b4⟩ := h.hadI i e he
      have hba : b ≠ a := fun e2 => by
        rw [e2, h3] at b3
        injection b3 with b3
        omega
      exact ⟨b, b1, b2, by rw [updO_ne hba]; exact b3, b4⟩
  · intro i
    by_cases ei : k = i
    · subst ei
      rw [getD_nil_eq hkh, List.map_append, List.nodup_append]
      exact ⟨hnd.1, hnd.2.1.2, fun x hx y hy => hnd.2.2 x hx y (List.mem_cons_of_mem _ hy)⟩
    · rw [getD_nil_ne ei]
      exact h.hadN i
  · exact .g0 _ a rfl h1 h2 (updO_eq _ _ _)
/-- All threads within nothing: each slot is held, or free. -/
theorem CrS.rest (h : CrS c s own L G had emp n) (hn : n ≤ 900000) (hi : Idle s.ths.length s) : Free c s.mem.ws s.gd L G := by
  have hng : ∀ a k, own a ≠ .gone k := fun a k e => by
    obtain ⟨t, f, h1, h2, _⟩ := h.gone a k e
    rw [hi k t (List.getElem?_eq_some_iff.1 h1).1 h1] at h2
    cases h2
  refine ⟨h.hp.len, h.hp.sm, h.hp.glen, h.hp.gq, h.hp.gw, fun g hg => by have := h.hp.gn g hg; omega, h.hp.chain, h.hp.nd, fun a ha => ⟨((h.hp.fr a).1 ha).1, ((h.hp.fr a).1 ha).2.1⟩, h.hp.hnd, fun a ha => ⟨((h.hp.hl a).1 ha).1, ((h.hp.hl a).1 ha).2.1⟩, fun a h1 h2 => ?_, h.hp.slips⟩
  rw [h.hp.hl, h.hp.fr]
  cases ho : own a with
  | free => simp [Own.isHeld, h1, h2]
  | gone k => exact (hng a k ho).elim
  | used u => simp [Own.isHeld, h1, h2]
  | took k => simp [Own.isHeld, h1, h2]
  | due k => simp [Own.isHeld, h1, h2]
theorem getD_rep_nil (m j : Nat) : (List.replicate m ([] : List Nat)).getD j [] = [] := by
  rw [List.getD_eq_getElem?_getD, List.getElem?_replicate]
  split <;> rfl
def own0 (c : ConfS) : Nat → Own := fun s => if 6 ≤ s ∧ (s : Int) ≤ c.slots then .free else .used 0
theorem heap_start (ho : c.Ok) : HeapC c (words0 c) (gdK c 5) (own0 c) (L0 (c.slots.toNat - 5)) (List.replicate c.slots.toNat 0) 0 := by
  have h := (start_rest17 ho).free
  have hs1 := ho.s1
  have e : ∀ s, s ∈ L0 (c.slots.toNat - 5) ↔ 6 ≤ s ∧ (s : Int) ≤ c.slots := fun s => by
    unfold L0
    rw [List.mem_map]
    constructor
    · rintro ⟨k, hk, rfl⟩
      have := List.mem_range.1 hk
      omega
    · intro h
      exact ⟨s - 6, List.mem_range.2 (by omega), by omega⟩
  have hge := wordsN_ge ho
  have h2 : (words0 c).getD 2 0 = headN 6 0 := by
    have hw0 : ∀ p, (∀ n, 1 ≤ n → p ≠ ixN c n 2 ∧ p ≠ ixN c n 4 ∧ p ≠ ixN c n 5) → (∀ j, p ≠ ixN c (6 + j) 0) → (words0 c).getD p 0 = ((((List.replicate (wordsN c) 0).set 0 1).set 1 3).set 2 (headN 6 0)).getD p 0 := fun p h1 h2 => by
      unfold words0
      rw [linkW_ne h2, treeW_ne h1]
    rw [hw0 2 (fun n _ => ⟨ixN_two c n 2, ixN_two c n 4, ixN_two c n 5⟩) (fun j => ixN_two c _ 0), getD_set_eq (by simp; omega)]
  refine ⟨ho, h.len, h.sm, h.glen, h.gq, h.gw, fun g hg => by rw [List.eq_of_mem_replicate hg]; exact Nat.le_refl 0, h.chain, h.nd, fun s => ?_, h.hnd, fun s => ?_, rfl, by rw [h2]; decide⟩
  · rw [e]
    unfold own0
    split
    · rename_i h3
      simp [h3]
      omega
    · rename_i h3
      simp [h3]
  · have hh : s ∈ (gdK c 5).held ↔ 1 ≤ s ∧ s ≤ 5 := by
      rw [held_start c]
      simp only [List.mem_cons, List.not_mem_nil, or_false]
      omega
    rw [hh]
    unfold own0
    split
    · simp [Own.isHeld]
      omega
    · simp [Own.isHeld]
      omega
theorem sc_start (ho : c.Ok) : CrS c (MS.start c (gdK c 5) c.thr.toNat) (own0 c) (L0 (c.slots.toNat - 5)) (List.replicate c.slots.toNat 0) (List.replicate c.thr.toNat []) (List.replicate c.thr.toNat false) 0 := by
  refine ⟨heap_start ho, rfl, List.length_replicate .., rfl, rfl, by show (0 : Int) ≤ 0; decide, by show (0 : Int) ≤ _; omega, by show (0 : Int) ≤ 0; decide, by show (0 : Int) ≤ _; omega, List.length_replicate .., List.length_replicate .., fun k e he => ?_, fun k => ?_, fun k t ht => .inl ?_, fun a k ha => ?_⟩
  · rw [getD_rep_nil] at he
    cases he
  · rw [getD_rep_nil]
    exact List.nodup_nil
  · rw [List.eq_of_mem_replicate (List.mem_of_getElem? (show (List.replicate c.thr.toNat ThS.zero)[k]? = some t from ht))]
    rfl
  · unfold own0 at ha
    split at ha <;> cases ha
theorem leftS_le (hd : Nat) (f : FrS) : leftS hd f ≤ 6 ∧ 0 < leftS hd f := by
  unfold leftS
  repeat' split
  all_goals decide
theorem crowd_sl (c : ConfS) : Crowd c.thr.toNat 10 5000 (fun _ => True) SlotsOk (fun _ => PS.slots) leftM (fun n s => n ≤ 5000 ∧ ∃ own L G had emp, CrS c s own L G had emp n) := by
  have key : ∀ {n k : Nat} {s : MS} {own : Nat → Own} {L G : List Nat} {had : List (List Nat)} {emp : List Bool} {t : ThS}, CrS c s own L G had emp n → s.ths[k]? = some t → 0 < t.frs.length → ∃ f, t.frs = [f] := fun {n k s own L G had emp t} h ht hp => by
    rcases h.th k t ht with h1 | ⟨f, h1, _⟩
    · rw [h1] at hp; simp at hp
    · exact ⟨f, h1⟩
  refine ⟨fun _ _ _ => trivial, fun n s ⟨_, own, L, G, had, emp, h⟩ => h.thl, fun n s k t _ _ => ?_, fun n s k t ⟨_, own, L, G, had, emp, h⟩ ht hp => ?_, fun n s k t hn ⟨_, own, L, G, had, emp, h⟩ ht hp => ?_⟩
  · unfold leftM
    split
    · omega
    · have := (leftS_le (s.mem.ws.getD 2 0) (by assumption)).1
      omega
  · obtain ⟨f, hf⟩ := key h ht hp
    rw [leftM_one hf]
    exact (leftS_le _ _).2
  · obtain ⟨f, hf⟩ := key h ht hp
    obtain ⟨_, a1, a2, ⟨own', L', G', a3⟩, a4⟩ := sc_step h (by omega) ht hf
    refine ⟨a1, a2, ⟨by omega, ?_⟩, a4⟩
    cases a3 with
    | on _ b => exact ⟨_, _, _, _, _, b⟩
    | told _ _ _ _ _ _ _ _ _ _ _ b => exact ⟨_, _, _, _, _, b⟩
    | none_ _ _ _ _ _ _ b => exact ⟨_, _, _, _, _, b⟩
    | gave _ _ b => exact ⟨_, _, _, _, _, b⟩
end
end Go.Proofs.Ytlbhjahmgdghoaa
