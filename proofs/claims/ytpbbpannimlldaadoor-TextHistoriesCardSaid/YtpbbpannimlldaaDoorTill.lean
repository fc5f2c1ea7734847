/- A region that draws its order and whose last operation, a store, turns a cell that the region loads: S is asked of the world till then. Plain lemmas. -/
import Derived.Test.YtpbbpannimlldaaDoorProg
import Derived.WalkKit
import Derived.Deep.RegionHeld3
import Derived.StillTail
namespace Go.Proofs.YtpbbpannimlldaaDoor
open Go.RowKit

section
variable {P : Program} {ops : Array Oper} {Q : Exit → Act → World → Prop} {S : World → Prop}

/-- Whatever order is picked, so many operations come up, S behind each, till T. -/
def tillT (P : Program) (ops : Array Oper) (Q : Exit → Act → World → Prop) (S : World → Prop) (T : Array Bool → Act → World → Prop) : Nat → Array Bool → Act → World → Prop
  | 0, l, a, w => T l a w
  | f + 1, l, a, w => Region.ready .any ops l ≠ [] ∧ ∀ i ∈ Region.ready .any ops l, wpOp P ops Q i (fun a' w' => S w' ∧ tillT P ops Q S T f (l.setIfInBounds i true) a' w') a w
/-- Number n alone is left. -/
def LastT (P : Program) (ops : Array Oper) (Q : Exit → Act → World → Prop) (n : Nat) (l : Array Bool) (a : Act) (w : World) : Prop :=
  Region.ready .any ops l = [n] ∧ Region.ready .any ops (l.setIfInBounds n true) = [] ∧ wpOp P ops Q n (Q .normal) a w
theorem tillT_any {n : Nat} : ∀ (f : Nat) (l : Array Bool) (a : Act) (w : World), tillT P ops Q S (LastT P ops Q n) f l a w → wpAny P .any ops Q (f + 1) l a w
  | 0, l, a, w, ⟨h1, h2, h3⟩ => ⟨fun h => (by rw [h1] at h; cases h), fun i hi => by
      rw [h1] at hi
      have e : i = n := by simpa using hi
      subst e
      exact wpOp_mono (fun a' w' h => ⟨h2, h⟩) h3⟩
  | f + 1, l, a, w, ⟨h1, h2⟩ => ⟨fun h => absurd h h1, fun i hi => wpOp_mono (fun a' w' h => tillT_any f _ a' w' h.2) (h2 i hi)⟩
theorem tillT_first {n i : Nat} {oi : Oper} {v : Value} (hi : ops[i]? = some oi) (hsel : ∀ (j : Nat) (o : Oper) cs b, ops[j]? = some o → o.op ≠ .select cs b) (hQ : ∀ c a w, Q (.panic c) (a.put oi.dst v) w → Q (.panic c) a w)
    (hn : Region.waitsFor .any ops n i = true) : ∀ (f : Nat) (l : Array Bool) (a : Act) (w : World),
      (∀ j oj, ops[j]? = some oj → j ≠ i → l.getD j true = false → (∀ e ∈ oj.after, Region.binds .any e = true → e.on ≠ i) → oi.apart ops oj = true) →
      i ∈ Region.ready .any ops l → YieldsIf P ops S oi v a → S w → tillT P ops Q S (LastT P ops Q n) f (l.setIfInBounds i true) (a.put oi.dst v) w → tillT P ops Q S (LastT P ops Q n) (f + 1) l a w := by
  intro f
  induction f with
  | zero =>
    intro l a w _ hr hy hS H
    refine ⟨fun h => (by rw [h] at hr; cases hr), fun j hj => ?_⟩
    by_cases hji : j = i
    · subst hji
      exact hy.wpOp hi hS ⟨hS, H⟩
    · have h1 := ready_mono hj hji
      rw [H.1] at h1
      have e : j = n := by simpa using h1
      subst e
      obtain ⟨oj, hoj, e, he, hb, hon⟩ := Region.waitsFor_spec hn
      obtain ⟨_, o2, ho2, hall⟩ := mem_ready.1 hj
      rw [hoj] at ho2
      cases ho2
      have h2 := hall e he hb
      rw [hon, getD_both (mem_ready.1 hr).1] at h2
      cases h2
  | succ f ih =>
    intro l a w hfree hr hy hS H
    have hun := (mem_ready.1 hr).1
    refine ⟨fun h => (by rw [h] at hr; cases hr), fun j hj => ?_⟩
    by_cases hji : j = i
    · subst hji
      exact hy.wpOp hi hS ⟨hS, H⟩
    · have h1 := H.2 j (ready_mono hj hji)
      obtain ⟨hjun, oj, hoj, hall⟩ := mem_ready.1 hj
      have hnot : ∀ e ∈ oj.after, Region.binds .any e = true → e.on ≠ i := fun e he hb heq => by
        have h2 := hall e he hb
        rw [heq, getD_both hun] at h2
        cases h2
      have h2 := wpOp_putIf hoj (hfree j oj hoj hji hjun hnot) (fun cs b => hsel i oi cs b hi) (fun cs b => hsel j oj cs b hoj) hQ hy h1
      refine wpOp_mono (fun a' w' h3 => ⟨h3.2.1, ih (l.setIfInBounds j true) a' w' (fun k ok hk hki hun2 hno => hfree k ok hk hki ?_ hno) (ready_mono hr (Ne.symm hji)) h3.1 h3.2.1 ?_⟩) h2
      · by_cases hjk : j = k
        · subst hjk
          exact hjun
        · rw [Go.getD_set_ne true hjk] at hun2
          exact hun2
      · rw [Array.setIfInBounds_comm _ _ hji]
        exact h3.2.2
end
section
variable {P : Program} {ops : Array Oper} {Q : Exit → Act → World → Prop} {S : World → Prop}
theorem tillT_take {n i f : Nat} {oi : Oper} {v : Value} {l : Array Bool} {a : Act} {w : World} (hi : ops[i]? = some oi) (hs : Region.noSelect ops = true) (hf : Region.free .any ops l i = true) (hr : (Region.ready .any ops l).contains i = true) (hw : Region.waitsFor .any ops n i = true)
    (hQ : ∀ c a w, Q (.panic c) (a.put oi.dst v) w → Q (.panic c) a w) (hy : YieldsIf P ops S oi v a) (hS : S w) (h : tillT P ops Q S (LastT P ops Q n) f (l.setIfInBounds i true) (a.put oi.dst v) w) : tillT P ops Q S (LastT P ops Q n) (f + 1) l a w :=
  tillT_first hi (Region.noSelect_spec hs) hQ hw f l a w (Region.free_spec hi hf) (by simpa using hr) hy hS h
theorem tillT_only {n i f : Nat} {o : Oper} {l : Array Bool} {a : Act} {w : World} (hr : Region.ready .any ops l = [i]) (ho : ops[i]? = some o)
    (h : ∀ K' : Act → World → Prop, Shut (∀ a w, S w → (S w → tillT P ops Q S (LastT P ops Q n) f (l.setIfInBounds i true) a w) → K' a w) → if Region.wanted o (yielded ops a.tmps) = true then Oper.wp P o a w K' Q else K' (a.put o.dst undef) w) : tillT P ops Q S (LastT P ops Q n) (f + 1) l a w := by
  refine ⟨fun h => (by rw [hr] at h; cases h), fun j hj => ?_⟩
  rw [hr] at hj
  have e : j = i := by simpa using hj
  subst e
  exact wpOp_step ho (fun K' hK => h K' (fun a w hS hW => hK a w ⟨hS, hW hS⟩))
theorem tillT_last {n : Nat} {o : Oper} {l : Array Bool} {a : Act} {w : World} (hr : Region.ready .any ops l = [n]) (hr2 : Region.ready .any ops (l.setIfInBounds n true) = []) (ho : ops[n]? = some o)
    (h : ∀ K' : Act → World → Prop, Shut (∀ a w, Q .normal a w → K' a w) → if Region.wanted o (yielded ops a.tmps) = true then Oper.wp P o a w K' Q else K' (a.put o.dst undef) w) : tillT P ops Q S (LastT P ops Q n) 0 l a w :=
  ⟨hr, hr2, wpOp_step ho (fun K' hK => h K' hK)⟩
theorem wp_region_till (n f : Nat) {id : Nat} {a : Act} {w : World} (hm : P.follows .mixedOrders = true) (hsz : ops.size = f + 1) (hS : S w.drew) (h : S w.drew → tillT P ops Q S (LastT P ops Q n) f (Array.replicate ops.size false) a w.drew) : (Code.region id ops true).wp P Q a w := by
  refine wp_region_any hm ?_
  have := tillT_any f _ _ _ (h hS)
  rw [hsz]
  rw [hsz] at this
  exact this
end
end Go.Proofs.YtpbbpannimlldaaDoor
