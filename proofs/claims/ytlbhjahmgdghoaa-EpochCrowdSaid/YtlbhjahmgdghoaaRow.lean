/- A slice that reads as cells. Plain lemmas. -/
import Derived.Test.YtlbhjahmgdghoaaW0
namespace Go.Proofs.Ytlbhjahmgdghoaa
open Go.RowKit

/-- A slice value, not nil, that reads as the cells xs; its block is one that may be. -/
def RowI (w : World) (ok : Nat → Prop) (t : TypeId) (v : Value) (xs : List Value) : Prop :=
  ∃ b o cap cs, v = .slice (some ⟨b, o, none⟩) xs.length cap ∧ xs.length ≤ cap ∧ Blk w b t cs ∧ (∀ k u, xs[k]? = some u → cs[o + k]? = some u) ∧ ok b
theorem RowI.mono {w : World} {ok ok' : Nat → Prop} {t : TypeId} {v : Value} {xs : List Value} (h : RowI w ok t v xs) (hk : ∀ b, b < w.heap.size → ok b → ok' b) : RowI w ok' t v xs := by
  obtain ⟨b, o, cap, cs, h1, h2, h3, h4, h5⟩ := h
  exact ⟨b, o, cap, cs, h1, h2, h3, h4, hk b h3.lt h5⟩
theorem RowI.keep {w w' : World} {ok : Nat → Prop} {t : TypeId} {v : Value} {xs : List Value} {S : List Nat} (h : RowI w ok t v xs) (hk : Keep S w w') (hs : ∀ b, ok b → b ∉ S) : RowI w' ok t v xs := by
  obtain ⟨b, o, cap, cs, h1, h2, h3, h4, h5⟩ := h
  exact ⟨b, o, cap, cs, h1, h2, h3.keep hk (hs b h5), h4, h5⟩
theorem RowI.keep0 {w w' : World} {ok : Nat → Prop} {t : TypeId} {v : Value} {xs : List Value} (h : RowI w ok t v xs) (hk : Keep [] w w') : RowI w' ok t v xs := h.keep hk (by simp)
theorem RowI.of_own {w : World} {base : Nat} {t : TypeId} {v : Value} {n : Nat} {xs : List Value} (h : w.ownsRow base t 1 v n xs) (hn : 0 < n) : RowI w (base ≤ ·) t v xs := by
  obtain ⟨hl, ⟨_, h0⟩ | ⟨g, cap, cur, hv, hb, hr, hc, _, _, ht⟩⟩ := h
  · omega
  · have hl' : xs.length = n := by simpa using hl
    refine ⟨g, 0, cap, cur, by rw [hl']; exact hv, by omega, hr, fun k u hk => ?_, hb⟩
    have hk' : k < xs.length := (List.getElem?_eq_some_iff.1 hk).1
    have : (cur.toList.take n)[k]? = some u := by
      have e : n * 1 = n := Nat.mul_one n
      rw [e] at ht
      rw [ht]
      exact hk
    rw [List.getElem?_take_of_lt (by omega)] at this
    simpa using this
theorem RowI.far {w : World} {ok : Nat → Prop} {t t' : TypeId} {v : Value} {xs : List Value} {g : Nat} {cs : Array Value} (h : RowI w ok t v xs) (hg : Blk w g t' cs) (hne : t ≠ t') (j : Nat) (u : Value) : RowI (w.setCell ⟨g, j, none⟩ u) ok t v xs := by
  obtain ⟨b, o, cap, cs, h1, h2, h3, h4, h5⟩ := h
  exact ⟨b, o, cap, cs, h1, h2, h3.far (p := ⟨g, j, none⟩) (h3.ne_ hg hne) _, h4, h5⟩
/-- What is appended: it lies where the slice says. -/
theorem RowI.news {w : World} {b o : Nat} {t : TypeId} {cs : Array Value} {xs : List Value} (hb : Blk w b t cs) (hx : ∀ k u, xs[k]? = some u → cs[o + k]? = some u) : ∀ j u, xs[j]? = some u → w.cell? ((⟨b, o, none⟩ : Addr).add j) = some u := by
  intro j u hj
  have := hx j u hj
  show (w.cell? ((⟨b, o, none⟩ : Addr).add j)) = _
  by_cases h0 : j = 0
  · subst h0
    rw [show (⟨b, o, none⟩ : Addr).add 0 = ⟨b, o, none⟩ by simp [Addr.add]]
    rw [hb.cell]
    exact this
  · rw [show (⟨b, o, none⟩ : Addr).add j = ⟨b, o + j, none⟩ by simp [Addr.add, h0], hb.cell]
    exact this
theorem blk_word {w : World} {g : Nat} {l : List Nat} {xt : List Value} (h : Blk w g 22 (u64s l ++ xt).toArray) (k x : Nat) (hk : k < l.length) : Blk (w.setCell ⟨g, k, none⟩ (.int .u64 (x : Nat))) g 22 (u64s (l.set k x) ++ xt).toArray := by
  have e : (u64s (l.set k x) ++ xt).toArray = ((u64s l ++ xt).toArray).setIfInBounds k (.int .u64 (x : Nat)) := by
    simp [u64s, hk, List.map_set]
  rw [e]
  exact h.set_ k _
theorem own_u64s {w : World} {base n : Nat} {v : Value} {l : List Nat} (h : w.ownsRow base 22 1 v n (u64s l)) (hn : 0 < n) : ∃ g cap, v = .slice (some ⟨g, 0, none⟩) n cap ∧ base ≤ g ∧ n ≤ cap ∧ ∃ xt, Blk w g 22 (u64s l ++ xt).toArray := by
  obtain ⟨hl, ⟨_, h0⟩ | ⟨g, cap, cur, hv, hb, hr, hc, _, _, ht⟩⟩ := h
  · omega
  · refine ⟨g, cap, hv, hb, hc, cur.toList.drop n, ?_⟩
    rw [Nat.mul_one] at ht
    rw [← ht, List.take_append_drop]
    exact hr
theorem u64s_len (l : List Nat) : (u64s l).length = l.length := by simp [u64s]
end Go.Proofs.Ytlbhjahmgdghoaa
