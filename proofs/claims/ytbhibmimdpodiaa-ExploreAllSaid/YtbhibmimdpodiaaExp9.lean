/- Explore: from, by its contract. Conditions: as ahead. -/
import Derived.Test.YtbhibmimdpodiaaExp8
namespace Go.Proofs.Ytbhibmimdpodiaa
open Go.RowKit

def FromOk (B fb ib ab tb kb yb hb mb rb T M k : Nat) (ls : List (List (Int × Int))) (till : Int) (d : Nat) : Prop := ∀ (w : World) (i : Nat) (v : Value) (p : List (Int × Int)), FSt w fb ib ab tb kb yb hb mb rb T M k → YSt w B fb ib ab tb ls till i → w.ownsRow 0 94 2 v p.length (prL p) → p.length + d = k → (∀ q ∈ p, 0 ≤ q.1) → HasAt ls i p (extP T M d (lastP (-1) p)) → i ≤ ls.length →
    Calls Try.prog 44 #[v, .pointer (some ⟨kb, 0, none⟩), .pointer (some ⟨yb, 0, none⟩), .pointer (some ⟨hb, 0, none⟩), .pointer (some ⟨mb, 0, none⟩), .pointer (some ⟨rb, 0, none⟩)] w (FromOut B fb ib ab tb ls till i (extP T M d (lastP (-1) p)).length v p w)
/-- The loop's state. -/
structure FRnd (w0 w : World) (B fb ib ab tb : Nat) (ls : List (List (Int × Int))) (till : Int) (T M d i : Nat) (v : Value) (p : List (Int × Int)) (n : Nat) : Prop where
  hk : Keep (fb :: ib :: v.ownBlock.toList) w0 w
  y : YSt w B fb ib ab tb ls till (i + n * szP T M d false)
  own : w.ownsRow 0 94 2 v p.length (prL p)
  has : HasAt ls (i + n * szP T M d false) p (((optsP T M (lastP (-1) p)).drop n).flatMap fun t => (extP T M d t.1).map (t :: ·))
  le : i + n * szP T M d false ≤ ls.length
  go : ¬ ((i : Int) < till ∧ till ≤ ((i + n * szP T M d false : Nat) : Int))
theorem row_ne {w : World} {base n : Nat} {v : Value} {xs : List Value} (h : w.ownsRow base 94 2 v n xs) : ∀ b t cs, Blk w b t cs → t ≠ 94 → b ∉ v.ownBlock.toList := fun b t cs hb ht hm => by
  have hm' : v.ownBlock = some b := by simpa using hm
  obtain ⟨cs', hb'⟩ := own_blk h hm'
  exact hb.ne_ hb' ht rfl
theorem opts_drop {T M n : Nat} {last : Int} (h : n < chN T M (decide (last < 0))) : (optsP T M last).drop n = turnP M last n :: (optsP T M last).drop (n + 1) := by
  have hl : n < (optsP T M last).length := by simpa [optsP] using h
  rw [List.drop_eq_getElem_cons hl]
  congr 1
  simp [optsP]
theorem ext_sz (T M d : Nat) (last : Int) (n : Nat) : (extP T M d (turnP M last n).1).length = szP T M d false := by
  have := turnP_nonneg M last n
  rw [extP_len, decide_eq_false (by omega)]
theorem endP_go {till : Int} {i m : Nat} (h : ¬ ((i : Int) < till ∧ till ≤ ((i + m : Nat) : Int))) : endP till i m = (true, i + m) := if_neg h
theorem endP_stop {till : Int} {i m : Nat} (h : (i : Int) < till ∧ till ≤ ((i + m : Nat) : Int)) : endP till i m = (false, till.toNat) := if_pos h
theorem FSt.keep0 {w w' : World} {fb ib ab tb kb yb hb mb rb T M k : Nat} {S : List Nat} (h : FSt w fb ib ab tb kb yb hb mb rb T M k) (hk : Keep S w w') (hs : ∀ b t cs, Blk w b t cs → t ≠ 94 → b ∉ S) : FSt w' fb ib ab tb kb yb hb mb rb T M k := by
  obtain ⟨cf, hf0⟩ := h.f
  obtain ⟨ci, hi0⟩ := h.iy
  exact ⟨h.k_.keep hk (hs _ _ _ h.k_ (by decide)), h.y.keep hk (hs _ _ _ h.y (by decide)), h.h.keep hk (hs _ _ _ h.h (by decide)), h.m.keep hk (hs _ _ _ h.m (by decide)), h.r.keep hk (hs _ _ _ h.r (by decide)), ⟨cf, hf0.keep hk (hs _ _ _ hf0 (by decide))⟩, h.nk, h.nh, h.nm, ⟨ci, hi0.keep hk (hs _ _ _ hi0 (by decide))⟩⟩
section
variable {w0 w x1 x2 : World} {B fb ib ab tb T M d i n : Nat} {ls : List (List (Int × Int))} {till : Int} {v v' : Value} {p : List (Int × Int)}
theorem FRnd.next (h : FRnd w0 w B fb ib ab tb ls till T M d i v p n) (hn : n < chN T M (decide (lastP (-1) p < 0))) :
    HasAt ls (i + n * szP T M d false) (p ++ [turnP M (lastP (-1) p) n]) (extP T M d (lastP (-1) (p ++ [turnP M (lastP (-1) p) n]))) ∧ (extP T M d (lastP (-1) (p ++ [turnP M (lastP (-1) p) n]))).length = szP T M d false ∧
    HasAt ls (i + (n + 1) * szP T M d false) p (((optsP T M (lastP (-1) p)).drop (n + 1)).flatMap fun t => (extP T M d t.1).map (t :: ·)) ∧ i + (n + 1) * szP T M d false ≤ ls.length := by
  have h1 := h.has
  rw [opts_drop hn] at h1
  obtain ⟨h2, h3⟩ := h1.step (f := fun t => extP T M d t.1)
  rw [lastP_snoc]
  have hs := ext_sz T M d (lastP (-1) p) n
  simp only [hs] at h3
  have h4 := h2.le h.le
  simp only [hs] at h4
  refine ⟨h2, hs, ?_, ?_⟩
  · rw [Nat.add_mul, Nat.one_mul, ← Nat.add_assoc]
    exact h3
  · rw [Nat.add_mul, Nat.one_mul, ← Nat.add_assoc]
    exact h4
theorem FRnd.all (h : FRnd w0 w B fb ib ab tb ls till T M d i v p n) (hn : n = chN T M (decide (lastP (-1) p < 0))) : endP till i (extP T M (d + 1) (lastP (-1) p)).length = (true, i + n * szP T M d false) := by
  rw [extP_len, show szP T M (d + 1) (decide (lastP (-1) p < 0)) = n * szP T M d false by rw [hn]; rfl]
  exact endP_go h.go
theorem FRnd.stop (h : FRnd w0 w B fb ib ab tb ls till T M d i v p n) (hn : n < chN T M (decide (lastP (-1) p < 0))) (hs : ((i + n * szP T M d false : Nat) : Int) < till ∧ till ≤ ((i + n * szP T M d false + szP T M d false : Nat) : Int)) : endP till i (extP T M (d + 1) (lastP (-1) p)).length = (false, till.toNat) := by
  rw [extP_len]
  refine endP_stop ⟨by omega, ?_⟩
  show till ≤ ((i + chN T M (decide (lastP (-1) p < 0)) * szP T M d false : Nat) : Int)
  have h1 : (n + 1) * szP T M d false ≤ chN T M (decide (lastP (-1) p < 0)) * szP T M d false := Nat.mul_le_mul_right _ hn
  rw [Nat.add_mul, Nat.one_mul] at h1
  generalize n * szP T M d false = a at *
  generalize chN T M (decide (lastP (-1) p < 0)) * szP T M d false = b at *
  generalize szP T M d false = c at *
  omega
theorem FRnd.ask {kb yb hb mb rb k : Nat} (h : FRnd w0 w B fb ib ab tb ls till T M d i v p n) (IH : FromOk B fb ib ab tb kb yb hb mb rb T M k ls till d) (hn : n < chN T M (decide (lastP (-1) p < 0))) (hp : p.length + 1 + d = k) (hq : ∀ q ∈ p, 0 ≤ q.1) (w' : World) (v' : Value) (hF : FSt w' fb ib ab tb kb yb hb mb rb T M k) (hY : YSt w' B fb ib ab tb ls till (i + n * szP T M d false)) (hown : w'.ownsRow 0 94 2 v' (p.length + 1) (prL p ++ prC (turnP M (lastP (-1) p) n))) :
    Calls Try.prog 44 #[v', .pointer (some ⟨kb, 0, none⟩), .pointer (some ⟨yb, 0, none⟩), .pointer (some ⟨hb, 0, none⟩), .pointer (some ⟨mb, 0, none⟩), .pointer (some ⟨rb, 0, none⟩)] w' (fun r w2 => r = .returned (.bool (endP till (i + n * szP T M d false) (szP T M d false)).1) ∧ YSt w2 B fb ib ab tb ls till (endP till (i + n * szP T M d false) (szP T M d false)).2 ∧ w2.ownsRow 0 94 2 v' (p.length + 1) (prL p ++ prC (turnP M (lastP (-1) p) n)) ∧ Keep (fb :: ib :: v'.ownBlock.toList) w' w2) := by
  obtain ⟨h1, h2, _, _⟩ := h.next hn
  have e1 : (p ++ [turnP M (lastP (-1) p) n]).length = p.length + 1 := by simp
  have e2 : prL (p ++ [turnP M (lastP (-1) p) n]) = prL p ++ prC (turnP M (lastP (-1) p) n) := by rw [prL_app]; simp [prL]
  have := IH w' (i + n * szP T M d false) v' (p ++ [turnP M (lastP (-1) p) n]) hF hY (by rw [e1, e2]; exact hown) (by rw [e1]; exact hp) (fun q hqm => by
    rcases List.mem_append.1 hqm with hm | hm
    · exact hq q hm
    · rw [List.mem_singleton.1 hm]
      exact turnP_nonneg _ _ _) h1 h.le
  rw [h2] at this
  unfold FromOut at this
  rw [e1, e2] at this
  exact this
/-- What a round leaves. -/
theorem FRnd.kept (h : FRnd w0 w B fb ib ab tb ls till T M d i v p n) (hx : Keep [] w x1) {x3 : World} {t : Int × Int} (hg : x1.grownBy x2 v.ownBlock) (hat : (v'.ownBlock = some x1.heap.size ∧ x1.grownBy x2 none) ∨ ∃ g cap, v = .slice (some ⟨g, 0, none⟩) p.length cap ∧ v' = .slice (some ⟨g, 0, none⟩) (p.length + 1) cap) (h2 : x3.ownsRow 0 94 2 v' (p.length + 1) (prL p ++ prC t)) (hk : Keep (fb :: ib :: v'.ownBlock.toList) x2 x3) : x3.ownsRow 0 94 2 v p.length (prL p) ∧ Keep (fb :: ib :: v.ownBlock.toList) w0 x3 := by
  have ho := own_keep h.own hx (by simp)
  have hfi : ∀ x, x = fb ∨ x = ib → v.ownBlock ≠ some x := fun x hx hv => by
    obtain ⟨cs, hb⟩ := own_blk h.own hv
    rcases hx with rfl | rfl
    · exact hb.ne_ h.y.f (by decide) rfl
    · exact hb.ne_ h.y.i_ (by decide) rfl
  refine ⟨row_back ho hat h2 hk (fun x hx => ?_), ?_⟩
  · simp only [List.mem_cons, Option.mem_toList, Option.mem_def] at hx
    rcases hx with hx | hx | hx
    · exact .inr (hfi x (.inl hx))
    · exact .inr (hfi x (.inr hx))
    · exact .inl hx
  · have h01 := h.hk.trans hx (by simp)
    have h02 := h01.trans (Keep.of_grown hg) (fun x hx => .inl (by simp only [List.mem_cons]; exact .inr (.inr hx)))
    refine h02.trans hk (fun x hx => ?_)
    simp only [List.mem_cons, Option.mem_toList, Option.mem_def] at hx
    rcases hx with hx | hx | hx
    · exact .inl (by simp [hx])
    · exact .inl (by simp [hx])
    · rcases hat with ⟨hn, _⟩ | ⟨g, cap, rfl, rfl⟩
      · rw [hn] at hx
        injection hx with hx
        have := h01.size
        exact .inr (by omega)
      · exact .inl (by simp only [List.mem_cons, Option.mem_toList, Option.mem_def]; exact .inr (.inr hx))
end
end Go.Proofs.Ytbhibmimdpodiaa
