/- Explore: from, by its contract: the leaf. Conditions: what the law's closure holds; the schedules told are those that come next. -/
import Derived.Test.YtbhibmimdpodiaaExp7
namespace Go.Proofs.Ytbhibmimdpodiaa
open Go.RowKit

def HasAt (ls : List (List (Int × Int))) (i : Nat) (p : List (Int × Int)) (L : List (List (Int × Int))) : Prop := ∃ rest, ls.drop i = L.map (p ++ ·) ++ rest
/-- Where one stands behind so many more, and whether one goes on. -/
def endP (till : Int) (i m : Nat) : Bool × Nat := if (i : Int) < till ∧ till ≤ ((i + m : Nat) : Int) then (false, till.toNat) else (true, i + m)
section
variable {ls : List (List (Int × Int))} {i : Nat} {p : List (Int × Int)} {till : Int}
theorem HasAt.leaf (h : HasAt ls i p [[]]) : i < ls.length ∧ ls.getD i [] = p := by
  obtain ⟨rest, h⟩ := h
  have h0 : (ls.drop i)[0]? = some p := by rw [h]; simp
  rw [List.getElem?_drop, Nat.add_zero] at h0
  have hlt := (List.getElem?_eq_some_iff.1 h0).1
  exact ⟨hlt, by rw [List.getD_eq_getElem?_getD, h0]; rfl⟩
theorem HasAt.step {t : Int × Int} {os : List (Int × Int)} {f : Int × Int → List (List (Int × Int))} (h : HasAt ls i p ((t :: os).flatMap fun t => (f t).map (t :: ·))) : HasAt ls i (p ++ [t]) (f t) ∧ HasAt ls (i + (f t).length) p (os.flatMap fun t => (f t).map (t :: ·)) := by
  obtain ⟨rest, h⟩ := h
  rw [List.flatMap_cons, List.map_append, List.map_map, List.append_assoc] at h
  have e : (fun x => p ++ x) ∘ (fun x => t :: x) = fun x => (p ++ [t]) ++ x := by
    funext x
    simp
  refine ⟨⟨_, by rw [h, e]⟩, rest, ?_⟩
  rw [← List.drop_drop, h, List.drop_append_of_le_length (by simp), List.drop_of_length_le (by simp), List.nil_append]
theorem HasAt.le {L : List (List (Int × Int))} (h : HasAt ls i p L) (hi : i ≤ ls.length) : i + L.length ≤ ls.length := by
  obtain ⟨rest, h⟩ := h
  have := congrArg List.length h
  simp at this
  omega
theorem endP_one (till : Int) (i : Nat) : endP till i 1 = (((i : Nat) : Int) + 1 != till, i + 1) := by
  unfold endP
  by_cases h : ((i : Nat) : Int) + 1 = till
  · rw [if_pos (by omega), ← h]
    simp
  · rw [if_neg (by omega)]
    simp [h]
end
def capsF (kb yb hb mb rb : Nat) : Array Value := #[.pointer (some ⟨kb, 0, none⟩), .pointer (some ⟨yb, 0, none⟩), .pointer (some ⟨hb, 0, none⟩), .pointer (some ⟨mb, 0, none⟩), .pointer (some ⟨rb, 0, none⟩)]
def capsY (fb ib ab tb : Nat) : Array Value := #[.pointer (some ⟨fb, 0, none⟩), .pointer (some ⟨ib, 0, none⟩), .pointer (some ⟨ab, 0, none⟩), .pointer (some ⟨tb, 0, none⟩)]
/-- What from has hold of. -/
structure FSt (w : World) (fb ib ab tb kb yb hb mb rb T M k : Nat) : Prop where
  k_ : Blk w kb 3 #[.int .i64 (k : Nat)]
  y : Blk w yb 55 #[.func (.func 23) #[] (capsY fb ib ab tb)]
  h : Blk w hb 3 #[.int .i64 (T : Nat)]
  m : Blk w mb 3 #[.int .i64 (M : Nat)]
  r : Blk w rb 55 #[.func (.func 44) #[] (capsF kb yb hb mb rb)]
  f : ∃ cs, Blk w fb 4 cs
  nk : kb ≠ ib
  nh : hb ≠ ib
  nm : mb ≠ ib
  iy : ∃ cs, Blk w ib 3 cs
theorem FSt.keep {w w' : World} {fb ib ab tb kb yb hb mb rb T M k : Nat} {S : List Nat} (h : FSt w fb ib ab tb kb yb hb mb rb T M k) (hk : Keep (fb :: ib :: S) w w') (hs : ∀ b t cs, Blk w b t cs → t ≠ 94 → b ∉ S) (hf : ∃ cs, Blk w' fb 4 cs) (hi : ∃ cs, Blk w' ib 3 cs) : FSt w' fb ib ab tb kb yb hb mb rb T M k := by
  obtain ⟨cf, hf0⟩ := h.f
  obtain ⟨ci, hi0⟩ := h.iy
  have hn : ∀ b t cs, Blk w b t cs → t ≠ 94 → b ≠ fb → b ≠ ib → b ∉ fb :: ib :: S := fun b t cs hb ht h1 h2 hm => by
    simp only [List.mem_cons] at hm
    rcases hm with hm | hm | hm
    · exact h1 hm
    · exact h2 hm
    · exact hs b t cs hb ht hm
  exact ⟨h.k_.keep hk (hn _ _ _ h.k_ (by decide) (h.k_.ne_ hf0 (by decide)) h.nk), h.y.keep hk (hn _ _ _ h.y (by decide) (h.y.ne_ hf0 (by decide)) (h.y.ne_ hi0 (by decide))), h.h.keep hk (hn _ _ _ h.h (by decide) (h.h.ne_ hf0 (by decide)) h.nh), h.m.keep hk (hn _ _ _ h.m (by decide) (h.m.ne_ hf0 (by decide)) h.nm), h.r.keep hk (hn _ _ _ h.r (by decide) (h.r.ne_ hf0 (by decide)) (h.r.ne_ hi0 (by decide))), hf, h.nk, h.nh, h.nm, hi⟩
def FromOut (B fb ib ab tb : Nat) (ls : List (List (Int × Int))) (till : Int) (i m : Nat) (v : Value) (p : List (Int × Int)) (w : World) (r : Ending) (w' : World) : Prop :=
  r = .returned (.bool (endP till i m).1) ∧ YSt w' B fb ib ab tb ls till (endP till i m).2 ∧ w'.ownsRow 0 94 2 v p.length (prL p) ∧ Keep (fb :: ib :: v.ownBlock.toList) w w'
set_option maxHeartbeats 1000000 in
theorem from_leaf (w : World) (B fb ib ab tb kb yb hb mb rb T M k : Nat) (ls : List (List (Int × Int))) (till : Int) (i : Nat) (v : Value) (p : List (Int × Int)) (hF : FSt w fb ib ab tb kb yb hb mb rb T M k) (hY : YSt w B fb ib ab tb ls till i) (hown : w.ownsRow 0 94 2 v p.length (prL p)) (hpk : p.length = k) (hk4 : k ≤ 4) (hA : HasAt ls i p [[]]) (hl : ls.length ≤ 3000) :
    Calls Try.prog 44 #[v, .pointer (some ⟨kb, 0, none⟩), .pointer (some ⟨yb, 0, none⟩), .pointer (some ⟨hb, 0, none⟩), .pointer (some ⟨mb, 0, none⟩), .pointer (some ⟨rb, 0, none⟩)] w (FromOut B fb ib ab tb ls till i 1 v p w) := by
  have HY := Lib.hid hY
  have HF := Lib.hid hF
  have HO := Lib.hid hown
  have HI := Lib.hid hA.leaf
  have HL := Lib.hid hl
  have HP4 := Lib.hid (show p.length ≤ 4 by omega)
  obtain ⟨A, c, rfl⟩ := own_form hown
  have hk0 := hF.k_.cell 0
  have hy0 := hF.y.cell 0
  have hb : ((p.length : Nat) : Int) = ((k : Nat) : Int) := by omega
  obtain ⟨cf, hcf⟩ := hF.f
  obtain ⟨ci, hci⟩ := hF.iy
  have HNY := Lib.hid (And.intro (hF.y.ne_ hcf (by decide)) (hF.y.ne_ hci (by decide)))
  clear hF hY hown hpk hk4 hA hl hcf hci
  go_enter Try.func44, Try.ntmps44
  go_wp2_with fail
  clear hb
  go_region_held3 (fun w' => w'.cell? ⟨yb, 0, none⟩ = some (.func (.func 23) #[] (capsY fb ib ab tb))) (first | exact hy0 | go_keep) (first
    | (go_at_call 45; refine (exp_clone _ 0 _ p (own_keep HO.out ((Keep.refl [] _).drew) (by simp)) HP4.out).mono ?_; rintro r x ⟨hk, A2, c2, rfl, ht⟩; have HKX := Lib.hid hk; have HTX := Lib.hid ht; have HFX := Lib.hid (HF.out.y.drew.keep hk (by simp)); have hy0 : x.cell? ⟨yb, 0, none⟩ = some (.func (.func 23) #[] (capsY fb ib ab tb)) := HFX.out.cell 0; clear hk ht)
    | (go_at_call 23; refine (yield_one _ B fb ib ab tb ls till i (HY.out.keep (((Keep.refl [] _).drew).trans HKX.out (by simp)) (by simp)) HL.out HI.out.1 A2 p c2 HI.out.2 HTX.out (by have := HP4.out; omega)).mono ?_; rintro r y ⟨rfl, hk, hy⟩; have HKY := Lib.hid hk; have HYY := Lib.hid hy; have HFY := Lib.hid (HFX.out.keep hk (by simp [HNY.out.1, HNY.out.2])); have hy0 : y.cell? ⟨yb, 0, none⟩ = some (.func (.func 23) #[] (capsY fb ib ab tb)) := HFY.out.cell 0; clear hk hy))
  clear hk0 hy0
  go_wp2
  go_ret
  have hne : ∀ g, (Value.slice A p.length c).ownBlock = some g → g ∉ [fb, ib] := fun g hg hm => by
    obtain ⟨cs, hb⟩ := own_blk HO.out hg
    obtain ⟨cf, hcf⟩ := HF.out.f
    obtain ⟨ci, hci⟩ := HF.out.iy
    simp only [List.mem_cons, List.not_mem_nil, or_false] at hm
    rcases hm with rfl | rfl
    · exact hb.ne_ hcf (by decide) rfl
    · exact hb.ne_ hci (by decide) rfl
  have hke := (((Keep.refl [] w).drew).trans HKX.out (by simp)).mono (S' := [fb, ib]) (by simp)
  have hk2 := hke.trans HKY.out (fun x hx => .inl hx)
  refine ⟨by rw [endP_one]; rfl, by rw [endP_one]; exact HYY.out, own_keep HO.out hk2 hne, hk2.mono (by simp)⟩
end Go.Proofs.Ytbhibmimdpodiaa
