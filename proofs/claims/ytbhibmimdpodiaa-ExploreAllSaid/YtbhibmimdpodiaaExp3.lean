/- Turns in memory; explore.turn by its contract. Conditions: bounds of the chapter. -/
import Derived.Test.YtbhibmimdpodiaaExp2
namespace Go.Proofs.Ytbhibmimdpodiaa
open Go.RowKit

def prC (p : Int × Int) : List Value := [.int .i64 p.1, .int .i64 p.2]
def prL (l : List (Int × Int)) : List Value := l.flatMap prC
theorem prL_len : ∀ l : List (Int × Int), (prL l).length = l.length * 2
  | [] => rfl
  | p :: l => by
    have := prL_len l
    show (prC p ++ prL l).length = _
    rw [List.length_append, this, List.length_cons]
    show 2 + l.length * 2 = _
    omega
theorem prL_app (a b : List (Int × Int)) : prL (a ++ b) = prL a ++ prL b := by simp [prL]
theorem prL_at : ∀ (l : List (Int × Int)) (k j : Nat) (p : Int × Int), l[k]? = some p → j < 2 → (prL l)[k * 2 + j]? = (prC p)[j]?
  | [], k, j, p, h, _ => by simp at h
  | x :: l, 0, j, p, h, hj => by
    obtain rfl : x = p := by simpa using h
    show (prC x ++ prL l)[0 * 2 + j]? = _
    rw [List.getElem?_append_left (by show _ < 2; omega), Nat.zero_mul, Nat.zero_add]
  | x :: l, k + 1, j, p, h, hj => by
    show (prC x ++ prL l)[(k + 1) * 2 + j]? = _
    rw [List.getElem?_append_right (by show 2 ≤ _; omega), show (k + 1) * 2 + j - (prC x).length = k * 2 + j by show _ - 2 = _; omega]
    exact prL_at l k j p (by simpa using h) hj
theorem prL_one (l : List (Int × Int)) : ∀ u ∈ prL l, u.oneCell' = true := by
  intro u hu
  simp only [prL, List.mem_flatMap] at hu
  obtain ⟨p, _, hp⟩ := hu
  simp only [prC, List.mem_cons, List.not_mem_nil, or_false] at hp
  rcases hp with rfl | rfl <;> rfl
/-- Turns lie where an address says, in a block of type t. -/
def TurnsAt (t : TypeId) (w : World) (A : Option Addr) (l : List (Int × Int)) : Prop :=
  0 < l.length → ∃ b o cs, A = some ⟨b, o, none⟩ ∧ Blk w b t cs ∧ ∀ j u, (prL l)[j]? = some u → cs[o + j]? = some u
section
variable {w w' : World} {t : TypeId} {A : Option Addr} {l : List (Int × Int)} {S : List Nat}
theorem TurnsAt.keep (h : TurnsAt t w A l) (hk : Keep S w w') (hs : ∀ b cs, Blk w b t cs → b ∉ S) : TurnsAt t w' A l := fun h0 => by
  obtain ⟨b, o, cs, h1, h2, h3⟩ := h h0
  exact ⟨b, o, cs, h1, h2.keep hk (hs b cs h2), h3⟩
theorem TurnsAt.keep0 (h : TurnsAt t w A l) (hk : Keep [] w w') : TurnsAt t w' A l := h.keep hk (by simp)
theorem TurnsAt.at_ (h : TurnsAt t w A l) {k : Nat} (hk : k < l.length) : ∃ b o, A = some ⟨b, o, none⟩ ∧ w.cell? ⟨b, o + k * 2, none⟩ = some (.int .i64 (l.getD k (0, 0)).1) ∧ w.cell? ⟨b, o + k * 2 + 1, none⟩ = some (.int .i64 (l.getD k (0, 0)).2) := by
  obtain ⟨b, o, cs, h1, h2, h3⟩ := h (by omega)
  have hg : l[k]? = some (l.getD k (0, 0)) := by rw [List.getD_eq_getElem?_getD, List.getElem?_eq_getElem hk]; rfl
  have hc : ∀ j, j < 2 → w.cell? ⟨b, o + k * 2 + j, none⟩ = (prC (l.getD k (0, 0)))[j]? := fun j hj => by
    have e := prL_at l k j _ hg hj
    have hl : ((prC (l.getD k (0, 0)))[j]?) = some ((prC (l.getD k (0, 0)))[j]'(by show j < 2; omega)) := List.getElem?_eq_getElem _
    rw [hl] at e ⊢
    rw [h2.cell, Nat.add_assoc]
    exact h3 _ _ e
  exact ⟨b, o, h1, hc 0 (by omega), hc 1 (by omega)⟩
theorem TurnsAt.reads (h : TurnsAt t w A l) : Reads w w.heap.size 2 A l.length (prL l) := ⟨prL_len l, fun h0 => by
  obtain ⟨b, o, cs, h1, h2, h3⟩ := h h0
  exact ⟨_, h1, h2.lt, fun j u hj => by rw [Addr_add_off, h2.cell]; exact h3 j u hj⟩⟩
theorem TurnsAt.of_own {base n cap : Nat} (h : w.ownsRow base t 2 (.slice A n cap) l.length (prL l)) : TurnsAt t w A l := fun h0 => by
  obtain ⟨hl, ⟨_, h1⟩ | ⟨g, c, cur, hv, hb, hh, hc, hcm, hcs, ht⟩⟩ := h
  · omega
  · have hA : A = some ⟨g, 0, none⟩ := by injection hv
    refine ⟨g, 0, cur, hA, hh, fun j u hj => ?_⟩
    rw [← ht] at hj
    have hjl : j < l.length * 2 := by
      have := (List.getElem?_eq_some_iff.1 hj).1
      rw [List.length_take] at this
      omega
    rw [List.getElem?_take_of_lt hjl] at hj
    rw [Nat.zero_add]
    simpa using hj
theorem TurnsAt.nil (t : TypeId) (w : World) (A : Option Addr) : TurnsAt t w A [] := fun h => by simp at h
end
def turnV (p : Int × Int) : Value := .agg #[.int .i64 p.1, .int .i64 p.2]
theorem infoTurn : (Try.prog.info? 94).map (fun i => (i.zero, i.size, i.bytes)) = some (some (.agg #[.int .i64 0, .int .i64 0]), 2, 16) := by kernel_rfl
theorem infoT : (Try.prog.info? 95).map (fun i => (i.zero, i.size, i.bytes)) = some (some (.agg #[.int .i64 0, .int .i64 0]), 2, 16) := by kernel_rfl
set_option maxHeartbeats 1000000 in
theorem exp_turn (M n : Nat) (last : Int) (w : World) (h1 : 1 ≤ M) (h9 : M ≤ 1000) (hn : n < 1000000000000000) : Calls Try.prog 46 #[.int .i64 (M : Nat), .int .i64 last, .int .i64 (n : Nat)] w fun r w' => r = .returned (turnV (turnP M last n)) ∧ Keep [] w w' := by
  have hz1 : (1 : Int) ≤ ((M : Nat) : Int) := by omega
  have hz9 : ((M : Nat) : Int) ≤ 1000 := by omega
  have hzn : (0 : Int) ≤ ((n : Nat) : Int) := by omega
  have hzn2 : ((n : Nat) : Int) ≤ 1000000000000000 := by omega
  go_enter Try.func46, Try.ntmps46
  go_wp2_with fail
  go_region
  have hqn : n / M ≤ 1000000000000000 := Nat.le_trans (Nat.div_le_self _ _) (by omega)
  have hrn : n % M < M := Nat.mod_lt _ (by omega)
  have hq : wrap64 (((n : Nat) : Int) / ((M : Nat) : Int)) = ((n / M : Nat) : Int) := by
    rw [← Int.natCast_ediv]
    generalize n / M = q at hqn
    unfold wrap64
    omega
  have hr : wrap64 (((n : Nat) : Int) % ((M : Nat) : Int) + 1) = ((n % M : Nat) : Int) + 1 := by
    rw [← Int.natCast_emod]
    generalize n % M = q at hrn
    unfold wrap64
    omega
  rw [hq, hr]
  have HK := Lib.hid (((Keep.refl [] w).alloc (.cells #[.int .i64 0, .int .i64 0] 94)).alloc (.cells #[.int .i64 ((n / M : Nat) : Int), .int .i64 (((n % M : Nat) : Int) + 1)] 94)).drew
  have HT := Lib.hid (Blk.new (w.alloc (.cells #[.int .i64 0, .int .i64 0] 94)) 94 #[.int .i64 ((n / M : Nat) : Int), .int .i64 (((n % M : Nat) : Int) + 1)]).drew
  have HR := Lib.hid ((Blk.new w 94 #[.int .i64 0, .int .i64 0]).alloc (.cells #[.int .i64 ((n / M : Nat) : Int), .int .i64 (((n % M : Nat) : Int) + 1)] 94)).drew
  simp only [World.size_alloc] at HT
  have HTP : Hid (turnP M last n = (if 0 ≤ last ∧ last ≤ (n / M : Nat) then ((n / M : Nat) : Int) + 1 else ((n / M : Nat) : Int), ((n % M : Nat) : Int) + 1)) := Lib.hid rfl
  generalize ((w.alloc (.cells #[.int .i64 0, .int .i64 0] 94)).alloc (.cells #[.int .i64 ((n / M : Nat) : Int), .int .i64 (((n % M : Nat) : Int) + 1)] 94)).drew = w1 at HK HT HR ⊢
  have hqi : ((n / M : Nat) : Int) ≤ 1000000000000000 := by omega
  have hq0 : (0 : Int) ≤ ((n / M : Nat) : Int) := Int.natCast_nonneg _
  have hri : ((n % M : Nat) : Int) + 1 ≤ 1001 := by omega
  clear hq hr hqn hrn
  generalize ((n / M : Nat) : Int) = q at *
  generalize ((n % M : Nat) : Int) + 1 = r at *
  generalize hsb : w.heap.size = rb at *
  generalize htb : rb + 1 = tb at *
  have HNE := Lib.hid (show rb ≠ tb by omega)
  have HSB := Lib.hid hsb
  have HTB := Lib.hid htb
  clear hsb htb
  have ht0 := HT.out.cell 0
  have ht1 := HT.out.cell 1
  have hr0 := HR.out.cell 0
  have hr1 := HR.out.cell 1
  have hrf := HR.out.frozen
  have htf := HT.out.frozen
  have hne := HNE.out
  have hne2 := HNE.out.symm
  by_cases g1 : 0 ≤ last
  · by_cases g2 : last ≤ q
    · rw [if_pos ⟨g1, g2⟩] at HTP
      have HT2 := Lib.hid (HT.out.set_ 0 (.int .i64 (q + 1)))
      have HR2 := Lib.hid (HR.out.far (p := ⟨tb, 0, none⟩) hne (.int .i64 (q + 1)))
      have HZ := Lib.hid ((HR2.out.set_ 0 (.int .i64 (q + 1))).set_ 1 (.int .i64 r))
      have HK2 := Lib.hid ((((Keep.refl [rb, tb] w1).set_ (p := ⟨tb, 0, none⟩) (.int .i64 (q + 1)) (.inl (by simp))).set_ (p := ⟨rb, 0, none⟩) (.int .i64 (q + 1)) (.inl (by simp))).set_ (p := ⟨rb, 1, none⟩) (.int .i64 r) (.inl (by simp)))
      simp only [List.setIfInBounds_toArray, List.set] at HT2 HZ
      have hz0 := HZ.out.cell 0
      have hz1 := HZ.out.cell 1
      have ht2 := HT2.out.cell 0
      have ht3 := HT2.out.cell 1
      have hr2 := HR2.out.cell 0
      have hr3 := HR2.out.cell 1
      go_wp2
      refine bodyPost_ret (v := .agg #[.int .i64 (q + 1), .int .i64 r]) (by simp [results, Try.results46, go_sem, hz0, hz1]) rfl ?_
      exact ⟨by rw [HTP.out]; rfl, HK.out.trans HK2.out (fun x hx => .inr (by have := HSB.out; have := HTB.out; simp at hx; omega))⟩
    · have hg2 : ¬ q ≥ last := by omega
      rw [if_neg (fun h => g2 h.2)] at HTP
      have HZ := Lib.hid ((HR.out.set_ 0 (.int .i64 q)).set_ 1 (.int .i64 r))
      have HK2 := Lib.hid (((Keep.refl [rb] w1).set_ (p := ⟨rb, 0, none⟩) (.int .i64 q) (.inl (by simp))).set_ (p := ⟨rb, 1, none⟩) (.int .i64 r) (.inl (by simp)))
      simp only [List.setIfInBounds_toArray, List.set] at HZ
      have hz0 := HZ.out.cell 0
      have hz1 := HZ.out.cell 1
      go_wp2
      refine bodyPost_ret (v := .agg #[.int .i64 q, .int .i64 r]) (by simp [results, Try.results46, go_sem, hz0, hz1]) rfl ?_
      exact ⟨by rw [HTP.out]; rfl, HK.out.trans HK2.out (fun x hx => .inr (by have := HSB.out; simp at hx; omega))⟩
  · rw [if_neg (fun h => g1 h.1)] at HTP
    have HZ := Lib.hid ((HR.out.set_ 0 (.int .i64 q)).set_ 1 (.int .i64 r))
    have HK2 := Lib.hid (((Keep.refl [rb] w1).set_ (p := ⟨rb, 0, none⟩) (.int .i64 q) (.inl (by simp))).set_ (p := ⟨rb, 1, none⟩) (.int .i64 r) (.inl (by simp)))
    simp only [List.setIfInBounds_toArray, List.set] at HZ
    have hz0 := HZ.out.cell 0
    have hz1 := HZ.out.cell 1
    go_wp2
    refine bodyPost_ret (v := .agg #[.int .i64 q, .int .i64 r]) (by simp [results, Try.results46, go_sem, hz0, hz1]) rfl ?_
    exact ⟨by rw [HTP.out]; rfl, HK.out.trans HK2.out (fun x hx => .inr (by have := HSB.out; simp at hx; omega))⟩
end Go.Proofs.Ytbhibmimdpodiaa
