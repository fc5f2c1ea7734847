/- Words at first, and small lemmas of lists and memory that many rows use. Plain lemmas. -/
import Derived.Test.YtlbhjahmgdghoaaRef05W
import Derived.Deep.AppendLies
import Derived.Deep.RegionHeld3
namespace Go.Proofs.Ytlbhjahmgdghoaa
open Go.RowKit

theorem small_get {l : List Nat} (h : Small l) (k : Nat) : l.getD k 0 < 2 ^ 64 := by
  rw [List.getD_eq_getElem?_getD]
  cases hx : l[k]? with
  | none => simp
  | some x => exact h x (List.mem_of_getElem? hx)
theorem getD_set_ne {ws : List Nat} {p q v : Nat} (h : p ≠ q) : (ws.set p v).getD q 0 = ws.getD q 0 := by
  rw [List.getD_eq_getElem?_getD, List.getD_eq_getElem?_getD, List.getElem?_set_ne h]
theorem getD_set_eq {ws : List Nat} {p v : Nat} (h : p < ws.length) : (ws.set p v).getD p 0 = v := by
  rw [List.getD_eq_getElem?_getD, List.getElem?_set_self h]
  rfl
theorem ixN_two (c : ConfS) (a f : Nat) : 2 ≠ ixN c a f := by unfold ixN; omega
theorem ixN_inj {c : ConfS} {a b : Nat} (ha : 1 ≤ a) (hb : 1 ≤ b) (h : a ≠ b) : ixN c a 0 ≠ ixN c b 0 := by unfold ixN; omega
theorem ixN_inj1 {c : ConfS} {a b : Nat} (ha : 1 ≤ a) (hb : 1 ≤ b) (h : a ≠ b) : ixN c a 1 ≠ ixN c b 1 := by unfold ixN; omega
theorem ixN_01 {c : ConfS} {a b : Nat} : ixN c a 0 ≠ ixN c b 1 := by unfold ixN; omega
theorem small_set {ws : List Nat} {p v : Nat} (h : Small ws) (hv : v < 2 ^ 64) : Small (ws.set p v) := fun g hg => (List.mem_or_eq_of_mem_set hg).elim (h g) (fun e => by omega)
theorem treeW_ne {c : ConfS} {ws : List Nat} {p : Nat} (h : ∀ n, 1 ≤ n → p ≠ ixN c n 2 ∧ p ≠ ixN c n 4 ∧ p ≠ ixN c n 5) : (treeW c ws 5).getD p 0 = ws.getD p 0 := by
  simp only [treeW, treeL, List.take_succ_cons, List.take_zero, List.foldl_cons, List.foldl_nil, putNode]
  have h1 := h 1 (by omega)
  have h2 := h 2 (by omega)
  have h3 := h 3 (by omega)
  have h4 := h 4 (by omega)
  have h5 := h 5 (by omega)
  rw [getD_set_ne h5.2.2.symm, getD_set_ne h5.2.1.symm, getD_set_ne h5.1.symm, getD_set_ne h4.2.2.symm, getD_set_ne h4.2.1.symm, getD_set_ne h4.1.symm, getD_set_ne h3.2.2.symm, getD_set_ne h3.2.1.symm, getD_set_ne h3.1.symm, getD_set_ne h2.2.2.symm, getD_set_ne h2.2.1.symm, getD_set_ne h2.1.symm, getD_set_ne h1.2.2.symm, getD_set_ne h1.2.1.symm, getD_set_ne h1.1.symm]
theorem treeW_small {c : ConfS} {ws : List Nat} (h : Small ws) : Small (treeW c ws 5) := by
  simp only [treeW, treeL, List.take_succ_cons, List.take_zero, List.foldl_cons, List.foldl_nil, putNode]
  repeat refine small_set ?_ (by decide +kernel)
  exact h
theorem linkW_ne {c : ConfS} {ws : List Nat} {p : Nat} (h : ∀ j, p ≠ ixN c (6 + j) 0) : ∀ k, (linkW c ws k).getD p 0 = ws.getD p 0
  | 0 => rfl
  | k + 1 => by
    rw [linkW_succ, getD_set_ne (fun e => h k e.symm)]
    exact linkW_ne h k
theorem linkW_small {c : ConfS} {ws : List Nat} (h : Small ws) : ∀ k, k ≤ 1000 → Small (linkW c ws k)
  | 0, _ => h
  | k + 1, hk => by
    rw [linkW_succ]
    exact small_set (linkW_small h k (by omega)) (by omega)
theorem linkW_at {c : ConfS} {ws : List Nat} (ho : c.Ok) (hl : ws.length = wordsN c) : ∀ (k j : Nat), (6 : Int) + k ≤ c.slots → (linkW c ws k).getD (ixN c (6 + j) 0) 0 = if j < k then 7 + j else ws.getD (ixN c (6 + j) 0) 0
  | 0, j, _ => rfl
  | k + 1, j, hk => by
    rw [linkW_succ]
    by_cases e : j = k
    · subst e
      rw [getD_set_eq (by rw [linkW_length, hl]; exact ixN_lt ho (by omega) (by omega) (by omega)), if_pos (by omega)]
    · rw [getD_set_ne (ixN_inj (by omega) (by omega) (by omega)), linkW_at ho hl k j (by omega)]
      by_cases h : j < k
      · rw [if_pos h, if_pos (by omega)]
      · rw [if_neg h, if_neg (by omega)]
theorem base_small (n m : Nat) : Small ((((List.replicate n 0).set 0 1).set 1 3).set 2 (headN 6 m)) := by
  refine small_set (small_set (small_set ?_ (by decide)) (by decide)) (headN_lt _ _ (by decide))
  intro g hg
  rw [List.eq_of_mem_replicate hg]
  decide
theorem base_far {n m p : Nat} (h : 3 ≤ p) : ((((List.replicate n 0).set 0 1).set 1 3).set 2 (headN 6 m)).getD p 0 = 0 := by
  rw [getD_set_ne (by omega), getD_set_ne (by omega), getD_set_ne (by omega), List.getD_eq_getElem?_getD, List.getElem?_replicate]
  split <;> rfl
/-- append to a row of the call's own, as one step of a region that draws. -/
theorem step_append_at {P : Program} {w : World} {ops : Array Oper} {o : Oper} {a : Act} {K : Act → World → Prop} {Q : Exit → Act → World → Prop} {E : Prop} (hgd : o.guard = none) (s x : Operand) (t : TypeId)
    (ho : o.op = .call { callee := .builtin .append, args := #[s, x], argTypes := #[t, t] })
    (base : Nat) (e : TypeId) (i : TypeInfo) (z : Value) (size bytes : Nat) (ht : P.underlying t = some (.slice e)) (hi : P.info? e = some i) (hz : i.zero = some z)
    (hsize : i.size = size) (hby : i.bytes = bytes) (hzs : z.cells.size = size) (hsz : 0 < size)
    (v : Value) (n : Nat) (xs : List Value) (hs : a.eval s = v) (hown : w.ownsRow base e size v n xs)
    (ad : Addr) (m c : Nat) (news : List Value) (hx : a.eval x = .slice (some ad) m c) (hl : news.length = m * size) (hnews : ∀ j u, news[j]? = some u → w.cell? (ad.add j) = some u) (h1 : ∀ u ∈ news, u.oneCell' = true)
    (h63 : n + m ≤ maxLen) (hbytes : (n + m) * bytes ≤ 140737488355328) (hbase : base ≤ w.heap.size)
    (h : ∀ v' w', w'.ownsRow base e size v' (n + m) (xs ++ news) → w.grownBy w' v.ownBlock → (v' = .slice none 0 0 ↔ v = .slice none 0 0 ∧ m = 0) → (v'.ownBlock = v.ownBlock ∨ v'.ownBlock = some w.heap.size) → K (a.put o.dst v') w') :
    if Region.wanted o (yielded ops a.tmps) = true then Oper.wp P o a w K Q else E := by
  have hw : Region.wanted o (yielded ops a.tmps) = true := by simp [Region.wanted, hgd]
  rw [if_pos hw]
  obtain ⟨v', w', hr, h2, h3, h4, h5⟩ := run_append_own_at (P := P) w base t o.type e i z size bytes ht hi hz hsize hby hzs hsz v n xs hown ad m c news hl hnews h1 h63 hbytes hbase
  unfold Oper.wp execOp
  simp only [ho, resolve, invoke, builtin, Sem.run_bind, Sem.run_pure, Result.andThen_ok, List.map_toArray, List.map_cons, List.map_nil, hs, hx, hr]
  exact h v' w' h2 h3 h4 h5
/-- The row of deeds that came in. -/
def IntsAt (w : World) (A : Option Addr) (ls : List Int) : Prop := 0 < ls.length → ∃ b o, A = some ⟨b, o, none⟩ ∧ b < w.heap.size ∧ ∀ k, k < ls.length → w.cell? ⟨b, o + k, none⟩ = some (.int .i64 (ls.getD k 0))
theorem IntsAt.keep {w w' : World} {A : Option Addr} {ls : List Int} (h : IntsAt w A ls) (hk : Keep [] w w') : IntsAt w' A ls := fun hl => by
  obtain ⟨b, o, h1, h2, h3⟩ := h hl
  exact ⟨b, o, h1, Nat.lt_of_lt_of_le h2 hk.size, fun k hk' => by rw [hk.cell h2 (by simp)]; exact h3 k hk'⟩
section
variable {w : World} {i : MI} {s : MS}
theorem m_guard (h : MachAt w i s) : Calls Try.prog 30 #[.pointer (some ⟨i.m, 0, none⟩)] w fun r w' => r = .returned (.pointer (some ⟨i.gi.gb, 0, none⟩)) ∧ w = w' := core_guard w i.m _ _ _ _ _ _ h.mach
theorem m_plan (h : MachAt w i s) : Calls Try.prog 55 #[.pointer (some ⟨i.m, 0, none⟩)] w fun r w' => r = .returned (.pointer (some ⟨i.p, 0, none⟩)) ∧ w = w' := core_plan w i.m _ _ _ _ _ _ h.mach
theorem m_conf (h : MachAt w i s) : Calls Try.prog 56 #[.pointer (some ⟨i.p, 0, none⟩)] w fun r w' => r = .returned (.agg s.conf.cells) ∧ Keep [] w w' := plan_conf s.conf i.p w h.hP
end
theorem Blk.two {w : World} {g : Nat} {t : TypeId} {x y : Value} (h : Blk w g t #[x, y]) (x' y' : Value) : Blk ((w.setCell ⟨g, 0, none⟩ x').setCell ⟨g, 1, none⟩ y') g t #[x', y'] := by
  simpa using (h.set_ 0 x').set_ 1 y'
theorem Blk.snd {w : World} {g : Nat} {t : TypeId} {x y : Value} (h : Blk w g t #[x, y]) (y' : Value) : Blk (w.setCell ⟨g, 1, none⟩ y') g t #[x, y'] := by simpa using h.set_ 1 y'
theorem Blk.fst {w : World} {g : Nat} {t : TypeId} {x y : Value} (h : Blk w g t #[x, y]) (x' : Value) : Blk (w.setCell ⟨g, 0, none⟩ x') g t #[x', y] := by simpa using h.set_ 0 x'
theorem words0_small {c : ConfS} (ho : c.Ok) : Small (words0 c) := by
  have := ho.s2
  exact linkW_small (treeW_small (base_small _ _)) _ (by omega)
end Go.Proofs.Ytlbhjahmgdghoaa
