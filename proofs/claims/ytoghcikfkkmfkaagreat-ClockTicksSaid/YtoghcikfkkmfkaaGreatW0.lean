/- Words at first, and small lemmas of lists and memory that many rows use. Plain lemmas. A run of a thread alone, as that thread sees it. Plain lemmas. A slice that reads as cells. Plain lemmas. -/
import Derived.Test.YtoghcikfkkmfkaaGreatRef05W
import Derived.Deep.AppendLies
import Derived.Deep.RegionHeld3
namespace Go.Proofs.YtoghcikfkkmfkaaGreat
open Go.RowKit

theorem small_get {l : List Nat} (h : Small l) (k : Nat) : l.getD k 0 < 2 ^ 64 := by
  rw [List.getD_eq_getElem?_getD]
  cases hx : l[k]? with
  | none => simp
  | some x => exact h x (List.mem_of_getElem? hx)
theorem getD_set_ne {ws : List Nat} {p q v : Nat} (h : p ≠ q) : (ws.set p v).getD q 0 = ws.getD q 0 := by
  rw [List.getD_eq_getElem?_getD, List.getD_eq_getElem?_getD, List.getElem?_set_ne h]
theorem getD_set_eq {ws : List Nat} {p v : Nat} (h : p < ws.length) : (ws.set p v).getD p 0 = v := by
  rw [List.getD_eq_getElem?_getD, List.getElem?_set_self h]
  rfl
theorem ixN_two (c : ConfS) (a f : Nat) : 2 ≠ ixN c a f := by unfold ixN; omega
theorem ixN_inj {c : ConfS} {a b : Nat} (ha : 1 ≤ a) (hb : 1 ≤ b) (h : a ≠ b) : ixN c a 0 ≠ ixN c b 0 := by unfold ixN; omega
theorem ixN_inj1 {c : ConfS} {a b : Nat} (ha : 1 ≤ a) (hb : 1 ≤ b) (h : a ≠ b) : ixN c a 1 ≠ ixN c b 1 := by unfold ixN; omega
theorem ixN_01 {c : ConfS} {a b : Nat} : ixN c a 0 ≠ ixN c b 1 := by unfold ixN; omega
theorem small_set {ws : List Nat} {p v : Nat} (h : Small ws) (hv : v < 2 ^ 64) : Small (ws.set p v) := fun g hg => (List.mem_or_eq_of_mem_set hg).elim (h g) (fun e => by omega)
theorem treeW_ne {c : ConfS} {ws : List Nat} {p : Nat} (h : ∀ n, 1 ≤ n → p ≠ ixN c n 2 ∧ p ≠ ixN c n 4 ∧ p ≠ ixN c n 5) : (treeW c ws 5).getD p 0 = ws.getD p 0 := by
  simp only [treeW, treeL, List.take_succ_cons, List.take_zero, List.foldl_cons, List.foldl_nil, putNode]
  have h1 := h 1 (by omega)
  have h2 := h 2 (by omega)
  have h3 := h 3 (by omega)
  have h4 := h 4 (by omega)
  have h5 := h 5 (by omega)
  rw [getD_set_ne h5.2.2.symm, getD_set_ne h5.2.1.symm, getD_set_ne h5.1.symm, getD_set_ne h4.2.2.symm, getD_set_ne h4.2.1.symm, getD_set_ne h4.1.symm, getD_set_ne h3.2.2.symm, getD_set_ne h3.2.1.symm, getD_set_ne h3.1.symm, getD_set_ne h2.2.2.symm, getD_set_ne h2.2.1.symm, getD_set_ne h2.1.symm, getD_set_ne h1.2.2.symm, getD_set_ne h1.2.1.symm, getD_set_ne h1.1.symm]
theorem treeW_small {c : ConfS} {ws : List Nat} (h : Small ws) : Small (treeW c ws 5) := by
  simp only [treeW, treeL, List.take_succ_cons, List.take_zero, List.foldl_cons, List.foldl_nil, putNode]
  repeat refine small_set ?_ (by decide +kernel)
  exact h
theorem linkW_ne {c : ConfS} {ws : List Nat} {p : Nat} (h : ∀ j, p ≠ ixN c (6 + j) 0) : ∀ k, (linkW c ws k).getD p 0 = ws.getD p 0
  | 0 => rfl
  | k + 1 => by
    rw [linkW_succ, getD_set_ne (fun e => h k e.symm)]
    exact linkW_ne h k
theorem linkW_small {c : ConfS} {ws : List Nat} (h : Small ws) : ∀ k, k ≤ 1000 → Small (linkW c ws k)
  | 0, _ => h
  | k + 1, hk => by
    rw [linkW_succ]
    exact small_set (linkW_small h k (by omega)) (by omega)
theorem linkW_at {c : ConfS} {ws : List Nat} (ho : c.Ok) (hl : ws.length = wordsN c) : ∀ (k j : Nat), (6 : Int) + k ≤ c.slots → (linkW c ws k).getD (ixN c (6 + j) 0) 0 = if j < k then 7 + j else ws.getD (ixN c (6 + j) 0) 0
  | 0, j, _ => rfl
  | k + 1, j, hk => by
    rw [linkW_succ]
    by_cases e : j = k
    · subst e
      rw [getD_set_eq (by rw [linkW_length, hl]; exact ixN_lt ho (by omega) (by omega) (by omega)), if_pos (by omega)]
    · rw [getD_set_ne (ixN_inj (by omega) (by omega) (by omega)), linkW_at ho hl k j (by omega)]
      by_cases h : j < k
      · rw [if_pos h, if_pos (by omega)]
      · rw [if_neg h, if_neg (by omega)]
theorem base_small (n m : Nat) : Small ((((List.replicate n 0).set 0 1).set 1 3).set 2 (headN 6 m)) := by
  refine small_set (small_set (small_set ?_ (by decide)) (by decide)) (headN_lt _ _ (by decide))
  intro g hg
  rw [List.eq_of_mem_replicate hg]
  decide
theorem base_far {n m p : Nat} (h : 3 ≤ p) : ((((List.replicate n 0).set 0 1).set 1 3).set 2 (headN 6 m)).getD p 0 = 0 := by
  rw [getD_set_ne (by omega), getD_set_ne (by omega), getD_set_ne (by omega), List.getD_eq_getElem?_getD, List.getElem?_replicate]
  split <;> rfl
/-- append to a row of the call's own, as one step of a region that draws. -/
theorem step_append_at {P : Program} {w : World} {ops : Array Oper} {o : Oper} {a : Act} {K : Act → World → Prop} {Q : Exit → Act → World → Prop} {E : Prop} (hgd : o.guard = none) (s x : Operand) (t : TypeId)
    (ho : o.op = .call { callee := .builtin .append, args := #[s, x], argTypes := #[t, t] })
    (base : Nat) (e : TypeId) (i : TypeInfo) (z : Value) (size bytes : Nat) (ht : P.underlying t = some (.slice e)) (hi : P.info? e = some i) (hz : i.zero = some z)
    (hsize : i.size = size) (hby : i.bytes = bytes) (hzs : z.cells.size = size) (hsz : 0 < size)
    (v : Value) (n : Nat) (xs : List Value) (hs : a.eval s = v) (hown : w.ownsRow base e size v n xs)
    (ad : Addr) (m c : Nat) (news : List Value) (hx : a.eval x = .slice (some ad) m c) (hl : news.length = m * size) (hnews : ∀ j u, news[j]? = some u → w.cell? (ad.add j) = some u) (h1 : ∀ u ∈ news, u.oneCell' = true)
    (h63 : n + m ≤ maxLen) (hbytes : (n + m) * bytes ≤ 140737488355328) (hbase : base ≤ w.heap.size)
    (h : ∀ v' w', w'.ownsRow base e size v' (n + m) (xs ++ news) → w.grownBy w' v.ownBlock → (v' = .slice none 0 0 ↔ v = .slice none 0 0 ∧ m = 0) → (v'.ownBlock = v.ownBlock ∨ v'.ownBlock = some w.heap.size) → K (a.put o.dst v') w') :
    if Region.wanted o (yielded ops a.tmps) = true then Oper.wp P o a w K Q else E := by
  have hw : Region.wanted o (yielded ops a.tmps) = true := by simp [Region.wanted, hgd]
  rw [if_pos hw]
  obtain ⟨v', w', hr, h2, h3, h4, h5⟩ := run_append_own_at (P := P) w base t o.type e i z size bytes ht hi hz hsize hby hzs hsz v n xs hown ad m c news hl hnews h1 h63 hbytes hbase
  unfold Oper.wp execOp
  simp only [ho, resolve, invoke, builtin, Sem.run_bind, Sem.run_pure, Result.andThen_ok, List.map_toArray, List.map_cons, List.map_nil, hs, hx, hr]
  exact h v' w' h2 h3 h4 h5
/-- The row of deeds that came in. -/
def IntsAt (w : World) (A : Option Addr) (ls : List Int) : Prop := 0 < ls.length → ∃ b o, A = some ⟨b, o, none⟩ ∧ b < w.heap.size ∧ ∀ k, k < ls.length → w.cell? ⟨b, o + k, none⟩ = some (.int .i64 (ls.getD k 0))
theorem IntsAt.keep {w w' : World} {A : Option Addr} {ls : List Int} (h : IntsAt w A ls) (hk : Keep [] w w') : IntsAt w' A ls := fun hl => by
  obtain ⟨b, o, h1, h2, h3⟩ := h hl
  exact ⟨b, o, h1, Nat.lt_of_lt_of_le h2 hk.size, fun k hk' => by rw [hk.cell h2 (by simp)]; exact h3 k hk'⟩
section
variable {w : World} {i : MI} {s : MS}
theorem m_guard (h : MachAt w i s) : Calls Tryz.prog 19 #[.pointer (some ⟨i.m, 0, none⟩)] w fun r w' => r = .returned (.pointer (some ⟨i.gi.gb, 0, none⟩)) ∧ w = w' := core_guard w i.m _ _ _ _ _ _ h.mach
theorem m_plan (h : MachAt w i s) : Calls Tryz.prog 44 #[.pointer (some ⟨i.m, 0, none⟩)] w fun r w' => r = .returned (.pointer (some ⟨i.p, 0, none⟩)) ∧ w = w' := core_plan w i.m _ _ _ _ _ _ h.mach
theorem m_conf (h : MachAt w i s) : Calls Tryz.prog 45 #[.pointer (some ⟨i.p, 0, none⟩)] w fun r w' => r = .returned (.agg s.conf.cells) ∧ Keep [] w w' := plan_conf s.conf i.p w h.hP
end
theorem Blk.two {w : World} {g : Nat} {t : TypeId} {x y : Value} (h : Blk w g t #[x, y]) (x' y' : Value) : Blk ((w.setCell ⟨g, 0, none⟩ x').setCell ⟨g, 1, none⟩ y') g t #[x', y'] := by
  simpa using (h.set_ 0 x').set_ 1 y'
theorem Blk.snd {w : World} {g : Nat} {t : TypeId} {x y : Value} (h : Blk w g t #[x, y]) (y' : Value) : Blk (w.setCell ⟨g, 1, none⟩ y') g t #[x, y'] := by simpa using h.set_ 1 y'
theorem Blk.fst {w : World} {g : Nat} {t : TypeId} {x y : Value} (h : Blk w g t #[x, y]) (x' : Value) : Blk (w.setCell ⟨g, 0, none⟩ x') g t #[x', y] := by simpa using h.set_ 0 x'
theorem words0_small {c : ConfS} (ho : c.Ok) : Small (words0 c) := by
  have := ho.s2
  exact linkW_small (treeW_small (base_small _ _)) _ (by omega)
def psGo (step : PS → PS) (n : Nat) : Nat → Nat → PS → PS × Nat × Bool
  | 0, i, q => (q, i, false)
  | f + 1, i, q => if (q.stepped (step q)).th.frs.length ≤ n then (q.stepped (step q), i + 1, true) else psGo step n f (i + 1) (q.stepped (step q))
structure RoomP (s q : PS) : Prop where
  s0 : 0 ≤ s.steps
  s1 : s.steps ≤ 4611686018427387904
  a1 : s.mem.acc ≤ 4611686018427387904
  a2 : q.mem.acc ≤ 4611686018427387999
  st : q.steps = s.steps
def RunsP (n : Nat) (ok : PS → Prop) (step : PS → PS) : Nat → PS → Prop
  | 0, _ => False
  | f + 1, q => n < q.th.frs.length ∧ ok q ∧ RoomP q (step q) ∧ ((q.stepped (step q)).th.frs.length ≤ n ∨ RunsP n ok step f (q.stepped (step q)))
theorem part_join {s : MS} {k : Nat} {q : PS} (h : k < s.ths.length) : (s.join k q).ths[k]? = some q.th := List.getElem?_set_self h
theorem join_join {s : MS} {k : Nat} {q q' : PS} : (s.join k q).join k q' = s.join k q' := by
  show ({ conf := _, mem := _, gd := _, ths := (s.ths.set k q.th).set k q'.th, steps := _, fault := _ } : MS) = _
  rw [List.set_set]
  rfl
theorem aloneGo_ps (step : PS → PS) (k n : Nat) : ∀ (f i : Nat) (s : MS) (q : PS), k < s.ths.length → aloneGo step k n f i (s.join k q) = (s.join k (psGo step n f i q).1, (psGo step n f i q).2)
  | 0, i, s, q, _ => rfl
  | f + 1, i, s, q, h => by
    have h1 : (s.join k q).ths[k]? = some q.th := part_join h
    have h2 : (s.join k q).run1 k step = s.join k (q.stepped (step q)) := by
      rw [run1_of h1]
      exact join_join
    have h3 : (s.join k (q.stepped (step q))).depth k = (q.stepped (step q)).th.frs.length := depth_of (part_join h)
    unfold aloneGo psGo
    rw [h2, h3]
    split
    · rfl
    · exact aloneGo_ps step k n f (i + 1) s _ h
def RunsAt (k n : Nat) (ok : PS → Prop) (step : PS → PS) (s : MS) : Prop := ∃ f t, s.ths[k]? = some t ∧ RunsP n ok step f (s.part t)
theorem drives_runs (k n : Nat) (ok : PS → Prop) (step : PS → PS) : Drives (RunsAt k n ok step) k n ok step := by
  intro s ⟨f, t, ht, h⟩
  cases f with
  | zero => exact h.elim
  | succ f =>
    obtain ⟨h1, h2, h3, h4⟩ := h
    refine ⟨t, ht, h1, h2, ⟨h3.s0, h3.s1, h3.a1, h3.a2, h3.st⟩, fun hn => ⟨f, _, ran_at ht, ?_⟩⟩
    exact h4.resolve_left (by show ¬ (step (s.part t)).th.frs.length ≤ n; omega)
theorem call_join {s : MS} {k : Nat} {t : ThS} {fn : Int} {l : List Nat} (h : s.ths[k]? = some t) : s.call k fn l = s.join k { (s.part t) with th := t.pushed fn l } := by
  unfold MS.call
  rw [h]
theorem runsAt_call {s : MS} {k : Nat} {t : ThS} {fn : Int} {l : List Nat} {n f : Nat} {ok : PS → Prop} {step : PS → PS} (h : s.ths[k]? = some t) (hr : RunsP n ok step f { (s.part t) with th := t.pushed fn l }) : RunsAt k n ok step (s.call k fn l) := by
  rw [call_join h]
  exact ⟨f, _, part_join (List.getElem?_eq_some_iff.1 h).1, hr⟩
theorem aloneGo_call {s : MS} {k : Nat} {t : ThS} {fn : Int} {l : List Nat} {n f i : Nat} {step : PS → PS} (h : s.ths[k]? = some t) :
    aloneGo step k n f i (s.call k fn l) = (s.join k (psGo step n f i { (s.part t) with th := t.pushed fn l }).1, (psGo step n f i { (s.part t) with th := t.pushed fn l }).2) := by
  rw [call_join h]
  exact aloneGo_ps step k n f i s _ (List.getElem?_eq_some_iff.1 h).1

/-- A thread within just one frame. -/
def onePS (c : ConfS) (ws : List Nat) (acc : Int) (gd : GuardS) (ret : List Nat) (ses : SesS) (row : List (Int × Int)) (stk : List Nat) (st : Int) (f : FrS) : PS := ⟨c, ⟨ws, acc, false⟩, gd, ⟨ret, ses, [f], row, stk⟩, st, false⟩
def donePS (c : ConfS) (ws : List Nat) (acc : Int) (gd : GuardS) (ret : List Nat) (ses : SesS) (row : List (Int × Int)) (stk : List Nat) (st : Int) : PS := ⟨c, ⟨ws, acc, false⟩, gd, ⟨ret, ses, [], row, stk⟩, st, false⟩
section
variable {c : ConfS} {ws : List Nat} {acc : Int} {gd : GuardS} {ret : List Nat} {ses : SesS} {row : List (Int × Int)} {stk : List Nat} {st : Int} {f : FrS}
theorem one_top : (onePS c ws acc gd ret ses row stk st f).th.top = f := rfl
theorem one_rd {a : Nat} (h : a < ws.length) : (onePS c ws acc gd ret ses row stk st f).mem.rd (a : Nat) = ws.getD a 0 := by
  show (if inR ws.length [(a : Int)] = true then ws.getD (a : Int).toNat 0 else 0) = _
  rw [if_pos (by rw [inR_one]; simp; omega)]
  rfl
theorem fault_one (a : Int) : decide (1 < a + 1 - a) = false := by simp; omega
theorem fault_zero (a : Int) : decide (1 < a - a) = false := by simp
theorem inR_nat {n a : Nat} (h : a < n) : inR n [(a : Int)] = true := by rw [inR_one]; simp; omega
end
/-- A slice value, not nil, that reads as the cells xs; its block is one that may be. -/
def RowI (w : World) (ok : Nat → Prop) (t : TypeId) (v : Value) (xs : List Value) : Prop :=
  ∃ b o cap cs, v = .slice (some ⟨b, o, none⟩) xs.length cap ∧ xs.length ≤ cap ∧ Blk w b t cs ∧ (∀ k u, xs[k]? = some u → cs[o + k]? = some u) ∧ ok b
theorem RowI.mono {w : World} {ok ok' : Nat → Prop} {t : TypeId} {v : Value} {xs : List Value} (h : RowI w ok t v xs) (hk : ∀ b, b < w.heap.size → ok b → ok' b) : RowI w ok' t v xs := by
  obtain ⟨b, o, cap, cs, h1, h2, h3, h4, h5⟩ := h
  exact ⟨b, o, cap, cs, h1, h2, h3, h4, hk b h3.lt h5⟩
theorem RowI.keep {w w' : World} {ok : Nat → Prop} {t : TypeId} {v : Value} {xs : List Value} {S : List Nat} (h : RowI w ok t v xs) (hk : Keep S w w') (hs : ∀ b, ok b → b ∉ S) : RowI w' ok t v xs := by
  obtain ⟨b, o, cap, cs, h1, h2, h3, h4, h5⟩ := h
  exact ⟨b, o, cap, cs, h1, h2, h3.keep hk (hs b h5), h4, h5⟩
theorem RowI.keep0 {w w' : World} {ok : Nat → Prop} {t : TypeId} {v : Value} {xs : List Value} (h : RowI w ok t v xs) (hk : Keep [] w w') : RowI w' ok t v xs := h.keep hk (by simp)
theorem RowI.of_own {w : World} {base : Nat} {t : TypeId} {v : Value} {n : Nat} {xs : List Value} (h : w.ownsRow base t 1 v n xs) (hn : 0 < n) : RowI w (base ≤ ·) t v xs := by
  obtain ⟨hl, ⟨_, h0⟩ | ⟨g, cap, cur, hv, hb, hr, hc, _, _, ht⟩⟩ := h
  · omega
  · have hl' : xs.length = n := by simpa using hl
    refine ⟨g, 0, cap, cur, by rw [hl']; exact hv, by omega, hr, fun k u hk => ?_, hb⟩
    have hk' : k < xs.length := (List.getElem?_eq_some_iff.1 hk).1
    have : (cur.toList.take n)[k]? = some u := by
      have e : n * 1 = n := Nat.mul_one n
      rw [e] at ht
      rw [ht]
      exact hk
    rw [List.getElem?_take_of_lt (by omega)] at this
    simpa using this
theorem RowI.far {w : World} {ok : Nat → Prop} {t t' : TypeId} {v : Value} {xs : List Value} {g : Nat} {cs : Array Value} (h : RowI w ok t v xs) (hg : Blk w g t' cs) (hne : t ≠ t') (j : Nat) (u : Value) : RowI (w.setCell ⟨g, j, none⟩ u) ok t v xs := by
  obtain ⟨b, o, cap, cs, h1, h2, h3, h4, h5⟩ := h
  exact ⟨b, o, cap, cs, h1, h2, h3.far (p := ⟨g, j, none⟩) (h3.ne_ hg hne) _, h4, h5⟩
/-- What is appended: it lies where the slice says. -/
theorem RowI.news {w : World} {b o : Nat} {t : TypeId} {cs : Array Value} {xs : List Value} (hb : Blk w b t cs) (hx : ∀ k u, xs[k]? = some u → cs[o + k]? = some u) : ∀ j u, xs[j]? = some u → w.cell? ((⟨b, o, none⟩ : Addr).add j) = some u := by
  intro j u hj
  have := hx j u hj
  show (w.cell? ((⟨b, o, none⟩ : Addr).add j)) = _
  by_cases h0 : j = 0
  · subst h0
    rw [show (⟨b, o, none⟩ : Addr).add 0 = ⟨b, o, none⟩ by simp [Addr.add]]
    rw [hb.cell]
    exact this
  · rw [show (⟨b, o, none⟩ : Addr).add j = ⟨b, o + j, none⟩ by simp [Addr.add, h0], hb.cell]
    exact this
theorem blk_word {w : World} {g : Nat} {l : List Nat} {xt : List Value} (h : Blk w g 22 (u64s l ++ xt).toArray) (k x : Nat) (hk : k < l.length) : Blk (w.setCell ⟨g, k, none⟩ (.int .u64 (x : Nat))) g 22 (u64s (l.set k x) ++ xt).toArray := by
  have e : (u64s (l.set k x) ++ xt).toArray = ((u64s l ++ xt).toArray).setIfInBounds k (.int .u64 (x : Nat)) := by
    simp [u64s, hk, List.map_set]
  rw [e]
  exact h.set_ k _
theorem own_u64s {w : World} {base n : Nat} {v : Value} {l : List Nat} (h : w.ownsRow base 22 1 v n (u64s l)) (hn : 0 < n) : ∃ g cap, v = .slice (some ⟨g, 0, none⟩) n cap ∧ base ≤ g ∧ n ≤ cap ∧ ∃ xt, Blk w g 22 (u64s l ++ xt).toArray := by
  obtain ⟨hl, ⟨_, h0⟩ | ⟨g, cap, cur, hv, hb, hr, hc, _, _, ht⟩⟩ := h
  · omega
  · refine ⟨g, cap, hv, hb, hc, cur.toList.drop n, ?_⟩
    rw [Nat.mul_one] at ht
    rw [← ht, List.take_append_drop]
    exact hr
theorem u64s_len (l : List Nat) : (u64s l).length = l.length := by simp [u64s]
end Go.Proofs.YtoghcikfkkmfkaaGreat
