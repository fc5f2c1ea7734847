/- SlotsCrowd: whatever comes in, the law returns true. No condition. -/
import Derived.Test.YtlbhjahmgdghoaaRows
import Derived.Test.YtlbhjahmgdghoaaSC
import Derived.Test.YtlbhjahmgdghoaaOpen
import Derived.WalkKit
import Derived.ProofKit
import Derived.OpenShut
import Derived.ShutString
import Derived.ChangeOld
import Derived.Below
import Derived.SizedLaws
import Derived.Lib.SmallJoins
import Derived.Deep.Slices
namespace Go.Proofs.Ytlbhjahmgdghoaa.slotsCrowdLaw
open Go.ChangeShapes Go.WideShapes Go.ChangeAt Go.RowKit Go.Deep Go.Joins
theorem own : ownKnob Try.prog.godebug = none := by kernel_rfl
theorem laidOut : laidOutB Try.prog = true := by kernel_rfl
theorem below_keep {W W' : World} (h : Keep [] W W') : Below W.heap.size W W' := Keep.below h
theorem list_of_each {α : Type} {P : Nat → α → Prop} (d : α) : ∀ n : Nat, (∀ i, i < n → ∃ x, P i x) → ∃ xs : List α, xs.length = n ∧ ∀ i, i < n → P i (xs.getD i d)
  | 0, _ => ⟨[], rfl, fun i h => absurd h (Nat.not_lt_zero i)⟩
  | n + 1, h => by
    obtain ⟨xs, hl, hp⟩ := list_of_each d n (fun i hi => h i (by omega))
    obtain ⟨x, hx⟩ := h n (by omega)
    refine ⟨xs ++ [x], by simp [hl], fun i hi => ?_⟩
    by_cases hi' : i < n
    · have := hp i hi'
      rw [List.getD_eq_getElem?_getD] at this ⊢
      rw [List.getElem?_append_left (by omega)]
      exact this
    · obtain rfl : i = n := by omega
      rw [List.getD_eq_getElem?_getD, List.getElem?_append_right (by omega), hl, Nat.sub_self]
      exact hx
theorem add_at (b o k : Nat) : (⟨b, o, none⟩ : Addr).add k = ⟨b, o + k, none⟩ := by
  unfold Addr.add
  split
  · subst_vars; rfl
  · rfl
theorem reads {H : Type} {enc : TypeId × Value → H} {W : World} {a : Option Addr} {len cap : Nat} {d : DataW H} {p : List MemPlace}
    (h : DataW.Trod enc Try.prog W 0 (fun _ => true) true 64 (.slice a len cap) d p) : ∃ ds : List (Int × Int), ds.length = len ∧ PairsAt W a ds := by
  obtain ⟨fuel, hf⟩ := h
  rcases Opn.open_slice_fields Try.underlying64 Try.underlying68 (by kernel_rfl) (by kernel_rfl) hf with ⟨hcs, _⟩ | ⟨x, l, c, m, D, Pl, hcs, _, hl, hm, hmm, _, hi⟩
  · simp [Value.cells] at hcs
    obtain ⟨rfl, rfl, rfl⟩ := hcs
    exact ⟨[], rfl, fun h => absurd h (Nat.lt_irrefl 0)⟩
  · simp [Value.cells] at hcs
    obtain ⟨rfl, rfl, rfl⟩ := hcs
    simp only [if_true] at hmm
    subst hmm
    obtain ⟨ds, hxl, hx⟩ := list_of_each (P := fun i (y : Int × Int) => W.cell? (x.add (i * 2 + 0)) = some (.int .i64 y.1) ∧ W.cell? (x.add (i * 2 + 1)) = some (.int .i64 y.2)) (0, 0) len (fun i hilt => by
      obtain ⟨ys, n, _, _, hyl, hj⟩ := hi i (by omega)
      obtain ⟨v0, y0, c0, _, t0⟩ := hj 0 _ rfl
      obtain ⟨v1, y1, c1, _, t1⟩ := hj 1 _ rfl
      obtain ⟨n0, e0, _, _⟩ := DataW.trod_int Try.underlying3 t0
      obtain ⟨n1, e1, _, _⟩ := DataW.trod_int Try.underlying3 t1
      simp at e0 e1
      subst e0 e1
      exact ⟨(n0, n1), c0, c1⟩)
    refine ⟨ds, hxl, fun hp => ?_⟩
    have h0 := (hx 0 (by omega)).1
    have hsp : x.spot = none ∧ x.block < W.heap.size := by
      rw [show x.add (0 * 2 + 0) = x by simp [Addr.add]] at h0
      unfold World.cell? at h0
      cases hb : W.heap[x.block]? with
      | none => rw [hb] at h0; cases h0
      | some ob =>
        refine ⟨?_, (Array.getElem?_eq_some_iff.1 hb).1⟩
        rw [hb] at h0
        cases hs : x.spot with
        | none => rfl
        | some z =>
          rw [hs] at h0
          cases ob <;> simp at h0
    obtain ⟨b, o, sp⟩ := x
    obtain ⟨h1, h2⟩ := hsp
    simp only at h1
    subst h1
    refine ⟨b, o, rfl, h2, fun k hk => ?_⟩
    obtain ⟨q0, q1⟩ := hx k (by omega)
    rw [add_at] at q0 q1
    exact ⟨q0, q1⟩
set_option maxRecDepth 100000 in
theorem conf_of {H : Type} {enc : TypeId × Value → H} {W : World} {r : Reach} {b0 : Nat} {v : Value} {d : DataW H} {p : List MemPlace} (hv : Value.okWide Try.prog W r b0 24 v) (h : DataW.Trod enc Try.prog W 0 (fun _ => true) true 24 v d p) : ∃ c : ConfS, v = .agg c.cells := by
  obtain ⟨w0, w1, w2, y0, y1, y2, n, rfl, _, _, t0, t1, t2⟩ := open_agg3 Try.underlying24 (by kernel_rfl) (by kernel_rfl) hv h
  obtain ⟨m0, e0, _, _⟩ := DataW.trod_int Try.underlying3 t0
  obtain ⟨m1, e1, _, _⟩ := DataW.trod_int Try.underlying3 t1
  obtain ⟨m2, e2, _, _⟩ := DataW.trod_int Try.underlying22 t2
  simp only [List.cons.injEq, and_true] at e0 e1 e2
  subst e0 e1 e2
  exact ⟨⟨m0, m1, m2⟩, rfl⟩
theorem slotsCrowd (c : ConfS) (A : Option Addr) (ds : List (Int × Int)) (cap : Nat) (w : World) (hA : PairsAt w A ds) : Calls Try.prog 5 #[.agg c.cells, .slice A ds.length cap] w (TrueOut w) := by
  by_cases hn : 600 < ds.length
  · exact crowd_no c A ds.length cap w (.inr hn)
  cases hm : c.may with
  | false => exact crowd_no c A ds.length cap w (.inl hm)
  | true => exact crowd_yes c A ds cap w (ok_may hm) (by omega) hA
set_option maxRecDepth 100000 in
theorem lifted (os : Os) (started : os.Started) (H : Type) (enc : TypeId × Value → H) :
    ReturnsInHanded {} Try.checked os 5 .any (Rows.slotsCrowdSpec.pre6 enc Try.prog Try.f5 Rows.slotsCrowdRow.domain false) (Rows.slotsCrowdSpec.post enc Try.prog Try.f5 false true false false) := by
  refine returnsInHanded_of_change_sized (C := Try.checked) own started (by kernel_rfl) Try.func5
    (ChangeSpec.witness6 (enc := enc) (C := Try.checked) false ⟨#[], #[.agg #[.int .i64 0, .int .i64 0, .int .u64 0], .slice none 0 0], []⟩ 8 (by kernel_rfl) (by kernel_rfl) (by kernel_rfl) (by kernel_rfl)) ?_
  intro W base args ds gs before hval0 hW hcnd hsz0 _
  have hval : ∀ (j : Nat) t v, Try.f5.params[j]? = some t → args[j]? = some v → Value.okWide Try.prog W .any base t v := hval0
  have hW' := hW
  obtain ⟨p, q, hA0, hV, rfl, hfz, hnd⟩ := hW
  have hA : DataW.TrodAll enc Try.prog W 0 (fun _ => true) true Try.f5.params.toList args.toList ds p := hA0
  rw [Try.params5] at hA hval
  obtain ⟨v0, vs0, d0, ds0, p0, q0, hargs, rfl, rfl, h0, r0⟩ := trodAll_cons hA
  obtain ⟨v1, vs1, d1, ds1, p1, q1, rfl, rfl, rfl, h1, r1⟩ := trodAll_cons r0
  obtain ⟨rfl, rfl, rfl⟩ := trodAll_nil r1
  obtain rfl : args = #[v0, v1] := by cases args; simp_all
  obtain ⟨rfl, rfl⟩ := trodVars_none hV
  obtain ⟨c, rfl⟩ := conf_of (hval 0 24 v0 rfl rfl) h0
  obtain ⟨a1, len1, cap1, rfl⟩ := okWide_slice Try.underlying64 (hval 1 64 v1 rfl rfl)
  obtain ⟨ls, hl, hA1⟩ := reads h1
  subst hl
  refine (slotsCrowd c a1 ls cap1 W hA1).mono fun e W' ⟨he, hk⟩ => ?_
  subst he
  have bel := below_keep hk
  have lt0 : ∀ x ∈ p0, x.block < W.heap.size := by obtain ⟨m, hm⟩ := h0; exact DataW.trod_lt m _ _ _ hm
  have lt1 : ∀ x ∈ p1, x.block < W.heap.size := by obtain ⟨m, hm⟩ := h1; exact DataW.trod_lt m _ _ _ hm
  exact ⟨_, rfl, _, _, _, [], _, [], hW', trodAll_mk1 (shut_bool Try.underlying4 _), (trodAll_cons_mk (Below.trod laidOut (by kernel_rfl) (of_decide_eq_true (by kernel_rfl)) h0 bel lt0) (trodAll_cons_mk (Below.trod laidOut (by kernel_rfl) (of_decide_eq_true (by kernel_rfl)) h1 bel lt1) trodAll_mk0)), rfl, bel.frame _, fun h => by cases h⟩
theorem over : Rows.slotsCrowdRow.holds Try.pinned (OpenSpec.ofChange Rows.slotsCrowdSpec) :=
  OpenClaim.holds_of_wide 5 Try.f5 rfl rfl rfl rfl rfl rfl rfl ⟨rfl, rfl, rfl, rfl, rfl⟩ rfl rfl rfl rfl rfl (by kernel_rfl) Try.func5 (by kernel_rfl)
    (of_decide_eq_true (by kernel_rfl)) (by unfold Func.isWrapper; first | (rw [if_pos (by decide +kernel)]; kernel_rfl) | (rw [if_neg (by decide +kernel)]; exact ⟨rfl, rfl⟩))
    (fun os started H enc _ => lifted os started H enc)
theorem proved : Rows.SlotsCrowdSaid := over
#print axioms proved
end Go.Proofs.Ytlbhjahmgdghoaa.slotsCrowdLaw
namespace Go.Proofs.Ytlbhjahmgdghoaa
/-- The row, under a short name, for the claim. -/
theorem slotsCrowd_holds : Rows.SlotsCrowdSaid := slotsCrowdLaw.proved
end Go.Proofs.Ytlbhjahmgdghoaa
