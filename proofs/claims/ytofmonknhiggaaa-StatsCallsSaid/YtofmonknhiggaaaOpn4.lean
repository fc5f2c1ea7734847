/- Events that come in: what they are. Plain lemmas on reading data. -/
import Derived.Test.YtofmonknhiggaaaOpn2
import Derived.Test.YtofmonknhiggaaaSt1
namespace Go.Proofs.Ytofmonknhiggaaa

def pairC (p : Int × Int) : List Value := [.int .i64 p.1, .int .i64 p.2]
/-- An event's pairs lie where it says. -/
def PairsAt (w : World) (A : Option Addr) (n : Nat) (ps : List (Int × Int)) : Prop := ps.length = n ∧ ElAt pairC w A ps
def EvOk (w : World) (e : EvS) : Prop := ∃ ps, PairsAt w e.pA e.pn ps
namespace Opn
open Go.ChangeShapes Go.WideShapes Go.Deep Go.RowKit

section
variable {H : Type} {enc : TypeId × Value → H} {W : World} {base : Nat} {spare : Nat → Bool} {held : Bool}
theorem call5_of {fuel : Nat} {cs : List Value} {x : DataW H × List MemPlace} (h : DataW.trod enc Try.prog W base spare held fuel 36 cs = some x) : ∃ op key val hi lim : Int, cs = [.int .i64 op, .int .i64 key, .int .i64 val, .int .i64 hi, .int .i64 lim] := by
  have hl : cs.length = 5 := (trod_len Try.underlying36 h).trans (by kernel_rfl)
  obtain ⟨_, _, t0⟩ := trod_at (ty := 3) (o := 0) (k := 1) Try.underlying36 h 0 _ rfl rfl rfl (by kernel_rfl)
  obtain ⟨_, _, t1⟩ := trod_at (ty := 2) (o := 1) (k := 1) Try.underlying36 h 1 _ rfl rfl rfl (by kernel_rfl)
  obtain ⟨_, _, t2⟩ := trod_at (ty := 2) (o := 2) (k := 1) Try.underlying36 h 2 _ rfl rfl rfl (by kernel_rfl)
  obtain ⟨_, _, t3⟩ := trod_at (ty := 2) (o := 3) (k := 1) Try.underlying36 h 3 _ rfl rfl rfl (by kernel_rfl)
  obtain ⟨_, _, t4⟩ := trod_at (ty := 3) (o := 4) (k := 1) Try.underlying36 h 4 _ rfl rfl rfl (by kernel_rfl)
  obtain ⟨n0, e0, _, _⟩ := DataW.trod_int Try.underlying3 t0
  obtain ⟨n1, e1, _, _⟩ := DataW.trod_int Try.underlying2 t1
  obtain ⟨n2, e2, _, _⟩ := DataW.trod_int Try.underlying2 t2
  obtain ⟨n3, e3, _, _⟩ := DataW.trod_int Try.underlying2 t3
  obtain ⟨n4, e4, _, _⟩ := DataW.trod_int Try.underlying3 t4
  match cs, hl with
  | [c0, c1, c2, c3, c4], _ =>
    simp at e0 e1 e2 e3 e4
    subst e0 e1 e2 e3 e4
    exact ⟨n0, n1, n2, n3, n4, rfl⟩
theorem pair_of {fuel : Nat} {cs : List Value} {x : DataW H × List MemPlace} (h : DataW.trod enc Try.prog W base spare held fuel 62 cs = some x) : ∃ p : Int × Int, cs = pairC p := by
  have hl : cs.length = 2 := (trod_len Try.underlying62 h).trans (by kernel_rfl)
  obtain ⟨_, _, t0⟩ := trod_at (ty := 2) (o := 0) (k := 1) Try.underlying62 h 0 _ rfl rfl rfl (by kernel_rfl)
  obtain ⟨_, _, t1⟩ := trod_at (ty := 2) (o := 1) (k := 1) Try.underlying62 h 1 _ rfl rfl rfl (by kernel_rfl)
  obtain ⟨n0, e0, _, _⟩ := DataW.trod_int Try.underlying2 t0
  obtain ⟨n1, e1, _, _⟩ := DataW.trod_int Try.underlying2 t1
  match cs, hl with
  | [c0, c1], _ =>
    simp at e0 e1
    subst e0 e1
    exact ⟨(n0, n1), rfl⟩
theorem pairs_of {fuel : Nat} {v : Value} {x : DataW H × List MemPlace} (h : DataW.trod enc Try.prog W base spare held fuel 37 [v] = some x) : ∃ (A : Option Addr) (n cap : Nat) (ps : List (Int × Int)), v = .slice A n cap ∧ n ≤ maxLen ∧ PairsAt W A n ps := by
  obtain ⟨A, cap, l, h1, h2, h3, h4⟩ := open_elems (size := 2) pairC (fun _ => rfl) (by decide) Try.underlying37 (by kernel_rfl) (fun n cs y hy => pair_of hy) h
  exact ⟨A, l.length, cap, l, h1, by omega, rfl, h4⟩
theorem answer_of {fuel : Nat} {cs : List Value} {x : DataW H × List MemPlace} (h : DataW.trod enc Try.prog W base spare held fuel 39 cs = some x) : ∃ (kind key val n : Int) (A : Option Addr) (pn cap : Nat) (ps : List (Int × Int)), cs = [.int .i64 kind, .int .i64 key, .int .i64 val, .int .i64 n, .slice A pn cap] ∧ PairsAt W A pn ps := by
  have hl : cs.length = 5 := (trod_len Try.underlying39 h).trans (by kernel_rfl)
  obtain ⟨_, _, t0⟩ := trod_at (ty := 3) (o := 0) (k := 1) Try.underlying39 h 0 _ rfl rfl rfl (by kernel_rfl)
  obtain ⟨_, _, t1⟩ := trod_at (ty := 2) (o := 1) (k := 1) Try.underlying39 h 1 _ rfl rfl rfl (by kernel_rfl)
  obtain ⟨_, _, t2⟩ := trod_at (ty := 2) (o := 2) (k := 1) Try.underlying39 h 2 _ rfl rfl rfl (by kernel_rfl)
  obtain ⟨_, _, t3⟩ := trod_at (ty := 3) (o := 3) (k := 1) Try.underlying39 h 3 _ rfl rfl rfl (by kernel_rfl)
  obtain ⟨_, _, t4⟩ := trod_at (ty := 37) (o := 4) (k := 1) Try.underlying39 h 4 _ rfl rfl rfl (by kernel_rfl)
  obtain ⟨n0, e0, _, _⟩ := DataW.trod_int Try.underlying3 t0
  obtain ⟨n1, e1, _, _⟩ := DataW.trod_int Try.underlying2 t1
  obtain ⟨n2, e2, _, _⟩ := DataW.trod_int Try.underlying2 t2
  obtain ⟨n3, e3, _, _⟩ := DataW.trod_int Try.underlying3 t3
  match cs, hl with
  | [c0, c1, c2, c3, c4], _ =>
    simp at e0 e1 e2 e3
    subst e0 e1 e2 e3
    obtain ⟨A, n, cap, ps, h1, _, h3⟩ := pairs_of (v := c4) t4
    subst h1
    exact ⟨n0, n1, n2, n3, A, n, cap, ps, rfl, h3⟩
theorem ev_of {fuel : Nat} {cs : List Value} {x : DataW H × List MemPlace} (h : DataW.trod enc Try.prog W base spare held fuel 51 cs = some x) : ∃ e : {e : EvS // EvOk W e}, cs = evC e.1 := by
  have hl : cs.length = 12 := (trod_len Try.underlying51 h).trans (by kernel_rfl)
  obtain ⟨_, _, t0⟩ := trod_at (ty := 3) (o := 0) (k := 1) Try.underlying51 h 0 _ rfl rfl rfl (by kernel_rfl)
  obtain ⟨_, _, t1⟩ := trod_at (ty := 4) (o := 1) (k := 1) Try.underlying51 h 1 _ rfl rfl rfl (by kernel_rfl)
  obtain ⟨_, _, t2⟩ := trod_at (ty := 36) (o := 2) (k := 5) Try.underlying51 h 2 _ rfl rfl rfl (by kernel_rfl)
  obtain ⟨_, _, t3⟩ := trod_at (ty := 39) (o := 7) (k := 5) Try.underlying51 h 3 _ rfl rfl rfl (by kernel_rfl)
  obtain ⟨n0, e0, _, _⟩ := DataW.trod_int Try.underlying3 t0
  obtain ⟨b1, e1, _⟩ := DataW.trod_bool Try.underlying4 t1
  obtain ⟨m0, m1, m2, m3, m4, e2⟩ := call5_of t2
  obtain ⟨a0, a1, a2, a3, A, pn, cap, ps, e3, hps⟩ := answer_of t3
  match cs, hl with
  | [c0, c1, c2, c3, c4, c5, c6, c7, c8, c9, c10, c11], _ =>
    simp at e0 e1 e2 e3
    obtain ⟨e2, e4, e5, e6, e7⟩ := e2
    obtain ⟨e3, e8, e9, e10, e11⟩ := e3
    subst e0 e1 e2 e3 e4 e5 e6 e7 e8 e9 e10 e11
    exact ⟨⟨⟨n0, b1, m0, m1, m2, m3, m4, a0, a1, a2, a3, A, pn, cap⟩, ps, hps⟩, rfl⟩
theorem evs_of {fuel : Nat} {v : Value} {x : DataW H × List MemPlace} (h : DataW.trod enc Try.prog W base spare held fuel 22 [v] = some x) : ∃ (A : Option Addr) (cap : Nat) (l : List EvS), v = .slice A l.length cap ∧ l.length ≤ maxLen ∧ ElAt evC W A l ∧ ∀ e ∈ l, EvOk W e := by
  obtain ⟨A, cap, l, h1, h2, h3, h4⟩ := open_elems (size := 12) (fun e : {e : EvS // EvOk W e} => evC e.1) (fun _ => rfl) (by decide) Try.underlying22 (by kernel_rfl) (fun n cs y hy => ev_of hy) h
  refine ⟨A, cap, l.map (·.1), by rw [h1, List.length_map], by rw [List.length_map]; omega, fun h0 => ?_, fun e he => ?_⟩
  · obtain ⟨b, o, g1, g2, g3⟩ := h4 (by simpa using h0)
    exact ⟨b, o, g1, g2, fun j u hj => g3 j u (by rw [← hj, List.flatMap_map])⟩
  · obtain ⟨⟨e', he'⟩, _, rfl⟩ := List.mem_map.1 he
    exact he'
theorem events_of {r : Reach} {b0 : Nat} {v : Value} {d : DataW H} {p : List MemPlace} (hv : Value.okWide Try.prog W r b0 22 v) (h : DataW.Trod enc Try.prog W base spare held 22 v d p) : ∃ (A : Option Addr) (cap : Nat) (l : List EvS), v = .slice A l.length cap ∧ l.length ≤ maxLen ∧ ElAt evC W A l ∧ ∀ e ∈ l, EvOk W e := by
  obtain ⟨A, n, cap, rfl⟩ := okWide_slice Try.underlying22 hv
  obtain ⟨m, h⟩ := h
  exact evs_of (by simpa [Value.cells] using h)
end
end Opn
end Go.Proofs.Ytofmonknhiggaaa
