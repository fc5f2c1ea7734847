/- Scripts and needs that come in: what they are. Plain lemmas on reading data. -/
import Derived.Test.YtbhibmimdpodiaaOpn2
import Derived.Test.YtbhibmimdpodiaaEntD
namespace Go.Proofs.Ytbhibmimdpodiaa.Opn
open Go.ChangeShapes Go.WideShapes Go.Deep Go.RowKit

section
variable {H : Type} {enc : TypeId × Value → H} {W : World} {base : Nat} {spare : Nat → Bool} {held : Bool}
theorem call_of {fuel : Nat} {cs : List Value} {x : DataW H × List MemPlace} (h : DataW.trod enc Try.prog W base spare held fuel 41 cs = some x) : ∃ op key val hi lim : Int, cs = [.int .i64 op, .int .i64 key, .int .i64 val, .int .i64 hi, .int .i64 lim] := by
  have hl : cs.length = 5 := (trod_len Try.underlying41 h).trans (by kernel_rfl)
  obtain ⟨_, _, t0⟩ := trod_at (ty := 3) (o := 0) (k := 1) Try.underlying41 h 0 _ rfl rfl rfl (by kernel_rfl)
  obtain ⟨_, _, t1⟩ := trod_at (ty := 2) (o := 1) (k := 1) Try.underlying41 h 1 _ rfl rfl rfl (by kernel_rfl)
  obtain ⟨_, _, t2⟩ := trod_at (ty := 2) (o := 2) (k := 1) Try.underlying41 h 2 _ rfl rfl rfl (by kernel_rfl)
  obtain ⟨_, _, t3⟩ := trod_at (ty := 2) (o := 3) (k := 1) Try.underlying41 h 3 _ rfl rfl rfl (by kernel_rfl)
  obtain ⟨_, _, t4⟩ := trod_at (ty := 3) (o := 4) (k := 1) Try.underlying41 h 4 _ rfl rfl rfl (by kernel_rfl)
  obtain ⟨n0, e0, _, _⟩ := DataW.trod_int Try.underlying3 t0
  obtain ⟨n1, e1, _, _⟩ := DataW.trod_int Try.underlying2 t1
  obtain ⟨n2, e2, _, _⟩ := DataW.trod_int Try.underlying2 t2
  obtain ⟨n3, e3, _, _⟩ := DataW.trod_int Try.underlying2 t3
  obtain ⟨n4, e4, _, _⟩ := DataW.trod_int Try.underlying3 t4
  match cs, hl with
  | [c0, c1, c2, c3, c4], _ =>
    simp at e0 e1 e2 e3 e4
    subst e0 e1 e2 e3 e4
    exact ⟨n0, n1, n2, n3, n4, rfl⟩
theorem ent_of {fuel : Nat} {cs : List Value} {x : DataW H × List MemPlace} (h : DataW.trod enc Try.prog W base spare held fuel 43 cs = some x) : ∃ e : EntS, cs = e.cells := by
  have hl : cs.length = 7 := (trod_len Try.underlying43 h).trans (by kernel_rfl)
  obtain ⟨_, _, t0⟩ := trod_at (ty := 3) (o := 0) (k := 1) Try.underlying43 h 0 _ rfl rfl rfl (by kernel_rfl)
  obtain ⟨_, _, t1⟩ := trod_at (ty := 4) (o := 1) (k := 1) Try.underlying43 h 1 _ rfl rfl rfl (by kernel_rfl)
  obtain ⟨_, _, t2⟩ := trod_at (ty := 41) (o := 2) (k := 5) Try.underlying43 h 2 _ rfl rfl rfl (by kernel_rfl)
  obtain ⟨n0, e0, _, _⟩ := DataW.trod_int Try.underlying3 t0
  obtain ⟨b1, e1, _⟩ := DataW.trod_bool Try.underlying4 t1
  obtain ⟨m0, m1, m2, m3, m4, e2⟩ := call_of t2
  match cs, hl with
  | [c0, c1, c2, c3, c4, c5, c6], _ =>
    simp at e0 e1 e2
    obtain ⟨e2, e3, e4, e5, e6⟩ := e2
    subst e0 e1 e2 e3 e4 e5 e6
    exact ⟨⟨n0, b1, m0, m1, m2, m3, m4⟩, rfl⟩
theorem ents_of {fuel : Nat} {v : Value} {x : DataW H × List MemPlace} (h : DataW.trod enc Try.prog W base spare held fuel 25 [v] = some x) : ∃ (A : Option Addr) (cap : Nat) (l : List EntS), v = .slice A l.length cap ∧ l.length ≤ maxLen ∧ EntAt W anyB A l := by
  obtain ⟨A, cap, l, h1, h2, h3, h4⟩ := open_elems (size := 7) EntS.cells (fun _ => rfl) (by decide) Try.underlying25 (by kernel_rfl) (fun n cs y hy => ent_of hy) h
  refine ⟨A, cap, l, h1, by omega, fun h0 => ?_⟩
  obtain ⟨b, o, g1, g2, g3⟩ := h4 h0
  exact ⟨b, o, g1, g2, trivial, g3⟩
set_option maxRecDepth 100000 in
theorem script_of {r : Reach} {b0 : Nat} {v : Value} {d : DataW H} {p : List MemPlace} (hv : Value.okWide Try.prog W r b0 27 v) (h : DataW.Trod enc Try.prog W base spare held 27 v d p) : ∃ (c : Int × Int × Int) (A : Option Addr) (cap : Nat) (l : List EntS), v = scriptV c (.slice A l.length cap) ∧ l.length ≤ maxLen ∧ EntAt W anyB A l := by
  obtain ⟨cs, rfl, hcs⟩ := okWide_struct Try.underlying27 hv
  obtain ⟨m, h⟩ := h
  have h' : DataW.trod enc Try.prog W base spare held m 27 cs.toList = some (d, p) := by simpa [Value.cells] using h
  have hl : cs.toList.length = 4 := (trod_len Try.underlying27 h').trans (by kernel_rfl)
  obtain ⟨_, _, t0⟩ := trod_at (ty := 24) (o := 0) (k := 3) Try.underlying27 h' 0 _ rfl rfl rfl (by kernel_rfl)
  obtain ⟨_, _, t1⟩ := trod_at (ty := 25) (o := 3) (k := 1) Try.underlying27 h' 1 _ rfl rfl rfl (by kernel_rfl)
  obtain ⟨_, _, s0⟩ := trod_at (ty := 3) (o := 0) (k := 1) Try.underlying24 t0 0 _ rfl rfl rfl (by kernel_rfl)
  obtain ⟨_, _, s1⟩ := trod_at (ty := 3) (o := 1) (k := 1) Try.underlying24 t0 1 _ rfl rfl rfl (by kernel_rfl)
  obtain ⟨_, _, s2⟩ := trod_at (ty := 22) (o := 2) (k := 1) Try.underlying24 t0 2 _ rfl rfl rfl (by kernel_rfl)
  obtain ⟨n0, e0, _, _⟩ := DataW.trod_int Try.underlying3 s0
  obtain ⟨n1, e1, _, _⟩ := DataW.trod_int Try.underlying3 s1
  obtain ⟨n2, e2, _, _⟩ := DataW.trod_int Try.underlying22 s2
  obtain ⟨l⟩ := cs
  match l, hl with
  | [c0, c1, c2, c3], _ =>
    simp at e0 e1 e2
    subst e0 e1 e2
    obtain ⟨A, cap, l, h1, h2, h3⟩ := ents_of (v := c3) t1
    subst h1
    exact ⟨(n0, n1, n2), A, cap, l, rfl, h2, h3⟩
theorem okWide_arr {P : Program} {r : Reach} {b0 n : Nat} {t e : TypeId} {v : Value} (ht : P.underlying t = some (.array n e)) (h : Value.okWide P W r b0 t v) : ∃ cs, v = .agg cs ∧ cs.size = P.cellsOf t := by
  simp only [Value.okWide, ht] at h
  obtain ⟨cs, h1, h2, _⟩ := h
  exact ⟨cs, h1, h2⟩
set_option maxRecDepth 100000 in
theorem need_of {r : Reach} {b0 : Nat} {v : Value} {d : DataW H} {p : List MemPlace} (hv : Value.okWide Try.prog W r b0 29 v) (h : DataW.Trod enc Try.prog W base spare held 29 v d p) : ∃ n0 n1 n2 : Int, v = .agg #[.int .i64 n0, .int .i64 n1, .int .i64 n2] := by
  obtain ⟨cs, rfl, hcs⟩ := okWide_arr Try.underlying29 hv
  obtain ⟨m, h⟩ := h
  have h' : DataW.trod enc Try.prog W base spare held m 29 cs.toList = some (d, p) := by simpa [Value.cells] using h
  obtain ⟨xs, k, _, _, hl, hxl, hg⟩ := DataW.trod_array Try.underlying29 h'
  have hl' : cs.toList.length = 3 := hl.trans (by kernel_rfl)
  have hc0 : Try.prog.cellsOf 3 = 1 := by kernel_rfl
  have hx : ∀ i, i < 3 → ∃ y, DataW.trod enc Try.prog W base spare held k 3 ((cs.toList.drop i).take 1) = some y := fun i hi => by
    have h1 := hg i hi
    rw [hc0, Nat.mul_one] at h1
    exact ⟨_, h1.trans (List.getElem?_eq_getElem (by omega))⟩
  obtain ⟨_, t0⟩ := hx 0 (by omega)
  obtain ⟨_, t1⟩ := hx 1 (by omega)
  obtain ⟨_, t2⟩ := hx 2 (by omega)
  obtain ⟨n0, e0, _, _⟩ := DataW.trod_int Try.underlying3 t0
  obtain ⟨n1, e1, _, _⟩ := DataW.trod_int Try.underlying3 t1
  obtain ⟨n2, e2, _, _⟩ := DataW.trod_int Try.underlying3 t2
  obtain ⟨l⟩ := cs
  match l, hl' with
  | [c0, c1, c2], _ =>
    simp at e0 e1 e2
    subst e0 e1 e2
    exact ⟨n0, n1, n2, rfl⟩
end
end Go.Proofs.Ytbhibmimdpodiaa.Opn
