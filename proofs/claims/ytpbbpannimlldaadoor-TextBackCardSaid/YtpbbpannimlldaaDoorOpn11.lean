/- Events that come in: what they are, with their numbers' bounds. Plain lemmas on reading data. -/
import Derived.Test.YtpbbpannimlldaaDoorOpn10
import Derived.Test.YtpbbpannimlldaaDoorTx8
namespace Go.Proofs.YtpbbpannimlldaaDoor
namespace Opn
open Go.ChangeShapes Go.WideShapes Go.Deep Go.RowKit

section
variable {H : Type} {enc : TypeId × Value → H} {W : World} {base : Nat} {spare : Nat → Bool} {held : Bool}
theorem i64_of {t : TypeId} {fuel : Nat} {cs : List Value} {x : DataW H × List MemPlace} (ht : Tryd.prog.underlying t = some (.int .i64)) (h : DataW.trod enc Tryd.prog W base spare held fuel t cs = some x) : ∃ n : Int, cs = [.int .i64 n] ∧ I64 n := by
  obtain ⟨m, rfl, _, hw⟩ := DataW.trod_int ht h
  simp [Lit.wf] at hw
  have h0 : -9223372036854775808 ≤ m := by have := hw.1; rwa [show IntKind.i64.min = -9223372036854775808 by decide] at this
  have h1 : m ≤ 9223372036854775807 := hw.2
  exact ⟨m, rfl, h0, h1⟩
theorem callx_of {fuel : Nat} {cs : List Value} {x : DataW H × List MemPlace} (h : DataW.trod enc Tryd.prog W base spare held fuel 26 cs = some x) : ∃ c : CallX, cs = c.cells.toList ∧ c.Fit := by
  have hl : cs.length = 5 := (trod_len Tryd.underlying26 h).trans (by kernel_rfl)
  obtain ⟨_, _, t0⟩ := trod_at (ty := 3) (o := 0) (k := 1) Tryd.underlying26 h 0 _ rfl rfl rfl (by kernel_rfl)
  obtain ⟨_, _, t1⟩ := trod_at (ty := 2) (o := 1) (k := 1) Tryd.underlying26 h 1 _ rfl rfl rfl (by kernel_rfl)
  obtain ⟨_, _, t2⟩ := trod_at (ty := 2) (o := 2) (k := 1) Tryd.underlying26 h 2 _ rfl rfl rfl (by kernel_rfl)
  obtain ⟨_, _, t3⟩ := trod_at (ty := 2) (o := 3) (k := 1) Tryd.underlying26 h 3 _ rfl rfl rfl (by kernel_rfl)
  obtain ⟨_, _, t4⟩ := trod_at (ty := 3) (o := 4) (k := 1) Tryd.underlying26 h 4 _ rfl rfl rfl (by kernel_rfl)
  obtain ⟨n0, e0, b0⟩ := i64_of Tryd.underlying3 t0
  obtain ⟨n1, e1, b1⟩ := i64_of Tryd.underlying2 t1
  obtain ⟨n2, e2, b2⟩ := i64_of Tryd.underlying2 t2
  obtain ⟨n3, e3, b3⟩ := i64_of Tryd.underlying2 t3
  obtain ⟨n4, e4, b4⟩ := i64_of Tryd.underlying3 t4
  match cs, hl with
  | [c0, c1, c2, c3, c4], _ =>
    simp at e0 e1 e2 e3 e4
    subst e0 e1 e2 e3 e4
    exact ⟨⟨n0, n1, n2, n3, n4⟩, rfl, ⟨b1, b2, b3, b4⟩⟩
theorem pairx_of {fuel : Nat} {cs : List Value} {x : DataW H × List MemPlace} (h : DataW.trod enc Tryd.prog W base spare held fuel 51 cs = some x) : ∃ p : {p : Int × Int // I64 p.1 ∧ I64 p.2}, cs = pairC p.1 := by
  have hl : cs.length = 2 := (trod_len Tryd.underlying51 h).trans (by kernel_rfl)
  obtain ⟨_, _, t0⟩ := trod_at (ty := 2) (o := 0) (k := 1) Tryd.underlying51 h 0 _ rfl rfl rfl (by kernel_rfl)
  obtain ⟨_, _, t1⟩ := trod_at (ty := 2) (o := 1) (k := 1) Tryd.underlying51 h 1 _ rfl rfl rfl (by kernel_rfl)
  obtain ⟨n0, e0, b0⟩ := i64_of Tryd.underlying2 t0
  obtain ⟨n1, e1, b1⟩ := i64_of Tryd.underlying2 t1
  match cs, hl with
  | [c0, c1], _ =>
    simp at e0 e1
    subst e0 e1
    exact ⟨⟨(n0, n1), b0, b1⟩, rfl⟩
theorem pairsx_of {fuel : Nat} {v : Value} {x : DataW H × List MemPlace} (h : DataW.trod enc Tryd.prog W base spare held fuel 31 [v] = some x) : ∃ (A : Option Addr) (cap : Nat) (ps : List (Int × Int)), v = .slice A ps.length cap ∧ ElAt pairC W A ps ∧ ∀ p ∈ ps, I64 p.1 ∧ I64 p.2 := by
  obtain ⟨A, cap, l, h1, h2, h3, h4⟩ := open_elems (size := 2) (fun p : {p : Int × Int // I64 p.1 ∧ I64 p.2} => pairC p.1) (fun _ => rfl) (by decide) Tryd.underlying31 (by kernel_rfl) (fun n cs y hy => pairx_of hy) h
  refine ⟨A, cap, l.map (·.1), by rw [h1, List.length_map], fun h0 => ?_, fun p hp => ?_⟩
  · obtain ⟨b, o, g1, g2, g3⟩ := h4 (by simpa using h0)
    exact ⟨b, o, g1, g2, fun j u hj => g3 j u (by rw [← hj, List.flatMap_map])⟩
  · obtain ⟨⟨p', hp'⟩, _, rfl⟩ := List.mem_map.1 hp
    exact hp'
theorem ansx_of {fuel : Nat} {cs : List Value} {x : DataW H × List MemPlace} (h : DataW.trod enc Tryd.prog W base spare held fuel 33 cs = some x) : ∃ a : AnsX, cs = a.cells.toList ∧ a.Fit ∧ ElAt pairC W a.pA a.ps := by
  have hl : cs.length = 5 := (trod_len Tryd.underlying33 h).trans (by kernel_rfl)
  obtain ⟨_, _, t0⟩ := trod_at (ty := 3) (o := 0) (k := 1) Tryd.underlying33 h 0 _ rfl rfl rfl (by kernel_rfl)
  obtain ⟨_, _, t1⟩ := trod_at (ty := 2) (o := 1) (k := 1) Tryd.underlying33 h 1 _ rfl rfl rfl (by kernel_rfl)
  obtain ⟨_, _, t2⟩ := trod_at (ty := 2) (o := 2) (k := 1) Tryd.underlying33 h 2 _ rfl rfl rfl (by kernel_rfl)
  obtain ⟨_, _, t3⟩ := trod_at (ty := 3) (o := 3) (k := 1) Tryd.underlying33 h 3 _ rfl rfl rfl (by kernel_rfl)
  obtain ⟨_, _, t4⟩ := trod_at (ty := 31) (o := 4) (k := 1) Tryd.underlying33 h 4 _ rfl rfl rfl (by kernel_rfl)
  obtain ⟨n0, e0, b0⟩ := i64_of Tryd.underlying3 t0
  obtain ⟨n1, e1, b1⟩ := i64_of Tryd.underlying2 t1
  obtain ⟨n2, e2, b2⟩ := i64_of Tryd.underlying2 t2
  obtain ⟨n3, e3, b3⟩ := i64_of Tryd.underlying3 t3
  match cs, hl with
  | [c0, c1, c2, c3, c4], _ =>
    simp at e0 e1 e2 e3
    subst e0 e1 e2 e3
    obtain ⟨A, cap, ps, h1, h2, h3⟩ := pairsx_of (v := c4) t4
    subst h1
    exact ⟨⟨n0, n1, n2, n3, ps, A, cap⟩, rfl, ⟨b1, b2, b3, h3⟩, h2⟩
theorem evx_of {fuel : Nat} {cs : List Value} {x : DataW H × List MemPlace} (h : DataW.trod enc Tryd.prog W base spare held fuel 45 cs = some x) : ∃ e : {e : EvX // EvIn W e}, cs = evL e.1 := by
  have hl : cs.length = 12 := (trod_len Tryd.underlying45 h).trans (by kernel_rfl)
  obtain ⟨_, _, t0⟩ := trod_at (ty := 3) (o := 0) (k := 1) Tryd.underlying45 h 0 _ rfl rfl rfl (by kernel_rfl)
  obtain ⟨_, _, t1⟩ := trod_at (ty := 4) (o := 1) (k := 1) Tryd.underlying45 h 1 _ rfl rfl rfl (by kernel_rfl)
  obtain ⟨_, _, t2⟩ := trod_at (ty := 26) (o := 2) (k := 5) Tryd.underlying45 h 2 _ rfl rfl rfl (by kernel_rfl)
  obtain ⟨_, _, t3⟩ := trod_at (ty := 33) (o := 7) (k := 5) Tryd.underlying45 h 3 _ rfl rfl rfl (by kernel_rfl)
  obtain ⟨n0, e0, b0⟩ := i64_of Tryd.underlying3 t0
  obtain ⟨b1, e1, _⟩ := DataW.trod_bool Tryd.underlying4 t1
  obtain ⟨c, e2, hc⟩ := callx_of t2
  obtain ⟨a, e3, ha, hr⟩ := ansx_of t3
  match cs, hl with
  | [c0, c1, c2, c3, c4, c5, c6, c7, c8, c9, c10, c11], _ =>
    simp [CallX.cells, AnsX.cells] at e0 e1 e2 e3
    obtain ⟨e2, e4, e5, e6, e7⟩ := e2
    obtain ⟨e3, e8, e9, e10, e11⟩ := e3
    subst e0 e1 e2 e3 e4 e5 e6 e7 e8 e9 e10 e11
    exact ⟨⟨⟨n0, b1, c, a⟩, ⟨b0, hc, ha⟩, hr⟩, rfl⟩
set_option maxRecDepth 100000 in
theorem eventx_of {r : Reach} {b0 : Nat} {v : Value} {d : DataW H} {p : List MemPlace} (hv : Value.okWide Tryd.prog W r b0 45 v) (h : DataW.Trod enc Tryd.prog W base spare held 45 v d p) : ∃ e : EvX, v = .agg e.cells ∧ EvIn W e := by
  obtain ⟨cs, rfl, hcs⟩ := okWide_struct Tryd.underlying45 hv
  obtain ⟨m, h⟩ := h
  have h' : DataW.trod enc Tryd.prog W base spare held m 45 cs.toList = some (d, p) := by simpa [Value.cells] using h
  obtain ⟨⟨e, he⟩, hc⟩ := evx_of h'
  refine ⟨e, ?_, he⟩
  have : cs = e.cells := by
    have h2 : cs.toList = e.cells.toList := hc
    exact Array.toList_inj.1 h2
  rw [this]
set_option maxRecDepth 100000 in
theorem eventsx_of {r : Reach} {b0 : Nat} {v : Value} {d : DataW H} {p : List MemPlace} (hv : Value.okWide Tryd.prog W r b0 39 v) (h : DataW.Trod enc Tryd.prog W base spare held 39 v d p) : ∃ (A : Option Addr) (cap : Nat) (l : List EvX), v = .slice A l.length cap ∧ ElAt evL W A l ∧ ∀ e ∈ l, EvIn W e := by
  obtain ⟨A, n, cap, rfl⟩ := okWide_slice Tryd.underlying39 hv
  obtain ⟨m, h⟩ := h
  obtain ⟨A', cap', l, h1, h2, h3, h4⟩ := open_elems (size := 12) (fun e : {e : EvX // EvIn W e} => evL e.1) (fun _ => rfl) (by decide) Tryd.underlying39 (by kernel_rfl) (fun n cs y hy => evx_of hy) (show DataW.trod enc Tryd.prog W base spare held m 39 [.slice A n cap] = _ by simpa [Value.cells] using h)
  refine ⟨A', cap', l.map (·.1), by rw [h1, List.length_map], fun h0 => ?_, fun e he => ?_⟩
  · obtain ⟨b, o, g1, g2, g3⟩ := h4 (by simpa using h0)
    exact ⟨b, o, g1, g2, fun j u hj => g3 j u (by rw [← hj, List.flatMap_map])⟩
  · obtain ⟨⟨e', he'⟩, _, rfl⟩ := List.mem_map.1 he
    exact he'
end
end Opn
end Go.Proofs.YtpbbpannimlldaaDoor
