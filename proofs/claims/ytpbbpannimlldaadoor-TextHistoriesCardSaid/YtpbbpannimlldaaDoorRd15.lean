/- text.lines by its contract: whatever its rounds do. Conditions: the library's variables are as they were laid; at most 20000 bytes. -/
import Derived.RangeFuncNested
import Derived.RangeFuncBound
import Derived.RangeFuncCalls
import Derived.RangeFuncLeaves
import Derived.Shelf.Abstract
import Derived.Shelf.RegionOpen
import Derived.WalkKit
import Derived.OwnWalkIn
import Derived.TacticsInMore
import Derived.LoopNIn
import Derived.LoopIn
import Derived.Test.YtpbbpannimlldaaDoorRng
import Derived.Test.YtpbbpannimlldaaDoorRd14
namespace Go.Proofs.YtpbbpannimlldaaDoor
open Go.RowKit Go.Shelf
attribute [local go_sem] Oper.semAt_some

theorem cut_line (s : List UInt8) : (Lib.cut s [10] = (s, [], false) ∧ cutZ 10 s = [s]) ∨ (∃ a b, Lib.cut s [10] = (a, b, true) ∧ a.length ≤ s.length ∧ b.length < s.length ∧ cutZ 10 s = a :: cutZ 10 b) := by
  rcases cut_parts 10 s with ⟨e1, e2⟩ | ⟨i, e1, e2⟩
  · refine .inl ⟨?_, e2⟩
    unfold Lib.cut
    rw [e1, if_neg (by decide)]
  · cases s with
    | nil => rw [index_nil] at e1; omega
    | cons c t =>
      refine .inr ⟨(c :: t).take i, (c :: t).drop (i + 1), ?_, by simp; omega, by simp; omega, e2⟩
      unfold Lib.cut
      rw [e1, if_pos (by omega)]
      rfl
def ssz : Value → Nat
  | .string b => b.size
  | _ => 0
theorem ssz_list (u : List UInt8) : ssz (.string ⟨u.toArray⟩) = u.length := by show u.toArray.size = _; simp
set_option maxHeartbeats 2000000 in
theorem text_lines (l : Nat) (s : List UInt8) (W : World) (J : List UInt8 → World → Prop) (R : Ending → World → Prop) (hJ : J s W) (hs : s.length ≤ 20000) (hT : ∀ u W, J u W → TabsOk W) (hd : ∀ u W n, J u W → J u (W.drewN n))
    (hend : ∀ W v, J [] W → R (.returned v) W)
    (hstep : ∀ u W, u ≠ [] → u.length ≤ 20000 → J u W → YieldAt Fence.wide 0 Tryd.prog l #[.string ⟨(Lib.cut u [10]).1.toArray⟩, .bool (Lib.cut u [10]).2.2] W (fun e W' => (e = .returned (.bool true) ∧ J (Lib.cut u [10]).2.1 W') ∨ (∃ ch, e = .panicked ch ∧ R (.panicked ch) W'))) :
    CallsIn Fence.wide 1 Tryd.prog 33 #[.string ⟨s.toArray⟩, .func (.yield l) #[] #[]] W R := by
  have HJ := Lib.hid hJ
  have HS := Lib.hid hs
  have HT := Lib.hid hT
  have HD := Lib.hid hd
  have HE := Lib.hid hend
  have HP := Lib.hid hstep
  clear hJ hs hT hd hend hstep
  refine callsIn_of_wp Tryd.func33 rfl trivial ?_ rfl
  simp only [Tryd.ntmps33, List.size_toArray, List.length_cons, List.length_nil, Nat.reduceAdd, Nat.reduceSub, Array.replicate_succ, Array.replicate_zero, List.push_toArray, List.append_toArray, List.nil_append, List.cons_append]
  gi_wp2
  gi_loopw [0] (fun v wr => ∃ u : List UInt8, v = .string ⟨u.toArray⟩ ∧ u.length ≤ 20000 ∧ J u wr) (fun v _ => ssz v)
  case atStart => exact ⟨s, rfl, HS.out, HJ.out⟩
  case round =>
    obtain ⟨u, rfl, hu, hj⟩ := hrel
    have HU := Lib.hid hu
    have HJU := Lib.hid hj
    clear hu hj HJ HS
    cases u with
    | nil =>
      gi_wp2
      go_end0
      exact HE.out _ _ HJU.out
    | cons c t =>
      obtain ⟨m, hm⟩ := (HT.out _ _ HJU.out).max
      have hsz : (⟨(c :: t).toArray⟩ : ByteArray).size = (c :: t).length := by show (c :: t).toArray.size = _; simp
      have KC := Lib.hid (Tryd.strings_Cut ⟨(c :: t).toArray⟩ ⟨#[10]⟩ m wr (by rw [hsz]; have := HU.out; omega) hm)
      have HY := Lib.hid (fun W => HP.out (c :: t) W (by simp) HU.out)
      have HLT : Hid ((Lib.cut (c :: t) [10]).2.1.length < (c :: t).length ∧ (Lib.cut (c :: t) [10]).2.1.length ≤ 20000) := Lib.hid (by
        have hu := HU.out
        rcases cut_line (c :: t) with ⟨h, _⟩ | ⟨a, b, h, _, h2, _⟩
        · rw [h]; simp
        · rw [h]; exact ⟨h2, by show b.length ≤ 20000; omega⟩)
      clear hm hsz HP
      generalize hq : Lib.cut (c :: t) [10] = q at *
      clear hq
      obtain ⟨q1, q2, q3⟩ := q
      gi_wp2_with (refine ⟨trivial, ?_⟩; gi_at_call 51; refine (callsIn_wide.2 KC.out).mono ?_; rintro e w' ⟨rfl, n, rfl⟩; obtain ⟨fn, tmps, asg, body, hy, hR⟩ := HY.out (wr.drewN n) (HD.out _ _ n HJU.out); dsimp only at hy hR; have HR := Lib.hid hR; clear hR)
      refine HR.out.mono ?_
      rintro e W2 (⟨rfl, hj⟩ | ⟨ch, rfl, hr⟩)
      · have HJ2 := Lib.hid hj
        clear hj
        gi_wp2
        go_roundw
        case rel => exact ⟨_, rfl, HLT.out.2, HJ2.out⟩
        case measure => rw [ssz_list, ssz_list]; exact HLT.out.1
      · have HRR := Lib.hid hr
        clear hr
        gi_wp2
        exact ⟨rfl, HRR.out⟩
end Go.Proofs.YtpbbpannimlldaaDoor
