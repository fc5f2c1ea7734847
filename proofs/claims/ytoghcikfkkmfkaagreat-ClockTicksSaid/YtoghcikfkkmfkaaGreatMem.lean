/- Package mem: the contracts of its methods, over a memory that is known whole. Conditions: the memory is known (MemAt), its count of accesses is far from the end of int. -/
import Derived.Test.YtoghcikfkkmfkaaGreatVoc
import Derived.Deep.RegionHeld3
import Derived.Deep.QuietTactic
import Derived.BigQuiet
import Derived.WalkSpells
import Derived.Lib.Hide
namespace Go.Proofs.YtoghcikfkkmfkaaGreat
open Go.RowKit

structure MemI where
  mb : Nat
  wb : Nat
  cap : Nat
  extra : List Value
structure MemS where
  ws : List Nat
  acc : Int
  fault : Bool
def u64s (l : List Nat) : List Value := l.map fun n : Nat => .int .u64 (n : Int)
structure MemAt (w : World) (i : MemI) (s : MemS) : Prop where
  hm : Blk w i.mb 140 #[.slice (some ⟨i.wb, 0, none⟩) s.ws.length i.cap, .int .i64 s.acc, .bool s.fault]
  hw : Blk w i.wb 22 (u64s s.ws ++ i.extra).toArray
  len : s.ws.length ≤ 4096
  acc0 : 0 ≤ s.acc

theorem mem_accesses (w : World) (i : MemI) (s : MemS) (h : MemAt w i s) :
    Calls Tryz.prog 55 #[.pointer (some ⟨i.mb, 0, none⟩)] w fun e w' => e = .returned (.int .i64 s.acc) ∧ w = w' := by
  have hc := h.hm.cell
  clear h
  go_enter Tryz.func55, Tryz.ntmps55
  go_wp2
  go_ret
  exact ⟨rfl, rfl⟩

theorem mem_fault (w : World) (i : MemI) (s : MemS) (h : MemAt w i s) :
    Calls Tryz.prog 64 #[.pointer (some ⟨i.mb, 0, none⟩)] w fun e w' => e = .returned (.bool s.fault) ∧ w = w' := by
  have hc := h.hm.cell
  clear h
  go_enter Tryz.func64, Tryz.ntmps64
  go_wp2
  go_ret
  exact ⟨rfl, rfl⟩

def inR (n : Nat) (ps : List Int) : Bool := ps.all (fun a => decide (0 ≤ a) && decide (a < n))
def MemS.touch (s : MemS) (ok : Bool) : MemS := { s with acc := s.acc + 1, fault := s.fault || !ok }
theorem inR_take {n : Nat} {ps : List Int} : inR n ps = true ↔ ∀ a, a ∈ ps → 0 ≤ a ∧ a < n := by simp [inR]
theorem inR_false {n : Nat} {ps : List Int} {a : Int} (h : a ∈ ps) (hn : a < 0 ∨ n ≤ a) : inR n ps = false := by
  rw [Bool.eq_false_iff]
  intro h2
  have := inR_take.1 h2 a h
  omega

theorem at_no {w w1 : World} {mb wb cap : Nat} {extra : List Value} {ws : List Nat} {acc : Int} {fault : Bool} 
    (hm1 : Blk w1 mb 140 #[.slice (some ⟨wb, 0, none⟩) ws.length cap, .int .i64 (acc + 1), .bool fault]) (hw1 : Blk w1 wb 22 (u64s ws ++ extra).toArray) (hlen : ws.length ≤ 4096) (hacc0 : 0 ≤ acc) (hk1 : Keep [mb] w w1) :
    Ending.returned (.bool false) = Ending.returned (.bool false) ∧ MemAt (w1.setCell ⟨mb, 2, none⟩ (.bool true)) ⟨mb, wb, cap, extra⟩ (MemS.touch ⟨ws, acc, fault⟩ false) ∧ Keep [mb] w (w1.setCell ⟨mb, 2, none⟩ (.bool true)) := by
  have hne' : mb ≠ wb := hm1.ne_ hw1 (by decide)
  exact ⟨rfl, ⟨by simpa [MemS.touch] using hm1.set_ 2 (.bool true), hw1.far (p := ⟨mb, 2, none⟩) (fun e => hne' e.symm) _, hlen, by simp [MemS.touch]; omega⟩, hk1.set_ _ (.inl (by simp))⟩

set_option maxHeartbeats 400000 in
theorem mem_at (w : World) (i : MemI) (s : MemS) (h : MemAt w i s) (hacc : s.acc ≤ 4611686018427387904) (pb : Nat) (ps : List Int) (hp : Blk w pb 3 (ps.map (Value.int .i64)).toArray) (hl : ps.length ≤ 10) :
    Calls Tryz.prog 91 #[.pointer (some ⟨i.mb, 0, none⟩), .slice (some ⟨pb, 0, none⟩) ps.length ps.length] w fun e w' =>
      e = .returned (.bool (inR s.ws.length ps)) ∧ MemAt w' i (s.touch (inR s.ws.length ps)) ∧ Keep [i.mb] w w' := by
  obtain ⟨mb, wb, cap, extra⟩ := i
  obtain ⟨ws, acc, fault⟩ := s
  obtain ⟨hm, hw, hlen, hacc0⟩ := h
  simp only at hm hw hlen hacc0 hacc ⊢
  have hne : pb ≠ mb := hp.ne_ hm (by decide)
  have hne' : mb ≠ wb := hm.ne_ hw (by decide)
  have hc := hm.cell
  have hf := hm.frozen
  have hpc := hp.cell
  go_enter Tryz.func91, Tryz.ntmps91
  go_wp2
  have hm1 : Blk (w.setCell ⟨mb, 1, none⟩ (.int .i64 (acc + 1))) mb 140 #[.slice (some ⟨wb, 0, none⟩) ws.length cap, .int .i64 (acc + 1), .bool fault] := hm.set_ 1 _
  have hw1 : Blk (w.setCell ⟨mb, 1, none⟩ (.int .i64 (acc + 1))) wb 22 (u64s ws ++ extra).toArray := hw.far (p := ⟨mb, 1, none⟩) (fun e => hne' e.symm) _
  have hp1 : Blk (w.setCell ⟨mb, 1, none⟩ (.int .i64 (acc + 1))) pb 3 (ps.map (Value.int .i64)).toArray := hp.far (p := ⟨mb, 1, none⟩) hne _
  have hk1 : Keep [mb] w (w.setCell ⟨mb, 1, none⟩ (.int .i64 (acc + 1))) := (Keep.refl _ w).set_ _ (.inl (by simp))
  generalize w.setCell ⟨mb, 1, none⟩ (.int .i64 (acc + 1)) = w1 at hm1 hw1 hp1 hk1 ⊢
  clear hc hf hpc hm hw hp
  have hc := hm1.cell
  have hf := hm1.frozen
  have hpc := hp1.cell
  go_loop [18] (fun q => ∃ k : Nat, k ≤ ps.length ∧ q = .int .i64 k ∧ ∀ j, j < k → ∀ a, ps[j]? = some a → 0 ≤ a ∧ a < ws.length) (fun q => ps.length - (intOf q).toNat)
  case atStart => exact ⟨0, Nat.zero_le _, rfl, fun j hj => absurd hj (by omega)⟩
  case round =>
    obtain ⟨k, hk, rfl, hall⟩ := hrel
    by_cases hlt : k < ps.length
    · have hx : w1.cell? ⟨pb, k, none⟩ = some (.int .i64 (ps[k])) := by rw [hpc]; simp [hlt]
      clear hpc
      by_cases hb : 0 ≤ ps[k] ∧ ps[k] < ws.length
      · obtain ⟨hb0, hb1⟩ := hb
        go_wp2
        go_round
        case rel =>
          refine ⟨k + 1, by omega, by go_num, fun j hj a ha => ?_⟩
          rcases Nat.lt_or_ge j k with hjk | hjk
          · exact hall j hjk a ha
          · have : j = k := by omega
            subst this
            rw [List.getElem?_eq_getElem hlt] at ha
            cases ha
            exact ⟨hb0, hb1⟩
        case measure => simp [intOf]; omega
      · have hin : inR ws.length ps = false := inR_false (List.getElem_mem hlt) (by omega)
        by_cases hb0 : ps[k] < 0
        · go_wp2
          go_ret
          exact at_no hm1 hw1 hlen hacc0 hk1
        · have hb1 : ws.length ≤ ps[k] := by omega
          go_wp2
          go_ret
          exact at_no hm1 hw1 hlen hacc0 hk1
    · have hin : inR ws.length ps = true := inR_take.2 (fun a ha => by
        obtain ⟨j, hj, rfl⟩ := List.getElem_of_mem ha
        exact hall j (by omega) _ (List.getElem?_eq_getElem hj))
      go_wp2
      go_ret
      exact ⟨rfl, ⟨by simpa [MemS.touch] using hm1, hw1, hlen, by simp [MemS.touch]; omega⟩, hk1⟩
end Go.Proofs.YtoghcikfkkmfkaaGreat
