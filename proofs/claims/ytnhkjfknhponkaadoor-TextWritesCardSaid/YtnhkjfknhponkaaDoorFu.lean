/- strconv.FormatUint at base 10 by its contract, over the library's contracts of its parts. Condition: the library's table of powers of ten is as it was laid. -/
import Derived.Test.YtnhkjfknhponkaaDoorShf
import Derived.Test.YtnhkjfknhponkaaDoorOwn
import Derived.Lib.AppendIntMem
import Derived.Lib.LaidTab
namespace Go.Proofs.YtnhkjfknhponkaaDoor
open Go.RowKit Go.Sort

def TabOk (w : World) : Prop := Lib.TabIs Tryd.prog w "internal/strconv.uint64pow10" .u64 Lib.pow10Tab
theorem TabOk.keep {w w' : World} (h : TabOk w) (hk : Keep [] w w') : TabOk w' := by
  unfold TabOk Lib.TabIs World.var? at *
  cases hg : Tryd.prog.globalNamed "internal/strconv.uint64pow10" with
  | none => simp [hg] at h
  | some g =>
    simp only [hg, Option.bind_some] at h ⊢
    have hlt : g < w.heap.size := by
      rcases Nat.lt_or_ge g w.heap.size with h' | h'
      · exact h'
      · rw [Array.getElem?_eq_none h'] at h; simp at h
    rw [hk.block g hlt (by simp)]
    exact h
theorem keep_grow (w : World) (k : Nat) (os : Array Obj) : Keep [] w (grow (w.drewN k) os) := Keep.of_below (Lib.below_grow w.heap.size w (Nat.le_refl _) k os)
def TextOut (l : List UInt8) (w : World) (r : Ending) (w' : World) : Prop := r = .returned (.string ⟨l.toArray⟩) ∧ Keep [] w w'
set_option maxHeartbeats 12800000 in
set_option maxRecDepth 100000 in
theorem in_uint (u : Nat) (hu64 : u < 18446744073709551616) (w : World) (htab : TabOk w) : Calls Tryd.prog 48 #[.int .u64 (u : Nat), .int .i64 10] w (TextOut (Lib.decDigits u) w) := by
  by_cases hs : u < 100
  · have hz : ((u : Nat) : Int) < 100 := by omega
    have K := Lib.hid (Tryd.internal_strconv_small u hs w)
    have hw1 : IntKind.i64.wrap ((u : Nat) : Int) = ((u : Nat) : Int) := IntWalk.i64_in _ (by omega)
    clear hs hu64 htab
    go_enter Tryd.func48, Tryd.ntmps48
    go_wp2_with fail
    refine K.out.mono ?_
    rintro r x ⟨rfl, rfl⟩
    go_wp2_with fail
    go_ret
    exact ⟨rfl, Keep.refl _ _⟩
  · have hu1 : 1 ≤ u := by omega
    have hz : ¬ ((u : Nat) : Int) < 100 := by omega
    have hnd20 : Lib.nDigits u ≤ 20 := by have := Lib.numDigits_eq u hu1 hu64; split at this <;> omega
    have hal : Tryd.prog.arrayLen 105 = 24 := by simp [Program.arrayLen, Tryd.underlying105]
    have hsl : ∀ W, (Instr.sliceAt 105 (.pointer (some ⟨w.heap.size, 0, none⟩)) none (some (.int .i64 (Lib.nDigits u : Int))) none).run Tryd.prog W = .ok (.slice (some ⟨w.heap.size, 0, none⟩) (Lib.nDigits u) 24) W := fun W => by
      rw [run_sliceAt_array_h W 105 ⟨w.heap.size, 0, none⟩ (by simp [Program.arrayLen, Program.elem, Tryd.underlying105]) .i64 (Lib.nDigits u : Int) (by omega) (by rw [hal]; omega)]
      go_simp
    have hH0 := Lib.holds_zero0 w 105 (Lib.nDigits u) (by omega)
    have hfmt := Tryd.internal_strconv_formatBase10 w.heap.size 0 24 u (Array.replicate (Lib.nDigits u) 0) (w.alloc (.cells Lib.zeros24 105)) hH0 (by rw [Array.size_replicate]; exact Lib.lt_pow_nDigits u) hu64 (by rw [Array.size_replicate]; omega)
    rw [Array.size_replicate] at hfmt
    have HH0 := Lib.hid hH0
    have HFM := Lib.hid hfmt
    have KD := Lib.hid (Tryd.internal_strconv_numDigits u hu1 hu64 _ (Lib.tabIs_alloc htab (.cells Lib.zeros24 105)))
    clear hH0 hal hfmt hs
    go_enter Tryd.func48, Tryd.ntmps48
    go_wp2_with fail
    refine KD.out.mono ?_
    rintro e w' ⟨rfl, rfl⟩
    go_wp2_with fail
    refine HFM.out.mono ?_
    rintro e w' ⟨rfl, k, v', dk, rfl, hF⟩
    have hcv : (convert 91 9 (.slice (some ⟨w.heap.size, 0, none⟩) (Lib.nDigits u) 24)).run Tryd.prog ((putRow (fun (b : UInt8) => Value.int .u8 (b.toNat : Int)) (w.alloc (.cells Lib.zeros24 105)) w.heap.size 0 dk).drewN k) = .ok (.string ⟨(Lib.decDigits u).toArray⟩) ((putRow (fun (b : UInt8) => Value.int .u8 (b.toNat : Int)) (w.alloc (.cells Lib.zeros24 105)) w.heap.size 0 dk).drewN k) := by
      have h := run_convert_bytes_back (P := Tryd.prog) ((putRow (fun (b : UInt8) => Value.int .u8 (b.toNat : Int)) (w.alloc (.cells Lib.zeros24 105)) w.heap.size 0 dk).drewN k) 91 9 5 ⟨w.heap.size, 0, none⟩ 24 (Lib.decDigits u) Tryd.underlying91 Tryd.underlying5 Tryd.underlying9 (fun j hj => by
        rw [Lib.row_is_numeral hF j hj, Lib.add_plain, World.cell?_drewN]
        exact cell?_putRow (fun (b : UInt8) => Value.int .u8 (b.toNat : Int)) _ w.heap.size 0 _ dk HH0.out (by rw [hF.size, Array.size_replicate]) j (by rw [hF.size]; rw [Lib.decDigits_length] at hj; exact hj))
      rw [Lib.decDigits_length] at h
      exact h
    go_wp2
    go_ret
    obtain ⟨os, eo⟩ := Lib.fin_at w (.cells Lib.zeros24 105) dk k 0
    exact ⟨rfl, by rw [eo]; exact keep_grow w k os⟩
theorem fmt_uint (u : Nat) (hu64 : u < 18446744073709551616) (w : World) (htab : TabOk w) : Calls Tryd.prog 32 #[.int .u64 (u : Nat), .int .i64 10] w (TextOut (Lib.decDigits u) w) := by
  have K := Lib.hid (in_uint u hu64 w htab)
  clear htab hu64
  go_enter Tryd.func32, Tryd.ntmps32
  go_wp2_with fail
  refine K.out.mono ?_
  rintro r x ⟨rfl, hk⟩
  go_wp2_with fail
  go_ret
  exact ⟨rfl, hk⟩
end Go.Proofs.YtnhkjfknhponkaaDoor
