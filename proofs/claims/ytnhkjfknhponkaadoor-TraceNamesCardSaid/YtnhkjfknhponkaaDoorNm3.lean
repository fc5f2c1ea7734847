/- A change, written: unsigned, both Lines, Place by their contracts. Conditions: the configuration may be; at most 60 slots; the library's table is as it was laid. -/
import Derived.Test.YtnhkjfknhponkaaDoorNm2
import Derived.Test.YtnhkjfknhponkaaDoorFu
namespace Go.Proofs.YtnhkjfknhponkaaDoor
open Go.RowKit

set_option maxHeartbeats 1000000 in
theorem ref40_unsigned (u : Nat) : u < 18446744073709551616 → ∀ w, Calls Tryd.prog 33 #[.int .u64 (u : Nat)] w fun r w' => r = .returned (.string ⟨(Lib.decDigits u).toArray⟩) ∧ w = w' := by
  induction u using Nat.strongRecOn with
  | _ u ih =>
    intro hu w
    by_cases h10 : u < 10
    · have hz : ((u : Nat) : Int) < 10 := by omega
      have hz0 : (0 : Int) ≤ ((u : Nat) : Int) := by omega
      have hcv := fun w => dig_conv u h10 w
      rw [Lib.decDigits_one h10]
      clear ih hu h10
      go_enter Tryd.func33, Tryd.ntmps33
      go_wp2_with fail
      go_ret
      exact ⟨rfl, rfl⟩
    · have hz : ¬ ((u : Nat) : Int) < 10 := by omega
      obtain ⟨q, hq⟩ : ∃ q : Nat, q = u / 10 := ⟨_, rfl⟩
      obtain ⟨d, hd⟩ : ∃ d : Nat, d = u % 10 := ⟨_, rfl⟩
      have hq1 : Int.tdiv ((u : Nat) : Int) 10 = ((q : Nat) : Int) := by rw [hq]; exact Int.ofNat_tdiv u 10
      have hd1 : Int.tmod ((u : Nat) : Int) 10 = ((d : Nat) : Int) := by rw [hd]; exact Int.ofNat_tmod u 10
      have hq0 : (0 : Int) ≤ ((q : Nat) : Int) := by omega
      have hq9 : ((q : Nat) : Int) ≤ 18446744073709551615 := by omega
      have hd0 : (0 : Int) ≤ ((d : Nat) : Int) := by omega
      have hd9 : ((d : Nat) : Int) < 10 := by omega
      have hw1 : IntKind.u64.wrap ((q : Nat) : Int) = ((q : Nat) : Int) := by rw [IntKind.wrap_u64]; omega
      have hw2 : IntKind.u64.wrap ((d : Nat) : Int) = ((d : Nat) : Int) := by rw [IntKind.wrap_u64]; omega
      have hw3 : IntKind.u64.wrap (48 + ((d : Nat) : Int)) = 48 + ((d : Nat) : Int) := by rw [IntKind.wrap_u64]; omega
      have hcv := fun w => dig_conv d (by omega) w
      have HI := Lib.hid (ih q (by omega) (by omega))
      have hdd : Lib.decDigits u = Lib.decDigits q ++ [digB d] := by rw [Lib.decDigits, dif_neg h10, ← hq, ← hd]; rfl
      rw [hdd]
      have hlen : (Lib.decDigits q).length ≤ 20 := by
        rw [Lib.decDigits_length]
        by_cases h1 : 1 ≤ q
        · have := Lib.numDigits_eq q h1 (by omega); split at this <;> omega
        · have : q = 0 := by omega
          rw [this, Lib.nDigits_small (by decide)]
          decide
      have HC := Lib.hid (cat_eq (Lib.decDigits q) [digB d])
      clear ih hu h10 hq hd hdd
      generalize Lib.decDigits q = qs at *
      have hn1 : ¬ 9223372036854775807 < qs.length + 1 := by omega
      clear hlen
      go_enter Tryd.func33, Tryd.ntmps33
      go_wp2_with fail
      refine (HI.out _).mono ?_
      rintro r x ⟨rfl, rfl⟩
      go_wp2_with fail
      go_ret
      exact ⟨congrArg (fun s => Ending.returned (.string s)) HC.out, rfl⟩
theorem dec_len {u : Nat} (h : u < 18446744073709551616) : (Lib.decDigits u).length ≤ 20 := by
  rw [Lib.decDigits_length]
  by_cases h1 : 1 ≤ u
  · have := Lib.numDigits_eq u h1 h
    split at this <;> omega
  · have : u = 0 := by omega
    rw [this, Lib.nDigits_small (by decide)]
    decide
theorem name_len {x : Nat × Nat × Nat} (hx : PlaceOk x) : (nameP x).length ≤ 20 := by
  have h1 := numB_len (i := x.2.1) (by have := hx.i; omega)
  have h2 := numB_len (i := x.2.2) (by have := hx.j; omega)
  have h3 := (field_index x.2.2 hx.j).1
  unfold nameP
  split
  · rename_i h0
    have := (alone_index x.2.1 (hx.i0 h0)).1
    omega
  · split
    · simp only [List.length_append, List.length_cons, List.length_nil]; omega
    · split
      · simp only [List.length_append, List.length_cons, List.length_nil]; omega
      · split
        · simp only [List.length_append, List.length_cons, List.length_nil]; omega
        · split <;> (simp only [List.length_append, List.length_cons, List.length_nil]; omega)
theorem nameZ_len (c : ConfS) (ho : c.Ok) (hs : c.slots ≤ 60) (a : Int) : (nameZ c a).length ≤ 20 := by
  unfold nameZ
  split
  · exact name_len (what_ok c ho hs _ (by omega))
  · decide
/-- A change, written. -/
def lineZ (c : ConfS) (x : ChS) : List UInt8 := nameZ c x.p ++ [58, 32] ++ Lib.decDigits x.was ++ [32] ++ Lib.decDigits x.now
set_option maxHeartbeats 2000000 in
theorem ref40_line (c : ConfS) (w : World) (ho : c.Ok) (hs : c.slots ≤ 60) (x : ChS) (h1 : x.was < 18446744073709551616) (h2 : x.now < 18446744073709551616) : Calls Tryd.prog 14 #[.agg c.cells, .int .i64 x.p, .int .u64 (x.was : Nat), .int .u64 (x.now : Nat)] w (StrOut (lineZ c x) w) := by
  have KN := Lib.hid (fun W => ref40_name c W ho hs x.p)
  have KU := Lib.hid (fun W => ref40_unsigned x.was h1 W)
  have KV := Lib.hid (fun W => ref40_unsigned x.now h2 W)
  have hl0 := nameZ_len c ho hs x.p
  have hl1 := dec_len h1
  have hl2 := dec_len h2
  have HK0 := Lib.hid ((Keep.refl [] w).alloc (.cells c.cells 32))
  have HE : Hid ((⟨(nameZ c x.p).toArray⟩ : ByteArray) ++ ⟨#[58, 32]⟩ ++ ⟨(Lib.decDigits x.was).toArray⟩ ++ ⟨#[32]⟩ ++ ⟨(Lib.decDigits x.now).toArray⟩ = ⟨(lineZ c x).toArray⟩) := Lib.hid (by unfold lineZ; rw [← cat_eq, ← cat_eq, ← cat_eq, ← cat_eq])
  rw [show c.cells = #[.int .i64 c.thr, .int .i64 c.slots, .int .u64 c.stamps] from rfl] at KN HK0 ⊢
  generalize lineZ c x = L at *
  unfold StrOut at KN
  generalize nameZ c x.p = nz at *
  obtain ⟨p, was, now⟩ := x
  simp only at *
  clear h1 h2 ho hs
  generalize Lib.decDigits was = d1 at *
  generalize Lib.decDigits now = d2 at *
  have hn1 : ¬ 9223372036854775807 < nz.length + 2 := by omega
  have hn2 : ¬ 9223372036854775807 < nz.length + 2 + d1.length := by omega
  have hn3 : ¬ 9223372036854775807 < nz.length + 2 + d1.length + 1 := by omega
  have hn4 : ¬ 9223372036854775807 < nz.length + 2 + d1.length + 1 + d2.length := by omega
  clear hl0 hl1 hl2
  go_enter Tryd.func14, Tryd.ntmps14
  go_wp2_with fail
  refine (KN.out _).mono ?_
  rintro r y ⟨rfl, hk⟩
  have HK := Lib.hid (HK0.out.trans hk (by simp))
  clear hk
  go_wp2_with fail
  refine (KU.out _).mono ?_
  rintro r z ⟨rfl, rfl⟩
  go_wp2_with fail
  refine (KV.out _).mono ?_
  rintro r z ⟨rfl, rfl⟩
  go_wp2_with fail
  go_ret
  exact ⟨congrArg (fun s => Ending.returned (.string s)) HE.out, HK.out⟩
end Go.Proofs.YtnhkjfknhponkaaDoor
