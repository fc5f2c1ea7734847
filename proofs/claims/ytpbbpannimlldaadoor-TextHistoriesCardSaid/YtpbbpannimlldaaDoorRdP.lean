/- Numbers, read: plain lemmas; no program. -/
import Derived.Test.YtpbbpannimlldaaDoorTxP
import Derived.Lib.AtoiAll
namespace Go.Proofs.YtpbbpannimlldaaDoor
open Go.RowKit

def digV (acc : Nat) (l : List UInt8) : Nat := l.foldl (fun a c => a * 10 + (c.toNat - 48)) acc
def Digs (l : List UInt8) : Prop := ∀ c ∈ l, 48 ≤ c.toNat ∧ c.toNat ≤ 57
theorem digV_cons (acc : Nat) (c : UInt8) (l : List UInt8) : digV acc (c :: l) = digV (acc * 10 + (c.toNat - 48)) l := by unfold digV; rw [List.foldl_cons]
theorem digV_snoc (acc : Nat) (l : List UInt8) (c : UInt8) : digV acc (l ++ [c]) = digV acc l * 10 + (c.toNat - 48) := by simp [digV]
theorem digV_append (acc : Nat) (l m : List UInt8) : digV acc (l ++ m) = digV (digV acc l) m := by simp [digV]
theorem digV_le : ∀ (l : List UInt8) (acc : Nat), acc ≤ digV acc l
  | [], _ => Nat.le_refl _
  | c :: l, acc => by
    rw [digV_cons]
    exact Nat.le_trans (by omega) (digV_le l _)
theorem digV_take (l : List UInt8) (i : Nat) : digV 0 (l.take i) ≤ digV 0 l := by
  conv => rhs; rw [← List.take_append_drop i l, digV_append]
  exact digV_le _ _
theorem dec_snoc {u : Nat} (h : 10 ≤ u) : Lib.decDigits u = Lib.decDigits (u / 10) ++ [UInt8.ofNat (48 + u % 10)] := by
  rw [Lib.decDigits, dif_neg (by omega)]
theorem dig_nat {d : Nat} (h : d < 10) : (UInt8.ofNat (48 + d)).toNat = 48 + d := by
  have : ∀ j : Fin 10, (UInt8.ofNat (48 + j.val)).toNat = 48 + j.val := by decide
  exact this ⟨d, h⟩
theorem dec_digs (u : Nat) : Digs (Lib.decDigits u) := by
  induction u using Nat.strongRecOn with
  | ind u ih =>
    by_cases h : 10 ≤ u
    · rw [dec_snoc h]
      intro c hc
      rcases List.mem_append.1 hc with hc | hc
      · exact ih _ (by omega) c hc
      · rw [List.mem_singleton.1 hc, dig_nat (by omega)]
        omega
    · rw [Lib.decDigits_one (by omega)]
      intro c hc
      rw [List.mem_singleton.1 hc, dig_nat (by omega)]
      omega
theorem dec_val (u : Nat) : digV 0 (Lib.decDigits u) = u := by
  induction u using Nat.strongRecOn with
  | ind u ih =>
    by_cases h : 10 ≤ u
    · rw [dec_snoc h, digV_snoc, ih _ (by omega), dig_nat (by omega)]
      omega
    · rw [Lib.decDigits_one (by omega), digV_cons, dig_nat (by omega)]
      show 0 * 10 + (48 + u - 48) = u
      omega
theorem dec_ne (u : Nat) : Lib.decDigits u ≠ [] := by
  by_cases h : 10 ≤ u
  · rw [dec_snoc h]; simp
  · rw [Lib.decDigits_one (by omega)]; simp
theorem dec_len : ∀ (k u : Nat), u < 10 ^ (k + 1) → (Lib.decDigits u).length ≤ k + 1
  | 0, u, h => by rw [Lib.decDigits_one (by omega)]; simp
  | k + 1, u, h => by
    by_cases h1 : 10 ≤ u
    · rw [dec_snoc h1, List.length_append]
      have := dec_len k (u / 10) (by rw [Nat.div_lt_iff_lt_mul (by decide)]; rw [Nat.pow_succ] at h; exact h)
      simp
      omega
    · rw [Lib.decDigits_one (by omega)]; simp
theorem parse_digs : ∀ (l : List UInt8) (acc : Nat), Digs l → digV acc l < 18446744073709551616 → Lib.parseUint10 acc l = .ok (digV acc l)
  | [], acc, _, _ => rfl
  | c :: l, acc, hd, hv => by
    have hc := hd c (by simp)
    rw [digV_cons] at hv ⊢
    have hle := digV_le l (acc * 10 + (c.toNat - 48))
    unfold Lib.parseUint10
    rw [if_pos hc, if_neg (by omega), if_neg (by omega)]
    exact parse_digs l _ (fun d hd2 => hd d (by simp [hd2])) hv
theorem mag_dec {u : Nat} (h : u < 18446744073709551616) : Lib.parseMag (Lib.decDigits u) = .ok u := by
  unfold Lib.parseMag
  rw [if_neg (dec_ne u), parse_digs _ _ (dec_digs u) (by rw [dec_val]; exact h), dec_val]
theorem itoa_cases (n : Int) : (∃ u : Nat, n = (u : Int) ∧ Lib.itoa n = Lib.decDigits u) ∨ (∃ u : Nat, 1 ≤ u ∧ n = -(u : Int) ∧ Lib.itoa n = 45 :: Lib.decDigits u) := by
  by_cases h : 0 ≤ n
  · obtain ⟨u, rfl⟩ : ∃ u : Nat, n = (u : Int) := ⟨n.toNat, by omega⟩
    exact .inl ⟨u, rfl, Lib.itoa_nonneg u⟩
  · obtain ⟨u, rfl⟩ : ∃ u : Nat, n = -(u : Int) := ⟨(-n).toNat, by omega⟩
    exact .inr ⟨u, by omega, rfl, Lib.itoa_neg u (by omega)⟩
theorem atoi_cons {c : UInt8} {r : List UInt8} {u : Nat} (h : Lib.parseMag (if c.toNat = 43 ∨ c.toNat = 45 then r else c :: r) = .ok u) : Lib.atoiAll (c :: r) = if ¬ c.toNat = 45 ∧ 9223372036854775808 ≤ u then .range else if c.toNat = 45 ∧ 9223372036854775808 < u then .range else .ok (if c.toNat = 45 then -(u : Int) else u) := by
  unfold Lib.atoiAll
  simp only [h]
theorem atoi_itoa {n : Int} (h : I64 n) : Lib.atoiAll (Lib.itoa n) = .ok n := by
  unfold I64 at h
  rcases itoa_cases n with ⟨u, rfl, e⟩ | ⟨u, hu, rfl, e⟩
  · rw [e]
    have hd := dec_digs u
    have hm := mag_dec (u := u) (by omega)
    cases hl : Lib.decDigits u with
    | nil => exact absurd hl (dec_ne u)
    | cons c r =>
      rw [hl] at hd hm
      have hc := hd c (by simp)
      rw [atoi_cons (u := u) (by rw [if_neg (by omega)]; exact hm)]
      rw [if_neg (by omega), if_neg (by omega), if_neg (by omega)]
  · rw [e]
    have hm := mag_dec (u := u) (by omega)
    rw [atoi_cons (u := u) (by rw [if_pos (.inr rfl)]; exact hm)]
    rw [if_neg (fun h => h.1 (by decide)), if_neg (by omega), if_pos (by decide)]
theorem atoi_i64 {l : List UInt8} {v : Int} (h : Lib.atoiAll l = .ok v) : I64 v := by
  unfold Lib.atoiAll at h
  cases l with
  | nil => cases h
  | cons c r =>
    simp only at h
    split at h
    · cases h
    · cases h
    · rename_i u hm
      split at h
      · cases h
      · split at h
        · cases h
        · rename_i h1 h2
          injection h with h
          unfold I64
          split at h <;> omega
/-- A number that is written as it must be. -/
def parseZ (l : List UInt8) : Option Int := match Lib.atoiAll l with
  | .ok v => if Lib.itoa v = l then some v else none
  | _ => none
theorem parseZ_some {l : List UInt8} {n : Int} : parseZ l = some n ↔ I64 n ∧ Lib.itoa n = l := by
  constructor
  · intro h
    unfold parseZ at h
    split at h
    · rename_i v hv
      split at h
      · rename_i he
        injection h with h
        subst h
        exact ⟨atoi_i64 hv, he⟩
      · cases h
    · cases h
  · rintro ⟨h1, rfl⟩
    unfold parseZ
    rw [atoi_itoa h1]
    simp
theorem parseZ_none {l : List UInt8} (h : ∀ n, I64 n → Lib.itoa n ≠ l) : parseZ l = none := by
  cases hp : parseZ l with
  | none => rfl
  | some n => exact absurd (parseZ_some.1 hp).2 (h n (parseZ_some.1 hp).1)
/-- What the first bytes spell. -/
def preZ (s : List UInt8) (i : Nat) : Int := if s.head? = some 45 then -((digV 0 ((s.take i).drop 1) : Nat) : Int) else ((digV 0 (s.take i) : Nat) : Int)
theorem take_at {l : List UInt8} {i : Nat} (h : i < l.length) : l.take (i + 1) = l.take i ++ [l.getD i 0] := by
  rw [List.take_add_one, List.getD_eq_getElem?_getD, List.getElem?_eq_getElem h]
  rfl
theorem pre_zero (s : List UInt8) : preZ s 0 = 0 := by simp [preZ, digV]
theorem pre_neg {t : List UInt8} (i : Nat) : preZ (45 :: t) (i + 1) = -((digV 0 (t.take i) : Nat) : Int) := by simp [preZ]
theorem pre_pos {s : List UInt8} (h : s.head? ≠ some 45) (i : Nat) : preZ s i = ((digV 0 (s.take i) : Nat) : Int) := by
  unfold preZ
  rw [if_neg h]
/-- Of a number that is written: each of its bytes fits, and so does what the first ones spell. -/
theorem itoa_facts {m : Int} (h : I64 m) : (Lib.itoa m).length ≤ 20 ∧ preZ (Lib.itoa m) (Lib.itoa m).length = m ∧
    (∀ i, i < (Lib.itoa m).length → ((Lib.itoa m).getD i 0 = 45 ∧ i = 0) ∨ (48 ≤ ((Lib.itoa m).getD i 0).toNat ∧ ((Lib.itoa m).getD i 0).toNat ≤ 57)) ∧
    (∀ i, -9223372036854775808 ≤ preZ (Lib.itoa m) i ∧ preZ (Lib.itoa m) i ≤ 9223372036854775807) := by
  unfold I64 at h
  have hget : ∀ (l : List UInt8) (i : Nat), Digs l → i < l.length → 48 ≤ (l.getD i 0).toNat ∧ (l.getD i 0).toNat ≤ 57 := fun l i hd hi => by
    rw [List.getD_eq_getElem?_getD, List.getElem?_eq_getElem hi]
    exact hd _ (List.getElem_mem hi)
  rcases itoa_cases m with ⟨u, rfl, e⟩ | ⟨u, hu, rfl, e⟩
  · rw [e]
    have hh : (Lib.decDigits u).head? ≠ some 45 := by
      intro h0
      have hd := dec_digs u
      cases hl : Lib.decDigits u with
      | nil => exact absurd hl (dec_ne u)
      | cons c r =>
        rw [hl] at h0 hd
        injection h0 with h0
        subst h0
        have := (hd 45 (by simp)).1
        exact absurd this (by decide)
    refine ⟨?_, ?_, fun i hi => .inr (hget _ i (dec_digs u) hi), fun i => ?_⟩
    · have := dec_len 18 u (by omega)
      omega
    · rw [pre_pos hh, List.take_length, dec_val]
    · rw [pre_pos hh]
      have := digV_take (Lib.decDigits u) i
      rw [dec_val] at this
      omega
  · rw [e]
    refine ⟨?_, ?_, fun i hi => ?_, fun i => ?_⟩
    · have := dec_len 18 u (by omega)
      rw [List.length_cons]
      omega
    · rw [List.length_cons, pre_neg, List.take_length, dec_val]
    · cases i with
      | zero => exact .inl ⟨rfl, rfl⟩
      | succ i =>
        refine .inr ?_
        rw [List.getD_cons_succ]
        exact hget _ i (dec_digs u) (by simpa using hi)
    · cases i with
      | zero => rw [pre_zero]; omega
      | succ i =>
        rw [pre_neg]
        have := digV_take (Lib.decDigits u) i
        rw [dec_val] at this
        omega
theorem pre_step {s : List UInt8} {i : Nat} (hi : i < s.length) (h0 : s.head? ≠ some 45 ∨ 1 ≤ i) (hd : 48 ≤ (s.getD i 0).toNat) : preZ s (i + 1) = if s.head? = some 45 then 10 * preZ s i - (((s.getD i 0).toNat - 48 : Nat) : Int) else 10 * preZ s i + (((s.getD i 0).toNat - 48 : Nat) : Int) := by
  by_cases hh : s.head? = some 45
  · rw [if_pos hh]
    cases s with
    | nil => cases hh
    | cons c t =>
      injection hh with hh
      subst hh
      cases i with
      | zero => rcases h0 with h0 | h0; exact absurd rfl h0; omega
      | succ i =>
        rw [pre_neg, pre_neg, List.getD_cons_succ, take_at (by simpa using hi), digV_snoc]
        omega
  · rw [if_neg hh, pre_pos hh, pre_pos hh, take_at hi, digV_snoc]
    omega
theorem pre_skip {t : List UInt8} : preZ (45 :: t) 1 = 0 := by
  rw [pre_neg]
  rfl
end Go.Proofs.YtpbbpannimlldaaDoor
