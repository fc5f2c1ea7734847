/- What is written is read, what is read is written as the same: plain laws; no program. -/
import Derived.Test.YtpbbpannimlldaaDoorRdH
namespace Go.Proofs.YtpbbpannimlldaaDoor
open Go.RowKit

/-- Parts, with a byte between them. -/
def jn (c : UInt8) : List (List UInt8) → List UInt8
  | [] => []
  | x :: r => x ++ r.flatMap (fun y => c :: y)
theorem jn_more (c : UInt8) (x y : List UInt8) (r : List (List UInt8)) : jn c (x :: y :: r) = x ++ c :: jn c (y :: r) := by simp [jn]
theorem cut_word {c : UInt8} : ∀ {x : List UInt8}, c ∉ x → cutZ c x = [x]
  | [], _ => rfl
  | b :: t, h => by
    have hb : b ≠ c := fun e => h (by simp [e])
    rw [cutZ_miss hb (cut_word (x := t) (fun hm => h (by simp [hm])))]
theorem cut_word_more {c : UInt8} : ∀ {x : List UInt8} (r : List UInt8), c ∉ x → cutZ c (x ++ c :: r) = x :: cutZ c r
  | [], r, _ => by rw [List.nil_append, cutZ_hit]
  | b :: t, r, h => by
    have hb : b ≠ c := fun e => h (by simp [e])
    rw [List.cons_append, cutZ_miss hb (cut_word_more (x := t) r (fun hm => h (by simp [hm])))]
theorem cut_jn {c : UInt8} : ∀ (r : List (List UInt8)) (x : List UInt8), c ∉ x → (∀ y ∈ r, c ∉ y) → cutZ c (jn c (x :: r)) = x :: r
  | [], x, hx, _ => by simp [jn, cut_word hx]
  | y :: r, x, hx, hr => by rw [jn_more, cut_word_more _ hx, cut_jn r y (hr y (by simp)) (fun z hz => hr z (by simp [hz]))]
theorem jn_cut (c : UInt8) : ∀ l : List UInt8, jn c (cutZ c l) = l
  | [] => rfl
  | b :: t => by
    have ih := jn_cut c t
    cases hc : cutZ c t with
    | nil => exact absurd hc (cutZ_ne c t)
    | cons x r =>
      rw [hc] at ih
      by_cases hb : b = c
      · subst hb
        rw [cutZ_hit, hc, jn_more, ih]
        rfl
      · rw [cutZ_miss hb hc, ← ih]
        simp [jn]
theorem itoa_no {n : Int} (h : I64 n) {c : UInt8} (hc : ¬ (48 ≤ c.toNat ∧ c.toNat ≤ 57)) (h45 : c.toNat ≠ 45) : c ∉ Lib.itoa n := fun hm => by
  have h1 := parse_no hm hc h45
  rw [parseZ_some.2 ⟨h, rfl⟩] at h1
  cases h1
theorem parse_itoa {n : Int} (h : I64 n) : parseZ (Lib.itoa n) = some n := parseZ_some.2 ⟨h, rfl⟩
theorem allZ_itoa : ∀ {ns : List Int}, (∀ n ∈ ns, I64 n) → allZ (ns.map Lib.itoa) = some ns
  | [], _ => rfl
  | n :: ns, h => by
    rw [List.map_cons, allZ_cons_some (parse_itoa (h n (by simp))), allZ_itoa (fun m hm => h m (by simp [hm]))]
    rfl
theorem allZ_back : ∀ {t : List (List UInt8)} {ns : List Int}, allZ t = some ns → t = ns.map Lib.itoa ∧ ∀ n ∈ ns, I64 n
  | [], ns, h => by injection h with h; subst h; exact ⟨rfl, fun n hn => by cases hn⟩
  | s :: t, ns, h => by
    cases hp : parseZ s with
    | none => rw [allZ_cons_none hp] at h; cases h
    | some n =>
      rw [allZ_cons_some hp] at h
      cases ht : allZ t with
      | none => rw [ht] at h; cases h
      | some l =>
        rw [ht] at h
        injection h with h
        subst h
        obtain ⟨h1, h2⟩ := allZ_back ht
        obtain ⟨h3, h4⟩ := parseZ_some.1 hp
        exact ⟨by rw [List.map_cons, ← h1, h4], fun m hm => by rcases List.mem_cons.1 hm with rfl | hm; exact h3; exact h2 m hm⟩
theorem jn_nums (s : List UInt8) (ns : List Int) : jn 32 (s :: ns.map Lib.itoa) = s ++ numsB ns := by
  show s ++ (ns.map Lib.itoa).flatMap (fun y => 32 :: y) = s ++ numsB ns
  unfold numsB
  rw [List.flatMap_map]
theorem i64_zero : I64 0 := by unfold I64; omega
theorem put_nums (op : Nat) (ns : List Int) (hl : ns.length = (posC (op : Int)).length) (hi : ∀ n ∈ ns, I64 n) : (putAll ⟨op, 0, 0, 0, 0⟩ (posC (op : Int)) ns).op = (op : Int) ∧ (putAll ⟨op, 0, 0, 0, 0⟩ (posC (op : Int)) ns).nums = ns ∧ (putAll ⟨op, 0, 0, 0, 0⟩ (posC (op : Int)) ns).Fit := by
  have z := i64_zero
  by_cases h0 : (op : Int) = 0
  · have hp : posC (op : Int) = [1, 2] := by unfold posC idxC; rw [if_pos h0, if_neg (by omega)]; rfl
    have hx : idxC (op : Int) = [1, 2] := by unfold idxC; rw [if_pos h0]
    rw [hp] at hl ⊢
    match ns, hl with
    | [x, y], _ =>
      refine ⟨rfl, ?_, hi x (by simp), hi y (by simp), z, z⟩
      show (idxC (op : Int)).map _ ++ (if (op : Int) = 3 then _ else _) = _
      rw [hx, if_neg (by omega)]
      rfl
  by_cases h1 : (op : Int) = 1 ∨ (op : Int) = 2 ∨ (op : Int) = 7 ∨ (op : Int) = 8 ∨ (op : Int) = 11
  · have hx : idxC (op : Int) = [1] := by unfold idxC; rw [if_neg h0, if_pos h1]
    have hp : posC (op : Int) = [1] := by unfold posC; rw [hx, if_neg (by omega)]; rfl
    rw [hp] at hl ⊢
    match ns, hl with
    | [x], _ =>
      refine ⟨rfl, ?_, hi x (by simp), z, z, z⟩
      show (idxC (op : Int)).map _ ++ (if (op : Int) = 3 then _ else _) = _
      rw [hx, if_neg (by omega)]
      rfl
  by_cases h3 : (op : Int) = 3
  · have hx : idxC (op : Int) = [1, 3] := by unfold idxC; rw [if_neg h0, if_neg h1, if_pos (.inl h3)]
    have hp : posC (op : Int) = [1, 3, 4] := by unfold posC; rw [hx, if_pos h3]; rfl
    rw [hp] at hl ⊢
    match ns, hl with
    | [x, y, v], _ =>
      refine ⟨rfl, ?_, hi x (by simp), z, hi y (by simp), hi v (by simp)⟩
      show (idxC (op : Int)).map _ ++ (if (op : Int) = 3 then _ else _) = _
      rw [hx, if_pos h3]
      rfl
  by_cases h4 : (op : Int) = 4 ∨ (op : Int) = 9
  · have hx : idxC (op : Int) = [1, 3] := by unfold idxC; rw [if_neg h0, if_neg h1, if_pos (.inr h4)]
    have hp : posC (op : Int) = [1, 3] := by unfold posC; rw [hx, if_neg h3]; rfl
    rw [hp] at hl ⊢
    match ns, hl with
    | [x, y], _ =>
      refine ⟨rfl, ?_, hi x (by simp), z, hi y (by simp), z⟩
      show (idxC (op : Int)).map _ ++ (if (op : Int) = 3 then _ else _) = _
      rw [hx, if_neg h3]
      rfl
  · have hx : idxC (op : Int) = [] := by unfold idxC; rw [if_neg h0, if_neg h1, if_neg (by omega)]
    have hp : posC (op : Int) = [] := by unfold posC; rw [hx, if_neg h3]; rfl
    rw [hp] at hl ⊢
    match ns, hl with
    | [], _ =>
      refine ⟨rfl, ?_, z, z, z, z⟩
      show (idxC (op : Int)).map _ ++ (if (op : Int) = 3 then _ else _) = _
      rw [hx, if_neg h3]
      rfl
theorem first_at {L : List (List UInt8)} {s : List UInt8} {n k : Nat} (h : firstZ L s n = some k) : k < n ∧ L.getD k [] = s := by
  unfold firstZ at h
  rw [List.find?_range_eq_some] at h
  exact ⟨by simpa using h.2.1, by simpa using h.1⟩
/-- A call that was read, written. -/
theorem readC_back {ws : List (List UInt8)} {c : CallX} (h : readC ws = .ok c) : callZ c = jn 32 ws ∧ c.Fit := by
  cases ws with
  | nil => cases h
  | cons s t =>
    cases ho : opZ s with
    | none => rw [readC_none ho] at h; cases h
    | some op =>
      rw [readC_some ho] at h
      unfold restC at h
      cases ha : allZ t with
      | none => rw [ha] at h; cases h
      | some ns =>
        rw [ha] at h
        dsimp only at h
        by_cases hl : ns.length = (posC (op : Int)).length
        · rw [if_pos hl] at h
          injection h with h
          subst h
          obtain ⟨ht, hi⟩ := allZ_back ha
          obtain ⟨e1, e2, e3⟩ := put_nums op ns hl hi
          refine ⟨?_, e3⟩
          obtain ⟨hlt, hs⟩ := first_at ho
          unfold callZ
          rw [e1, e2, if_neg (wordB_some hlt).2, (wordB_some hlt).1, hs, ht, jn_nums]
        · rw [if_neg hl] at h; cases h
theorem word_no : ∀ k, k < 15 → (32 : UInt8) ∉ wordL.getD k [] := by
  have : ∀ k : Fin 15, (32 : UInt8) ∉ wordL.getD k.val [] := by decide
  exact fun k hk => this ⟨k, hk⟩
theorem kind_no : ∀ k, k < 9 → (32 : UInt8) ∉ kindL.getD k [] := by
  have : ∀ k : Fin 9, (32 : UInt8) ∉ kindL.getD k.val [] := by decide
  exact fun k hk => this ⟨k, hk⟩
theorem nums_len (c : CallX) : c.nums.length = (posC c.op).length := by
  unfold CallX.nums posC
  rw [List.length_append, List.length_append, List.length_map]
  split <;> rfl
theorem nums_fit {c : CallX} (h : c.Fit) (hop : I64 c.op) : ∀ n ∈ c.nums, I64 n := by
  intro n hn
  unfold CallX.nums at hn
  rcases List.mem_append.1 hn with h1 | h1
  · obtain ⟨i, _, rfl⟩ := List.mem_map.1 h1
    unfold CallX.at_
    rcases i with _ | _ | _ | _ | _ | i
    · exact hop
    · exact h.key
    · exact h.val
    · exact h.hi
    · exact h.lim
    · exact i64_zero
  · split at h1
    · rw [List.mem_singleton.1 h1]; exact h.lim
    · cases h1
/-- A call that was written, read. -/
theorem callZ_back {c : CallX} (h : c.Fit) (hne : callZ c ≠ []) : ∃ c2, readC (cutZ 32 (callZ c)) = .ok c2 ∧ c2.op = c.op := by
  have hr : ¬ (c.op < 0 ∨ 14 < c.op) := fun hr => hne (by unfold callZ; rw [if_pos (wordB_none hr)])
  obtain ⟨k, hk⟩ : ∃ k : Nat, c.op = (k : Int) := ⟨c.op.toNat, by omega⟩
  have hlt : k < 15 := by omega
  have hi := nums_fit h (by rw [hk]; unfold I64; omega)
  have hw := wordB_some hlt
  have hz : callZ c = jn 32 (wordL.getD k [] :: c.nums.map Lib.itoa) := by
    unfold callZ
    rw [hk, if_neg hw.2, hw.1, jn_nums]
  rw [hz, cut_jn _ _ (word_no k hlt) (fun y hy => by
    obtain ⟨n, hn, rfl⟩ := List.mem_map.1 hy
    exact itoa_no (hi n hn) (by decide) (by decide))]
  have ho : opZ (wordL.getD k []) = some k := firstZ_some hlt rfl (fun j hj e => by have := wordL_one j (by omega) k hlt e; omega)
  rw [readC_some ho]
  unfold restC
  rw [allZ_itoa hi]
  dsimp only
  have hl : c.nums.length = (posC (k : Int)).length := by rw [nums_len, hk]
  rw [if_pos hl]
  exact ⟨_, rfl, (put_nums k _ hl hi).1.trans hk.symm⟩
theorem pairB_jn (p : Int × Int) : pairB p = jn 58 [Lib.itoa p.1, Lib.itoa p.2] := by simp [pairB, jn]
theorem pair_itoa {p : Int × Int} (h : I64 p.1 ∧ I64 p.2) : pairZ (pairB p) = some p := by
  unfold pairZ
  rw [pairB_jn, cut_jn _ _ (itoa_no h.1 (by decide) (by decide)) (fun y hy => by rw [List.mem_singleton.1 hy]; exact itoa_no h.2 (by decide) (by decide))]
  dsimp only
  rw [parse_itoa h.1, parse_itoa h.2]
theorem pair_back {s : List UInt8} {p : Int × Int} (h : pairZ s = some p) : s = pairB p ∧ I64 p.1 ∧ I64 p.2 := by
  unfold pairZ at h
  split at h
  · rename_i a b hc
    split at h
    · rename_i x y hx hy
      injection h with h
      subst h
      obtain ⟨h1, h2⟩ := parseZ_some.1 hx
      obtain ⟨h3, h4⟩ := parseZ_some.1 hy
      refine ⟨?_, h1, h3⟩
      rw [pairB_jn, h2, h4, ← hc, jn_cut]
    · cases h
  · cases h
theorem prsZ_pairs : ∀ {ps : List (Int × Int)}, (∀ p ∈ ps, I64 p.1 ∧ I64 p.2) → prsZ (ps.map pairB) = some ps
  | [], _ => rfl
  | p :: ps, h => by
    rw [List.map_cons, prsZ_cons_some (pair_itoa (h p (by simp))), prsZ_pairs (fun m hm => h m (by simp [hm]))]
    rfl
theorem prsZ_back : ∀ {t : List (List UInt8)} {ps : List (Int × Int)}, prsZ t = some ps → t = ps.map pairB ∧ ∀ p ∈ ps, I64 p.1 ∧ I64 p.2
  | [], ps, h => by injection h with h; subst h; exact ⟨rfl, fun n hn => by cases hn⟩
  | s :: t, ps, h => by
    cases hp : pairZ s with
    | none => rw [prsZ_cons_none hp] at h; cases h
    | some p =>
      rw [prsZ_cons_some hp] at h
      cases ht : prsZ t with
      | none => rw [ht] at h; cases h
      | some l =>
        rw [ht] at h
        injection h with h
        subst h
        obtain ⟨h1, h2⟩ := prsZ_back ht
        obtain ⟨h3, h4⟩ := pair_back hp
        exact ⟨by rw [List.map_cons, ← h1, h3], fun m hm => by rcases List.mem_cons.1 hm with rfl | hm; exact h4; exact h2 m hm⟩
theorem jn_pairs (s : List UInt8) (ps : List (Int × Int)) : jn 32 (s :: ps.map pairB) = s ++ pairsB ps := by
  show s ++ (ps.map pairB).flatMap (fun y => 32 :: y) = s ++ pairsB ps
  unfold pairsB
  rw [List.flatMap_map]
theorem ansZ_kind {a : AnsX} {k : Nat} (hk : a.kind = (k : Int)) (h : k < 9) : ansZ a = kindL.getD k [] ++ (if k = 1 then numsB [a.key, a.val] else if k = 2 then numsB [a.n] else if k = 3 then pairsB a.ps else []) := by
  unfold ansZ
  rw [hk, if_neg (kindB_some h).2, (kindB_some h).1]
  congr 1
  by_cases h1 : k = 1
  · subst h1; rfl
  by_cases h2 : k = 2
  · subst h2; rfl
  by_cases h3 : k = 3
  · subst h3; rfl
  rw [if_neg (by omega), if_neg (by omega), if_neg (by omega), if_neg h1, if_neg h2, if_neg h3]
/-- An answer that was read, written. -/
theorem readA_back {ws : List (List UInt8)} {a : AnsX} (h : readA ws = .ok a) : ansZ a = jn 32 ws ∧ a.Fit ∧ a.ps.length + 1 ≤ ws.length := by
  have z := i64_zero
  cases ws with
  | nil => cases h
  | cons s t =>
    cases ho : kdZ s with
    | none => rw [readA_none ho] at h; cases h
    | some k =>
      obtain ⟨hlt, hs⟩ := first_at ho
      by_cases h3 : k = 3
      · subst h3
        rw [readA_three ho] at h
        cases hp : prsZ t with
        | none => rw [hp] at h; cases h
        | some ps =>
          rw [hp] at h
          injection h with h
          subst h
          obtain ⟨ht, hi⟩ := prsZ_back hp
          refine ⟨?_, ⟨z, z, z, hi⟩, ?_⟩
          · rw [ansZ_kind (k := 3) rfl hlt, hs, if_neg (by decide), if_neg (by decide), if_pos rfl, ht, jn_pairs]
          · rw [ht]; simp
      by_cases h1 : k = 1
      · subst h1
        rw [readA_one ho] at h
        cases ha : allZ t with
        | none => rw [ha] at h; cases h
        | some ns =>
          rw [ha] at h
          obtain ⟨ht, hi⟩ := allZ_back ha
          match ns, h with
          | [x, y], h =>
            injection h with h
            subst h
            refine ⟨?_, ⟨hi x (by simp), hi y (by simp), z, fun p hp => by cases hp⟩, by simp⟩
            rw [ansZ_kind (k := 1) rfl hlt, hs, if_pos rfl, ht, jn_nums]
      by_cases h2 : k = 2
      · subst h2
        rw [readA_two ho] at h
        cases ha : allZ t with
        | none => rw [ha] at h; cases h
        | some ns =>
          rw [ha] at h
          obtain ⟨ht, hi⟩ := allZ_back ha
          match ns, h with
          | [x], h =>
            injection h with h
            subst h
            refine ⟨?_, ⟨z, z, hi x (by simp), fun p hp => by cases hp⟩, by simp⟩
            rw [ansZ_kind (k := 2) rfl hlt, hs, if_neg (by decide), if_pos rfl, ht, jn_nums]
      · rw [readA_else ho h1 h2 h3] at h
        by_cases ht : t = []
        · rw [if_pos ht] at h
          injection h with h
          subst h
          refine ⟨?_, ⟨z, z, z, fun p hp => by cases hp⟩, by simp⟩
          rw [ansZ_kind (k := k) rfl hlt, hs, if_neg h1, if_neg h2, if_neg h3, ht]
          rfl
        · rw [if_neg ht] at h; cases h
/-- An answer that was written, read. -/
theorem ansZ_back {a : AnsX} (h : a.Fit) (hne : ansZ a ≠ []) : ∃ a2, readA (cutZ 32 (ansZ a)) = .ok a2 ∧ a2.kind = a.kind ∧ a2.ps.length ≤ a.ps.length := by
  have hr : ¬ (a.kind < 0 ∨ 8 < a.kind) := fun hr => hne (by unfold ansZ; rw [if_pos (kindB_none hr)])
  obtain ⟨k, hk⟩ : ∃ k : Nat, a.kind = (k : Int) := ⟨a.kind.toNat, by omega⟩
  have hlt : k < 9 := by omega
  have ho : kdZ (kindL.getD k []) = some k := firstZ_some hlt rfl (fun j hj e => by have := kindL_one j (by omega) k hlt e; omega)
  rw [ansZ_kind hk hlt]
  by_cases h1 : k = 1
  · subst h1
    have hi : ∀ n ∈ [a.key, a.val], I64 n := fun n hn => by
      simp only [List.mem_cons, List.not_mem_nil, or_false] at hn
      rcases hn with rfl | rfl
      · exact h.key
      · exact h.val
    rw [if_pos rfl, ← jn_nums, cut_jn _ _ (kind_no 1 hlt) (fun y hy => by
      obtain ⟨n, hn, rfl⟩ := List.mem_map.1 hy
      exact itoa_no (hi n hn) (by decide) (by decide)), readA_one ho, allZ_itoa hi]
    exact ⟨_, rfl, hk.symm, Nat.zero_le _⟩
  by_cases h2 : k = 2
  · subst h2
    have hi : ∀ n ∈ [a.n], I64 n := fun n hn => by rw [List.mem_singleton.1 hn]; exact h.n
    rw [if_neg (by decide), if_pos rfl, ← jn_nums, cut_jn _ _ (kind_no 2 hlt) (fun y hy => by
      obtain ⟨n, hn, rfl⟩ := List.mem_map.1 hy
      exact itoa_no (hi n hn) (by decide) (by decide)), readA_two ho, allZ_itoa hi]
    exact ⟨_, rfl, hk.symm, Nat.zero_le _⟩
  by_cases h3 : k = 3
  · subst h3
    rw [if_neg (by decide), if_neg (by decide), if_pos rfl, ← jn_pairs, cut_jn _ _ (kind_no 3 hlt) (fun y hy => by
      obtain ⟨p, hp, rfl⟩ := List.mem_map.1 hy
      rw [pairB_jn]
      have hh := h.ps p hp
      simp only [jn, List.flatMap_cons, List.flatMap_nil, List.append_nil, List.mem_append, List.mem_cons]
      rintro (hm | hm | hm)
      · exact itoa_no hh.1 (by decide) (by decide) hm
      · exact absurd hm (by decide)
      · exact itoa_no hh.2 (by decide) (by decide) hm), readA_three ho, prsZ_pairs h.ps]
    exact ⟨_, rfl, hk.symm, Nat.le_refl _⟩
  · rw [if_neg h1, if_neg h2, if_neg h3, List.append_nil, cut_word (kind_no k hlt), readA_else ho h1 h2 h3, if_pos rfl]
    exact ⟨_, rfl, hk.symm, Nat.zero_le _⟩
/-- An event that was read, written. -/
theorem evR_back {s : List UInt8} {e : EvX} (h : evR s = .ok e) : evZ e = s ∧ e.Fit ∧ e.a.ps.length ≤ s.length := by
  have z := i64_zero
  have hj := jn_cut 32 s
  have hcl := (cutZ_len 32 s).1
  unfold evR at h
  generalize cutZ 32 s = ws at *
  match ws, h with
  | [], h => cases h
  | [_], h => cases h
  | [_, _], h => cases h
  | f :: n :: x :: r, h =>
    simp only [List.length_cons] at hcl
    cases hp : parseZ n with
    | none => rw [evW_bad hp] at h; cases h
    | some t =>
      obtain ⟨ht, hn⟩ := parseZ_some.1 hp
      by_cases hf : f = backB
      · rw [evW_back hp hf] at h
        cases hr : readA (x :: r) with
        | error k => rw [hr] at h; cases h
        | ok a =>
          rw [hr] at h
          injection h with h
          subst h
          obtain ⟨e1, e2, e3⟩ := readA_back hr
          simp only [List.length_cons] at e3
          refine ⟨?_, ⟨ht, ⟨z, z, z, z⟩, e2⟩, by show a.ps.length ≤ _; omega⟩
          rw [← hj, jn_more, jn_more, hf, ← hn, ← e1]
          simp [evZ, backB]
      · by_cases hb : f = beginB
        · rw [evW_begin hp hf hb] at h
          cases hr : readC (x :: r) with
          | error k => rw [hr] at h; cases h
          | ok c =>
            rw [hr] at h
            injection h with h
            subst h
            obtain ⟨e1, e2⟩ := readC_back hr
            refine ⟨?_, ⟨ht, e2, ⟨z, z, z, fun p hp => by cases hp⟩⟩, Nat.zero_le _⟩
            rw [← hj, jn_more, jn_more, hb, ← hn, ← e1]
            simp [evZ, beginB]
        · rw [evW_other hf hb] at h; cases h
theorem hisR_back : ∀ {ls : List (List UInt8)} {es : List EvX} {m : Nat}, hisR ls = .ok es → (∀ x ∈ ls, x.length ≤ m) → histZ es = jn 10 ls ∧ (∀ e ∈ es, e.Fit ∧ e.a.ps.length ≤ m) ∧ es.length ≤ ls.length
  | [], es, m, h, _ => by injection h with h; subst h; exact ⟨rfl, fun e he => by (cases he), Nat.le_refl _⟩
  | [x], es, m, h, _ => by
    rw [hisR_one] at h
    by_cases hx : x = []
    · rw [if_pos hx] at h
      injection h with h
      subst h
      subst hx
      exact ⟨rfl, fun e he => by (cases he), by simp⟩
    · rw [if_neg hx] at h
      cases hv : evR x with
      | ok e => rw [hv] at h; cases h
      | error k => rw [hv] at h; cases h
  | x :: y :: r, es, m, h, hm => by
    rw [hisR_more] at h
    cases hv : evR x with
    | error k => rw [hv] at h; cases h
    | ok e =>
      rw [hv] at h
      cases hr : hisR (y :: r) with
      | error k => rw [hr] at h; cases h
      | ok l =>
        rw [hr] at h
        injection h with h
        subst h
        obtain ⟨h1, h2, h3⟩ := hisR_back hr (fun z hz => hm z (by simp [hz]))
        obtain ⟨e1, e2, e3⟩ := evR_back hv
        have hx := hm x (by simp)
        refine ⟨?_, fun q hq => ?_, by simp only [List.length_cons] at *; omega⟩
        · rw [jn_more, ← h1, ← e1]
          simp [histZ]
        · rcases List.mem_cons.1 hq with rfl | hq
          · exact ⟨e2, by omega⟩
          · exact h2 q hq
/-- A history that was read, written. -/
theorem readH_back {s : List UInt8} {es : List EvX} (h : readH s = .ok es) : histZ es = s ∧ (∀ e ∈ es, e.Fit ∧ e.a.ps.length ≤ s.length) ∧ es.length ≤ s.length + 1 := by
  obtain ⟨h1, h2⟩ := cutZ_len 10 s
  obtain ⟨e1, e2, e3⟩ := hisR_back h h2
  exact ⟨e1.trans (jn_cut 10 s), e2, by omega⟩
end Go.Proofs.YtpbbpannimlldaaDoor
