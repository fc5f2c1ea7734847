/- An answer, written: text.Answer by its contract. Conditions: the library's table is as it was laid; numbers are int64, at most 4100 pairs. -/
import Derived.Test.YtpbbpannimlldaaDoorTx3
import Derived.Test.YtpbbpannimlldaaDoorEl
namespace Go.Proofs.YtpbbpannimlldaaDoor
open Go.RowKit

def pairC (p : Int × Int) : List Value := [.int .i64 p.1, .int .i64 p.2]
theorem ElAt.at_pair {w : World} {A : Option Addr} {l : List (Int × Int)} (h : ElAt pairC w A l) {k : Nat} (hk : k < l.length) : ∃ b o, A = some ⟨b, o, none⟩ ∧ b < w.heap.size ∧ w.cell? ⟨b, o + k * 2, none⟩ = some (.int .i64 (l.getD k (0, 0)).1) ∧ w.cell? ⟨b, o + k * 2 + 1, none⟩ = some (.int .i64 (l.getD k (0, 0)).2) := by
  obtain ⟨b, o, h1, h2, h3⟩ := h.range 2 (fun _ => rfl) (0, 0) hk
  exact ⟨b, o, h1, h2, h3 0 _ rfl, h3 1 _ rfl⟩
theorem ansZ_none {a : AnsX} (h : kindB a.kind = []) : ansZ a = [] := by
  unfold ansZ
  rw [if_pos h]
set_option maxHeartbeats 4000000 in
theorem text_answer (a : AnsX) (hf : a.Fit) (w : World) (hp : ElAt pairC w a.pA a.ps) (hl : a.ps.length ≤ 4100) (ht : TabOk w) : Calls Tryd.prog 17 #[.agg a.cells] w (TextOut (ansZ a) w) := by
  have HB := Lib.hid (Blk.new w 33 a.cells)
  have HK0 := Lib.hid ((Keep.refl [] w).alloc (.cells a.cells 33))
  have HT := Lib.hid ht
  have HP := Lib.hid hp
  have HL := Lib.hid hl
  have HF := Lib.hid hf
  have KK := Lib.hid (fun W => text_kinds W)
  unfold kindsC at KK
  have hcs : a.cells = #[.int .i64 a.kind, .int .i64 a.key, .int .i64 a.val, .int .i64 a.n, .slice a.pA a.ps.length a.pc] := rfl
  rw [hcs] at HB HK0 ⊢
  clear ht hp hl hf hcs
  generalize hz : ansZ a = Z
  have HZ0 := Lib.hid hz
  clear hz
  have hKC : kindsC = #[.string { data := #[100, 111, 110, 101] }, .string { data := #[102, 111, 117, 110, 100] }, .string { data := #[99, 111, 117, 110, 116, 101, 100] }, .string { data := #[108, 105, 115, 116] }, .string { data := #[110, 111, 110, 101] }, .string { data := #[101, 120, 105, 115, 116, 115] }, .string { data := #[102, 117, 108, 108] }, .string { data := #[115, 112, 101, 110, 116] }, .string { data := #[98, 97, 100] }] := rfl
  go_enter Tryd.func17, Tryd.ntmps17
  go_upto_region 1 with fail
  generalize w.heap.size = ab at HB ⊢
  generalize w.alloc _ = w1 at HB HK0 ⊢
  go_upto_region 2 with (go_at_call 37; refine (KK.out _).mono ?_; rintro r x ⟨rfl, hk⟩; have HB1 := Lib.hid (HB.out.keep hk (by simp)); have HK := Lib.hid (HK0.out.trans hk (by simp)); clear hk HB HK0)
  have HBK := Lib.hid (Blk.new x 78 kindsC)
  have HB2 := Lib.hid (HB1.out.alloc (.cells kindsC 78))
  have HK2 := Lib.hid (HK.out.alloc (.cells kindsC 78))
  rw [hKC] at HB2 HK2
  conv at HBK => rw [hKC]
  generalize x.heap.size = kb at HBK ⊢
  generalize x.alloc _ = x1 at HBK HB2 HK2 ⊢
  rw [← hKC] at HBK
  clear HB1 HK KK hKC
  by_cases hr : a.kind < 0 ∨ 8 < a.kind
  · have HE := Lib.hid (HZ0.out.symm.trans (ansZ_none (kindB_none hr)))
    have hc0 : x1.cell? ⟨ab, 0, none⟩ = some (.int .i64 a.kind) := HB2.out.cell 0
    by_cases hn : a.kind < 0
    · clear hr
      go_wp2_with fail
      go_ret
      exact ⟨by rw [HE.out] <;> rfl, HK2.out⟩
    · have hn2 : 9 ≤ a.kind := by omega
      clear hr
      go_wp2_with fail
      go_ret
      exact ⟨by rw [HE.out] <;> rfl, HK2.out⟩
  · obtain ⟨k, hk⟩ : ∃ k : Nat, a.kind = (k : Int) := ⟨a.kind.toNat, by omega⟩
    have hk9 : k < 9 := by omega
    have HW := kindB_some hk9
    have HWL := Lib.hid (kindB_len (k : Int))
    have hsK : x1.cell? ⟨kb, k, none⟩ = some (.string ⟨(kindL.getD k []).toArray⟩) := (HBK.out.cell k).trans (kindsC_at k hk9)
    have HZ : Hid (Z = kindB (k : Int) ++ (if a.kind = 1 then numsB [a.key, a.val] else if a.kind = 2 then numsB [a.n] else if a.kind = 3 then pairsB a.ps else [])) := Lib.hid (by
      rw [← HZ0.out]
      unfold ansZ
      rw [hk, if_neg HW.2])
    rw [hk] at HB2
    rw [HW.1] at HWL HZ
    generalize kindL.getD k [] = wd at *
    have hc0 : x1.cell? ⟨ab, 0, none⟩ = some (.int .i64 (k : Nat)) := HB2.out.cell 0
    have h0 : (0 : Int) ≤ ((k : Nat) : Int) := by omega
    have h1 : ¬ ((k : Nat) : Int) < 0 := by omega
    have h2 : ¬ (9 : Int) ≤ ((k : Nat) : Int) := by omega
    have h3 : ((k : Nat) : Int) < 9 := by omega
    clear hr HW HBK
    go_upto_region 5 with fail
    have HN0 : Hid (TxR w (x1.alloc (.cells #[.string ⟨wd.toArray⟩] 9)) [(ab, 33, #[.int .i64 (k : Nat), .int .i64 a.key, .int .i64 a.val, .int .i64 a.n, .slice a.pA a.ps.length a.pc])] (.slice (some ⟨x1.heap.size, 0, none⟩) 1 1) [wd]) := Lib.hid ⟨HK2.out.alloc _, fun p hp => by rw [List.mem_singleton.1 hp]; exact ⟨HB2.out.alloc _, by show 33 ≠ 9; decide⟩, own_more (own_first x1 wd) HK2.out.size, HT.out⟩
    generalize x1.heap.size = ob at HN0 ⊢
    generalize x1.alloc _ = x2 at HN0 ⊢
    clear hsK hc0 HB2 HK2
    have HBX := (HN0.out.bx _ (List.mem_singleton.2 rfl)).1
    have hc0 : x2.cell? ⟨ab, 0, none⟩ = some (.int .i64 (k : Nat)) := HBX.cell 0
    have hc1 : x2.cell? ⟨ab, 1, none⟩ = some (.int .i64 a.key) := HBX.cell 1
    have hc2 : x2.cell? ⟨ab, 2, none⟩ = some (.int .i64 a.val) := HBX.cell 2
    have hc3 : x2.cell? ⟨ab, 3, none⟩ = some (.int .i64 a.n) := HBX.cell 3
    have hc4 : x2.cell? ⟨ab, 4, none⟩ = some (.slice a.pA a.ps.length a.pc) := HBX.cell 4
    by_cases k1 : k = 1
    · have e1 : (((k : Nat) : Int) == 1) = true := by rw [k1]; rfl
      rw [hk, if_pos (by omega)] at HZ
      have HNS : Hid (∀ m ∈ [a.key, a.val], I64 m) := Lib.hid (fun m hm => by
        rcases List.mem_cons.1 hm with rfl | hm
        · exact HF.out.key
        · rw [List.mem_singleton.1 hm]; exact HF.out.val)
      have KN := Lib.hid (fun (W : World) (h : TabOk W) => text_number a.key HF.out.key W h)
      have KN2 := Lib.hid (fun (W : World) (h : TabOk W) => text_number a.val HF.out.val W h)
      have HL2 : Hid (strL [wd] ++ [.string ⟨(Lib.itoa a.key).toArray⟩, .string ⟨(Lib.itoa a.val).toArray⟩] = strL (wd :: [a.key, a.val].map Lib.itoa) ∧ 1 + 2 = (wd :: [a.key, a.val].map Lib.itoa).length) := Lib.hid ⟨rfl, rfl⟩
      clear hk HBX HZ0 HF HP HL h0 h1 h2 h3 hk9
      generalize a.key = m1 at *
      generalize a.val = m2 at *
      unfold TextOut at KN KN2
      go_upto_region 7 with fail
      refine wp_region_held_drew (S := (fun w' => w'.cell? ⟨ab, 1, none⟩ = some (.int .i64 m1) ∧ w'.cell? ⟨ab, 2, none⟩ = some (.int .i64 m2))) (by kernel_rfl) ⟨hc1, hc2⟩ (fun hHeld => ?_)
      refine wpAnyH_take (i := 0) (oi := { dst := some 25, op := Go.Op.move (Go.Operand.tmp 4), type := 23, pos := "text.go:64", after := #[], guard := none }) (v := ?_) rfl (by kernel_rfl) (by kernel_rfl) (by kernel_rfl) (fun _ _ _ h => h) (Or.inl ⟨by rfl, ?_⟩) (by assumption) ?_
      rotate_left
      · intro w hSw
        (try dsimp only at hSw)
        go_simp
        all_goals with_reducible rfl
      try simp only [Act.put, List.setIfInBounds_toArray, List.set_cons_zero, List.set_cons_succ]
      refine wpAnyH_take (i := 1) (oi := { dst := some 26, op := Go.Op.fieldAddr 33 (Go.Operand.tmp 1) 1, type := 0, pos := "text.go:64", after := #[], guard := none }) (v := ?_) rfl (by kernel_rfl) (by kernel_rfl) (by kernel_rfl) (fun _ _ _ h => h) (Or.inl ⟨by rfl, ?_⟩) (by assumption) ?_
      rotate_left
      · intro w hSw
        (try dsimp only at hSw)
        go_simp
        all_goals with_reducible rfl
      try simp only [Act.put, List.setIfInBounds_toArray, List.set_cons_zero, List.set_cons_succ]
      refine wpAnyH_take (i := 4) (oi := { dst := some 29, op := Go.Op.fieldAddr 33 (Go.Operand.tmp 1) 2, type := 0, pos := "text.go:64", after := #[], guard := none }) (v := ?_) rfl (by kernel_rfl) (by kernel_rfl) (by kernel_rfl) (fun _ _ _ h => h) (Or.inl ⟨by rfl, ?_⟩) (by assumption) ?_
      rotate_left
      · intro w hSw
        (try dsimp only at hSw)
        go_simp
        all_goals with_reducible rfl
      try simp only [Act.put, List.setIfInBounds_toArray, List.set_cons_zero, List.set_cons_succ]
      refine wpAnyH_take (i := 2) (oi := { dst := some 27, op := Go.Op.load 2 (Go.Operand.tmp 26), type := 2, pos := "text.go:64", after := #[{ on := 1, ground := Go.Ground.data }], guard := none }) (v := ?_) rfl (by kernel_rfl) (by kernel_rfl) (by kernel_rfl) (fun _ _ _ h => h) (Or.inl ⟨by rfl, ?_⟩) (by assumption) ?_
      rotate_left
      · intro w hSw
        have hc := hSw.1
        go_simp
        all_goals with_reducible rfl
      try simp only [Act.put, List.setIfInBounds_toArray, List.set_cons_zero, List.set_cons_succ]
      refine wpAnyH_take (i := 5) (oi := { dst := some 30, op := Go.Op.load 2 (Go.Operand.tmp 29), type := 2, pos := "text.go:64", after := #[{ on := 4, ground := Go.Ground.data }], guard := none }) (v := ?_) rfl (by kernel_rfl) (by kernel_rfl) (by kernel_rfl) (fun _ _ _ h => h) (Or.inl ⟨by rfl, ?_⟩) (by assumption) ?_
      rotate_left
      · intro w hSw
        have hc := hSw.2
        go_simp
        all_goals with_reducible rfl
      try simp only [Act.put, List.setIfInBounds_toArray, List.set_cons_zero, List.set_cons_succ]
      refine wpAnyH_ready (rs := [3]) (by kernel_rfl) (by simp) ?_
      refine AllReadyH.cons (o := { dst := some 28, op := Go.Op.call { callee := Go.Callee.value (Go.Operand.func 38), args := #[Go.Operand.tmp 27], argTypes := #[2] }, type := 9, pos := "text.go:64", after := #[{ on := 2, ground := Go.Ground.data }], guard := none }) rfl (fun K hK => ?_) AllReadyH.nil
      go_simp
      refine (KN.out _ (HN0.out.keep (Keep.refl _ _).drew).tab).mono ?_
      rintro r y ⟨rfl, hk⟩
      have HR1 := Lib.hid ((HN0.out.keep (Keep.refl _ _).drew).keep hk)
      clear hk
      go_simp
      refine hK.out _ _ ⟨((HR1.out.bx _ (List.mem_singleton.2 rfl)).1).cell 1, ((HR1.out.bx _ (List.mem_singleton.2 rfl)).1).cell 2⟩ (fun hHeld => ?_)
      clear hK K
      try simp only [Act.put, List.setIfInBounds_toArray, List.set_cons_zero, List.set_cons_succ]
      refine wpAnyH_ready (rs := [6]) (by kernel_rfl) (by simp) ?_
      refine AllReadyH.cons (o := { dst := some 31, op := Go.Op.call { callee := Go.Callee.value (Go.Operand.func 38), args := #[Go.Operand.tmp 30], argTypes := #[2] }, type := 9, pos := "text.go:64", after := #[{ on := 5, ground := Go.Ground.data }, { on := 3, ground := Go.Ground.chain }], guard := none }) rfl (fun K hK => ?_) AllReadyH.nil
      go_simp
      refine (KN2.out _ HR1.out.tab).mono ?_
      rintro r y2 ⟨rfl, hk⟩
      have HRY := Lib.hid (HR1.out.keep hk)
      clear hk
      go_simp
      refine hK.out _ _ ⟨((HRY.out.bx _ (List.mem_singleton.2 rfl)).1).cell 1, ((HRY.out.bx _ (List.mem_singleton.2 rfl)).1).cell 2⟩ (fun hHeld => ?_)
      clear hK K
      try simp only [Act.put, List.setIfInBounds_toArray, List.set_cons_zero, List.set_cons_succ]
      refine wpAnyH_ready (rs := [7]) (by kernel_rfl) (by simp) ?_
      refine AllReadyH.cons (o := { dst := some 32, op := Go.Op.buildSlice 23 2 #[(0, Go.Operand.tmp 28), (1, Go.Operand.tmp 31)], type := 23, pos := "text.go:64", after := #[{ on := 3, ground := Go.Ground.data }, { on := 6, ground := Go.Ground.data }], guard := none }) rfl (fun K hK => ?_) AllReadyH.nil
      go_simp
      refine hK.out _ _ ⟨((HRY.out.bx _ (List.mem_singleton.2 rfl)).1.alloc _).cell 1, ((HRY.out.bx _ (List.mem_singleton.2 rfl)).1.alloc _).cell 2⟩ (fun hHeld => ?_)
      clear hK K
      try simp only [Act.put, List.setIfInBounds_toArray, List.set_cons_zero, List.set_cons_succ]
      refine wpAnyH_ready (rs := [8]) (by kernel_rfl) (by simp) ?_
      refine AllReadyH.cons (o := { dst := some 33, op := Go.Op.call { callee := Go.Callee.builtin Go.Builtin.append, args := #[Go.Operand.tmp 25, Go.Operand.tmp 32], argTypes := #[23, 23] }, type := 23, pos := "text.go:64", after := #[{ on := 0, ground := Go.Ground.data }, { on := 7, ground := Go.Ground.data }, { on := 6, ground := Go.Ground.chain }], guard := none }) rfl (fun K hK => ?_) AllReadyH.nil
      obtain ⟨i0, hi, hz0, hz1, hz2⟩ := info_partsT infoS
      refine step_append_at rfl (.tmp 25) (.tmp 32) 23 rfl w.heap.size 9 i0 (.string ⟨#[]⟩) 1 16 Tryd.underlying23 hi hz0 hz1 hz2 rfl (by decide) (.slice (some ⟨ob, 0, none⟩) 1 1) 1 (strL [wd]) rfl (own_keep (S := []) HRY.out.own ((Keep.refl [] _).alloc _) (by simp)) ⟨_, 0, none⟩ 2 2 [.string ⟨(Lib.itoa m1).toArray⟩, .string ⟨(Lib.itoa m2).toArray⟩] rfl rfl (World.news_of_block (heap_alloc_new _ _)) (by simp [Value.oneCell']) (by unfold maxLen; omega) (by omega) (Nat.le_trans HRY.out.hk.size ((Keep.refl [] _).alloc _).size) ?_
      clear hi hz0 hz1 hz2
      intro v5 w5 hown hg hnil hat
      clear hnil hat
      have HA := Lib.hid (HRY.out.add ((Keep.refl [] _).alloc _) hown HL2.out.1 HL2.out.2 hg)
      clear hown hg
      refine hK.out _ _ ⟨((HA.out.bx _ (List.mem_singleton.2 rfl)).1).cell 1, ((HA.out.bx _ (List.mem_singleton.2 rfl)).1).cell 2⟩ (fun hHeld => ?_)
      clear hK K
      try simp only [Act.put, List.setIfInBounds_toArray, List.set_cons_zero, List.set_cons_succ]
      refine wpAnyH_take (i := 9) (oi := { dst := some 4, op := Go.Op.assign (Go.Operand.tmp 33), type := 23, pos := "text.go:64", after := #[{ on := 8, ground := Go.Ground.data }, { on := 8, ground := Go.Ground.chain }, { on := 0, ground := Go.Ground.phase }, { on := 1, ground := Go.Ground.phase }, { on := 2, ground := Go.Ground.phase }, { on := 3, ground := Go.Ground.phase }, { on := 4, ground := Go.Ground.phase }, { on := 5, ground := Go.Ground.phase }, { on := 6, ground := Go.Ground.phase }, { on := 7, ground := Go.Ground.phase }, { on := 8, ground := Go.Ground.phase }], guard := none }) (v := ?_) rfl (by kernel_rfl) (by kernel_rfl) (by kernel_rfl) (fun _ _ _ h => h) (Or.inl ⟨by rfl, ?_⟩) (by assumption) ?_
      rotate_left
      · intro w hSw
        (try dsimp only at hSw)
        go_simp
        all_goals with_reducible rfl
      try simp only [Act.put, List.setIfInBounds_toArray, List.set_cons_zero, List.set_cons_succ]
      refine wpAnyH_done (by kernel_rfl) ?_ _
      clear hHeld HRY HR1 KN KN2 HN0
      obtain ⟨A5, c5, rfl⟩ := own_form HA.out.own
      have KJ := Lib.hid (join_own w5 w.heap.size c5 A5 _ HA.out.own (by simp) (by simp) (by rw [join_nums, List.length_append]; have h1 := numsB_len _ HNS.out; have h2 := HWL.out; simp only [List.length_cons, List.length_nil] at h1; omega))
      rw [join_nums, ← HZ.out] at KJ
      unfold TextOut at KJ
      clear HZ HL2 HNS
      go_wp2_with fail
      refine KJ.out.mono ?_
      rintro r q ⟨rfl, hk⟩
      have HKq := Lib.hid (HA.out.hk.trans hk (by simp))
      clear hk
      go_wp2_with fail
      go_ret
      exact ⟨rfl, HKq.out⟩
    by_cases k2 : k = 2
    · have e1 : (((k : Nat) : Int) == 1) = false := by rw [k2]; rfl
      have e2 : (((k : Nat) : Int) == 2) = true := by rw [k2]; rfl
      rw [hk, if_neg (by omega), if_pos (by omega)] at HZ
      have HNS : Hid (∀ m ∈ [a.n], I64 m) := Lib.hid (fun m hm => by rw [List.mem_singleton.1 hm]; exact HF.out.n)
      have KI := Lib.hid (fun (W : World) (h : TabOk W) => itoa_all a.n HF.out.n W h)
      have HKI := Lib.hid (KI.out x2 HN0.out.tab)
      have HL2 : Hid (strL [wd] ++ [.string ⟨(Lib.itoa a.n).toArray⟩] = strL (wd :: [a.n].map Lib.itoa) ∧ 1 + 1 = (wd :: [a.n].map Lib.itoa).length) := Lib.hid ⟨rfl, rfl⟩
      clear KI hk HBX HZ0 HF
      generalize a.n = n at *
      go_wp2_with fail
      refine HKI.out.mono ?_
      rintro r y ⟨rfl, hk⟩
      have HRY := Lib.hid (HN0.out.keep hk)
      clear hk HKI HN0 hc0 hc1 hc2 hc3 hc4
      go_upto_region 16 with (at_builtin; obtain ⟨i0, hi, hz0, hz1, hz2⟩ := info_partsT infoS; refine wpList_append_own_at _ rfl (.tmp 36) (.tmp 40) 23 rfl w.heap.size 9 i0 (.string ⟨#[]⟩) 1 16 Tryd.underlying23 hi hz0 hz1 hz2 rfl (by decide) (.slice (some ⟨ob, 0, none⟩) 1 1) 1 (strL [wd]) rfl (own_keep (S := []) HRY.out.own ((Keep.refl [] _).alloc _) (by simp)) ⟨_, 0, none⟩ 1 1 [.string ⟨(Lib.itoa n).toArray⟩] rfl rfl (World.news_of_block (heap_alloc_new _ _)) (by simp [Value.oneCell']) (by unfold maxLen; omega) (by omega) (Nat.le_trans HRY.out.hk.size ((Keep.refl [] _).alloc _).size) ?_; clear hi hz0 hz1 hz2; intro v5 w5 hown hg _ _; have HA := Lib.hid (HRY.out.add ((Keep.refl [] _).alloc _) hown HL2.out.1 HL2.out.2 hg); clear hown hg)
      obtain ⟨A5, c5, rfl⟩ := own_form HA.out.own
      have KJ := Lib.hid (join_own w5 w.heap.size c5 A5 _ HA.out.own (by simp) (by simp) (by rw [join_nums, List.length_append]; have h1 := numsB_len _ HNS.out; have h2 := HWL.out; simp only [List.length_cons, List.length_nil] at h1; omega))
      rw [join_nums, ← HZ.out] at KJ
      unfold TextOut at KJ
      clear HZ HL2 HNS
      go_wp2_with fail
      refine KJ.out.mono ?_
      rintro r q ⟨rfl, hk⟩
      have HKq := Lib.hid (HA.out.hk.trans hk (by simp))
      clear hk
      go_wp2_with fail
      go_ret
      exact ⟨rfl, HKq.out⟩
    by_cases k3 : k = 3
    · have e1 : (((k : Nat) : Int) == 1) = false := by rw [k3]; rfl
      have e2 : (((k : Nat) : Int) == 2) = false := by rw [k3]; rfl
      have e3 : (((k : Nat) : Int) == 3) = true := by rw [k3]; rfl
      rw [hk, if_neg (by omega), if_neg (by omega), if_pos (by omega)] at HZ
      have HPS := Lib.hid HF.out.ps
      have KN := Lib.hid (fun (m : Int) (hm : I64 m) (W : World) (h : TabOk W) => text_number m hm W h)
      unfold TextOut at KN
      clear hk HBX HZ0 HF h0 h1 h2 h3 hk9 hc1 hc2 hc3 k1 k2 k3
      generalize a.key = m1 at *
      generalize a.val = m2 at *
      generalize a.n = m3 at *
      generalize a.ps = ps at *
      generalize a.pA = pA at *
      generalize a.pc = pc at *
      have hl0 : ((ps.length : Nat) : Int) ≤ 4100 := by have := HL.out; omega
      go_wp2_with fail
      go_loopg [4, 47] ps.length (fun g v4 v47 wr => ∃ j : Nat, j ≤ ps.length ∧ g = ps.length - j ∧ v47 = .int .i64 (j : Nat) ∧ TxR w wr [(ab, 33, #[.int .i64 (k : Nat), .int .i64 m1, .int .i64 m2, .int .i64 m3, .slice pA ps.length pc])] v4 (wd :: (ps.take j).map pairB))
      case atStart => exact ⟨0, Nat.zero_le _, rfl, rfl, HN0.out⟩
      case round =>
        obtain ⟨j, hj, rfl, rfl, hr⟩ := hrel
        have HR := Lib.hid hr
        obtain ⟨A4, c4, rfl⟩ := own_form hr.own
        have hj0 : (0 : Int) ≤ ((j : Nat) : Int) := by omega
        have hj2 : ((j : Nat) : Int) ≤ 4100 := by omega
        clear hr
        by_cases hlt : j < ps.length
        · have hz : ((j : Nat) : Int) < ((ps.length : Nat) : Int) := by omega
          obtain ⟨b, o, hA, _, c0, c1⟩ := (HP.out.keep HR.out.hk).at_pair hlt
          subst hA
          have HTK : Hid ((ps.take (j + 1)).map pairB = (ps.take j).map pairB ++ [pairB (ps.getD j (0, 0))]) := Lib.hid (by rw [take_snoc ps (0, 0) hlt, List.map_append]; rfl)
          have HLN : Hid ((wd :: (ps.take j).map pairB).length = j + 1) := Lib.hid (by simp; omega)
          have HI : Hid (I64 (ps.getD j (0, 0)).1 ∧ I64 (ps.getD j (0, 0)).2) := Lib.hid (HPS.out _ (by rw [List.getD_eq_getElem?_getD, List.getElem?_eq_getElem hlt]; exact List.getElem_mem hlt))
          have HLT := Lib.hid hlt
          clear hlt
          generalize (ps.take j).map pairB = ns at *
          generalize ps.getD j (0, 0) = pq at *
          obtain ⟨p1, p2⟩ := pq
          dsimp only at c0 c1 HI
          rw [HLN.out]
          go_upto_region 14 with fail
          have HRP := Lib.hid ((HR.out.keep ((Keep.refl [] _).alloc (.cells #[.int .i64 p1, .int .i64 p2] 51))).more (p := (wr.heap.size, 51, #[.int .i64 p1, .int .i64 p2])) (Blk.new wr _ _) (by show 51 ≠ 9; decide))
          generalize wr.heap.size = pb at HRP ⊢
          generalize wr.alloc _ = w3 at HRP ⊢
          have hd0 : w3.cell? ⟨pb, 0, none⟩ = some (.int .i64 p1) := (HRP.out.bx _ (List.mem_cons_self ..)).1.cell 0
          have hd1 : w3.cell? ⟨pb, 1, none⟩ = some (.int .i64 p2) := (HRP.out.bx _ (List.mem_cons_self ..)).1.cell 1
          have HPB : Hid ((⟨(Lib.itoa p1).toArray⟩ : ByteArray) ++ ⟨#[58]⟩ ++ ⟨(Lib.itoa p2).toArray⟩ = ⟨(pairB (p1, p2)).toArray⟩) := Lib.hid (by rw [show pairB (p1, p2) = Lib.itoa p1 ++ [58] ++ Lib.itoa p2 from rfl, ← catL, ← catL])
          have hs1 := itoa_len HI.out.1
          have hs2 := itoa_len HI.out.2
          have KN1 := Lib.hid (KN.out p1 HI.out.1)
          have KN2 := Lib.hid (KN.out p2 HI.out.2)
          generalize Lib.itoa p1 = l1 at *
          generalize Lib.itoa p2 = l2 at *
          have hn1 : ¬ 9223372036854775807 < l1.length + 1 := by omega
          have hn2 : ¬ 9223372036854775807 < l1.length + 1 + l2.length := by omega
          clear hs1 hs2 c0 c1 HR
          refine wp_region_held_drew (S := (fun w' => w'.cell? ⟨pb, 0, none⟩ = some (.int .i64 p1) ∧ w'.cell? ⟨pb, 1, none⟩ = some (.int .i64 p2))) (by kernel_rfl) ⟨hd0, hd1⟩ (fun hHeld => ?_)
          refine wpAnyH_take (i := 0) (oi := { dst := some 51, op := Go.Op.move (Go.Operand.tmp 4), type := 23, pos := "text.go:69", after := #[], guard := none }) (v := ?_) rfl (by kernel_rfl) (by kernel_rfl) (by kernel_rfl) (fun _ _ _ h => h) (Or.inl ⟨by rfl, ?_⟩) (by assumption) ?_
          rotate_left
          · intro w hSw
            (try dsimp only at hSw)
            go_simp
            all_goals with_reducible rfl
          try simp only [Act.put, List.setIfInBounds_toArray, List.set_cons_zero, List.set_cons_succ]
          refine wpAnyH_take (i := 1) (oi := { dst := some 52, op := Go.Op.fieldAddr 51 (Go.Operand.tmp 6) 0, type := 0, pos := "text.go:69", after := #[], guard := none }) (v := ?_) rfl (by kernel_rfl) (by kernel_rfl) (by kernel_rfl) (fun _ _ _ h => h) (Or.inl ⟨by rfl, ?_⟩) (by assumption) ?_
          rotate_left
          · intro w hSw
            (try dsimp only at hSw)
            go_simp
            all_goals with_reducible rfl
          try simp only [Act.put, List.setIfInBounds_toArray, List.set_cons_zero, List.set_cons_succ]
          refine wpAnyH_take (i := 5) (oi := { dst := some 56, op := Go.Op.fieldAddr 51 (Go.Operand.tmp 6) 1, type := 0, pos := "text.go:69", after := #[], guard := none }) (v := ?_) rfl (by kernel_rfl) (by kernel_rfl) (by kernel_rfl) (fun _ _ _ h => h) (Or.inl ⟨by rfl, ?_⟩) (by assumption) ?_
          rotate_left
          · intro w hSw
            (try dsimp only at hSw)
            go_simp
            all_goals with_reducible rfl
          try simp only [Act.put, List.setIfInBounds_toArray, List.set_cons_zero, List.set_cons_succ]
          refine wpAnyH_take (i := 2) (oi := { dst := some 53, op := Go.Op.load 2 (Go.Operand.tmp 52), type := 2, pos := "text.go:69", after := #[{ on := 1, ground := Go.Ground.data }], guard := none }) (v := ?_) rfl (by kernel_rfl) (by kernel_rfl) (by kernel_rfl) (fun _ _ _ h => h) (Or.inl ⟨by rfl, ?_⟩) (by assumption) ?_
          rotate_left
          · intro w hSw
            have hc := hSw.1
            go_simp
            all_goals with_reducible rfl
          try simp only [Act.put, List.setIfInBounds_toArray, List.set_cons_zero, List.set_cons_succ]
          refine wpAnyH_take (i := 6) (oi := { dst := some 57, op := Go.Op.load 2 (Go.Operand.tmp 56), type := 2, pos := "text.go:69", after := #[{ on := 5, ground := Go.Ground.data }], guard := none }) (v := ?_) rfl (by kernel_rfl) (by kernel_rfl) (by kernel_rfl) (fun _ _ _ h => h) (Or.inl ⟨by rfl, ?_⟩) (by assumption) ?_
          rotate_left
          · intro w hSw
            have hc := hSw.2
            go_simp
            all_goals with_reducible rfl
          try simp only [Act.put, List.setIfInBounds_toArray, List.set_cons_zero, List.set_cons_succ]
          refine wpAnyH_ready (rs := [3]) (by kernel_rfl) (by simp) ?_
          refine AllReadyH.cons (o := { dst := some 54, op := Go.Op.call { callee := Go.Callee.value (Go.Operand.func 38), args := #[Go.Operand.tmp 53], argTypes := #[2] }, type := 9, pos := "text.go:69", after := #[{ on := 2, ground := Go.Ground.data }], guard := none }) rfl (fun K hK => ?_) AllReadyH.nil
          go_simp
          refine (KN1.out _ (HRP.out.keep (Keep.refl _ _).drew).tab).mono ?_
          rintro r y ⟨rfl, hk⟩
          have HR1 := Lib.hid ((HRP.out.keep (Keep.refl _ _).drew).keep hk)
          clear hk
          go_simp
          refine hK.out _ _ ⟨((HR1.out.bx _ (List.mem_cons_self ..)).1).cell 0, ((HR1.out.bx _ (List.mem_cons_self ..)).1).cell 1⟩ (fun hHeld => ?_)
          clear hK K
          try simp only [Act.put, List.setIfInBounds_toArray, List.set_cons_zero, List.set_cons_succ]
          refine wpAnyH_take (i := 4) (oi := { dst := some 55, op := Go.Op.binOp Go.BinOp.add 9 (Go.Operand.tmp 54) (Go.Operand.const (Go.Value.string { data := #[58] })) 9, type := 9, pos := "text.go:69", after := #[{ on := 3, ground := Go.Ground.data }], guard := none }) (v := ?_) rfl (by kernel_rfl) (by kernel_rfl) (by kernel_rfl) (fun _ _ _ h => h) (Or.inl ⟨by rfl, ?_⟩) (by assumption) ?_
          rotate_left
          · intro w hSw
            (try dsimp only at hSw)
            go_simp
            all_goals with_reducible rfl
          try simp only [Act.put, List.setIfInBounds_toArray, List.set_cons_zero, List.set_cons_succ]
          refine wpAnyH_ready (rs := [7]) (by kernel_rfl) (by simp) ?_
          refine AllReadyH.cons (o := { dst := some 58, op := Go.Op.call { callee := Go.Callee.value (Go.Operand.func 38), args := #[Go.Operand.tmp 57], argTypes := #[2] }, type := 9, pos := "text.go:69", after := #[{ on := 6, ground := Go.Ground.data }, { on := 3, ground := Go.Ground.chain }], guard := none }) rfl (fun K hK => ?_) AllReadyH.nil
          go_simp
          refine (KN2.out _ HR1.out.tab).mono ?_
          rintro r y2 ⟨rfl, hk⟩
          have HRY := Lib.hid (HR1.out.keep hk)
          clear hk
          go_simp
          refine hK.out _ _ ⟨((HRY.out.bx _ (List.mem_cons_self ..)).1).cell 0, ((HRY.out.bx _ (List.mem_cons_self ..)).1).cell 1⟩ (fun hHeld => ?_)
          clear hK K
          try simp only [Act.put, List.setIfInBounds_toArray, List.set_cons_zero, List.set_cons_succ]
          refine wpAnyH_take (i := 8) (oi := { dst := some 59, op := Go.Op.binOp Go.BinOp.add 9 (Go.Operand.tmp 55) (Go.Operand.tmp 58) 9, type := 9, pos := "text.go:69", after := #[{ on := 4, ground := Go.Ground.data }, { on := 7, ground := Go.Ground.data }], guard := none }) (v := ?_) rfl (by kernel_rfl) (by kernel_rfl) (by kernel_rfl) (fun _ _ _ h => h) (Or.inl ⟨by rfl, ?_⟩) (by assumption) ?_
          rotate_left
          · intro w hSw
            (try dsimp only at hSw)
            go_simp
            all_goals with_reducible rfl
          try simp only [Act.put, List.setIfInBounds_toArray, List.set_cons_zero, List.set_cons_succ]
          refine wpAnyH_ready (rs := [9]) (by kernel_rfl) (by simp) ?_
          refine AllReadyH.cons (o := { dst := some 60, op := Go.Op.buildSlice 23 1 #[(0, Go.Operand.tmp 59)], type := 23, pos := "text.go:69", after := #[{ on := 8, ground := Go.Ground.data }], guard := none }) rfl (fun K hK => ?_) AllReadyH.nil
          rw [HPB.out]
          go_simp
          refine hK.out _ _ ⟨((HRY.out.bx _ (List.mem_cons_self ..)).1.alloc _).cell 0, ((HRY.out.bx _ (List.mem_cons_self ..)).1.alloc _).cell 1⟩ (fun hHeld => ?_)
          clear hK K
          try simp only [Act.put, List.setIfInBounds_toArray, List.set_cons_zero, List.set_cons_succ]
          refine wpAnyH_ready (rs := [10]) (by kernel_rfl) (by simp) ?_
          refine AllReadyH.cons (o := { dst := some 61, op := Go.Op.call { callee := Go.Callee.builtin Go.Builtin.append, args := #[Go.Operand.tmp 51, Go.Operand.tmp 60], argTypes := #[23, 23] }, type := 23, pos := "text.go:69", after := #[{ on := 0, ground := Go.Ground.data }, { on := 9, ground := Go.Ground.data }, { on := 7, ground := Go.Ground.chain }], guard := none }) rfl (fun K hK => ?_) AllReadyH.nil
          have HOW : Hid (y2.ownsRow w.heap.size 9 1 (.slice A4 (j + 1) c4) (j + 1) (strL (wd :: ns))) := Lib.hid (by have := HRY.out.own; rw [HLN.out] at this; exact this)
          obtain ⟨i0, hi, hz0, hz1, hz2⟩ := info_partsT infoS
          refine step_append_at rfl (.tmp 51) (.tmp 60) 23 rfl w.heap.size 9 i0 (.string ⟨#[]⟩) 1 16 Tryd.underlying23 hi hz0 hz1 hz2 rfl (by decide) (.slice A4 (j + 1) c4) (j + 1) (strL (wd :: ns)) rfl (own_keep (S := []) HOW.out ((Keep.refl [] _).alloc _) (by simp)) ⟨_, 0, none⟩ 1 1 [.string ⟨(pairB (p1, p2)).toArray⟩] rfl rfl (World.news_of_block (heap_alloc_new _ _)) (by simp [Value.oneCell']) (by have := HLT.out; unfold maxLen; omega) (by have := HLT.out; omega) (Nat.le_trans HRY.out.hk.size ((Keep.refl [] _).alloc _).size) ?_
          clear hi hz0 hz1 hz2
          intro v5 w5 hown hg hnil hat
          clear hnil hat
          have HL2 : Hid (j + 1 + 1 = (wd :: (ns ++ [pairB (p1, p2)])).length) := Lib.hid (by have := HLN.out; simp at this ⊢; omega)
          have HRY := HRY.out
          rw [HLN.out] at HRY
          have HA := Lib.hid (HRY.add (ls2 := wd :: (ns ++ [pairB (p1, p2)])) ((Keep.refl [] _).alloc _) hown (strL_snoc _ _) HL2.out hg)
          clear hown hg
          refine hK.out _ _ ⟨((HA.out.bx _ (List.mem_cons_self ..)).1).cell 0, ((HA.out.bx _ (List.mem_cons_self ..)).1).cell 1⟩ (fun hHeld => ?_)
          clear hK K
          try simp only [Act.put, List.setIfInBounds_toArray, List.set_cons_zero, List.set_cons_succ]
          refine wpAnyH_take (i := 11) (oi := { dst := some 4, op := Go.Op.assign (Go.Operand.tmp 61), type := 23, pos := "text.go:69", after := #[{ on := 10, ground := Go.Ground.data }, { on := 10, ground := Go.Ground.chain }, { on := 0, ground := Go.Ground.phase }, { on := 1, ground := Go.Ground.phase }, { on := 2, ground := Go.Ground.phase }, { on := 3, ground := Go.Ground.phase }, { on := 4, ground := Go.Ground.phase }, { on := 5, ground := Go.Ground.phase }, { on := 6, ground := Go.Ground.phase }, { on := 7, ground := Go.Ground.phase }, { on := 8, ground := Go.Ground.phase }, { on := 9, ground := Go.Ground.phase }, { on := 10, ground := Go.Ground.phase }], guard := none }) (v := ?_) rfl (by kernel_rfl) (by kernel_rfl) (by kernel_rfl) (fun _ _ _ h => h) (Or.inl ⟨by rfl, ?_⟩) (by assumption) ?_
          rotate_left
          · intro w hSw
            (try dsimp only at hSw)
            go_simp
            all_goals with_reducible rfl
          try simp only [Act.put, List.setIfInBounds_toArray, List.set_cons_zero, List.set_cons_succ]
          refine wpAnyH_done (by kernel_rfl) ?_ _
          clear hHeld HRY HR1 KN1 KN2 hd0 hd1
          go_wp2_with fail
          go_roundg (ps.length - (j + 1))
          case measure => have := HLT.out; omega
          case rel => exact ⟨j + 1, HLT.out, rfl, by go_num, by rw [HTK.out]; exact HA.out.less (fun p hp => List.mem_cons_of_mem _ hp)⟩
        · have hz : ¬ ((j : Nat) : Int) < ((ps.length : Nat) : Int) := by omega
          obtain rfl : j = ps.length := by omega
          have hle : (wd :: (ps.take ps.length).map pairB).length = ps.length + 1 := by simp
          have KJ := Lib.hid (join_own wr w.heap.size c4 A4 _ HR.out.own (by simp) (by have := HL.out; rw [hle]; omega) (by rw [List.take_length, join_pairs, List.length_append]; have h1 := pairsB_len _ HPS.out; have h2 := HWL.out; have h3 := HL.out; omega))
          have HZ2 : Hid (Lib.join (wd :: (ps.take ps.length).map pairB) [32] = Z) := Lib.hid (by rw [List.take_length, join_pairs, ← HZ.out])
          rw [HZ2.out] at KJ
          unfold TextOut at KJ
          rw [hle] at KJ ⊢
          clear HZ HZ2 hlt hle
          go_wp2_with fail
          refine KJ.out.mono ?_
          rintro r q ⟨rfl, hk⟩
          have HKq := Lib.hid (HR.out.hk.trans hk (by simp))
          clear hk
          go_wp2_with fail
          go_ret
          exact ⟨rfl, HKq.out⟩
    have e1 : (((k : Nat) : Int) == 1) = false := by rw [beq_eq_false_iff_ne]; omega
    have e2 : (((k : Nat) : Int) == 2) = false := by rw [beq_eq_false_iff_ne]; omega
    have e3 : (((k : Nat) : Int) == 3) = false := by rw [beq_eq_false_iff_ne]; omega
    have KJ := Lib.hid (join_own x2 w.heap.size 1 (some ⟨ob, 0, none⟩) [wd] HN0.out.own (Nat.zero_lt_one) (by show 1 ≤ 5000; omega) (by rw [join_cons]; show (wd ++ []).length ≤ _; rw [List.append_nil]; have := HWL.out; omega))
    have HZ2 : Hid (Lib.join [wd] [32] = Z) := Lib.hid (by rw [HZ.out, hk, if_neg (by omega), if_neg (by omega), if_neg (by omega), join_cons]; rfl)
    rw [HZ2.out] at KJ
    unfold TextOut at KJ
    clear HZ HZ2 k1 k2 k3 hk
    go_wp2_with fail
    refine KJ.out.mono ?_
    rintro r q ⟨rfl, hk⟩
    have HKq := Lib.hid (HN0.out.hk.trans hk (by simp))
    clear hk
    go_wp2_with fail
    go_ret
    exact ⟨rfl, HKq.out⟩
end Go.Proofs.YtpbbpannimlldaaDoor
