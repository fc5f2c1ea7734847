/- The reference of layer 17: Take by its contract. Condition: the list's first slot is one of the slots. -/
import Derived.Test.YtlbhjahmgdghoaaRef17N
namespace Go.Proofs.Ytlbhjahmgdghoaa
open Go.RowKit

def TakeOut (ok : Nat → Prop) (w : World) (vG : Value) (a g : Nat) (L : List Nat) (r : Ending) (w' : World) : Prop :=
  Keep [] w w' ∧ ∃ vL, r = .returned (.tuple #[.agg #[vL, vG], .int .i64 (a : Nat), .int .u64 (g : Nat)]) ∧ RowI w' ok 3 vL (ints L)
theorem ints_length (l : List Nat) : (ints l).length = l.length := by simp [ints]
theorem RowI.tail {w : World} {ok : Nat → Prop} {t : TypeId} {b o n cap : Nat} {cs : Array Value} {x : Value} {xs : List Value} (hl : (x :: xs).length ≤ cap) (hb : Blk w b t cs) (hc : ∀ k u, (x :: xs)[k]? = some u → cs[o + k]? = some u) (hok : ok b) (hn : n = xs.length) :
    RowI w ok t (.slice (if cap = 1 then some ⟨b, o, none⟩ else some ⟨b, o + 1, none⟩) n (cap - 1)) xs := by
  subst hn
  simp only [List.length_cons] at hl
  by_cases h1 : cap = 1
  · have hx : xs = [] := List.eq_nil_of_length_eq_zero (by omega)
    subst hx
    rw [if_pos h1]
    exact ⟨b, o, cap - 1, cs, rfl, by simp, hb, by simp, hok⟩
  · rw [if_neg h1]
    exact ⟨b, o + 1, cap - 1, cs, rfl, by omega, hb, fun k u hk => by
      have := hc (k + 1) u (by simpa using hk)
      rw [show o + 1 + k = o + (k + 1) by omega]
      exact this, hok⟩
set_option maxRecDepth 100000 in
theorem f_ret3 {fn : Func} {p u v : Tmp} {g : Nat} {cs : Array Value} {a : Act} {w : World} {K : Ending → World → Prop} (h : fn.results = #[.cell p 43, .tmp u, .tmp v]) (hg : Blk w g 43 cs) (hp : a.tmps.getD p undef = .pointer (some ⟨g, 0, none⟩)) (hi : (Try.prog.info? 43).map (·.size) = some cs.size) (hd : a.defers = []) (hk : K (.returned (.tuple #[.agg cs, a.tmps.getD u undef, a.tmps.getD v undef])) w) : bodyPost Try.prog fn K .ret a w := by
  refine bodyPost_ret (v := .tuple #[.agg cs, a.tmps.getD u undef, a.tmps.getD v undef]) ?_ hd hk
  have hp' : a.tmps[p]?.getD undef = .pointer (some ⟨g, 0, none⟩) := by simpa using hp
  simp [results, h, hp', asAddr, run_loadVar_row w g _ 43 cs _ _ hg Try.underlying43 rfl hi]
set_option maxRecDepth 100000 in
set_option maxHeartbeats 1000000 in
theorem ref17_take (w : World) (ok : Nat → Prop) (vL vG : Value) (a : Nat) (L G : List Nat) (hL : RowI w ok 3 vL (ints (a :: L))) (hG : RowI w ok 22 vG (u64s G)) (h1 : 1 ≤ a) (h2 : a ≤ G.length) (h3 : G.length ≤ 300) (h4 : L.length ≤ 300) :
    Calls Try.prog 21 #[.agg #[vL, vG]] w (TakeOut ok w vG a (G.getD (a - 1) 0) L) := by
  obtain ⟨b, o, cap, cs, rfl, hc, hb, hx, hok⟩ := hL
  obtain ⟨b2, o2, cap2, cs2, rfl, hc2, hb2, hx2, hok2⟩ := hG
  rw [ints_length] at hc ⊢
  rw [u64s_len] at hc2 ⊢
  simp only [List.length_cons] at hc ⊢
  have e1 : cs[o]? = some (.int .i64 (a : Nat)) := hx 0 _ rfl
  have e2 : cs2[o2 + (a - 1)]? = some (.int .u64 (G.getD (a - 1) 0 : Nat)) := hx2 (a - 1) _ (by
    rw [List.getD_eq_getElem?_getD]
    unfold u64s
    rw [List.getElem?_map]
    rw [List.getElem?_eq_getElem (by omega)]
    rfl)
  have hT := Lib.hid (fun (w' : World) (hk : Keep [] w w') => RowI.tail (w := w') (ok := ok) (n := L.length) (x := .int .i64 (a : Nat)) (xs := ints L) (by simp [ints]; omega) (hb.keep hk (by simp)) hx hok (by simp [ints]))
  have HB := Lib.hid hb
  have HB2 := Lib.hid hb2
  generalize hg : G.getD (a - 1) 0 = g at e2 ⊢
  generalize hn : L.length = n at hT h4 hc ⊢
  generalize hm : G.length = m at h2 h3 hc2 ⊢
  clear hx hx2 hok hok2 hb hb2 hg hn hm
  have HE1 := Lib.hid e1
  have HE2 := Lib.hid e2
  clear e1 e2
  have HK1 := Lib.hid (((Keep.refl [] w).alloc (.cells #[.slice (some ⟨b, o, none⟩) (n + 1) cap, .slice (some ⟨b2, o2, none⟩) m cap2] 43)).alloc (.cells #[.slice none 0 0, .slice none 0 0] 43))
  have HF := Lib.hid ((Blk.new w 43 #[.slice (some ⟨b, o, none⟩) (n + 1) cap, .slice (some ⟨b2, o2, none⟩) m cap2]).alloc (.cells #[.slice none 0 0, .slice none 0 0] 43))
  have HR := Lib.hid (Blk.new (w.alloc (.cells #[.slice (some ⟨b, o, none⟩) (n + 1) cap, .slice (some ⟨b2, o2, none⟩) m cap2] 43)) 43 #[.slice none 0 0, .slice none 0 0])
  have HS : Hid ((w.alloc (.cells #[.slice (some ⟨b, o, none⟩) (n + 1) cap, .slice (some ⟨b2, o2, none⟩) m cap2] 43)).heap.size = w.heap.size + 1) := by simp [Hid]
  rw [HS.out] at HR
  go_enter Try.func21, Try.ntmps21
  go_upto_region 1 with fail
  generalize (w.alloc (.cells #[.slice (some ⟨b, o, none⟩) (n + 1) cap, .slice (some ⟨b2, o2, none⟩) m cap2] 43)).alloc (.cells #[.slice none 0 0, .slice none 0 0] 43) = w1 at HK1 HF HR ⊢
  clear HS
  have hf0 := HF.out.frozen 0
  have hf1 := HR.out.frozen 0
  have hf2 := HR.out.frozen 1
  have hl0 : w1.cell? ⟨w.heap.size, 0, none⟩ = some (.slice (some ⟨b, o, none⟩) (n + 1) cap) := HF.out.cell 0
  have hl1 : w1.cell? ⟨w.heap.size, 1, none⟩ = some (.slice (some ⟨b2, o2, none⟩) m cap2) := HF.out.cell 1
  have hn1 : ¬ ((((n + 1 : Nat) : Int)) = 0) := by omega
  have hn2 : (0 : Int) < ((n + 1 : Nat) : Int) := by omega
  have hx0 : w1.cell? ⟨b, o, none⟩ = some (.int .i64 (a : Nat)) := by rw [(HB.out.keep HK1.out (by simp)).cell]; exact HE1.out
  go_upto_region 5 with fail
  generalize (if cap = 1 then some (⟨b, o, none⟩ : Addr) else some ⟨b, o + 1, none⟩) = A at hT ⊢
  have HF2 := Lib.hid (HF.out.set_ 0 (.slice A n (cap - 1)))
  have HR2 : Hid (Blk (w1.setCell ⟨w.heap.size, 0, none⟩ (.slice A n (cap - 1))) (w.heap.size + 1) 43 #[.slice none 0 0, .slice none 0 0]) := HR.out.far (p := ⟨w.heap.size, 0, none⟩) (Nat.succ_ne_self _) _
  have HK2 := Lib.hid (HK1.out.set_ (p := ⟨w.heap.size, 0, none⟩) (.slice A n (cap - 1)) (.inr (Nat.le_refl _)))
  generalize hcap : cap - 1 = cp at *
  generalize w1.setCell ⟨w.heap.size, 0, none⟩ (.slice A n cp) = w2 at HF2 HR2 HK2 ⊢
  clear hf0 hf1 hf2 hl0 hl1 hx0 hn1 hn2 HF HR HK1 w1
  have hf1 := HR2.out.frozen 0
  have hf2 := HR2.out.frozen 1
  have hl0 : w2.cell? ⟨w.heap.size, 0, none⟩ = some (.slice A n cp) := HF2.out.cell 0
  have hl1 : w2.cell? ⟨w.heap.size, 1, none⟩ = some (.slice (some ⟨b2, o2, none⟩) m cap2) := HF2.out.cell 1
  obtain ⟨p, rfl⟩ : ∃ p, a = p + 1 := ⟨a - 1, by omega⟩
  have hx0 : w2.cell? ⟨b2, o2 + p, none⟩ = some (.int .u64 (g : Nat)) := by rw [(HB2.out.keep HK2.out (by simp)).cell]; exact HE2.out
  have hz : ((p + 1 : Nat) : Int) - 1 = (p : Int) := by omega
  have hz1 : ((p : Nat) : Int) < (m : Int) := by omega
  have hz2 : (0 : Int) ≤ (p : Int) := by omega
  have hz3 : ((p : Nat) : Int) ≤ 300 := by omega
  have hne : ¬ b2 = w.heap.size + 1 := by have := HB2.out.lt; omega
  have hne2 : ¬ w.heap.size + 1 = b2 := fun e => hne e.symm
  have hne3 : ¬ w.heap.size = w.heap.size + 1 := by omega
  have hne4 : ¬ w.heap.size + 1 = w.heap.size := by omega
  have hR0 := HR2.out.cell 0
  have hR1 := HR2.out.cell 1
  have HZ := Lib.hid (And.intro h2 h3)
  clear h2 h3 h4 hc hc2 h1
  go_region
  go_wp2_with fail
  have HF3 := Lib.hid (HR2.out.two (.slice A n cp) (.slice (some ⟨b2, o2, none⟩) m cap2)).drew
  have HK3 := Lib.hid ((HK2.out.set_ (p := ⟨w.heap.size + 1, 0, none⟩) (.slice A n cp) (.inr (Nat.le_succ _))).set_ (p := ⟨w.heap.size + 1, 1, none⟩) (.slice (some ⟨b2, o2, none⟩) m cap2) (.inr (Nat.le_succ _))).drew
  refine f_ret3 rfl HF3.out rfl (by kernel_rfl) rfl ?_
  exact ⟨HK3.out, .slice A n cp, rfl, hT.out _ HK3.out⟩
set_option maxRecDepth 100000 in
set_option maxHeartbeats 1000000 in
theorem ref17_take0 (w : World) (ok : Nat → Prop) (vL vG : Value) (G : List Nat) (hL : RowI w ok 3 vL (ints [])) (hG : RowI w ok 22 vG (u64s G)) (_h3 : G.length ≤ 300) :
    Calls Try.prog 21 #[.agg #[vL, vG]] w fun r w' => r = .returned (.tuple #[.agg #[vL, vG], .int .i64 0, .int .u64 0]) ∧ Keep [] w w' := by
  obtain ⟨b, o, cap, cs, rfl, hc, hb, hx, hok⟩ := hL
  obtain ⟨b2, o2, cap2, cs2, rfl, hc2, hb2, hx2, hok2⟩ := hG
  rw [ints_length] at hc ⊢
  rw [u64s_len] at hc2 ⊢
  simp only [List.length_nil] at hc ⊢
  generalize hm : G.length = m at hc2 ⊢
  clear hx hx2 hok hok2 hb hb2 hm
  have HK1 := Lib.hid (((Keep.refl [] w).alloc (.cells #[.slice (some ⟨b, o, none⟩) 0 cap, .slice (some ⟨b2, o2, none⟩) m cap2] 43)).alloc (.cells #[.slice none 0 0, .slice none 0 0] 43))
  have HF := Lib.hid ((Blk.new w 43 #[.slice (some ⟨b, o, none⟩) 0 cap, .slice (some ⟨b2, o2, none⟩) m cap2]).alloc (.cells #[.slice none 0 0, .slice none 0 0] 43))
  have HR := Lib.hid (Blk.new (w.alloc (.cells #[.slice (some ⟨b, o, none⟩) 0 cap, .slice (some ⟨b2, o2, none⟩) m cap2] 43)) 43 #[.slice none 0 0, .slice none 0 0])
  have HS : Hid ((w.alloc (.cells #[.slice (some ⟨b, o, none⟩) 0 cap, .slice (some ⟨b2, o2, none⟩) m cap2] 43)).heap.size = w.heap.size + 1) := by simp [Hid]
  rw [HS.out] at HR
  go_enter Try.func21, Try.ntmps21
  go_upto_region 1 with fail
  generalize (w.alloc (.cells #[.slice (some ⟨b, o, none⟩) 0 cap, .slice (some ⟨b2, o2, none⟩) m cap2] 43)).alloc (.cells #[.slice none 0 0, .slice none 0 0] 43) = w1 at HK1 HF HR ⊢
  clear HS
  have hf1 := HR.out.frozen 0
  have hf2 := HR.out.frozen 1
  have hl0 : w1.cell? ⟨w.heap.size, 0, none⟩ = some (.slice (some ⟨b, o, none⟩) 0 cap) := HF.out.cell 0
  have hl1 : w1.cell? ⟨w.heap.size, 1, none⟩ = some (.slice (some ⟨b2, o2, none⟩) m cap2) := HF.out.cell 1
  have hR0 := HR.out.cell 0
  have hR1 := HR.out.cell 1
  go_wp2_with fail
  have HF3 := Lib.hid (HR.out.two (.slice (some ⟨b, o, none⟩) 0 cap) (.slice (some ⟨b2, o2, none⟩) m cap2))
  have HK3 := Lib.hid ((HK1.out.set_ (p := ⟨w.heap.size + 1, 0, none⟩) (.slice (some ⟨b, o, none⟩) 0 cap) (.inr (Nat.le_succ _))).set_ (p := ⟨w.heap.size + 1, 1, none⟩) (.slice (some ⟨b2, o2, none⟩) m cap2) (.inr (Nat.le_succ _)))
  refine f_ret3 rfl HF3.out rfl (by kernel_rfl) rfl ?_
  exact ⟨rfl, HK3.out⟩
end Go.Proofs.Ytlbhjahmgdghoaa
