/- Package frame: what a thread keeps, and its functions by their contracts. Conditions: the thread is known (ThAt), it is not deep. -/
import Derived.Test.YtoghcikfkkmfkaaGreatMem3
import Derived.Laws.CopyOwn
import Derived.Maps.AppendAt
import Derived.WalkSmall
import Derived.Deep.AppendLies
import Derived.StillTailTactics
namespace Go.Proofs.YtoghcikfkkmfkaaGreat
open Go.RowKit

structure FrS where
  fn : Int
  pc : Int
  r : List Nat
structure SesS where
  joined : Bool
  pinned : Bool
  ended : Bool
  past : Nat
  v : Nat
  time : Nat
  lo : Int
  hi : Int
  base : Int
  top : Int
  at_ : Int
  limit : Int
def SesS.cells (s : SesS) : List Value :=
  [.bool s.joined, .bool s.pinned, .bool s.ended, .int .u64 s.past, .int .u64 s.v, .int .u64 s.time, .int .i64 s.lo, .int .i64 s.hi, .int .i64 s.base, .int .i64 s.top, .int .i64 s.at_, .int .i64 s.limit]
structure ThS where
  ret : List Nat
  ses : SesS
  frs : List FrS
  row : List (Int × Int)
  stk : List Nat
structure ThI where
  tb : Nat
  fbs : List Nat
  fv : Value
  rv : Value
  sv : Value
def ptr (b : Nat) : Value := .pointer (some ⟨b, 0, none⟩)
def rowCells (l : List (Int × Int)) : List Value := l.flatMap fun p => [.int .i64 p.1, .int .i64 p.2]
def FrS.cells (f : FrS) : List Value := .int .i64 f.fn :: .int .i64 f.pc :: u64s f.r
def FrAt (w : World) (b : Nat) (f : FrS) : Prop := Blk w b 48 f.cells.toArray ∧ f.r.length = 24
def thCells (i : ThI) (s : ThS) : List Value := u64s s.ret ++ (s.ses.cells ++ [i.fv, i.rv, i.sv])
structure ThAt (w : World) (i : ThI) (s : ThS) : Prop where
  ht : Blk w i.tb 59 (thCells i s).toArray
  rl : s.ret.length = 12
  hf : w.ownsRow 0 49 1 i.fv s.frs.length (i.fbs.map ptr)
  fr : ∀ (k b : Nat) (f : FrS), i.fbs[k]? = some b → s.frs[k]? = some f → FrAt w b f
  nd : i.fbs.Nodup
  hrow : w.ownsRow 0 83 2 i.rv s.row.length (rowCells s.row)
  hstk : w.ownsRow 0 22 1 i.sv s.stk.length (u64s s.stk)
/-- The blocks of a thread. -/
def ThI.foot (i : ThI) : List Nat := i.tb :: (i.fbs ++ (i.fv.ownBlock.toList ++ (i.rv.ownBlock.toList ++ i.sv.ownBlock.toList)))

section
variable {w w' : World} {i : ThI} {s : ThS} {S : List Nat}
theorem ThAt.fbl (h : ThAt w i s) : i.fbs.length = s.frs.length := by
  have := h.hf.1
  simpa using this
theorem own_same {base : Nat} {e : TypeId} {size n : Nat} {v : Value} {xs : List Value} (h : w.ownsRow base e size v n xs) (hs : ∀ g, v.ownBlock = some g → w'.heap[g]? = w.heap[g]?) : w'.ownsRow base e size v n xs := by
  obtain ⟨h1, h2⟩ := h
  refine ⟨h1, ?_⟩
  rcases h2 with h2 | ⟨g, cap, cur, hv, hg, hh, r⟩
  · exact .inl h2
  · exact .inr ⟨g, cap, cur, hv, hg, (hs g (by rw [hv]; rfl)).trans hh, r⟩
theorem own_lt {base : Nat} {e : TypeId} {size n : Nat} {v : Value} {xs : List Value} (h : w.ownsRow base e size v n xs) {g : Nat} (hg : v.ownBlock = some g) : g < w.heap.size := (h.lt g hg).2
theorem own_keep {base : Nat} {e : TypeId} {size n : Nat} {v : Value} {xs : List Value} (h : w.ownsRow base e size v n xs) (hk : Keep S w w') (hn : ∀ g, v.ownBlock = some g → g ∉ S) : w'.ownsRow base e size v n xs :=
  own_same h fun g hg => hk.block g (own_lt h hg) (hn g hg)
theorem own_blk {base : Nat} {e : TypeId} {size n : Nat} {v : Value} {xs : List Value} (h : w.ownsRow base e size v n xs) {g : Nat} (hg : v.ownBlock = some g) : ∃ cs, Blk w g e cs := by
  obtain ⟨h1, h2⟩ := h
  rcases h2 with ⟨rfl, _⟩ | ⟨g', cap, cur, rfl, _, hh, r⟩
  · cases hg
  · simp [Value.ownBlock] at hg
    subst hg
    exact ⟨_, hh⟩
theorem own_ne {base : Nat} {e : TypeId} {size n : Nat} {v : Value} {xs : List Value} (h : w.ownsRow base e size v n xs) {b t : Nat} {cs : Array Value} (hb : Blk w b t cs) (hne : e ≠ t) : v.ownBlock ≠ some b := by
  intro hg
  obtain ⟨cs', hb'⟩ := own_blk h hg
  exact hb'.ne_ hb hne rfl
theorem own_base {base : Nat} {e : TypeId} {size n : Nat} {v : Value} {xs : List Value} (h : w.ownsRow base e size v n xs) : w.ownsRow 0 e size v n xs := by
  obtain ⟨h1, h2⟩ := h
  refine ⟨h1, ?_⟩
  rcases h2 with h2 | ⟨g, cap, cur, hv, hg, r⟩
  · exact .inl h2
  · exact .inr ⟨g, cap, cur, hv, Nat.zero_le _, r⟩
theorem FrAt.keep {b : Nat} {f : FrS} (h : FrAt w b f) (hk : Keep S w w') (hn : b ∉ S) : FrAt w' b f := ⟨h.1.keep hk hn, h.2⟩
theorem ThAt.frame (h : ThAt w i s) (k : Nat) (hk : k < s.frs.length) : FrAt w (i.fbs[k]'(by rw [h.fbl]; exact hk)) (s.frs[k]) :=
  h.fr k _ _ (List.getElem?_eq_getElem _) (List.getElem?_eq_getElem _)
theorem ThAt.keep (h : ThAt w i s) (hk : Keep S w w') (hn : ∀ x, x ∈ i.foot → x ∉ S) : ThAt w' i s := by
  refine ⟨h.ht.keep hk (hn _ (by simp [ThI.foot])), h.rl, own_keep h.hf hk (fun g hg => hn g (by simp [ThI.foot, hg])), fun k b f hb hf => (h.fr k b f hb hf).keep hk (hn b ?_), h.nd,
    own_keep h.hrow hk (fun g hg => hn g (by simp [ThI.foot, hg])), own_keep h.hstk hk (fun g hg => hn g (by simp [ThI.foot, hg]))⟩
  have := List.mem_of_getElem? hb
  simp [ThI.foot, this]
theorem ThAt.drewN (h : ThAt w i s) (n : Nat) : ThAt (w.drewN n) i s := h.keep (S := []) ((Keep.refl _ _).drewN n) (by simp)
theorem ThAt.drawn (h : ThAt w i s) (hd : Drawn w w') : ThAt w' i s := h.keep (S := []) (Keep.of_drawn hd) (by simp)
theorem ThAt.alloc (h : ThAt w i s) (o : Obj) : ThAt (w.alloc o) i s := h.keep (S := []) ((Keep.refl _ _).alloc o) (by simp)
theorem u64s_length (l : List Nat) : (u64s l).length = l.length := by simp [u64s]
theorem th_cell (h : ThAt w i s) (k : Nat) : w.cell? ⟨i.tb, 12 + k, none⟩ = (s.ses.cells ++ [i.fv, i.rv, i.sv])[k]? := by
  rw [h.ht.cell]
  simp only [thCells, List.getElem?_toArray]
  rw [List.getElem?_append_right (by rw [u64s_length, h.rl]; omega), u64s_length, h.rl]
  congr 1
  omega
theorem ThAt.c24 (h : ThAt w i s) : w.cell? ⟨i.tb, 24, none⟩ = some i.fv := th_cell h 12
theorem ThAt.c25 (h : ThAt w i s) : w.cell? ⟨i.tb, 25, none⟩ = some i.rv := th_cell h 13
theorem ThAt.c26 (h : ThAt w i s) : w.cell? ⟨i.tb, 26, none⟩ = some i.sv := th_cell h 14
theorem ThAt.foot_lt (h : ThAt w i s) : ∀ x, x ∈ i.foot → x < w.heap.size := by
  intro x hx
  simp only [ThI.foot, List.mem_cons, List.mem_append, Option.mem_toList] at hx
  rcases hx with rfl | hx | hx | hx | hx
  · exact h.ht.lt
  · obtain ⟨k, hk, rfl⟩ := List.getElem_of_mem hx
    exact (h.frame k (by rw [← h.fbl]; exact hk)).1.lt
  · exact own_lt h.hf hx
  · exact own_lt h.hrow hx
  · exact own_lt h.hstk hx
end

def SesS.zero : SesS := ⟨false, false, false, 0, 0, 0, 0, 0, 0, 0, 0, 0⟩
def ThS.zero : ThS := ⟨List.replicate 12 0, SesS.zero, [], [], []⟩
def ThI.fresh (b : Nat) : ThI := ⟨b, [], .slice none 0 0, .slice none 0 0, .slice none 0 0⟩
theorem ThAt.new {w : World} (o : Array Value) (ho : o = (thCells (ThI.fresh 0) ThS.zero).toArray) : ThAt (w.alloc (.cells o 59)) (ThI.fresh w.heap.size) ThS.zero := by
  subst ho
  exact ⟨Blk.new _ _ _, rfl, World.ownsRow_nil _ _ _ _, fun k b f hb => by simp [ThI.fresh] at hb, List.nodup_nil, World.ownsRow_nil _ _ _ _, World.ownsRow_nil _ _ _ _⟩

set_option maxRecDepth 100000 in
theorem frame_new (w : World) : Calls Tryz.prog 50 #[] w fun r w' => r = .returned (ptr w.heap.size) ∧ ThAt w' (ThI.fresh w.heap.size) ThS.zero ∧ Keep [] w w' := by
  go_enter Tryz.func50, Tryz.ntmps50
  go_wp2
  go_ret
  exact ⟨rfl, ThAt.new _ rfl, (Keep.refl _ _).alloc _⟩
theorem frame_depth (w : World) (i : ThI) (s : ThS) (h : ThAt w i s) : Calls Tryz.prog 14 #[ptr i.tb] w fun r w' => r = .returned (.int .i64 s.frs.length) ∧ w = w' := by
  have hc := h.c24
  obtain ⟨A, c, hv⟩ : ∃ A c, i.fv = .slice A s.frs.length c := by
    obtain ⟨_, ⟨h1, h2⟩ | ⟨g, cap, cur, hv, _⟩⟩ := h.hf
    · exact ⟨none, 0, by rw [h1, h2]⟩
    · exact ⟨_, _, hv⟩
  rw [hv] at hc
  clear h hv
  unfold ptr
  go_enter Tryz.func14, Tryz.ntmps14
  go_wp2
  go_ret
  exact ⟨rfl, rfl⟩
theorem frame_top_none (w : World) (i : ThI) (s : ThS) (h : ThAt w i s) (he : s.frs = []) : Calls Tryz.prog 16 #[ptr i.tb] w fun r w' => r = .returned (.pointer none) ∧ w = w' := by
  have hc := h.c24
  obtain ⟨A, c, hv⟩ : ∃ A c, i.fv = .slice A 0 c := by
    obtain ⟨_, ⟨h1, h2⟩ | ⟨g, cap, cur, hv, _⟩⟩ := h.hf
    · exact ⟨none, 0, h1⟩
    · exact ⟨_, _, by rw [hv, he]; rfl⟩
  rw [hv] at hc
  clear h hv he
  unfold ptr
  go_enter Tryz.func16, Tryz.ntmps16
  go_wp2
  go_ret
  exact ⟨rfl, rfl⟩
theorem frame_top_nil (w : World) : Calls Tryz.prog 16 #[.pointer none] w fun r w' => r = .returned (.pointer none) ∧ w = w' := by
  go_enter Tryz.func16, Tryz.ntmps16
  go_wp2
  go_ret
  exact ⟨rfl, rfl⟩
theorem frame_depth_nil (w : World) : Calls Tryz.prog 14 #[.pointer none] w fun r w' => r = .returned (.int .i64 0) ∧ w = w' := by
  go_enter Tryz.func14, Tryz.ntmps14
  go_wp2
  go_ret
  exact ⟨rfl, rfl⟩
theorem ThAt.fvForm {w : World} {i : ThI} {s : ThS} (h : ThAt w i s) (hp : 0 < s.frs.length) : ∃ g cap, i.fv = .slice (some ⟨g, 0, none⟩) s.frs.length cap ∧ s.frs.length ≤ cap ∧ cap ≤ maxLen ∧ (∀ k, (hk : k < s.frs.length) → w.cell? ⟨g, k, none⟩ = some (ptr (i.fbs[k]'(by rw [h.fbl]; exact hk)))) ∧ ∃ cs, Blk w g 49 cs := by
  obtain ⟨hl, ⟨h1, h2⟩ | ⟨g, cap, cur, hv, _, hh, hle, hcm, hcs, htk⟩⟩ := h.hf
  · omega
  · refine ⟨g, cap, hv, hle, hcm, fun k hk => ?_, cur, hh⟩
    have hb : Blk w g 49 cur := hh
    rw [hb.cell]
    have e : (cur.toList.take (s.frs.length * 1))[k]? = (i.fbs.map ptr)[k]? := by rw [htk]
    rw [List.getElem?_take, if_pos (by omega)] at e
    rw [← Array.getElem?_toList, e]
    simp [h.fbl, hk]
set_option maxRecDepth 100000 in
theorem frame_top (w : World) (i : ThI) (s : ThS) (h : ThAt w i s) (hp : 0 < s.frs.length) : Calls Tryz.prog 16 #[ptr i.tb] w fun r w' => r = .returned (ptr (i.fbs.getD (s.frs.length - 1) 0)) ∧ Drawn w w' := by
  have hc := h.c24
  have hfb := h.fbl
  obtain ⟨g, cap, hv, hle, hcm, hcell, _⟩ := h.fvForm hp
  have hx := hcell (s.frs.length - 1) (by omega)
  have e : i.fbs.getD (s.frs.length - 1) 0 = i.fbs[s.frs.length - 1]'(by omega) := by simp [show s.frs.length - 1 < i.fbs.length by omega]
  rw [e]
  rw [hv] at hc
  generalize i.fbs[s.frs.length - 1]'(by omega) = b at hx
  obtain ⟨n, hn⟩ : ∃ n, s.frs.length = n + 1 := ⟨s.frs.length - 1, by omega⟩
  rw [hn] at hc hle hx
  simp only [Nat.add_sub_cancel] at hx
  unfold maxLen at hcm
  clear h hv hfb hcell hp e hn
  unfold ptr at hx ⊢
  have h0 : (0 : Int) ≤ (n : Int) := by omega
  go_enter Tryz.func16, Tryz.ntmps16
  go_wp2_with fail
  go_quiet (fail)
  go_wp2
  go_ret
  exact ⟨rfl, Drawn.n _ _⟩
end Go.Proofs.YtoghcikfkkmfkaaGreat
