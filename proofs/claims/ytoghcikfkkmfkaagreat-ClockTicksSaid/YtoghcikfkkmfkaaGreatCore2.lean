/- Package core: tree and words by their contracts. Conditions: the plan's block is known; the configuration may be. -/
import Derived.Test.YtoghcikfkkmfkaaGreatCore
import Derived.StillTailTactics
import Derived.Deep.LoopGhost
import Derived.Great.BuildSlice
namespace Go.Proofs.YtoghcikfkkmfkaaGreat
open Go.RowKit

def treeCells : Array Value := #[.int .i64 1, .bool false, .int .i64 3, .int .i64 2, .int .i64 5, .int .i64 2, .bool false, .int .i64 2, .int .i64 3, .int .i64 4, .int .i64 3, .bool true, .int .i64 1, .int .i64 0, .int .i64 0, .int .i64 4, .bool true, .int .i64 2, .int .i64 0, .int .i64 0, .int .i64 5, .bool true, .int .i64 3, .int .i64 0, .int .i64 0]
theorem core_tree (w : World) : Calls Tryz.prog 51 #[] w fun r w' => r = .returned (.agg treeCells) ∧ Keep [] w w' := by
  go_enter Tryz.func51, Tryz.ntmps51
  go_wp2_with (first | (refine wpList_buildTo rfl 112 _ rfl (some 6) rfl treeCells (by kernel_rfl) ?_) | (refine wpList_store_rowTo rfl 112 _ _ rfl rfl w.heap.size treeCells rfl rfl 112 _ (heap_alloc_new _ _) (by kernel_rfl) rfl (by kernel_rfl) ?_))
  have hh : Blk ((w.alloc (Obj.cells (#[Value.int IntKind.i64 0, Value.bool false, Value.int IntKind.i64 0, Value.int IntKind.i64 0, Value.int IntKind.i64 0, Value.int IntKind.i64 0, Value.bool false, Value.int IntKind.i64 0, Value.int IntKind.i64 0, Value.int IntKind.i64 0, Value.int IntKind.i64 0, Value.bool false, Value.int IntKind.i64 0, Value.int IntKind.i64 0, Value.int IntKind.i64 0, Value.int IntKind.i64 0, Value.bool false, Value.int IntKind.i64 0, Value.int IntKind.i64 0, Value.int IntKind.i64 0, Value.int IntKind.i64 0, Value.bool false, Value.int IntKind.i64 0, Value.int IntKind.i64 0, Value.int IntKind.i64 0]) 112)).setRow w.heap.size treeCells) w.heap.size 112 treeCells := setRow_heap _ _ _ _ _ _ (heap_alloc_new _ _)
  refine bodyPost_ret (v := .agg treeCells) (results_cell_row (p := 0) (ty := 112) (d := .array 5 111) rfl _ _ w.heap.size _ _ _ rfl hh (by kernel_rfl) rfl (by kernel_rfl)) rfl ⟨rfl, ((Keep.refl [] w).alloc _).trans (Keep.setRow _ w.heap.size _ (List.mem_cons_self ..) : Keep [w.heap.size] _ _) (fun x hx => by simp at hx; simp [hx])⟩

/-- Where a slot's field is, and all words at first. -/
def ixN (c : ConfS) (s f : Nat) : Nat := 3 + 8 * c.thr.toNat + 7 * (s - 1) + f
def wordsN (c : ConfS) : Nat := 3 + 8 * c.thr.toNat + 7 * c.slots.toNat
def treeL : List (Nat × Bool × Nat × Nat × Nat) := [(1, false, 3, 2, 5), (2, false, 2, 3, 4), (3, true, 1, 0, 0), (4, true, 2, 0, 0), (5, true, 3, 0, 0)]
def putNode (c : ConfS) (ws : List Nat) (n : Nat × Bool × Nat × Nat × Nat) : List Nat := ((ws.set (ixN c n.1 2) (infoN n.2.1 n.2.2.1)).set (ixN c n.1 4) (mkE n.2.2.2.1 0)).set (ixN c n.1 5) (mkE n.2.2.2.2 0)
def treeW (c : ConfS) (ws : List Nat) (k : Nat) : List Nat := (treeL.take k).foldl (putNode c) ws
def linkW (c : ConfS) (ws : List Nat) (k : Nat) : List Nat := (List.range k).foldl (fun ws j => ws.set (ixN c (6 + j) 0) (7 + j)) ws
def words0 (c : ConfS) : List Nat := linkW c (treeW c ((((List.replicate (wordsN c) 0).set 0 1).set 1 3).set 2 (headN 6 0)) 5) (c.slots.toNat - 6)
theorem treeW_length (c : ConfS) (ws : List Nat) (k : Nat) : (treeW c ws k).length = ws.length := by
  unfold treeW
  generalize treeL.take k = l
  induction l generalizing ws with
  | nil => rfl
  | cons a l ih => rw [List.foldl_cons, ih]; simp [putNode]
theorem linkW_length (c : ConfS) (ws : List Nat) (k : Nat) : (linkW c ws k).length = ws.length := by
  unfold linkW
  generalize List.range k = l
  induction l generalizing ws with
  | nil => rfl
  | cons a l ih => rw [List.foldl_cons, ih]; simp
theorem linkW_succ (c : ConfS) (ws : List Nat) (k : Nat) : linkW c ws (k + 1) = (linkW c ws k).set (ixN c (6 + k) 0) (7 + k) := by
  simp [linkW, List.range_succ]
theorem words0_length (c : ConfS) : (words0 c).length = wordsN c := by simp [words0, linkW_length, treeW_length]
theorem ixN_lt {c : ConfS} (ho : c.Ok) {s f : Nat} (h1 : 1 ≤ s) (h2 : (s : Int) ≤ c.slots) (h3 : f ≤ 6) : ixN c s f < wordsN c := by
  have := ho.s1
  unfold ixN wordsN
  omega
theorem plan_node_nat (c : ConfS) (p : Nat) (s f : Nat) (w : World) (h : PlanAt w p c) (ho : c.Ok) (h0 : 1 ≤ s) (h1 : (s : Int) ≤ c.slots) (h3 : f ≤ 6) :
    Calls Tryz.prog 89 #[.pointer (some ⟨p, 0, none⟩), .int .i64 (s : Nat), .int .i64 (f : Nat)] w fun e w' => e = .returned (.int .i64 (ixN c s f : Nat)) ∧ w = w' := by
  have e : ((ixN c s f : Nat) : Int) = 3 + 8 * c.thr + 7 * ((s : Int) - 1) + f := by
    have := ho.t1
    unfold ixN
    omega
  rw [e]
  exact plan_node_yes c p s f w h ho (by omega) h1 (by omega) (by omega)
theorem plan_words_nat (c : ConfS) (p : Nat) (w : World) (h : PlanAt w p c) (ho : c.Ok) : Calls Tryz.prog 86 #[.pointer (some ⟨p, 0, none⟩)] w fun e w' => e = .returned (.int .i64 (wordsN c : Nat)) ∧ Drawn w w' := by
  have e : ((wordsN c : Nat) : Int) = 3 + 8 * c.thr + 7 * c.slots := by
    have := ho.t1
    have := ho.s1
    unfold wordsN
    omega
  rw [e]
  exact plan_words c p w h ho
theorem wordsN_le {c : ConfS} (ho : c.Ok) : wordsN c ≤ 1801 := by
  have := ho.t2; have := ho.s2
  unfold wordsN; omega
theorem wordsN_ge {c : ConfS} (ho : c.Ok) : 60 ≤ wordsN c := by
  have := ho.t1; have := ho.s1
  unfold wordsN; omega
end Go.Proofs.YtoghcikfkkmfkaaGreat
