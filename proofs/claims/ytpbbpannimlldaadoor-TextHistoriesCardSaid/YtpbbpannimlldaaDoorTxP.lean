/- Events, written: what they are as text. Plain lemmas; events in memory. -/
import Derived.Test.YtpbbpannimlldaaDoorNum
import Derived.Lib.Join
namespace Go.Proofs.YtpbbpannimlldaaDoor
open Go.RowKit

def I64 (n : Int) : Prop := -9223372036854775808 ≤ n ∧ n ≤ 9223372036854775807
def wordL : List (List UInt8) := [[105, 110, 115, 101, 114, 116], [100, 101, 108, 101, 116, 101], [108, 111, 111, 107, 117, 112], [114, 97, 110, 103, 101], [99, 111, 117, 110, 116], [109, 105, 110], [109, 97, 120], [102, 108, 111, 111, 114], [99, 101, 105, 108, 105, 110, 103], [111, 112, 101, 110], [110, 101, 120, 116], [115, 101, 101, 107], [99, 108, 111, 115, 101], [106, 111, 105, 110], [113, 117, 105, 116]]
def kindL : List (List UInt8) := [[100, 111, 110, 101], [102, 111, 117, 110, 100], [99, 111, 117, 110, 116, 101, 100], [108, 105, 115, 116], [110, 111, 110, 101], [101, 120, 105, 115, 116, 115], [102, 117, 108, 108], [115, 112, 101, 110, 116], [98, 97, 100]]
/-- A call's word, an answer's. -/
def wordB (op : Int) : List UInt8 := if 0 ≤ op ∧ op ≤ 14 then wordL.getD op.toNat [] else []
def kindB (k : Int) : List UInt8 := if 0 ≤ k ∧ k ≤ 8 then kindL.getD k.toNat [] else []
structure CallX where
  op : Int
  key : Int
  val : Int
  hi : Int
  lim : Int
structure CallX.Fit (c : CallX) : Prop where
  key : I64 c.key
  val : I64 c.val
  hi : I64 c.hi
  lim : I64 c.lim
def CallX.cells (c : CallX) : Array Value := #[.int .i64 c.op, .int .i64 c.key, .int .i64 c.val, .int .i64 c.hi, .int .i64 c.lim]
/-- Which of its fields a call tells, by place. -/
def idxC (op : Int) : List Nat := if op = 0 then [1, 2] else if op = 1 ∨ op = 2 ∨ op = 7 ∨ op = 8 ∨ op = 11 then [1] else if op = 3 ∨ op = 4 ∨ op = 9 then [1, 3] else []
def CallX.at_ (c : CallX) (i : Nat) : Int := [c.op, c.key, c.val, c.hi, c.lim].getD i 0
def CallX.nums (c : CallX) : List Int := (idxC c.op).map c.at_ ++ (if c.op = 3 then [c.lim] else [])
def numsB (l : List Int) : List UInt8 := l.flatMap fun n => 32 :: Lib.itoa n
/-- A call, written. -/
def callZ (c : CallX) : List UInt8 := if wordB c.op = [] then [] else wordB c.op ++ numsB c.nums
structure AnsX where
  kind : Int
  key : Int
  val : Int
  n : Int
  ps : List (Int × Int)
  pA : Option Addr
  pc : Nat
structure AnsX.Fit (a : AnsX) : Prop where
  key : I64 a.key
  val : I64 a.val
  n : I64 a.n
  ps : ∀ p ∈ a.ps, I64 p.1 ∧ I64 p.2
def AnsX.cells (a : AnsX) : Array Value := #[.int .i64 a.kind, .int .i64 a.key, .int .i64 a.val, .int .i64 a.n, .slice a.pA a.ps.length a.pc]
def pairB (p : Int × Int) : List UInt8 := Lib.itoa p.1 ++ [58] ++ Lib.itoa p.2
def pairsB (l : List (Int × Int)) : List UInt8 := l.flatMap fun p => 32 :: pairB p
/-- An answer, written. -/
def ansZ (a : AnsX) : List UInt8 := if kindB a.kind = [] then [] else kindB a.kind ++ (if a.kind = 1 then numsB [a.key, a.val] else if a.kind = 2 then numsB [a.n] else if a.kind = 3 then pairsB a.ps else [])
structure EvX where
  thr : Int
  back : Bool
  c : CallX
  a : AnsX
structure EvX.Fit (e : EvX) : Prop where
  thr : I64 e.thr
  c : e.c.Fit
  a : e.a.Fit
/-- An event, written. -/
def evZ (e : EvX) : List UInt8 := if e.back then [98, 97, 99, 107, 32] ++ Lib.itoa e.thr ++ [32] ++ ansZ e.a else [98, 101, 103, 105, 110, 32] ++ Lib.itoa e.thr ++ [32] ++ callZ e.c
def histZ (l : List EvX) : List UInt8 := l.flatMap fun e => evZ e ++ [10]
theorem itoa_len {n : Int} (h : I64 n) : (Lib.itoa n).length ≤ 21 := Lib.itoa_length_le n h.1 h.2
theorem numsB_len : ∀ l : List Int, (∀ n ∈ l, I64 n) → (numsB l).length ≤ 22 * l.length
  | [], _ => by simp [numsB]
  | n :: l, h => by
    have h1 := itoa_len (h n (by simp))
    have h2 := numsB_len l (fun m hm => h m (by simp [hm]))
    unfold numsB at *
    rw [List.flatMap_cons, List.length_append, List.length_cons, List.length_cons]
    omega
theorem pairsB_len : ∀ l : List (Int × Int), (∀ p ∈ l, I64 p.1 ∧ I64 p.2) → (pairsB l).length ≤ 44 * l.length
  | [], _ => by simp [pairsB]
  | p :: l, h => by
    have h1 := itoa_len (h p (by simp)).1
    have h3 := itoa_len (h p (by simp)).2
    have h2 := pairsB_len l (fun m hm => h m (by simp [hm]))
    have h4 : (pairB p).length ≤ 43 := by
      unfold pairB
      rw [List.length_append, List.length_append, List.length_cons, List.length_nil]
      omega
    unfold pairsB at *
    rw [List.flatMap_cons, List.length_append, List.length_cons, List.length_cons]
    omega
theorem wordB_len (op : Int) : (wordB op).length ≤ 7 := by
  unfold wordB
  split
  · rename_i h
    obtain ⟨k, rfl⟩ : ∃ k : Nat, op = (k : Int) := ⟨op.toNat, by omega⟩
    have hk : k < 15 := by omega
    have : ∀ j : Fin 15, (wordL.getD j.val []).length ≤ 7 := by decide
    exact this ⟨k, hk⟩
  · decide
theorem kindB_len (op : Int) : (kindB op).length ≤ 7 := by
  unfold kindB
  split
  · rename_i h
    obtain ⟨k, rfl⟩ : ∃ k : Nat, op = (k : Int) := ⟨op.toNat, by omega⟩
    have hk : k < 9 := by omega
    have : ∀ j : Fin 9, (kindL.getD j.val []).length ≤ 7 := by decide
    exact this ⟨k, hk⟩
  · decide
/-- A row joined by blanks. -/
theorem join_cons (x : List UInt8) : ∀ l : List (List UInt8), Lib.join (x :: l) [32] = x ++ l.flatMap fun y => 32 :: y := by
  intro l
  unfold Lib.join
  induction l generalizing x with
  | nil => simp [List.intercalate]
  | cons y l ih =>
    rw [List.flatMap_cons]
    have h := ih y
    have e : [32].intercalate (x :: y :: l) = x ++ ([32] ++ [32].intercalate (y :: l)) := by
      cases l <;> simp [List.intercalate, List.intersperse]
    rw [e, h]
    simp
theorem join_nums (x : List UInt8) (l : List Int) : Lib.join (x :: l.map Lib.itoa) [32] = x ++ numsB l := by
  rw [join_cons]
  unfold numsB
  rw [List.flatMap_map]
theorem join_pairs (x : List UInt8) (l : List (Int × Int)) : Lib.join (x :: l.map pairB) [32] = x ++ pairsB l := by
  rw [join_cons]
  unfold pairsB
  rw [List.flatMap_map]
theorem wordB_none {op : Int} (h : op < 0 ∨ 14 < op) : wordB op = [] := by
  unfold wordB
  rw [if_neg (by omega)]
theorem wordB_some {k : Nat} (h : k < 15) : wordB (k : Int) = wordL.getD k [] ∧ wordB (k : Int) ≠ [] := by
  have e : wordB (k : Int) = wordL.getD k [] := by
    unfold wordB
    rw [if_pos (by omega)]
    rfl
  rw [e]
  refine ⟨rfl, ?_⟩
  have : ∀ j : Fin 15, wordL.getD j.val [] ≠ [] := by decide
  exact this ⟨k, h⟩
theorem kindB_none {k : Int} (h : k < 0 ∨ 8 < k) : kindB k = [] := by
  unfold kindB
  rw [if_neg (by omega)]
theorem kindB_some {k : Nat} (h : k < 9) : kindB (k : Int) = kindL.getD k [] ∧ kindB (k : Int) ≠ [] := by
  have e : kindB (k : Int) = kindL.getD k [] := by
    unfold kindB
    rw [if_pos (by omega)]
    rfl
  rw [e]
  refine ⟨rfl, ?_⟩
  have : ∀ j : Fin 9, kindL.getD j.val [] ≠ [] := by decide
  exact this ⟨k, h⟩
end Go.Proofs.YtpbbpannimlldaaDoor
