/- A range over a function whose rounds may panic: a round's contract out of its body's walk. No condition; no program. -/
import Derived.RangeFuncNested
import Derived.RangeFuncBound
import Derived.RangeFuncLeaves
import Derived.RangeFuncRecord
import Derived.RecoverIn
import Derived.Below
import Derived.Test.YtpbbpannimlldaaDoorProg
namespace Go.Proofs.YtpbbpannimlldaaDoor
open Go Go.RowKit

/-- What is asked at a round's end: a panic passes through, if the round has deferred nothing. -/
def roundEnd (P : Program) (l : Nat) (R : Ending → World → Prop) : Exit → Act → World → Prop
  | .panic chain, a, w => a.defers = [] ∧ R (.panicked chain) w
  | .normal, a, w => roundPost P l R .normal a w
  | .ret, a, w => roundPost P l R .ret a w
  | _, _, _ => False
theorem round_law {F : Fence} {n : Nat} {P : Program} {l : Nat} {f : FuncId} {fn : Func} {tmps : Array Value} {assign body : Code} {w : World} {R : Ending → World → Prop} (hfn : P.funcs[f]? = some fn) (hF : F.fn f)
    (h : assign.wpIn (F.inRound l) n P (Exit.then (fun a w1 => ∃ w2, (Instr.beginRound l).run P w1 = .ok () w2 ∧ body.wpIn (F.inRound l) n P (roundEnd P l R) a w2) (fun _ _ _ => False)) { tmps := tmps, defers := [] } w) :
    RoundIn F n P l f tmps assign body w R := by
  refine ⟨hF, fun c cs room => ?_⟩
  let b : Frame := { (default : Frame) with fn := f, kind := .normal, roundOf := some l }
  have hb : Frame.round l f tmps assign body .normal = b.atR { tmps := tmps, defers := [] } [.code assign, .beginRound, .code body] := by simp [Frame.round, Frame.atR, b]
  have hroom : (F.inRound l).room ((c :: cs).length + 1 + n) := room
  have hfb : (F.inRound l).fn b.fn := hF
  obtain ⟨e1, a1, w1, q1, go1⟩ := h b [.beginRound, .code body] (c :: cs) rfl hfb hroom
  rw [← hb] at go1
  cases e1 with
  | normal =>
    obtain ⟨w2, begun, q2⟩ := q1
    have one : StepsIn (Machine.fenced P (F.inRound l)) P (lone (b.atR a1 [.beginRound, .code body]) (c :: cs) w1) (lone (b.atR a1 [.code body]) (c :: cs) w2) :=
      .one (fenced_calm (fr := b.atR a1 [.beginRound, .code body]) hfb hroom rfl) (stepR_beginRound rfl begun)
    have pre := StepsIn.trans go1 one
    obtain ⟨e2, a2, w3, q3, go2⟩ := q2 b [] (c :: cs) rfl hfb hroom
    cases e2 with
    | normal =>
      obtain ⟨v, w4, ended, r⟩ := q3
      exact ⟨.returned v, w4, r, pre.trans (StepsIn.trans go2 (.one (fenced_calm (fr := b.atR a2 []) hfb hroom rfl) (stepR_round_end rfl rfl ended)))⟩
    | ret =>
      obtain ⟨v, w4, ended, r⟩ := q3
      obtain ⟨k1, go3⟩ := go2.2 rfl
      exact ⟨.returned v, w4, r, pre.trans (StepsIn.trans go3 (.one (fenced_calm (fr := b.atR a2 (.code .ret :: k1)) hfb hroom rfl) (stepR_round_ret rfl rfl ended)))⟩
    | panic chain =>
      obtain ⟨clean, r⟩ := q3
      obtain ⟨todo, go3⟩ := go2
      have leave : ({ b.atR a2 todo with mode := .panicking chain } : Frame).leaving P w3 (.panicked chain) := ⟨rfl, clean, fn, hfn⟩
      exact ⟨.panicked chain, w3, r, pre.trans (StepsIn.trans go3 (.one (fenced_leaving (n := n) hfb hroom leave) (step_leave_panicked leave)))⟩
    | exit id => exact q3.elim
    | goto t => exact q3.elim
    | outgrown => exact q3.elim
  | exit id => exact q1.elim
  | goto t => exact q1.elim
  | ret => exact q1.elim
  | panic chain => exact q1.elim
  | outgrown => exact q1.elim
/-! A body's walk in one function's own frames: the record of a range over a function bears that function. -/
def wpAt (f : FuncId) (P : Program) (c : Code) (Q : Exit → Act → World → Prop) (a : Act) (w : World) : Prop :=
  ∀ (b : Frame) (k : List Item) (cs : List Frame), b.roundOf = none → b.fn = f → ∃ e a' w', Q e a' w' ∧ ArrivesIn (Machine.fenced P Fence.wide) P (lone (b.atR a (.code c :: k)) cs w) b k cs e a' w'
section
variable {f : FuncId} {n : Nat} {P : Program} {Q : Exit → Act → World → Prop} {a : Act} {w : World}
theorem wpAt_of {c : Code} (h : c.wpIn Fence.wide n P Q a w) : wpAt f P c Q a w := fun b k cs hr _ => h b k cs hr trivial (room_wide _)
theorem calm_wide {fr : Frame} {cs : List Frame} (h : fr.about P w = none) : (lone fr cs w).fenced P Fence.wide := fenced_calm (n := 0) trivial (room_wide _) h
theorem wpAt_seq {x y : Code} (h : wpAt f P x (Exit.then (wpAt f P y Q) Q) a w) : wpAt f P (.seq x y) Q a w := by
  intro b k cs hr hb
  have start : StepsIn (Machine.fenced P Fence.wide) P (lone (b.atR a (.code (.seq x y) :: k)) cs w) (lone (b.atR a (.code x :: .code y :: k)) cs w) := .one (calm_wide rfl) stepR_seq
  obtain ⟨e, a1, w1, q, go⟩ := h b (.code y :: k) cs hr hb
  cases e with
  | normal =>
    obtain ⟨e2, a2, w2, q2, go2⟩ := q b k cs hr hb
    exact ⟨e2, a2, w2, q2, .of_steps (StepsIn.trans start go) go2⟩
  | exit id => exact ⟨_, a1, w1, q, .of_steps start (.pass (x := .code y) rfl (fun _ _ => .inl (by simp)) go)⟩
  | goto l => exact ⟨_, a1, w1, q, .of_steps start (.pass (x := .code y) rfl (fun _ _ => .inl (by simp)) go)⟩
  | ret => exact ⟨_, a1, w1, q, .of_steps start (.pass (x := .code y) rfl (fun _ _ => .inl (by simp)) go)⟩
  | panic ch => exact ⟨_, a1, w1, q, .of_steps start (.pass (x := .code y) rfl (fun _ _ => .inl (by simp)) go)⟩
  | outgrown => exact ⟨_, a1, w1, q, .of_steps start (.pass (x := .code y) rfl (fun _ _ => .inl (by simp)) go)⟩
/-- What a block is left by, where no jump leaves it. -/
def straight (Q : Exit → Act → World → Prop) : Exit → Act → World → Prop
  | .normal, a, w => Q .normal a w
  | .panic ch, a, w => Q (.panic ch) a w
  | _, _, _ => False
theorem wpAt_block {id : Nat} {c : Code} (h : wpAt f P c (straight Q) a w) : wpAt f P (.block id c) Q a w := by
  intro b k cs hr hb
  have start : StepsIn (Machine.fenced P Fence.wide) P (lone (b.atR a (.code (.block id c) :: k)) cs w) (lone (b.atR a (.code c :: .inBlock id :: k)) cs w) := .one (calm_wide rfl) stepR_block
  obtain ⟨e, a1, w1, q, go⟩ := h b (.inBlock id :: k) cs hr hb
  cases e with
  | normal => exact ⟨.normal, a1, w1, q, StepsIn.trans start (StepsIn.trans go (.one (calm_wide rfl) stepR_inBlock))⟩
  | panic ch => exact ⟨_, a1, w1, q, .of_steps start go⟩
  | exit id => exact q.elim
  | goto l => exact q.elim
  | ret => exact q.elim
  | outgrown => exact q.elim
/-- The statement: the record bears the function's own number; the one call; nothing pending behind it, or a panic. -/
def rangeEnd (P : Program) (l : Nat) (Q : Exit → Act → World → Prop) (a : Act) : Ending → World → Prop
  | .returned _, w => ∃ w2, (Instr.endLoop l).run P w = .ok none w2 ∧ Q .normal a w2
  | .panicked ch, w => Q (.panic ch) a w
  | .outgrown, _ => False
theorem wpAt_rangeFunc {g : Operand} {ps : Array Tmp} {assign body : Code} {l : Nat} {mark : List Deferred} {w1 w1' w2 : World} {d : Deferred} {f2 : FuncId} {args : Array Value}
    (enter : (Instr.enterLoop f a.tmps ps assign body none).run P w = .ok (l, mark) w1) (call : (resolve a.eval (rangeCall g l) 0).run P w1 = .ok d w1') (inv : (invoke d.target d.args).run P w1' = .ok (.enter f2 args) w2)
    (h : CallsIn Fence.wide n P f2 args w2 (rangeEnd P l Q { a with defers := mark ++ a.defers })) : wpAt f P (.rangeFunc g ps assign body) Q a w := by
  intro b k cs hr hb
  rw [← hr, ← hb] at enter
  have step0 := stepR_rangeFunc (P := P) (b := b) (a := a) (k := k) (cs := cs) (w := w) enter call inv
  have start : StepsIn (Machine.fenced P Fence.wide) P _ _ := .one (fenced_wide _ _) step0
  obtain ⟨e, w3, fr, q, go, hfn, leave⟩ := h.2 (b.atR { a with defers := mark ++ a.defers } (.inRangeFunc l :: k) :: cs) (room_wide _)
  cases e with
  | outgrown => exact q.elim
  | returned v =>
    obtain ⟨w4, ended, q⟩ := q
    refine ⟨.normal, _, w4, q, StepsIn.trans start (StepsIn.trans go (.head (fenced_wide _ _) ?_ (.one (fenced_wide _ _) (stepR_endRangeFunc ended))))⟩
    rw [← finish_atR_inRangeFunc l v]
    exact step_leave_returned leave
  | panicked ch =>
    refine ⟨.panic ch, _, w3, q, .inRangeFunc l :: k, StepsIn.trans start (StepsIn.trans go (.one (fenced_wide _ _) ?_))⟩
    rw [← Frame.raise_atR]
    exact step_leave_panicked leave
theorem wpAt_enter {g : Operand} {ps : Array Tmp} {assign body : Code} {gf : FuncId} {cap args : Array Value} (hg : a.eval g = .func (.func gf) #[] cap)
    (hi : (invoke (.fn (.func gf) cap) #[.func (.yield (w.heap.size + 1)) #[] #[]]).run P ((w.alloc (.deferred (some []))).alloc (.loop { state := .ready, pending := none, fn := f, tmps := a.tmps, params := ps, assign, body, defers := w.heap.size })) = .ok (.enter gf args) ((w.alloc (.deferred (some []))).alloc (.loop { state := .ready, pending := none, fn := f, tmps := a.tmps, params := ps, assign, body, defers := w.heap.size })))
    (h : ∀ (L : Loop) (w1 : World), L = { state := .ready, pending := none, fn := f, tmps := a.tmps, params := ps, assign, body, defers := w.heap.size } → w1 = (w.alloc (.deferred (some []))).alloc (.loop L) → w1.heap[w.heap.size + 1]? = some (.loop L) → w1.heap[w.heap.size]? = some (.deferred (some [])) →
      CallsIn Fence.wide n P gf args w1 (rangeEnd P (w.heap.size + 1) Q { a with defers := { target := .collected w.heap.size, args := #[] } :: a.defers })) : wpAt f P (.rangeFunc g ps assign body) Q a w := by
  refine wpAt_rangeFunc (n := n) (l := w.heap.size + 1) (mark := [{ target := .collected w.heap.size, args := #[] }]) (d := { target := .fn (.func gf) cap, args := #[.func (.yield (w.heap.size + 1)) #[] #[]] }) (run_enterLoop_outer _ _ _ _ _) ?_ hi (h _ _ rfl rfl ?_ ?_)
  · simp only [resolve, hg]
    simp [go_sem]
  · have := World.alloc_heap_new (w.alloc (.deferred (some []))) (.loop { state := .ready, pending := none, fn := f, tmps := a.tmps, params := ps, assign, body, defers := w.heap.size })
    rwa [World.size_alloc] at this
  · exact (Below.heap_alloc _ _ _ (by simp)).trans (World.alloc_heap_new w _)
theorem wpAt_step {x y : Code} (h : ∀ K : Act → World → Prop, (∀ a w, wpAt f P y Q a w → K a w) → x.wp P (Exit.then K Q) a w) : wpAt f P (.seq x y) Q a w := wpAt_seq (wpAt_of (n := 0) (wpIn_wide.2 (h _ fun _ _ h => h)))
theorem wpAt_ret (h : Q .ret a w) : wpAt f P .ret Q a w := wpAt_of (n := 0) (wpIn_ret h)
/-- What a body that ranged over a function must achieve: its mark stands ahead of what it deferred. -/
def markPost (P : Program) (fn : Func) (R : Ending → World → Prop) : Exit → Act → World → Prop
  | .normal, a, w | .ret, a, w => ∃ d r ds w2, a.defers = d :: ds ∧ d.target = .collected r ∧ (Instr.takeDeferred r).run P w = .ok [] w2 ∧ Leaves P fn a.tmps R ds .returning w2
  | .panic ch, a, w => ∃ d r ds w2, a.defers = d :: ds ∧ d.target = .collected r ∧ (Instr.takeDeferred r).run P w = .ok [] w2 ∧ Leaves P fn a.tmps R ds (.panicking ch) w2
  | _, _, _ => False
theorem marked_steps {fn : Func} {tmps : Array Value} {R : Ending → World → Prop} {u : FrameMode} {w2 : World} {fr : Frame} {cs : List Frame} {d : Deferred} {r : Nat} {ds : List Deferred} (hu : fr.mode = u) (hrun : u ≠ .run) (hd : fr.defers = d :: ds) (ht : d.target = .collected r)
    (hk : (Instr.takeDeferred r).run P w = .ok [] w2) (htm : fr.tmps = tmps) (hf : P.funcs[fr.fn]? = some fn) (hkind : fr.kind = .normal) (h : Leaves P fn tmps R ds u w2) : ∃ e w3 fr2, R e w3 ∧ Comes P (lone fr cs w) (lone fr2 cs w3) e ∧ fr2.fn = fr.fn ∧ fr2.leaving P w3 e := by
  have one := step_collected (cs := cs) (hu ▸ hrun) hd ht hk
  obtain ⟨e, w3, fr2, r2, go, same, leave⟩ := leaves_steps ds u w2 { fr with defers := [] ++ ds } cs hu rfl htm hf hkind h
  exact ⟨e, w3, fr2, r2, Comes.of_steps (.one one) go, same, leave⟩
theorem calls_of_at {fn : Func} {c : Code} {args : Array Value} {R : Ending → World → Prop} (hf : P.funcs[f]? = some fn) (hb : fn.body = some c)
    (h : wpAt f P c (markPost P fn R) { tmps := args ++ Array.replicate (fn.ntmps - args.size) undef, defers := [] } w) : Calls P f args w R := by
  intro cs
  let b : Frame := { (default : Frame) with fn := f, kind := .normal, roundOf := none }
  have into : Frame.enter P f args .normal = b.atR { tmps := args ++ Array.replicate (fn.ntmps - args.size) undef, defers := [] } [.code c] := by simp [Frame.enter, Frame.atR, hf, hb, b]
  obtain ⟨e, a2, w2, q, go⟩ := h b [] cs rfl rfl
  rw [← into] at go
  cases e with
  | normal =>
    obtain ⟨d, r, ds, w3, q1, q2, q3, q4⟩ := q
    obtain ⟨e2, w4, fr, x, on, hfn, leave⟩ := marked_steps (fr := { b.atR a2 [] with mode := .returning }) (cs := cs) rfl (by simp) q1 q2 q3 rfl hf rfl q4
    exact ⟨e2, w4, fr, x, Comes.of_steps ((StepsIn.trans go (.one (fenced_wide _ _) (stepR_end rfl))).steps) on, hfn, leave⟩
  | ret =>
    obtain ⟨d, r, ds, w3, q1, q2, q3, q4⟩ := q
    obtain ⟨todo, go⟩ := go.1 rfl
    obtain ⟨e2, w4, fr, x, on, hfn, leave⟩ := marked_steps (fr := { b.atR a2 todo with mode := .returning }) (cs := cs) rfl (by simp) q1 q2 q3 rfl hf rfl q4
    exact ⟨e2, w4, fr, x, Comes.of_steps go.steps on, hfn, leave⟩
  | panic ch =>
    obtain ⟨d, r, ds, w3, q1, q2, q3, q4⟩ := q
    obtain ⟨todo, go⟩ := go
    obtain ⟨e2, w4, fr, x, on, hfn, leave⟩ := marked_steps (fr := { b.atR a2 todo with mode := .panicking ch }) (cs := cs) rfl (by simp) q1 q2 q3 rfl hf rfl q4
    exact ⟨e2, w4, fr, x, Comes.of_steps go.steps on, hfn, leave⟩
  | exit id => exact q.elim
  | goto l => exact q.elim
  | outgrown => exact q.elim
end
theorem round_law_k {F : Fence} {n : Nat} {P : Program} {l : Nat} {f : FuncId} {fn : Func} {tmps : Array Value} {assign body : Code} {w : World} {R : Ending → World → Prop} (hfn : P.funcs[f]? = some fn) (hF : F.fn f)
    (h : ∀ K : Act → World → Prop, (∀ a w1, (∃ w2, (Instr.beginRound l).run P w1 = .ok () w2 ∧ body.wpIn (F.inRound l) n P (roundEnd P l R) a w2) → K a w1) → assign.wpIn (F.inRound l) n P (Exit.then K (fun _ _ _ => False)) { tmps := tmps, defers := [] } w) :
    RoundIn F n P l f tmps assign body w R := round_law hfn hF (h _ fun _ _ h => h)
end Go.Proofs.YtpbbpannimlldaaDoor
