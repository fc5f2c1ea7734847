/- Events and histories, read: plain laws; no program. -/
import Derived.Test.YtpbbpannimlldaaDoorRdC
import Derived.Test.YtpbbpannimlldaaDoorTxV
namespace Go.Proofs.YtpbbpannimlldaaDoor
open Go.RowKit

def backB : List UInt8 := [98, 97, 99, 107]
def beginB : List UInt8 := [98, 101, 103, 105, 110]
def ans0 : AnsX := ⟨0, 0, 0, 0, [], none, 0⟩
/-- The event that a line is, or why it is none. -/
def evW (ws : List (List UInt8)) : Except Int EvX := match ws with
  | f :: n :: x :: r => match parseZ n with
    | none => .error 4
    | some t => if f = backB then (match readA (x :: r) with | .ok a => .ok ⟨t, true, ⟨0, 0, 0, 0, 0⟩, a⟩ | .error k => .error k)
      else if f = beginB then (match readC (x :: r) with | .ok c => .ok ⟨t, false, c, ans0⟩ | .error k => .error k) else .error 4
  | _ => .error 4
def evR (s : List UInt8) : Except Int EvX := evW (cutZ 32 s)
theorem evW_few {ws : List (List UInt8)} (h : ws.length < 3) : evW ws = .error 4 := by
  match ws with
  | [] => rfl
  | [_] => rfl
  | [_, _] => rfl
  | _ :: _ :: _ :: _ => simp at h; omega
theorem evW_bad {f n x : List UInt8} {r : List (List UInt8)} (h : parseZ n = none) : evW (f :: n :: x :: r) = .error 4 := by
  show (match parseZ n with | none => _ | some t => _) = _
  rw [h]
theorem evW_back {f n x : List UInt8} {r : List (List UInt8)} {t : Int} (h : parseZ n = some t) (hf : f = backB) : evW (f :: n :: x :: r) = match readA (x :: r) with | .ok a => .ok ⟨t, true, ⟨0, 0, 0, 0, 0⟩, a⟩ | .error k => .error k := by
  show (match parseZ n with | none => _ | some t => _) = _
  rw [h]
  show (if f = backB then _ else _) = _
  rw [if_pos hf]
theorem evW_begin {f n x : List UInt8} {r : List (List UInt8)} {t : Int} (h : parseZ n = some t) (hf : f ≠ backB) (hb : f = beginB) : evW (f :: n :: x :: r) = match readC (x :: r) with | .ok c => .ok ⟨t, false, c, ans0⟩ | .error k => .error k := by
  show (match parseZ n with | none => _ | some t => _) = _
  rw [h]
  show (if f = backB then _ else if f = beginB then _ else _) = _
  rw [if_neg hf, if_pos hb]
theorem evW_other {f n x : List UInt8} {r : List (List UInt8)} (hf : f ≠ backB) (hb : f ≠ beginB) : evW (f :: n :: x :: r) = .error 4 := by
  show (match parseZ n with | none => _ | some t => _) = _
  cases parseZ n with
  | none => rfl
  | some t =>
    show (if f = backB then _ else if f = beginB then _ else _) = _
    rw [if_neg hf, if_neg hb]
/-- The history that lines are, the last one without its end. -/
def hisR : List (List UInt8) → Except Int (List EvX)
  | [] => .ok []
  | [x] => if x = [] then .ok [] else match evR x with | .ok _ => .error 5 | .error k => .error k
  | x :: y :: r => match evR x with
    | .error k => .error k
    | .ok e => match hisR (y :: r) with | .ok l => .ok (e :: l) | .error k => .error k
def readH (s : List UInt8) : Except Int (List EvX) := hisR (cutZ 10 s)
/-- What is left to read, of a history of which some was read. -/
def resH (acc : List EvX) (ls : List (List UInt8)) : Except Int (List EvX) := match hisR ls with
  | .ok l => .ok (acc ++ l)
  | .error k => .error k
theorem resH_nil (ls : List (List UInt8)) : resH [] ls = hisR ls := by
  unfold resH
  cases hisR ls <;> rfl
theorem resH_end (acc : List EvX) : resH acc [[]] = .ok acc := by
  show Except.ok (acc ++ []) = _
  rw [List.append_nil]
theorem hisR_one (x : List UInt8) : hisR [x] = if x = [] then .ok [] else match evR x with | .ok _ => .error 5 | .error k => .error k := by rw [hisR]
theorem hisR_more (x y : List UInt8) (r : List (List UInt8)) : hisR (x :: y :: r) = match evR x with | .error k => .error k | .ok e => match hisR (y :: r) with | .ok l => .ok (e :: l) | .error k => .error k := by rw [hisR]
theorem resH_last (acc : List EvX) {x : List UInt8} (h : x ≠ []) : resH acc [x] = match evR x with | .ok _ => .error 5 | .error k => .error k := by
  unfold resH
  rw [hisR_one, if_neg h]
  cases evR x <;> rfl
theorem resH_bad (acc : List EvX) {x y : List UInt8} {r : List (List UInt8)} {k : Int} (h : evR x = .error k) : resH acc (x :: y :: r) = .error k := by
  unfold resH
  rw [hisR_more, h]
theorem resH_step (acc : List EvX) {x y : List UInt8} {r : List (List UInt8)} {e : EvX} (h : evR x = .ok e) : resH acc (x :: y :: r) = resH (acc ++ [e]) (y :: r) := by
  unfold resH
  rw [hisR_more, h]
  cases hisR (y :: r) with
  | error k => rfl
  | ok l => simp
end Go.Proofs.YtpbbpannimlldaaDoor
