/-
  No cell of these rows narrows 'for every input' (looked for: loops, veiled, ifaces, maps, wideKeys, modest, calm, conditions, laid).
  DERIVED. THE GIVEN ROWS OF THIS SEAT. 5 by the template 'for every input the law returns true; each argument reads behind the call as it read before'; 0 by the template 'total and deterministic' (their statements: YtoghcikfkkmfkaaGreatTotals.lean).
  GIVEN WITH THE SEED: the statements are not yours to turn. If you find one false, say at which input.
  Laid BY PROGRAM, IN A SANDBOX (cutbox-rows.mjs): the forced cells as the released guide's own fill.sh prints them over the translation 0f900aed8ab121e4… (all of the seat's roots in one cut). By AI agents, Wed Nov 11 2026. No macro, syntax, notation, axiom, sorry.
-/
import Derived.Test.YtoghcikfkkmfkaaGreatChecked
import GoSem.Claim
import GoSem.ClaimJoined
import GoSem.ClaimMapViews
import Derived.JoinedTies
import Derived.KernelRfl
namespace Go.Proofs.YtoghcikfkkmfkaaGreat
/- THE CELL 'sum', in the pinned program and in every row, IS THE sha256 OF THE DUMP (.gsa) THAT YtoghcikfkkmfkaaGreatProg.lean LOADS. Nothing in Lean hashes anything: it is a label: what it is worth is what the hold of that sum in a sandbox is worth. -/
noncomputable def Tryz.pinned : Pinned := { name := "ytoghcikfkkmfkaagreat", sum := "0f900aed8ab121e4b0f14aedf7cf4fe569591357fd2f937a531d9f148f0bb085", checked := Tryz.checked }
namespace Rows
def none {H : Type} : Left H := { results := [], args := [] }

/-- 'deadwoodlaw19.LimboCrowd': WHATEVER THE INPUT: true; the input reads as it did. -/
def limboCrowdSpec : ChangeSpec := { name := "limboCrowd", fn := fun _ => fun
  | [d1, d2] => { results := [.lit (.bool true)], args := [d1, d2] }
  | _ => none }
def limboCrowdRow : OpenClaim := { program := "ytoghcikfkkmfkaagreat", sum := "0f900aed8ab121e4b0f14aedf7cf4fe569591357fd2f937a531d9f148f0bb085", func := "deadwood/deadwoodlaw19.LimboCrowd", spec := "limboCrowd", unfollowed := true, recurses := true, apart := false }
def LimboCrowdSaid : Prop := limboCrowdRow.holds Tryz.pinned (OpenSpec.ofChange limboCrowdSpec)

/-- ITS FALSE NEIGHBOUR: 'it returns false'. Refute it at one input. -/
def limboCrowdWrong : ChangeSpec := { name := "limboCrowd", fn := fun _ => fun
  | [d1, d2] => { results := [.lit (.bool false)], args := [d1, d2] }
  | _ => none }
def LimboCrowdWrongFalsely : Prop := limboCrowdRow.holds Tryz.pinned (OpenSpec.ofChange limboCrowdWrong)

/-- 'deadwoodlaw20.SeekKeys': WHATEVER THE INPUT: true; the input reads as it did. -/
def seekKeysSpec : ChangeSpec := { name := "seekKeys", fn := fun _ => fun
  | [d1, d2] => { results := [.lit (.bool true)], args := [d1, d2] }
  | _ => none }
def seekKeysRow : OpenClaim := { program := "ytoghcikfkkmfkaagreat", sum := "0f900aed8ab121e4b0f14aedf7cf4fe569591357fd2f937a531d9f148f0bb085", func := "deadwood/deadwoodlaw20.SeekKeys", spec := "seekKeys", unfollowed := true, recurses := true, apart := false }
def SeekKeysSaid : Prop := seekKeysRow.holds Tryz.pinned (OpenSpec.ofChange seekKeysSpec)

/-- ITS FALSE NEIGHBOUR: 'it returns false'. Refute it at one input. -/
def seekKeysWrong : ChangeSpec := { name := "seekKeys", fn := fun _ => fun
  | [d1, d2] => { results := [.lit (.bool false)], args := [d1, d2] }
  | _ => none }
def SeekKeysWrongFalsely : Prop := seekKeysRow.holds Tryz.pinned (OpenSpec.ofChange seekKeysWrong)

/-- 'deadwoodlaw20.SeekFinds': WHATEVER THE INPUT: true; the input reads as it did. -/
def seekFindsSpec : ChangeSpec := { name := "seekFinds", fn := fun _ => fun
  | [d1, d2, d3] => { results := [.lit (.bool true)], args := [d1, d2, d3] }
  | _ => none }
def seekFindsRow : OpenClaim := { program := "ytoghcikfkkmfkaagreat", sum := "0f900aed8ab121e4b0f14aedf7cf4fe569591357fd2f937a531d9f148f0bb085", func := "deadwood/deadwoodlaw20.SeekFinds", spec := "seekFinds", unfollowed := true, recurses := true, apart := false }
def SeekFindsSaid : Prop := seekFindsRow.holds Tryz.pinned (OpenSpec.ofChange seekFindsSpec)

/-- ITS FALSE NEIGHBOUR: 'it returns false'. Refute it at one input. -/
def seekFindsWrong : ChangeSpec := { name := "seekFinds", fn := fun _ => fun
  | [d1, d2, d3] => { results := [.lit (.bool false)], args := [d1, d2, d3] }
  | _ => none }
def SeekFindsWrongFalsely : Prop := seekFindsRow.holds Tryz.pinned (OpenSpec.ofChange seekFindsWrong)

/-- 'deadwoodlaw20.SeekTells': WHATEVER THE INPUT: true; the input reads as it did. -/
def seekTellsSpec : ChangeSpec := { name := "seekTells", fn := fun _ => fun
  | [d1, d2, d3] => { results := [.lit (.bool true)], args := [d1, d2, d3] }
  | _ => none }
def seekTellsRow : OpenClaim := { program := "ytoghcikfkkmfkaagreat", sum := "0f900aed8ab121e4b0f14aedf7cf4fe569591357fd2f937a531d9f148f0bb085", func := "deadwood/deadwoodlaw20.SeekTells", spec := "seekTells", unfollowed := true, recurses := true, apart := false }
def SeekTellsSaid : Prop := seekTellsRow.holds Tryz.pinned (OpenSpec.ofChange seekTellsSpec)

/-- ITS FALSE NEIGHBOUR: 'it returns false'. Refute it at one input. -/
def seekTellsWrong : ChangeSpec := { name := "seekTells", fn := fun _ => fun
  | [d1, d2, d3] => { results := [.lit (.bool false)], args := [d1, d2, d3] }
  | _ => none }
def SeekTellsWrongFalsely : Prop := seekTellsRow.holds Tryz.pinned (OpenSpec.ofChange seekTellsWrong)

/-- 'deadwoodlaw25.ClockTicks': WHATEVER THE INPUT: true; the input reads as it did. -/
def clockTicksSpec : ChangeSpec := { name := "clockTicks", fn := fun _ => fun
  | [d1, d2] => { results := [.lit (.bool true)], args := [d1, d2] }
  | _ => none }
def clockTicksRow : OpenClaim := { program := "ytoghcikfkkmfkaagreat", sum := "0f900aed8ab121e4b0f14aedf7cf4fe569591357fd2f937a531d9f148f0bb085", func := "deadwood/deadwoodlaw25.ClockTicks", spec := "clockTicks", unfollowed := true, recurses := true, apart := false }
def ClockTicksSaid : Prop := clockTicksRow.holds Tryz.pinned (OpenSpec.ofChange clockTicksSpec)

/-- ITS FALSE NEIGHBOUR: 'it returns false'. Refute it at one input. -/
def clockTicksWrong : ChangeSpec := { name := "clockTicks", fn := fun _ => fun
  | [d1, d2] => { results := [.lit (.bool false)], args := [d1, d2] }
  | _ => none }
def ClockTicksWrongFalsely : Prop := clockTicksRow.holds Tryz.pinned (OpenSpec.ofChange clockTicksWrong)

/- THE SECOND FORM. 'bulk': how many values and letters a reading holds, each counted each time it is reached (what is shared counts as often as it is met; a slice's spare places count too). A statement '..UptoSaid' is the law's where the arguments, and the package variables that the reading takes, are together of bulk at most 1048576: NARROWER than '..Said'. Prove '..Said' where nothing that the law and all that it calls make is longer than what came in: it says more and counts as full. Else prove '..UptoSaid'. A law counts once. -/
mutual
def uptoBulk {H : Type} : DataW H → Nat
  | .lit (.string bytes) => bytes.length + 1
  | .lit _ => 1
  | .nil => 1
  | .ptr d => uptoBulk d + 1
  | .slice elems spare => uptoBulkAll elems + uptoBulkAll spare + 1
  | .agg parts => uptoBulkAll parts + 1
  | .iface _ d => uptoBulk d + 1
  | .map entries => uptoBulkEntries entries + 1
  | .held _ => 1
def uptoBulkAll {H : Type} : List (DataW H) → Nat
  | [] => 0
  | d :: r => uptoBulk d + uptoBulkAll r
def uptoBulkEntries {H : Type} : List (Lit × DataW H) → Nat
  | [] => 0
  | x :: r => uptoBulkEntry x + uptoBulkEntries r
def uptoBulkEntry {H : Type} : Lit × DataW H → Nat
  | (.string bytes, d) => bytes.length + uptoBulk d + 1
  | (_, d) => uptoBulk d + 1
 end
def uptoSmall : (H : Type) → List (DataW H) → Bool := fun _ ds => decide (uptoBulkAll ds ≤ 1048576)
def OpenSpec.upto (s : _root_.Go.ChangeSpec) : _root_.Go.OpenSpec := { _root_.Go.OpenSpec.ofChange s with cond := some uptoSmall }

/-- 'deadwoodlaw19.LimboCrowd', WHERE WHAT IT READS IS OF BULK AT MOST 1048576: true; the input reads as it did. -/
def limboCrowdUptoRow : OpenClaim := { program := "ytoghcikfkkmfkaagreat", sum := "0f900aed8ab121e4b0f14aedf7cf4fe569591357fd2f937a531d9f148f0bb085", func := "deadwood/deadwoodlaw19.LimboCrowd", spec := "limboCrowd", unfollowed := true, recurses := true, apart := false, narrowed := true }
def LimboCrowdUptoSaid : Prop := limboCrowdUptoRow.holds Tryz.pinned (OpenSpec.upto limboCrowdSpec)

/-- 'deadwoodlaw20.SeekKeys', WHERE WHAT IT READS IS OF BULK AT MOST 1048576: true; the input reads as it did. -/
def seekKeysUptoRow : OpenClaim := { program := "ytoghcikfkkmfkaagreat", sum := "0f900aed8ab121e4b0f14aedf7cf4fe569591357fd2f937a531d9f148f0bb085", func := "deadwood/deadwoodlaw20.SeekKeys", spec := "seekKeys", unfollowed := true, recurses := true, apart := false, narrowed := true }
def SeekKeysUptoSaid : Prop := seekKeysUptoRow.holds Tryz.pinned (OpenSpec.upto seekKeysSpec)

/-- 'deadwoodlaw20.SeekFinds', WHERE WHAT IT READS IS OF BULK AT MOST 1048576: true; the input reads as it did. -/
def seekFindsUptoRow : OpenClaim := { program := "ytoghcikfkkmfkaagreat", sum := "0f900aed8ab121e4b0f14aedf7cf4fe569591357fd2f937a531d9f148f0bb085", func := "deadwood/deadwoodlaw20.SeekFinds", spec := "seekFinds", unfollowed := true, recurses := true, apart := false, narrowed := true }
def SeekFindsUptoSaid : Prop := seekFindsUptoRow.holds Tryz.pinned (OpenSpec.upto seekFindsSpec)

/-- 'deadwoodlaw20.SeekTells', WHERE WHAT IT READS IS OF BULK AT MOST 1048576: true; the input reads as it did. -/
def seekTellsUptoRow : OpenClaim := { program := "ytoghcikfkkmfkaagreat", sum := "0f900aed8ab121e4b0f14aedf7cf4fe569591357fd2f937a531d9f148f0bb085", func := "deadwood/deadwoodlaw20.SeekTells", spec := "seekTells", unfollowed := true, recurses := true, apart := false, narrowed := true }
def SeekTellsUptoSaid : Prop := seekTellsUptoRow.holds Tryz.pinned (OpenSpec.upto seekTellsSpec)

/-- 'deadwoodlaw25.ClockTicks', WHERE WHAT IT READS IS OF BULK AT MOST 1048576: true; the input reads as it did. -/
def clockTicksUptoRow : OpenClaim := { program := "ytoghcikfkkmfkaagreat", sum := "0f900aed8ab121e4b0f14aedf7cf4fe569591357fd2f937a531d9f148f0bb085", func := "deadwood/deadwoodlaw25.ClockTicks", spec := "clockTicks", unfollowed := true, recurses := true, apart := false, narrowed := true }
def ClockTicksUptoSaid : Prop := clockTicksUptoRow.holds Tryz.pinned (OpenSpec.upto clockTicksSpec)

end Rows
end Go.Proofs.YtoghcikfkkmfkaaGreat
