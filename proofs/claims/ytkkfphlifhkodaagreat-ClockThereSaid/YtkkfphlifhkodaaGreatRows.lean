/-
  No cell of these rows narrows 'for every input' (looked for: loops, veiled, ifaces, maps, wideKeys, modest, calm, conditions, laid).
  DERIVED. THE GIVEN ROWS OF THIS SEAT. 12 by the template 'for every input the law returns true; each argument reads behind the call as it read before'; 0 by the template 'total and deterministic' (their statements: YtkkfphlifhkodaaGreatTotals.lean).
  GIVEN WITH THE SEED: the statements are not yours to turn. If you find one false, say at which input.
  Laid BY PROGRAM, IN A SANDBOX (cutbox-rows.mjs): the forced cells as the released guide's own fill.sh prints them over the translation e944ae37d63c03fa… (all of the seat's roots in one cut). By AI agents, Wed Nov 11 2026. No macro, syntax, notation, axiom, sorry.
-/
import Derived.Test.YtkkfphlifhkodaaGreatChecked
import GoSem.Claim
import GoSem.ClaimJoined
import GoSem.ClaimMapViews
import Derived.JoinedTies
import Derived.KernelRfl
namespace Go.Proofs.YtkkfphlifhkodaaGreat
/- THE CELL 'sum', in the pinned program and in every row, IS THE sha256 OF THE DUMP (.gsa) THAT YtkkfphlifhkodaaGreatProg.lean LOADS. Nothing in Lean hashes anything: it is a label: what it is worth is what the hold of that sum in a sandbox is worth. -/
noncomputable def Tryz.pinned : Pinned := { name := "ytkkfphlifhkodaagreat", sum := "e944ae37d63c03fa68841cb649ad8330cdfa1692731493db58a836cc9d6847b1", checked := Tryz.checked }
namespace Rows
def none {H : Type} : Left H := { results := [], args := [] }

/-- 'deadwoodlaw19.LimboCrowd': WHATEVER THE INPUT: true; the input reads as it did. -/
def limboCrowdSpec : ChangeSpec := { name := "limboCrowd", fn := fun _ => fun
  | [d1, d2] => { results := [.lit (.bool true)], args := [d1, d2] }
  | _ => none }
def limboCrowdRow : OpenClaim := { program := "ytkkfphlifhkodaagreat", sum := "e944ae37d63c03fa68841cb649ad8330cdfa1692731493db58a836cc9d6847b1", func := "deadwood/deadwoodlaw19.LimboCrowd", spec := "limboCrowd", unfollowed := true, recurses := true, apart := false }
def LimboCrowdSaid : Prop := limboCrowdRow.holds Tryz.pinned (OpenSpec.ofChange limboCrowdSpec)

/-- ITS FALSE NEIGHBOUR: 'it returns false'. Refute it at one input. -/
def limboCrowdWrong : ChangeSpec := { name := "limboCrowd", fn := fun _ => fun
  | [d1, d2] => { results := [.lit (.bool false)], args := [d1, d2] }
  | _ => none }
def LimboCrowdWrongFalsely : Prop := limboCrowdRow.holds Tryz.pinned (OpenSpec.ofChange limboCrowdWrong)

/-- 'deadwoodlaw20.SeekKeys': WHATEVER THE INPUT: true; the input reads as it did. -/
def seekKeysSpec : ChangeSpec := { name := "seekKeys", fn := fun _ => fun
  | [d1, d2] => { results := [.lit (.bool true)], args := [d1, d2] }
  | _ => none }
def seekKeysRow : OpenClaim := { program := "ytkkfphlifhkodaagreat", sum := "e944ae37d63c03fa68841cb649ad8330cdfa1692731493db58a836cc9d6847b1", func := "deadwood/deadwoodlaw20.SeekKeys", spec := "seekKeys", unfollowed := true, recurses := true, apart := false }
def SeekKeysSaid : Prop := seekKeysRow.holds Tryz.pinned (OpenSpec.ofChange seekKeysSpec)

/-- ITS FALSE NEIGHBOUR: 'it returns false'. Refute it at one input. -/
def seekKeysWrong : ChangeSpec := { name := "seekKeys", fn := fun _ => fun
  | [d1, d2] => { results := [.lit (.bool false)], args := [d1, d2] }
  | _ => none }
def SeekKeysWrongFalsely : Prop := seekKeysRow.holds Tryz.pinned (OpenSpec.ofChange seekKeysWrong)

/-- 'deadwoodlaw20.SeekFinds': WHATEVER THE INPUT: true; the input reads as it did. -/
def seekFindsSpec : ChangeSpec := { name := "seekFinds", fn := fun _ => fun
  | [d1, d2, d3] => { results := [.lit (.bool true)], args := [d1, d2, d3] }
  | _ => none }
def seekFindsRow : OpenClaim := { program := "ytkkfphlifhkodaagreat", sum := "e944ae37d63c03fa68841cb649ad8330cdfa1692731493db58a836cc9d6847b1", func := "deadwood/deadwoodlaw20.SeekFinds", spec := "seekFinds", unfollowed := true, recurses := true, apart := false }
def SeekFindsSaid : Prop := seekFindsRow.holds Tryz.pinned (OpenSpec.ofChange seekFindsSpec)

/-- ITS FALSE NEIGHBOUR: 'it returns false'. Refute it at one input. -/
def seekFindsWrong : ChangeSpec := { name := "seekFinds", fn := fun _ => fun
  | [d1, d2, d3] => { results := [.lit (.bool false)], args := [d1, d2, d3] }
  | _ => none }
def SeekFindsWrongFalsely : Prop := seekFindsRow.holds Tryz.pinned (OpenSpec.ofChange seekFindsWrong)

/-- 'deadwoodlaw20.SeekTells': WHATEVER THE INPUT: true; the input reads as it did. -/
def seekTellsSpec : ChangeSpec := { name := "seekTells", fn := fun _ => fun
  | [d1, d2, d3] => { results := [.lit (.bool true)], args := [d1, d2, d3] }
  | _ => none }
def seekTellsRow : OpenClaim := { program := "ytkkfphlifhkodaagreat", sum := "e944ae37d63c03fa68841cb649ad8330cdfa1692731493db58a836cc9d6847b1", func := "deadwood/deadwoodlaw20.SeekTells", spec := "seekTells", unfollowed := true, recurses := true, apart := false }
def SeekTellsSaid : Prop := seekTellsRow.holds Tryz.pinned (OpenSpec.ofChange seekTellsSpec)

/-- ITS FALSE NEIGHBOUR: 'it returns false'. Refute it at one input. -/
def seekTellsWrong : ChangeSpec := { name := "seekTells", fn := fun _ => fun
  | [d1, d2, d3] => { results := [.lit (.bool false)], args := [d1, d2, d3] }
  | _ => none }
def SeekTellsWrongFalsely : Prop := seekTellsRow.holds Tryz.pinned (OpenSpec.ofChange seekTellsWrong)

/-- 'deadwoodlaw25.ClockThere': WHATEVER THE INPUT: true; the input reads as it did. -/
def clockThereSpec : ChangeSpec := { name := "clockThere", fn := fun _ => fun
  | [d1, d2, d3] => { results := [.lit (.bool true)], args := [d1, d2, d3] }
  | _ => none }
def clockThereRow : OpenClaim := { program := "ytkkfphlifhkodaagreat", sum := "e944ae37d63c03fa68841cb649ad8330cdfa1692731493db58a836cc9d6847b1", func := "deadwood/deadwoodlaw25.ClockThere", spec := "clockThere", unfollowed := true, recurses := true, apart := false }
def ClockThereSaid : Prop := clockThereRow.holds Tryz.pinned (OpenSpec.ofChange clockThereSpec)

/-- ITS FALSE NEIGHBOUR: 'it returns false'. Refute it at one input. -/
def clockThereWrong : ChangeSpec := { name := "clockThere", fn := fun _ => fun
  | [d1, d2, d3] => { results := [.lit (.bool false)], args := [d1, d2, d3] }
  | _ => none }
def ClockThereWrongFalsely : Prop := clockThereRow.holds Tryz.pinned (OpenSpec.ofChange clockThereWrong)

/-- 'deadwoodlaw25.ClockTicks': WHATEVER THE INPUT: true; the input reads as it did. -/
def clockTicksSpec : ChangeSpec := { name := "clockTicks", fn := fun _ => fun
  | [d1, d2] => { results := [.lit (.bool true)], args := [d1, d2] }
  | _ => none }
def clockTicksRow : OpenClaim := { program := "ytkkfphlifhkodaagreat", sum := "e944ae37d63c03fa68841cb649ad8330cdfa1692731493db58a836cc9d6847b1", func := "deadwood/deadwoodlaw25.ClockTicks", spec := "clockTicks", unfollowed := true, recurses := true, apart := false }
def ClockTicksSaid : Prop := clockTicksRow.holds Tryz.pinned (OpenSpec.ofChange clockTicksSpec)

/-- ITS FALSE NEIGHBOUR: 'it returns false'. Refute it at one input. -/
def clockTicksWrong : ChangeSpec := { name := "clockTicks", fn := fun _ => fun
  | [d1, d2] => { results := [.lit (.bool false)], args := [d1, d2] }
  | _ => none }
def ClockTicksWrongFalsely : Prop := clockTicksRow.holds Tryz.pinned (OpenSpec.ofChange clockTicksWrong)

/-- 'deadwoodlaw23.RemoveWords': WHATEVER THE INPUT: true; the input reads as it did. -/
def removeWordsSpec : ChangeSpec := { name := "removeWords", fn := fun _ => fun
  | [d1, d2, d3] => { results := [.lit (.bool true)], args := [d1, d2, d3] }
  | _ => none }
def removeWordsRow : OpenClaim := { program := "ytkkfphlifhkodaagreat", sum := "e944ae37d63c03fa68841cb649ad8330cdfa1692731493db58a836cc9d6847b1", func := "deadwood/deadwoodlaw23.RemoveWords", spec := "removeWords", unfollowed := true, recurses := true, apart := false }
def RemoveWordsSaid : Prop := removeWordsRow.holds Tryz.pinned (OpenSpec.ofChange removeWordsSpec)

/-- ITS FALSE NEIGHBOUR: 'it returns false'. Refute it at one input. -/
def removeWordsWrong : ChangeSpec := { name := "removeWords", fn := fun _ => fun
  | [d1, d2, d3] => { results := [.lit (.bool false)], args := [d1, d2, d3] }
  | _ => none }
def RemoveWordsWrongFalsely : Prop := removeWordsRow.holds Tryz.pinned (OpenSpec.ofChange removeWordsWrong)

/-- 'deadwoodlaw23.RemoveKinds': WHATEVER THE INPUT: true; the input reads as it did. -/
def removeKindsSpec : ChangeSpec := { name := "removeKinds", fn := fun _ => fun
  | [d1, d2, d3] => { results := [.lit (.bool true)], args := [d1, d2, d3] }
  | _ => none }
def removeKindsRow : OpenClaim := { program := "ytkkfphlifhkodaagreat", sum := "e944ae37d63c03fa68841cb649ad8330cdfa1692731493db58a836cc9d6847b1", func := "deadwood/deadwoodlaw23.RemoveKinds", spec := "removeKinds", unfollowed := true, recurses := true, apart := false }
def RemoveKindsSaid : Prop := removeKindsRow.holds Tryz.pinned (OpenSpec.ofChange removeKindsSpec)

/-- ITS FALSE NEIGHBOUR: 'it returns false'. Refute it at one input. -/
def removeKindsWrong : ChangeSpec := { name := "removeKinds", fn := fun _ => fun
  | [d1, d2, d3] => { results := [.lit (.bool false)], args := [d1, d2, d3] }
  | _ => none }
def RemoveKindsWrongFalsely : Prop := removeKindsRow.holds Tryz.pinned (OpenSpec.ofChange removeKindsWrong)

/-- 'deadwoodlaw24.FindWaits': WHATEVER THE INPUT: true; the input reads as it did. -/
def findWaitsSpec : ChangeSpec := { name := "findWaits", fn := fun _ => fun
  | [d1, d2, d3] => { results := [.lit (.bool true)], args := [d1, d2, d3] }
  | _ => none }
def findWaitsRow : OpenClaim := { program := "ytkkfphlifhkodaagreat", sum := "e944ae37d63c03fa68841cb649ad8330cdfa1692731493db58a836cc9d6847b1", func := "deadwood/deadwoodlaw24.FindWaits", spec := "findWaits", unfollowed := true, recurses := true, apart := false }
def FindWaitsSaid : Prop := findWaitsRow.holds Tryz.pinned (OpenSpec.ofChange findWaitsSpec)

/-- ITS FALSE NEIGHBOUR: 'it returns false'. Refute it at one input. -/
def findWaitsWrong : ChangeSpec := { name := "findWaits", fn := fun _ => fun
  | [d1, d2, d3] => { results := [.lit (.bool false)], args := [d1, d2, d3] }
  | _ => none }
def FindWaitsWrongFalsely : Prop := findWaitsRow.holds Tryz.pinned (OpenSpec.ofChange findWaitsWrong)

/-- 'deadwoodlaw24.FindTells': WHATEVER THE INPUT: true; the input reads as it did. -/
def findTellsSpec : ChangeSpec := { name := "findTells", fn := fun _ => fun
  | [d1, d2, d3] => { results := [.lit (.bool true)], args := [d1, d2, d3] }
  | _ => none }
def findTellsRow : OpenClaim := { program := "ytkkfphlifhkodaagreat", sum := "e944ae37d63c03fa68841cb649ad8330cdfa1692731493db58a836cc9d6847b1", func := "deadwood/deadwoodlaw24.FindTells", spec := "findTells", unfollowed := true, recurses := true, apart := false }
def FindTellsSaid : Prop := findTellsRow.holds Tryz.pinned (OpenSpec.ofChange findTellsSpec)

/-- ITS FALSE NEIGHBOUR: 'it returns false'. Refute it at one input. -/
def findTellsWrong : ChangeSpec := { name := "findTells", fn := fun _ => fun
  | [d1, d2, d3] => { results := [.lit (.bool false)], args := [d1, d2, d3] }
  | _ => none }
def FindTellsWrongFalsely : Prop := findTellsRow.holds Tryz.pinned (OpenSpec.ofChange findTellsWrong)

/-- 'deadwoodlaw28.ScanCuts': WHATEVER THE INPUT: true; the input reads as it did. -/
def scanCutsSpec : ChangeSpec := { name := "scanCuts", fn := fun _ => fun
  | [d1, d2] => { results := [.lit (.bool true)], args := [d1, d2] }
  | _ => none }
def scanCutsRow : OpenClaim := { program := "ytkkfphlifhkodaagreat", sum := "e944ae37d63c03fa68841cb649ad8330cdfa1692731493db58a836cc9d6847b1", func := "deadwood/deadwoodlaw28.ScanCuts", spec := "scanCuts", inPlace := ["slices.overlaps[deadwood/api.Pair]"], unfollowed := true, recurses := true, apart := false }
def ScanCutsSaid : Prop := scanCutsRow.holds Tryz.pinned (OpenSpec.ofChange scanCutsSpec)

/-- ITS FALSE NEIGHBOUR: 'it returns false'. Refute it at one input. -/
def scanCutsWrong : ChangeSpec := { name := "scanCuts", fn := fun _ => fun
  | [d1, d2] => { results := [.lit (.bool false)], args := [d1, d2] }
  | _ => none }
def ScanCutsWrongFalsely : Prop := scanCutsRow.holds Tryz.pinned (OpenSpec.ofChange scanCutsWrong)

/-- 'deadwoodlaw29.AskAnswers': WHATEVER THE INPUT: true; the input reads as it did. -/
def askAnswersSpec : ChangeSpec := { name := "askAnswers", fn := fun _ => fun
  | [d1, d2, d3] => { results := [.lit (.bool true)], args := [d1, d2, d3] }
  | _ => none }
def askAnswersRow : OpenClaim := { program := "ytkkfphlifhkodaagreat", sum := "e944ae37d63c03fa68841cb649ad8330cdfa1692731493db58a836cc9d6847b1", func := "deadwood/deadwoodlaw29.AskAnswers", spec := "askAnswers", inPlace := ["slices.overlaps[deadwood/api.Pair]"], unfollowed := true, recurses := true, apart := false }
def AskAnswersSaid : Prop := askAnswersRow.holds Tryz.pinned (OpenSpec.ofChange askAnswersSpec)

/-- ITS FALSE NEIGHBOUR: 'it returns false'. Refute it at one input. -/
def askAnswersWrong : ChangeSpec := { name := "askAnswers", fn := fun _ => fun
  | [d1, d2, d3] => { results := [.lit (.bool false)], args := [d1, d2, d3] }
  | _ => none }
def AskAnswersWrongFalsely : Prop := askAnswersRow.holds Tryz.pinned (OpenSpec.ofChange askAnswersWrong)

/- THE SECOND FORM. 'bulk': how many values and letters a reading holds, each counted each time it is reached (what is shared counts as often as it is met; a slice's spare places count too). A statement '..UptoSaid' is the law's where the arguments, and the package variables that the reading takes, are together of bulk at most 1048576: NARROWER than '..Said'. Prove '..Said' where nothing that the law and all that it calls make is longer than what came in: it says more and counts as full. Else prove '..UptoSaid'. A law counts once. -/
mutual
def uptoBulk {H : Type} : DataW H → Nat
  | .lit (.string bytes) => bytes.length + 1
  | .lit _ => 1
  | .nil => 1
  | .ptr d => uptoBulk d + 1
  | .slice elems spare => uptoBulkAll elems + uptoBulkAll spare + 1
  | .agg parts => uptoBulkAll parts + 1
  | .iface _ d => uptoBulk d + 1
  | .map entries => uptoBulkEntries entries + 1
  | .held _ => 1
def uptoBulkAll {H : Type} : List (DataW H) → Nat
  | [] => 0
  | d :: r => uptoBulk d + uptoBulkAll r
def uptoBulkEntries {H : Type} : List (Lit × DataW H) → Nat
  | [] => 0
  | x :: r => uptoBulkEntry x + uptoBulkEntries r
def uptoBulkEntry {H : Type} : Lit × DataW H → Nat
  | (.string bytes, d) => bytes.length + uptoBulk d + 1
  | (_, d) => uptoBulk d + 1
 end
def uptoSmall : (H : Type) → List (DataW H) → Bool := fun _ ds => decide (uptoBulkAll ds ≤ 1048576)
def OpenSpec.upto (s : _root_.Go.ChangeSpec) : _root_.Go.OpenSpec := { _root_.Go.OpenSpec.ofChange s with cond := some uptoSmall }

/-- 'deadwoodlaw19.LimboCrowd', WHERE WHAT IT READS IS OF BULK AT MOST 1048576: true; the input reads as it did. -/
def limboCrowdUptoRow : OpenClaim := { program := "ytkkfphlifhkodaagreat", sum := "e944ae37d63c03fa68841cb649ad8330cdfa1692731493db58a836cc9d6847b1", func := "deadwood/deadwoodlaw19.LimboCrowd", spec := "limboCrowd", unfollowed := true, recurses := true, apart := false, narrowed := true }
def LimboCrowdUptoSaid : Prop := limboCrowdUptoRow.holds Tryz.pinned (OpenSpec.upto limboCrowdSpec)

/-- 'deadwoodlaw20.SeekKeys', WHERE WHAT IT READS IS OF BULK AT MOST 1048576: true; the input reads as it did. -/
def seekKeysUptoRow : OpenClaim := { program := "ytkkfphlifhkodaagreat", sum := "e944ae37d63c03fa68841cb649ad8330cdfa1692731493db58a836cc9d6847b1", func := "deadwood/deadwoodlaw20.SeekKeys", spec := "seekKeys", unfollowed := true, recurses := true, apart := false, narrowed := true }
def SeekKeysUptoSaid : Prop := seekKeysUptoRow.holds Tryz.pinned (OpenSpec.upto seekKeysSpec)

/-- 'deadwoodlaw20.SeekFinds', WHERE WHAT IT READS IS OF BULK AT MOST 1048576: true; the input reads as it did. -/
def seekFindsUptoRow : OpenClaim := { program := "ytkkfphlifhkodaagreat", sum := "e944ae37d63c03fa68841cb649ad8330cdfa1692731493db58a836cc9d6847b1", func := "deadwood/deadwoodlaw20.SeekFinds", spec := "seekFinds", unfollowed := true, recurses := true, apart := false, narrowed := true }
def SeekFindsUptoSaid : Prop := seekFindsUptoRow.holds Tryz.pinned (OpenSpec.upto seekFindsSpec)

/-- 'deadwoodlaw20.SeekTells', WHERE WHAT IT READS IS OF BULK AT MOST 1048576: true; the input reads as it did. -/
def seekTellsUptoRow : OpenClaim := { program := "ytkkfphlifhkodaagreat", sum := "e944ae37d63c03fa68841cb649ad8330cdfa1692731493db58a836cc9d6847b1", func := "deadwood/deadwoodlaw20.SeekTells", spec := "seekTells", unfollowed := true, recurses := true, apart := false, narrowed := true }
def SeekTellsUptoSaid : Prop := seekTellsUptoRow.holds Tryz.pinned (OpenSpec.upto seekTellsSpec)

/-- 'deadwoodlaw25.ClockThere', WHERE WHAT IT READS IS OF BULK AT MOST 1048576: true; the input reads as it did. -/
def clockThereUptoRow : OpenClaim := { program := "ytkkfphlifhkodaagreat", sum := "e944ae37d63c03fa68841cb649ad8330cdfa1692731493db58a836cc9d6847b1", func := "deadwood/deadwoodlaw25.ClockThere", spec := "clockThere", unfollowed := true, recurses := true, apart := false, narrowed := true }
def ClockThereUptoSaid : Prop := clockThereUptoRow.holds Tryz.pinned (OpenSpec.upto clockThereSpec)

/-- 'deadwoodlaw25.ClockTicks', WHERE WHAT IT READS IS OF BULK AT MOST 1048576: true; the input reads as it did. -/
def clockTicksUptoRow : OpenClaim := { program := "ytkkfphlifhkodaagreat", sum := "e944ae37d63c03fa68841cb649ad8330cdfa1692731493db58a836cc9d6847b1", func := "deadwood/deadwoodlaw25.ClockTicks", spec := "clockTicks", unfollowed := true, recurses := true, apart := false, narrowed := true }
def ClockTicksUptoSaid : Prop := clockTicksUptoRow.holds Tryz.pinned (OpenSpec.upto clockTicksSpec)

/-- 'deadwoodlaw23.RemoveWords', WHERE WHAT IT READS IS OF BULK AT MOST 1048576: true; the input reads as it did. -/
def removeWordsUptoRow : OpenClaim := { program := "ytkkfphlifhkodaagreat", sum := "e944ae37d63c03fa68841cb649ad8330cdfa1692731493db58a836cc9d6847b1", func := "deadwood/deadwoodlaw23.RemoveWords", spec := "removeWords", unfollowed := true, recurses := true, apart := false, narrowed := true }
def RemoveWordsUptoSaid : Prop := removeWordsUptoRow.holds Tryz.pinned (OpenSpec.upto removeWordsSpec)

/-- 'deadwoodlaw23.RemoveKinds', WHERE WHAT IT READS IS OF BULK AT MOST 1048576: true; the input reads as it did. -/
def removeKindsUptoRow : OpenClaim := { program := "ytkkfphlifhkodaagreat", sum := "e944ae37d63c03fa68841cb649ad8330cdfa1692731493db58a836cc9d6847b1", func := "deadwood/deadwoodlaw23.RemoveKinds", spec := "removeKinds", unfollowed := true, recurses := true, apart := false, narrowed := true }
def RemoveKindsUptoSaid : Prop := removeKindsUptoRow.holds Tryz.pinned (OpenSpec.upto removeKindsSpec)

/-- 'deadwoodlaw24.FindWaits', WHERE WHAT IT READS IS OF BULK AT MOST 1048576: true; the input reads as it did. -/
def findWaitsUptoRow : OpenClaim := { program := "ytkkfphlifhkodaagreat", sum := "e944ae37d63c03fa68841cb649ad8330cdfa1692731493db58a836cc9d6847b1", func := "deadwood/deadwoodlaw24.FindWaits", spec := "findWaits", unfollowed := true, recurses := true, apart := false, narrowed := true }
def FindWaitsUptoSaid : Prop := findWaitsUptoRow.holds Tryz.pinned (OpenSpec.upto findWaitsSpec)

/-- 'deadwoodlaw24.FindTells', WHERE WHAT IT READS IS OF BULK AT MOST 1048576: true; the input reads as it did. -/
def findTellsUptoRow : OpenClaim := { program := "ytkkfphlifhkodaagreat", sum := "e944ae37d63c03fa68841cb649ad8330cdfa1692731493db58a836cc9d6847b1", func := "deadwood/deadwoodlaw24.FindTells", spec := "findTells", unfollowed := true, recurses := true, apart := false, narrowed := true }
def FindTellsUptoSaid : Prop := findTellsUptoRow.holds Tryz.pinned (OpenSpec.upto findTellsSpec)

/-- 'deadwoodlaw28.ScanCuts', WHERE WHAT IT READS IS OF BULK AT MOST 1048576: true; the input reads as it did. -/
def scanCutsUptoRow : OpenClaim := { program := "ytkkfphlifhkodaagreat", sum := "e944ae37d63c03fa68841cb649ad8330cdfa1692731493db58a836cc9d6847b1", func := "deadwood/deadwoodlaw28.ScanCuts", spec := "scanCuts", inPlace := ["slices.overlaps[deadwood/api.Pair]"], unfollowed := true, recurses := true, apart := false, narrowed := true }
def ScanCutsUptoSaid : Prop := scanCutsUptoRow.holds Tryz.pinned (OpenSpec.upto scanCutsSpec)

/-- 'deadwoodlaw29.AskAnswers', WHERE WHAT IT READS IS OF BULK AT MOST 1048576: true; the input reads as it did. -/
def askAnswersUptoRow : OpenClaim := { program := "ytkkfphlifhkodaagreat", sum := "e944ae37d63c03fa68841cb649ad8330cdfa1692731493db58a836cc9d6847b1", func := "deadwood/deadwoodlaw29.AskAnswers", spec := "askAnswers", inPlace := ["slices.overlaps[deadwood/api.Pair]"], unfollowed := true, recurses := true, apart := false, narrowed := true }
def AskAnswersUptoSaid : Prop := askAnswersUptoRow.holds Tryz.pinned (OpenSpec.upto askAnswersSpec)

end Rows
end Go.Proofs.YtkkfphlifhkodaaGreat
