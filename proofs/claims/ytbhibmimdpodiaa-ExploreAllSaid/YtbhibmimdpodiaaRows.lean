/-
  No cell of these rows narrows 'for every input' (looked for: loops, veiled, ifaces, maps, wideKeys, modest, calm, conditions, laid).
  DERIVED. THE GIVEN ROWS OF THIS SEAT. 5 by the template 'for every input the law returns true; each argument reads behind the call as it read before'; 0 by the template 'total and deterministic' (their statements: YtbhibmimdpodiaaTotals.lean).
  GIVEN WITH THE SEED: the statements are not yours to turn. If you find one false, say at which input.
  Laid BY PROGRAM, IN A SANDBOX (cutbox-rows.mjs): the forced cells as the released guide's own fill.sh prints them over the translation 5f168e2d56e5792c… (all of the seat's roots in one cut). By AI agents, Wed Nov 11 2026. No macro, syntax, notation, axiom, sorry.
-/
import Derived.Test.YtbhibmimdpodiaaChecked
import GoSem.Claim
import GoSem.ClaimJoined
import GoSem.ClaimMapViews
import Derived.JoinedTies
import Derived.KernelRfl
namespace Go.Proofs.Ytbhibmimdpodiaa
/- THE CELL 'sum', in the pinned program and in every row, IS THE sha256 OF THE DUMP (.gsa) THAT YtbhibmimdpodiaaProg.lean LOADS. Nothing in Lean hashes anything: it is a label: what it is worth is what the hold of that sum in a sandbox is worth. -/
noncomputable def Try.pinned : Pinned := { name := "ytbhibmimdpodiaa", sum := "5f168e2d56e5792cd1e06edcfb024253d414b717147cbdb695c0e525aa4ae14d", checked := Try.checked }
namespace Rows
def none {H : Type} : Left H := { results := [], args := [] }

/-- 'deadwoodlaw42.ShrinkLeast': WHATEVER THE INPUT: true; the input reads as it did. -/
def shrinkLeastSpec : ChangeSpec := { name := "shrinkLeast", fn := fun _ => fun
  | [d1, d2] => { results := [.lit (.bool true)], args := [d1, d2] }
  | _ => none }
def shrinkLeastRow : OpenClaim := { program := "ytbhibmimdpodiaa", sum := "5f168e2d56e5792cd1e06edcfb024253d414b717147cbdb695c0e525aa4ae14d", func := "deadwood/deadwoodlaw42.ShrinkLeast", spec := "shrinkLeast", unfollowed := true, recurses := true, apart := false }
def ShrinkLeastSaid : Prop := shrinkLeastRow.holds Try.pinned (OpenSpec.ofChange shrinkLeastSpec)

/-- ITS FALSE NEIGHBOUR: 'it returns false'. Refute it at one input. -/
def shrinkLeastWrong : ChangeSpec := { name := "shrinkLeast", fn := fun _ => fun
  | [d1, d2] => { results := [.lit (.bool false)], args := [d1, d2] }
  | _ => none }
def ShrinkLeastWrongFalsely : Prop := shrinkLeastRow.holds Try.pinned (OpenSpec.ofChange shrinkLeastWrong)

/-- 'deadwoodlaw42.ShrinkParts': WHATEVER THE INPUT: true; the input reads as it did. -/
def shrinkPartsSpec : ChangeSpec := { name := "shrinkParts", fn := fun _ => fun
  | [d1, d2, d3] => { results := [.lit (.bool true)], args := [d1, d2, d3] }
  | _ => none }
def shrinkPartsRow : OpenClaim := { program := "ytbhibmimdpodiaa", sum := "5f168e2d56e5792cd1e06edcfb024253d414b717147cbdb695c0e525aa4ae14d", func := "deadwood/deadwoodlaw42.ShrinkParts", spec := "shrinkParts", unfollowed := true, recurses := true, apart := false }
def ShrinkPartsSaid : Prop := shrinkPartsRow.holds Try.pinned (OpenSpec.ofChange shrinkPartsSpec)

/-- ITS FALSE NEIGHBOUR: 'it returns false'. Refute it at one input. -/
def shrinkPartsWrong : ChangeSpec := { name := "shrinkParts", fn := fun _ => fun
  | [d1, d2, d3] => { results := [.lit (.bool false)], args := [d1, d2, d3] }
  | _ => none }
def ShrinkPartsWrongFalsely : Prop := shrinkPartsRow.holds Try.pinned (OpenSpec.ofChange shrinkPartsWrong)

/-- 'deadwoodlaw36.ExploreAll': WHATEVER THE INPUT: true; the input reads as it did. -/
def exploreAllSpec : ChangeSpec := { name := "exploreAll", fn := fun _ => fun
  | [d1, d2, d3] => { results := [.lit (.bool true)], args := [d1, d2, d3] }
  | _ => none }
def exploreAllRow : OpenClaim := { program := "ytbhibmimdpodiaa", sum := "5f168e2d56e5792cd1e06edcfb024253d414b717147cbdb695c0e525aa4ae14d", func := "deadwood/deadwoodlaw36.ExploreAll", spec := "exploreAll", unfollowed := true, recurses := true, apart := false }
def ExploreAllSaid : Prop := exploreAllRow.holds Try.pinned (OpenSpec.ofChange exploreAllSpec)

/-- ITS FALSE NEIGHBOUR: 'it returns false'. Refute it at one input. -/
def exploreAllWrong : ChangeSpec := { name := "exploreAll", fn := fun _ => fun
  | [d1, d2, d3] => { results := [.lit (.bool false)], args := [d1, d2, d3] }
  | _ => none }
def ExploreAllWrongFalsely : Prop := exploreAllRow.holds Try.pinned (OpenSpec.ofChange exploreAllWrong)

/-- 'deadwoodlaw38.StatsSums': WHATEVER THE INPUT: true; the input reads as it did. -/
def statsSumsSpec : ChangeSpec := { name := "statsSums", fn := fun _ => fun
  | [d] => { results := [.lit (.bool true)], args := [d] }
  | _ => none }
def statsSumsRow : OpenClaim := { program := "ytbhibmimdpodiaa", sum := "5f168e2d56e5792cd1e06edcfb024253d414b717147cbdb695c0e525aa4ae14d", func := "deadwood/deadwoodlaw38.StatsSums", spec := "statsSums", apart := false }
def StatsSumsSaid : Prop := statsSumsRow.holds Try.pinned (OpenSpec.ofChange statsSumsSpec)

/-- ITS FALSE NEIGHBOUR: 'it returns false'. Refute it at one input. -/
def statsSumsWrong : ChangeSpec := { name := "statsSums", fn := fun _ => fun
  | [d] => { results := [.lit (.bool false)], args := [d] }
  | _ => none }
def StatsSumsWrongFalsely : Prop := statsSumsRow.holds Try.pinned (OpenSpec.ofChange statsSumsWrong)

/-- 'deadwoodlaw38.StatsCalls': WHATEVER THE INPUT: true; the input reads as it did. -/
def statsCallsSpec : ChangeSpec := { name := "statsCalls", fn := fun _ => fun
  | [d1, d2, d3] => { results := [.lit (.bool true)], args := [d1, d2, d3] }
  | _ => none }
def statsCallsRow : OpenClaim := { program := "ytbhibmimdpodiaa", sum := "5f168e2d56e5792cd1e06edcfb024253d414b717147cbdb695c0e525aa4ae14d", func := "deadwood/deadwoodlaw38.StatsCalls", spec := "statsCalls", unfollowed := true, recurses := true, apart := false }
def StatsCallsSaid : Prop := statsCallsRow.holds Try.pinned (OpenSpec.ofChange statsCallsSpec)

/-- ITS FALSE NEIGHBOUR: 'it returns false'. Refute it at one input. -/
def statsCallsWrong : ChangeSpec := { name := "statsCalls", fn := fun _ => fun
  | [d1, d2, d3] => { results := [.lit (.bool false)], args := [d1, d2, d3] }
  | _ => none }
def StatsCallsWrongFalsely : Prop := statsCallsRow.holds Try.pinned (OpenSpec.ofChange statsCallsWrong)

/- THE SECOND FORM. 'bulk': how many values and letters a reading holds, each counted each time it is reached (what is shared counts as often as it is met; a slice's spare places count too). A statement '..UptoSaid' is the law's where the arguments, and the package variables that the reading takes, are together of bulk at most 1048576: NARROWER than '..Said'. Prove '..Said' where nothing that the law and all that it calls make is longer than what came in: it says more and counts as full. Else prove '..UptoSaid'. A law counts once. -/
mutual
def uptoBulk {H : Type} : DataW H → Nat
  | .lit (.string bytes) => bytes.length + 1
  | .lit _ => 1
  | .nil => 1
  | .ptr d => uptoBulk d + 1
  | .slice elems spare => uptoBulkAll elems + uptoBulkAll spare + 1
  | .agg parts => uptoBulkAll parts + 1
  | .iface _ d => uptoBulk d + 1
  | .map entries => uptoBulkEntries entries + 1
  | .held _ => 1
def uptoBulkAll {H : Type} : List (DataW H) → Nat
  | [] => 0
  | d :: r => uptoBulk d + uptoBulkAll r
def uptoBulkEntries {H : Type} : List (Lit × DataW H) → Nat
  | [] => 0
  | x :: r => uptoBulkEntry x + uptoBulkEntries r
def uptoBulkEntry {H : Type} : Lit × DataW H → Nat
  | (.string bytes, d) => bytes.length + uptoBulk d + 1
  | (_, d) => uptoBulk d + 1
 end
def uptoSmall : (H : Type) → List (DataW H) → Bool := fun _ ds => decide (uptoBulkAll ds ≤ 1048576)
def OpenSpec.upto (s : _root_.Go.ChangeSpec) : _root_.Go.OpenSpec := { _root_.Go.OpenSpec.ofChange s with cond := some uptoSmall }

/-- 'deadwoodlaw42.ShrinkLeast', WHERE WHAT IT READS IS OF BULK AT MOST 1048576: true; the input reads as it did. -/
def shrinkLeastUptoRow : OpenClaim := { program := "ytbhibmimdpodiaa", sum := "5f168e2d56e5792cd1e06edcfb024253d414b717147cbdb695c0e525aa4ae14d", func := "deadwood/deadwoodlaw42.ShrinkLeast", spec := "shrinkLeast", unfollowed := true, recurses := true, apart := false, narrowed := true }
def ShrinkLeastUptoSaid : Prop := shrinkLeastUptoRow.holds Try.pinned (OpenSpec.upto shrinkLeastSpec)

/-- 'deadwoodlaw42.ShrinkParts', WHERE WHAT IT READS IS OF BULK AT MOST 1048576: true; the input reads as it did. -/
def shrinkPartsUptoRow : OpenClaim := { program := "ytbhibmimdpodiaa", sum := "5f168e2d56e5792cd1e06edcfb024253d414b717147cbdb695c0e525aa4ae14d", func := "deadwood/deadwoodlaw42.ShrinkParts", spec := "shrinkParts", unfollowed := true, recurses := true, apart := false, narrowed := true }
def ShrinkPartsUptoSaid : Prop := shrinkPartsUptoRow.holds Try.pinned (OpenSpec.upto shrinkPartsSpec)

/-- 'deadwoodlaw36.ExploreAll', WHERE WHAT IT READS IS OF BULK AT MOST 1048576: true; the input reads as it did. -/
def exploreAllUptoRow : OpenClaim := { program := "ytbhibmimdpodiaa", sum := "5f168e2d56e5792cd1e06edcfb024253d414b717147cbdb695c0e525aa4ae14d", func := "deadwood/deadwoodlaw36.ExploreAll", spec := "exploreAll", unfollowed := true, recurses := true, apart := false, narrowed := true }
def ExploreAllUptoSaid : Prop := exploreAllUptoRow.holds Try.pinned (OpenSpec.upto exploreAllSpec)

/-- 'deadwoodlaw38.StatsSums', WHERE WHAT IT READS IS OF BULK AT MOST 1048576: true; the input reads as it did. -/
def statsSumsUptoRow : OpenClaim := { program := "ytbhibmimdpodiaa", sum := "5f168e2d56e5792cd1e06edcfb024253d414b717147cbdb695c0e525aa4ae14d", func := "deadwood/deadwoodlaw38.StatsSums", spec := "statsSums", apart := false, narrowed := true }
def StatsSumsUptoSaid : Prop := statsSumsUptoRow.holds Try.pinned (OpenSpec.upto statsSumsSpec)

/-- 'deadwoodlaw38.StatsCalls', WHERE WHAT IT READS IS OF BULK AT MOST 1048576: true; the input reads as it did. -/
def statsCallsUptoRow : OpenClaim := { program := "ytbhibmimdpodiaa", sum := "5f168e2d56e5792cd1e06edcfb024253d414b717147cbdb695c0e525aa4ae14d", func := "deadwood/deadwoodlaw38.StatsCalls", spec := "statsCalls", unfollowed := true, recurses := true, apart := false, narrowed := true }
def StatsCallsUptoSaid : Prop := statsCallsUptoRow.holds Try.pinned (OpenSpec.upto statsCallsSpec)

end Rows
end Go.Proofs.Ytbhibmimdpodiaa
