/-
  No cell of these rows narrows 'for every input' (looked for: loops, veiled, ifaces, maps, wideKeys, modest, calm, conditions, laid).
  DERIVED. THE GIVEN ROWS OF THIS SEAT. 4 by the template 'for every input the law returns true; each argument reads behind the call as it read before'; 0 by the template 'total and deterministic' (their statements: YtencghlmckbmlaaTotals.lean).
  GIVEN WITH THE SEED: the statements are not yours to turn. If you find one false, say at which input.
  Laid BY PROGRAM, IN A SANDBOX (cutbox-rows.mjs): the forced cells as the released guide's own fill.sh prints them over the translation fc3053d6faaebe94… (all of the seat's roots in one cut). By AI agents, Wed Nov 11 2026. No macro, syntax, notation, axiom, sorry.
-/
import Derived.Test.YtencghlmckbmlaaChecked
import GoSem.Claim
import GoSem.ClaimJoined
import GoSem.ClaimMapViews
import Derived.JoinedTies
import Derived.KernelRfl
namespace Go.Proofs.Ytencghlmckbmlaa
/- THE CELL 'sum', in the pinned program and in every row, IS THE sha256 OF THE DUMP (.gsa) THAT YtencghlmckbmlaaProg.lean LOADS. Nothing in Lean hashes anything: it is a label: what it is worth is what the hold of that sum in a sandbox is worth. -/
noncomputable def Try.pinned : Pinned := { name := "ytencghlmckbmlaa", sum := "fc3053d6faaebe94bd01c2f9bb47b237552d145472d7cbc0761080bb596dacc6", checked := Try.checked }
namespace Rows
def none {H : Type} : Left H := { results := [], args := [] }

/-- 'hotspottop.TopWorlds': WHATEVER THE INPUT: true; the input reads as it did. -/
def topWorldsSpec : ChangeSpec := { name := "topWorlds", fn := fun _ => fun
  | [d1, d2, d3, d4, d5, d6, d7, d8, d9] => { results := [.lit (.bool true)], args := [d1, d2, d3, d4, d5, d6, d7, d8, d9] }
  | _ => none }
def topWorldsRow : OpenClaim := { program := "ytencghlmckbmlaa", sum := "fc3053d6faaebe94bd01c2f9bb47b237552d145472d7cbc0761080bb596dacc6", func := "hotspot/hotspottop.TopWorlds", spec := "topWorlds", unfollowed := true, recurses := true, apart := false }
def TopWorldsSaid : Prop := topWorldsRow.holds Try.pinned (OpenSpec.ofChange topWorldsSpec)

/-- ITS FALSE NEIGHBOUR: 'it returns false'. Refute it at one input. -/
def topWorldsWrong : ChangeSpec := { name := "topWorlds", fn := fun _ => fun
  | [d1, d2, d3, d4, d5, d6, d7, d8, d9] => { results := [.lit (.bool false)], args := [d1, d2, d3, d4, d5, d6, d7, d8, d9] }
  | _ => none }
def TopWorldsWrongFalsely : Prop := topWorldsRow.holds Try.pinned (OpenSpec.ofChange topWorldsWrong)

/-- 'hotspottop.TopHeld': WHATEVER THE INPUT: true; the input reads as it did. -/
def topHeldSpec : ChangeSpec := { name := "topHeld", fn := fun _ => fun
  | [d1, d2, d3, d4, d5, d6] => { results := [.lit (.bool true)], args := [d1, d2, d3, d4, d5, d6] }
  | _ => none }
def topHeldRow : OpenClaim := { program := "ytencghlmckbmlaa", sum := "fc3053d6faaebe94bd01c2f9bb47b237552d145472d7cbc0761080bb596dacc6", func := "hotspot/hotspottop.TopHeld", spec := "topHeld", inPlace := ["slices.overlaps[hotspot/api.Sleeper]"], unfollowed := true, recurses := true, apart := false }
def TopHeldSaid : Prop := topHeldRow.holds Try.pinned (OpenSpec.ofChange topHeldSpec)

/-- ITS FALSE NEIGHBOUR: 'it returns false'. Refute it at one input. -/
def topHeldWrong : ChangeSpec := { name := "topHeld", fn := fun _ => fun
  | [d1, d2, d3, d4, d5, d6] => { results := [.lit (.bool false)], args := [d1, d2, d3, d4, d5, d6] }
  | _ => none }
def TopHeldWrongFalsely : Prop := topHeldRow.holds Try.pinned (OpenSpec.ofChange topHeldWrong)

/-- 'hotspottop.TopServed': WHATEVER THE INPUT: true; the input reads as it did. -/
def topServedSpec : ChangeSpec := { name := "topServed", fn := fun _ => fun
  | [d1, d2, d3, d4] => { results := [.lit (.bool true)], args := [d1, d2, d3, d4] }
  | _ => none }
def topServedRow : OpenClaim := { program := "ytencghlmckbmlaa", sum := "fc3053d6faaebe94bd01c2f9bb47b237552d145472d7cbc0761080bb596dacc6", func := "hotspot/hotspottop.TopServed", spec := "topServed", unfollowed := true, recurses := true, apart := false }
def TopServedSaid : Prop := topServedRow.holds Try.pinned (OpenSpec.ofChange topServedSpec)

/-- ITS FALSE NEIGHBOUR: 'it returns false'. Refute it at one input. -/
def topServedWrong : ChangeSpec := { name := "topServed", fn := fun _ => fun
  | [d1, d2, d3, d4] => { results := [.lit (.bool false)], args := [d1, d2, d3, d4] }
  | _ => none }
def TopServedWrongFalsely : Prop := topServedRow.holds Try.pinned (OpenSpec.ofChange topServedWrong)

/-- 'hotspottop.TopShifted': WHATEVER THE INPUT: true; the input reads as it did. -/
def topShiftedSpec : ChangeSpec := { name := "topShifted", fn := fun _ => fun
  | [d1, d2, d3, d4, d5, d6, d7, d8, d9] => { results := [.lit (.bool true)], args := [d1, d2, d3, d4, d5, d6, d7, d8, d9] }
  | _ => none }
def topShiftedRow : OpenClaim := { program := "ytencghlmckbmlaa", sum := "fc3053d6faaebe94bd01c2f9bb47b237552d145472d7cbc0761080bb596dacc6", func := "hotspot/hotspottop.TopShifted", spec := "topShifted", inPlace := ["slices.overlaps[hotspot/api.HeldSeq]"], unfollowed := true, recurses := true, apart := false }
def TopShiftedSaid : Prop := topShiftedRow.holds Try.pinned (OpenSpec.ofChange topShiftedSpec)

/-- ITS FALSE NEIGHBOUR: 'it returns false'. Refute it at one input. -/
def topShiftedWrong : ChangeSpec := { name := "topShifted", fn := fun _ => fun
  | [d1, d2, d3, d4, d5, d6, d7, d8, d9] => { results := [.lit (.bool false)], args := [d1, d2, d3, d4, d5, d6, d7, d8, d9] }
  | _ => none }
def TopShiftedWrongFalsely : Prop := topShiftedRow.holds Try.pinned (OpenSpec.ofChange topShiftedWrong)

/- THE SECOND FORM. 'bulk': how many values and letters a reading holds, each counted each time it is reached (what is shared counts as often as it is met; a slice's spare places count too). A statement '..UptoSaid' is the law's where the arguments, and the package variables that the reading takes, are together of bulk at most 1048576: NARROWER than '..Said'. Prove '..Said' where nothing that the law and all that it calls make is longer than what came in: it says more and counts as full. Else prove '..UptoSaid'. A law counts once. -/
mutual
def uptoBulk {H : Type} : DataW H → Nat
  | .lit (.string bytes) => bytes.length + 1
  | .lit _ => 1
  | .nil => 1
  | .ptr d => uptoBulk d + 1
  | .slice elems spare => uptoBulkAll elems + uptoBulkAll spare + 1
  | .agg parts => uptoBulkAll parts + 1
  | .iface _ d => uptoBulk d + 1
  | .map entries => uptoBulkEntries entries + 1
  | .held _ => 1
def uptoBulkAll {H : Type} : List (DataW H) → Nat
  | [] => 0
  | d :: r => uptoBulk d + uptoBulkAll r
def uptoBulkEntries {H : Type} : List (Lit × DataW H) → Nat
  | [] => 0
  | x :: r => uptoBulkEntry x + uptoBulkEntries r
def uptoBulkEntry {H : Type} : Lit × DataW H → Nat
  | (.string bytes, d) => bytes.length + uptoBulk d + 1
  | (_, d) => uptoBulk d + 1
 end
def uptoSmall : (H : Type) → List (DataW H) → Bool := fun _ ds => decide (uptoBulkAll ds ≤ 1048576)
def OpenSpec.upto (s : _root_.Go.ChangeSpec) : _root_.Go.OpenSpec := { _root_.Go.OpenSpec.ofChange s with cond := some uptoSmall }

/-- 'hotspottop.TopWorlds', WHERE WHAT IT READS IS OF BULK AT MOST 1048576: true; the input reads as it did. -/
def topWorldsUptoRow : OpenClaim := { program := "ytencghlmckbmlaa", sum := "fc3053d6faaebe94bd01c2f9bb47b237552d145472d7cbc0761080bb596dacc6", func := "hotspot/hotspottop.TopWorlds", spec := "topWorlds", unfollowed := true, recurses := true, apart := false, narrowed := true }
def TopWorldsUptoSaid : Prop := topWorldsUptoRow.holds Try.pinned (OpenSpec.upto topWorldsSpec)

/-- 'hotspottop.TopHeld', WHERE WHAT IT READS IS OF BULK AT MOST 1048576: true; the input reads as it did. -/
def topHeldUptoRow : OpenClaim := { program := "ytencghlmckbmlaa", sum := "fc3053d6faaebe94bd01c2f9bb47b237552d145472d7cbc0761080bb596dacc6", func := "hotspot/hotspottop.TopHeld", spec := "topHeld", inPlace := ["slices.overlaps[hotspot/api.Sleeper]"], unfollowed := true, recurses := true, apart := false, narrowed := true }
def TopHeldUptoSaid : Prop := topHeldUptoRow.holds Try.pinned (OpenSpec.upto topHeldSpec)

/-- 'hotspottop.TopServed', WHERE WHAT IT READS IS OF BULK AT MOST 1048576: true; the input reads as it did. -/
def topServedUptoRow : OpenClaim := { program := "ytencghlmckbmlaa", sum := "fc3053d6faaebe94bd01c2f9bb47b237552d145472d7cbc0761080bb596dacc6", func := "hotspot/hotspottop.TopServed", spec := "topServed", unfollowed := true, recurses := true, apart := false, narrowed := true }
def TopServedUptoSaid : Prop := topServedUptoRow.holds Try.pinned (OpenSpec.upto topServedSpec)

/-- 'hotspottop.TopShifted', WHERE WHAT IT READS IS OF BULK AT MOST 1048576: true; the input reads as it did. -/
def topShiftedUptoRow : OpenClaim := { program := "ytencghlmckbmlaa", sum := "fc3053d6faaebe94bd01c2f9bb47b237552d145472d7cbc0761080bb596dacc6", func := "hotspot/hotspottop.TopShifted", spec := "topShifted", inPlace := ["slices.overlaps[hotspot/api.HeldSeq]"], unfollowed := true, recurses := true, apart := false, narrowed := true }
def TopShiftedUptoSaid : Prop := topShiftedUptoRow.holds Try.pinned (OpenSpec.upto topShiftedSpec)

end Rows
end Go.Proofs.Ytencghlmckbmlaa
