/-
  No cell of these rows narrows 'for every input' (looked for: loops, veiled, ifaces, maps, wideKeys, modest, calm, conditions, laid).
  DERIVED. THE GIVEN ROWS OF THIS SEAT. 7 by the template 'for every input the law returns true; each argument reads behind the call as it read before'; 0 by the template 'total and deterministic' (their statements: YtokoallbhbgkkaaTotals.lean).
  GIVEN WITH THE SEED: the statements are not yours to turn. If you find one false, say at which input.
  Laid BY PROGRAM, IN A SANDBOX (cutbox-rows.mjs): the forced cells as the released guide's own fill.sh prints them over the translation 5e3a5cc36a01f72a… (all of the seat's roots in one cut). By AI agents, Wed Nov 11 2026. No macro, syntax, notation, axiom, sorry.
-/
import Derived.Test.YtokoallbhbgkkaaChecked
import GoSem.Claim
import GoSem.ClaimJoined
import GoSem.ClaimMapViews
import Derived.JoinedTies
import Derived.KernelRfl
namespace Go.Proofs.Ytokoallbhbgkkaa
/- THE CELL 'sum', in the pinned program and in every row, IS THE sha256 OF THE DUMP (.gsa) THAT YtokoallbhbgkkaaProg.lean LOADS. Nothing in Lean hashes anything: it is a label: what it is worth is what the hold of that sum in a sandbox is worth. -/
noncomputable def Try.pinned : Pinned := { name := "ytokoallbhbgkkaa", sum := "5e3a5cc36a01f72a213a1aae0507f8173459612f096911dc989c87d31309864d", checked := Try.checked }
namespace Rows
def none {H : Type} : Left H := { results := [], args := [] }

/-- 'laws.FnExactFewestWithin': WHATEVER THE INPUT: true; the input reads as it did. -/
def fnExactFewestWithinSpec : ChangeSpec := { name := "fnExactFewestWithin", fn := fun _ => fun
  | [d1, d2, d3] => { results := [.lit (.bool true)], args := [d1, d2, d3] }
  | _ => none }
def fnExactFewestWithinRow : OpenClaim := { program := "ytokoallbhbgkkaa", sum := "5e3a5cc36a01f72a213a1aae0507f8173459612f096911dc989c87d31309864d", func := "loop.example/g01043/laws.FnExactFewestWithin", spec := "fnExactFewestWithin", apart := false }
def FnExactFewestWithinSaid : Prop := fnExactFewestWithinRow.holds Try.pinned (OpenSpec.ofChange fnExactFewestWithinSpec)

/-- ITS FALSE NEIGHBOUR: 'it returns false'. Refute it at one input. -/
def fnExactFewestWithinWrong : ChangeSpec := { name := "fnExactFewestWithin", fn := fun _ => fun
  | [d1, d2, d3] => { results := [.lit (.bool false)], args := [d1, d2, d3] }
  | _ => none }
def FnExactFewestWithinWrongFalsely : Prop := fnExactFewestWithinRow.holds Try.pinned (OpenSpec.ofChange fnExactFewestWithinWrong)

/-- 'laws.FnExactBuildUpFor': WHATEVER THE INPUT: true; the input reads as it did. -/
def fnExactBuildUpForSpec : ChangeSpec := { name := "fnExactBuildUpFor", fn := fun _ => fun
  | [d1, d2, d3, d4] => { results := [.lit (.bool true)], args := [d1, d2, d3, d4] }
  | _ => none }
def fnExactBuildUpForRow : OpenClaim := { program := "ytokoallbhbgkkaa", sum := "5e3a5cc36a01f72a213a1aae0507f8173459612f096911dc989c87d31309864d", func := "loop.example/g01043/laws.FnExactBuildUpFor", spec := "fnExactBuildUpFor", unfollowed := true, recurses := true, apart := false }
def FnExactBuildUpForSaid : Prop := fnExactBuildUpForRow.holds Try.pinned (OpenSpec.ofChange fnExactBuildUpForSpec)

/-- ITS FALSE NEIGHBOUR: 'it returns false'. Refute it at one input. -/
def fnExactBuildUpForWrong : ChangeSpec := { name := "fnExactBuildUpFor", fn := fun _ => fun
  | [d1, d2, d3, d4] => { results := [.lit (.bool false)], args := [d1, d2, d3, d4] }
  | _ => none }
def FnExactBuildUpForWrongFalsely : Prop := fnExactBuildUpForRow.holds Try.pinned (OpenSpec.ofChange fnExactBuildUpForWrong)

/-- 'laws.FnBuildCounts': WHATEVER THE INPUT: true; the input reads as it did. -/
def fnBuildCountsSpec : ChangeSpec := { name := "fnBuildCounts", fn := fun _ => fun
  | [d1, d2] => { results := [.lit (.bool true)], args := [d1, d2] }
  | _ => none }
def fnBuildCountsRow : OpenClaim := { program := "ytokoallbhbgkkaa", sum := "5e3a5cc36a01f72a213a1aae0507f8173459612f096911dc989c87d31309864d", func := "loop.example/g01043/laws.FnBuildCounts", spec := "fnBuildCounts", unfollowed := true, recurses := true, apart := false }
def FnBuildCountsSaid : Prop := fnBuildCountsRow.holds Try.pinned (OpenSpec.ofChange fnBuildCountsSpec)

/-- ITS FALSE NEIGHBOUR: 'it returns false'. Refute it at one input. -/
def fnBuildCountsWrong : ChangeSpec := { name := "fnBuildCounts", fn := fun _ => fun
  | [d1, d2] => { results := [.lit (.bool false)], args := [d1, d2] }
  | _ => none }
def FnBuildCountsWrongFalsely : Prop := fnBuildCountsRow.holds Try.pinned (OpenSpec.ofChange fnBuildCountsWrong)

/-- 'laws.FnBuilds': WHATEVER THE INPUT: true; the input reads as it did. -/
def fnBuildsSpec : ChangeSpec := { name := "fnBuilds", fn := fun _ => fun
  | [d1, d2] => { results := [.lit (.bool true)], args := [d1, d2] }
  | _ => none }
def fnBuildsRow : OpenClaim := { program := "ytokoallbhbgkkaa", sum := "5e3a5cc36a01f72a213a1aae0507f8173459612f096911dc989c87d31309864d", func := "loop.example/g01043/laws.FnBuilds", spec := "fnBuilds", apart := false }
def FnBuildsSaid : Prop := fnBuildsRow.holds Try.pinned (OpenSpec.ofChange fnBuildsSpec)

/-- ITS FALSE NEIGHBOUR: 'it returns false'. Refute it at one input. -/
def fnBuildsWrong : ChangeSpec := { name := "fnBuilds", fn := fun _ => fun
  | [d1, d2] => { results := [.lit (.bool false)], args := [d1, d2] }
  | _ => none }
def FnBuildsWrongFalsely : Prop := fnBuildsRow.holds Try.pinned (OpenSpec.ofChange fnBuildsWrong)

/-- 'laws.FnBuildUps': WHATEVER THE INPUT: true; the input reads as it did. -/
def fnBuildUpsSpec : ChangeSpec := { name := "fnBuildUps", fn := fun _ => fun
  | [d1, d2] => { results := [.lit (.bool true)], args := [d1, d2] }
  | _ => none }
def fnBuildUpsRow : OpenClaim := { program := "ytokoallbhbgkkaa", sum := "5e3a5cc36a01f72a213a1aae0507f8173459612f096911dc989c87d31309864d", func := "loop.example/g01043/laws.FnBuildUps", spec := "fnBuildUps", unfollowed := true, recurses := true, apart := false }
def FnBuildUpsSaid : Prop := fnBuildUpsRow.holds Try.pinned (OpenSpec.ofChange fnBuildUpsSpec)

/-- ITS FALSE NEIGHBOUR: 'it returns false'. Refute it at one input. -/
def fnBuildUpsWrong : ChangeSpec := { name := "fnBuildUps", fn := fun _ => fun
  | [d1, d2] => { results := [.lit (.bool false)], args := [d1, d2] }
  | _ => none }
def FnBuildUpsWrongFalsely : Prop := fnBuildUpsRow.holds Try.pinned (OpenSpec.ofChange fnBuildUpsWrong)

/-- 'laws.FnGrowth': WHATEVER THE INPUT: true; the input reads as it did. -/
def fnGrowthSpec : ChangeSpec := { name := "fnGrowth", fn := fun _ => fun
  | [d1, d2] => { results := [.lit (.bool true)], args := [d1, d2] }
  | _ => none }
def fnGrowthRow : OpenClaim := { program := "ytokoallbhbgkkaa", sum := "5e3a5cc36a01f72a213a1aae0507f8173459612f096911dc989c87d31309864d", func := "loop.example/g01043/laws.FnGrowth", spec := "fnGrowth", unfollowed := true, recurses := true, apart := false }
def FnGrowthSaid : Prop := fnGrowthRow.holds Try.pinned (OpenSpec.ofChange fnGrowthSpec)

/-- ITS FALSE NEIGHBOUR: 'it returns false'. Refute it at one input. -/
def fnGrowthWrong : ChangeSpec := { name := "fnGrowth", fn := fun _ => fun
  | [d1, d2] => { results := [.lit (.bool false)], args := [d1, d2] }
  | _ => none }
def FnGrowthWrongFalsely : Prop := fnGrowthRow.holds Try.pinned (OpenSpec.ofChange fnGrowthWrong)

/-- 'laws.FnNotches': WHATEVER THE INPUT: true; the input reads as it did. -/
def fnNotchesSpec : ChangeSpec := { name := "fnNotches", fn := fun _ => fun
  | [d] => { results := [.lit (.bool true)], args := [d] }
  | _ => none }
def fnNotchesRow : OpenClaim := { program := "ytokoallbhbgkkaa", sum := "5e3a5cc36a01f72a213a1aae0507f8173459612f096911dc989c87d31309864d", func := "loop.example/g01043/laws.FnNotches", spec := "fnNotches", unfollowed := true, recurses := true, apart := false }
def FnNotchesSaid : Prop := fnNotchesRow.holds Try.pinned (OpenSpec.ofChange fnNotchesSpec)

/-- ITS FALSE NEIGHBOUR: 'it returns false'. Refute it at one input. -/
def fnNotchesWrong : ChangeSpec := { name := "fnNotches", fn := fun _ => fun
  | [d] => { results := [.lit (.bool false)], args := [d] }
  | _ => none }
def FnNotchesWrongFalsely : Prop := fnNotchesRow.holds Try.pinned (OpenSpec.ofChange fnNotchesWrong)

/- THE SECOND FORM. 'bulk': how many values and letters a reading holds, each counted each time it is reached (what is shared counts as often as it is met; a slice's spare places count too). A statement '..UptoSaid' is the law's where the arguments, and the package variables that the reading takes, are together of bulk at most 1048576: NARROWER than '..Said'. Prove '..Said' where nothing that the law and all that it calls make is longer than what came in: it says more and counts as full. Else prove '..UptoSaid'. A law counts once. -/
mutual
def uptoBulk {H : Type} : DataW H → Nat
  | .lit (.string bytes) => bytes.length + 1
  | .lit _ => 1
  | .nil => 1
  | .ptr d => uptoBulk d + 1
  | .slice elems spare => uptoBulkAll elems + uptoBulkAll spare + 1
  | .agg parts => uptoBulkAll parts + 1
  | .iface _ d => uptoBulk d + 1
  | .map entries => uptoBulkEntries entries + 1
  | .held _ => 1
def uptoBulkAll {H : Type} : List (DataW H) → Nat
  | [] => 0
  | d :: r => uptoBulk d + uptoBulkAll r
def uptoBulkEntries {H : Type} : List (Lit × DataW H) → Nat
  | [] => 0
  | x :: r => uptoBulkEntry x + uptoBulkEntries r
def uptoBulkEntry {H : Type} : Lit × DataW H → Nat
  | (.string bytes, d) => bytes.length + uptoBulk d + 1
  | (_, d) => uptoBulk d + 1
 end
def uptoSmall : (H : Type) → List (DataW H) → Bool := fun _ ds => decide (uptoBulkAll ds ≤ 1048576)
def OpenSpec.upto (s : _root_.Go.ChangeSpec) : _root_.Go.OpenSpec := { _root_.Go.OpenSpec.ofChange s with cond := some uptoSmall }

/-- 'laws.FnExactFewestWithin', WHERE WHAT IT READS IS OF BULK AT MOST 1048576: true; the input reads as it did. -/
def fnExactFewestWithinUptoRow : OpenClaim := { program := "ytokoallbhbgkkaa", sum := "5e3a5cc36a01f72a213a1aae0507f8173459612f096911dc989c87d31309864d", func := "loop.example/g01043/laws.FnExactFewestWithin", spec := "fnExactFewestWithin", apart := false, narrowed := true }
def FnExactFewestWithinUptoSaid : Prop := fnExactFewestWithinUptoRow.holds Try.pinned (OpenSpec.upto fnExactFewestWithinSpec)

/-- 'laws.FnExactBuildUpFor', WHERE WHAT IT READS IS OF BULK AT MOST 1048576: true; the input reads as it did. -/
def fnExactBuildUpForUptoRow : OpenClaim := { program := "ytokoallbhbgkkaa", sum := "5e3a5cc36a01f72a213a1aae0507f8173459612f096911dc989c87d31309864d", func := "loop.example/g01043/laws.FnExactBuildUpFor", spec := "fnExactBuildUpFor", unfollowed := true, recurses := true, apart := false, narrowed := true }
def FnExactBuildUpForUptoSaid : Prop := fnExactBuildUpForUptoRow.holds Try.pinned (OpenSpec.upto fnExactBuildUpForSpec)

/-- 'laws.FnBuildCounts', WHERE WHAT IT READS IS OF BULK AT MOST 1048576: true; the input reads as it did. -/
def fnBuildCountsUptoRow : OpenClaim := { program := "ytokoallbhbgkkaa", sum := "5e3a5cc36a01f72a213a1aae0507f8173459612f096911dc989c87d31309864d", func := "loop.example/g01043/laws.FnBuildCounts", spec := "fnBuildCounts", unfollowed := true, recurses := true, apart := false, narrowed := true }
def FnBuildCountsUptoSaid : Prop := fnBuildCountsUptoRow.holds Try.pinned (OpenSpec.upto fnBuildCountsSpec)

/-- 'laws.FnBuilds', WHERE WHAT IT READS IS OF BULK AT MOST 1048576: true; the input reads as it did. -/
def fnBuildsUptoRow : OpenClaim := { program := "ytokoallbhbgkkaa", sum := "5e3a5cc36a01f72a213a1aae0507f8173459612f096911dc989c87d31309864d", func := "loop.example/g01043/laws.FnBuilds", spec := "fnBuilds", apart := false, narrowed := true }
def FnBuildsUptoSaid : Prop := fnBuildsUptoRow.holds Try.pinned (OpenSpec.upto fnBuildsSpec)

/-- 'laws.FnBuildUps', WHERE WHAT IT READS IS OF BULK AT MOST 1048576: true; the input reads as it did. -/
def fnBuildUpsUptoRow : OpenClaim := { program := "ytokoallbhbgkkaa", sum := "5e3a5cc36a01f72a213a1aae0507f8173459612f096911dc989c87d31309864d", func := "loop.example/g01043/laws.FnBuildUps", spec := "fnBuildUps", unfollowed := true, recurses := true, apart := false, narrowed := true }
def FnBuildUpsUptoSaid : Prop := fnBuildUpsUptoRow.holds Try.pinned (OpenSpec.upto fnBuildUpsSpec)

/-- 'laws.FnGrowth', WHERE WHAT IT READS IS OF BULK AT MOST 1048576: true; the input reads as it did. -/
def fnGrowthUptoRow : OpenClaim := { program := "ytokoallbhbgkkaa", sum := "5e3a5cc36a01f72a213a1aae0507f8173459612f096911dc989c87d31309864d", func := "loop.example/g01043/laws.FnGrowth", spec := "fnGrowth", unfollowed := true, recurses := true, apart := false, narrowed := true }
def FnGrowthUptoSaid : Prop := fnGrowthUptoRow.holds Try.pinned (OpenSpec.upto fnGrowthSpec)

/-- 'laws.FnNotches', WHERE WHAT IT READS IS OF BULK AT MOST 1048576: true; the input reads as it did. -/
def fnNotchesUptoRow : OpenClaim := { program := "ytokoallbhbgkkaa", sum := "5e3a5cc36a01f72a213a1aae0507f8173459612f096911dc989c87d31309864d", func := "loop.example/g01043/laws.FnNotches", spec := "fnNotches", unfollowed := true, recurses := true, apart := false, narrowed := true }
def FnNotchesUptoSaid : Prop := fnNotchesUptoRow.holds Try.pinned (OpenSpec.upto fnNotchesSpec)

end Rows
end Go.Proofs.Ytokoallbhbgkkaa
