/-
  No cell of these rows narrows 'for every input' (looked for: loops, veiled, ifaces, maps, wideKeys, modest, calm, conditions, laid).
  DERIVED. THE GIVEN ROWS OF THIS SEAT. 5 by the template 'for every input the law returns true; each argument reads behind the call as it read before'; 0 by the template 'total and deterministic' (their statements: YtlaclknhenccdaaTotals.lean).
  GIVEN WITH THE SEED: the statements are not yours to turn. If you find one false, say at which input.
  Laid BY PROGRAM, IN A SANDBOX (cutbox-rows.mjs): the forced cells as the released guide's own fill.sh prints them over the translation ea20fc7c44dbfc3d… (all of the seat's roots in one cut). By AI agents, Wed Nov 11 2026. No macro, syntax, notation, axiom, sorry.
-/
import Derived.Test.YtlaclknhenccdaaChecked
import GoSem.Claim
import GoSem.ClaimJoined
import GoSem.ClaimMapViews
import Derived.JoinedTies
import Derived.KernelRfl
namespace Go.Proofs.Ytlaclknhenccdaa
/- THE CELL 'sum', in the pinned program and in every row, IS THE sha256 OF THE DUMP (.gsa) THAT YtlaclknhenccdaaProg.lean LOADS. Nothing in Lean hashes anything: it is a label: what it is worth is what the hold of that sum in a sandbox is worth. -/
noncomputable def Try.pinned : Pinned := { name := "ytlaclknhenccdaa", sum := "ea20fc7c44dbfc3d869a5513870e60dfab91ada9e75dc1f8292282a82eb6b860", checked := Try.checked }
namespace Rows
def none {H : Type} : Left H := { results := [], args := [] }

/-- 'laws.FnSeamGrades': WHATEVER THE INPUT: true; the input reads as it did. -/
def fnSeamGradesSpec : ChangeSpec := { name := "fnSeamGrades", fn := fun _ => fun
  | [d] => { results := [.lit (.bool true)], args := [d] }
  | _ => none }
def fnSeamGradesRow : OpenClaim := { program := "ytlaclknhenccdaa", sum := "ea20fc7c44dbfc3d869a5513870e60dfab91ada9e75dc1f8292282a82eb6b860", func := "loop.example/g01043/laws.FnSeamGrades", spec := "fnSeamGrades", unfollowed := true, recurses := true, apart := false }
def FnSeamGradesSaid : Prop := fnSeamGradesRow.holds Try.pinned (OpenSpec.ofChange fnSeamGradesSpec)

/-- ITS FALSE NEIGHBOUR: 'it returns false'. Refute it at one input. -/
def fnSeamGradesWrong : ChangeSpec := { name := "fnSeamGrades", fn := fun _ => fun
  | [d] => { results := [.lit (.bool false)], args := [d] }
  | _ => none }
def FnSeamGradesWrongFalsely : Prop := fnSeamGradesRow.holds Try.pinned (OpenSpec.ofChange fnSeamGradesWrong)

/-- 'laws.FnConversions': WHATEVER THE INPUT: true; the input reads as it did. -/
def fnConversionsSpec : ChangeSpec := { name := "fnConversions", fn := fun _ => fun
  | [d] => { results := [.lit (.bool true)], args := [d] }
  | _ => none }
def fnConversionsRow : OpenClaim := { program := "ytlaclknhenccdaa", sum := "ea20fc7c44dbfc3d869a5513870e60dfab91ada9e75dc1f8292282a82eb6b860", func := "loop.example/g01043/laws.FnConversions", spec := "fnConversions", apart := false }
def FnConversionsSaid : Prop := fnConversionsRow.holds Try.pinned (OpenSpec.ofChange fnConversionsSpec)

/-- ITS FALSE NEIGHBOUR: 'it returns false'. Refute it at one input. -/
def fnConversionsWrong : ChangeSpec := { name := "fnConversions", fn := fun _ => fun
  | [d] => { results := [.lit (.bool false)], args := [d] }
  | _ => none }
def FnConversionsWrongFalsely : Prop := fnConversionsRow.holds Try.pinned (OpenSpec.ofChange fnConversionsWrong)

/-- 'laws.FnMiddles': WHATEVER THE INPUT: true; the input reads as it did. -/
def fnMiddlesSpec : ChangeSpec := { name := "fnMiddles", fn := fun _ => fun
  | [d1, d2] => { results := [.lit (.bool true)], args := [d1, d2] }
  | _ => none }
def fnMiddlesRow : OpenClaim := { program := "ytlaclknhenccdaa", sum := "ea20fc7c44dbfc3d869a5513870e60dfab91ada9e75dc1f8292282a82eb6b860", func := "loop.example/g01043/laws.FnMiddles", spec := "fnMiddles", unfollowed := true, recurses := true, apart := false }
def FnMiddlesSaid : Prop := fnMiddlesRow.holds Try.pinned (OpenSpec.ofChange fnMiddlesSpec)

/-- ITS FALSE NEIGHBOUR: 'it returns false'. Refute it at one input. -/
def fnMiddlesWrong : ChangeSpec := { name := "fnMiddles", fn := fun _ => fun
  | [d1, d2] => { results := [.lit (.bool false)], args := [d1, d2] }
  | _ => none }
def FnMiddlesWrongFalsely : Prop := fnMiddlesRow.holds Try.pinned (OpenSpec.ofChange fnMiddlesWrong)

/-- 'laws.FnRankedLasts': WHATEVER THE INPUT: true; the input reads as it did. -/
def fnRankedLastsSpec : ChangeSpec := { name := "fnRankedLasts", fn := fun _ => fun
  | [d1, d2] => { results := [.lit (.bool true)], args := [d1, d2] }
  | _ => none }
def fnRankedLastsRow : OpenClaim := { program := "ytlaclknhenccdaa", sum := "ea20fc7c44dbfc3d869a5513870e60dfab91ada9e75dc1f8292282a82eb6b860", func := "loop.example/g01043/laws.FnRankedLasts", spec := "fnRankedLasts", unfollowed := true, recurses := true, apart := false }
def FnRankedLastsSaid : Prop := fnRankedLastsRow.holds Try.pinned (OpenSpec.ofChange fnRankedLastsSpec)

/-- ITS FALSE NEIGHBOUR: 'it returns false'. Refute it at one input. -/
def fnRankedLastsWrong : ChangeSpec := { name := "fnRankedLasts", fn := fun _ => fun
  | [d1, d2] => { results := [.lit (.bool false)], args := [d1, d2] }
  | _ => none }
def FnRankedLastsWrongFalsely : Prop := fnRankedLastsRow.holds Try.pinned (OpenSpec.ofChange fnRankedLastsWrong)

/-- 'laws.FnHulls': WHATEVER THE INPUT: true; the input reads as it did. -/
def fnHullsSpec : ChangeSpec := { name := "fnHulls", fn := fun _ => fun
  | [d] => { results := [.lit (.bool true)], args := [d] }
  | _ => none }
def fnHullsRow : OpenClaim := { program := "ytlaclknhenccdaa", sum := "ea20fc7c44dbfc3d869a5513870e60dfab91ada9e75dc1f8292282a82eb6b860", func := "loop.example/g01043/laws.FnHulls", spec := "fnHulls", unfollowed := true, recurses := true, apart := false }
def FnHullsSaid : Prop := fnHullsRow.holds Try.pinned (OpenSpec.ofChange fnHullsSpec)

/-- ITS FALSE NEIGHBOUR: 'it returns false'. Refute it at one input. -/
def fnHullsWrong : ChangeSpec := { name := "fnHulls", fn := fun _ => fun
  | [d] => { results := [.lit (.bool false)], args := [d] }
  | _ => none }
def FnHullsWrongFalsely : Prop := fnHullsRow.holds Try.pinned (OpenSpec.ofChange fnHullsWrong)

/- THE SECOND FORM. 'bulk': how many values and letters a reading holds, each counted each time it is reached (what is shared counts as often as it is met; a slice's spare places count too). A statement '..UptoSaid' is the law's where the arguments, and the package variables that the reading takes, are together of bulk at most 1048576: NARROWER than '..Said'. Prove '..Said' where nothing that the law and all that it calls make is longer than what came in: it says more and counts as full. Else prove '..UptoSaid'. A law counts once. -/
mutual
def uptoBulk {H : Type} : DataW H → Nat
  | .lit (.string bytes) => bytes.length + 1
  | .lit _ => 1
  | .nil => 1
  | .ptr d => uptoBulk d + 1
  | .slice elems spare => uptoBulkAll elems + uptoBulkAll spare + 1
  | .agg parts => uptoBulkAll parts + 1
  | .iface _ d => uptoBulk d + 1
  | .map entries => uptoBulkEntries entries + 1
  | .held _ => 1
def uptoBulkAll {H : Type} : List (DataW H) → Nat
  | [] => 0
  | d :: r => uptoBulk d + uptoBulkAll r
def uptoBulkEntries {H : Type} : List (Lit × DataW H) → Nat
  | [] => 0
  | x :: r => uptoBulkEntry x + uptoBulkEntries r
def uptoBulkEntry {H : Type} : Lit × DataW H → Nat
  | (.string bytes, d) => bytes.length + uptoBulk d + 1
  | (_, d) => uptoBulk d + 1
 end
def uptoSmall : (H : Type) → List (DataW H) → Bool := fun _ ds => decide (uptoBulkAll ds ≤ 1048576)
def OpenSpec.upto (s : _root_.Go.ChangeSpec) : _root_.Go.OpenSpec := { _root_.Go.OpenSpec.ofChange s with cond := some uptoSmall }

/-- 'laws.FnSeamGrades', WHERE WHAT IT READS IS OF BULK AT MOST 1048576: true; the input reads as it did. -/
def fnSeamGradesUptoRow : OpenClaim := { program := "ytlaclknhenccdaa", sum := "ea20fc7c44dbfc3d869a5513870e60dfab91ada9e75dc1f8292282a82eb6b860", func := "loop.example/g01043/laws.FnSeamGrades", spec := "fnSeamGrades", unfollowed := true, recurses := true, apart := false, narrowed := true }
def FnSeamGradesUptoSaid : Prop := fnSeamGradesUptoRow.holds Try.pinned (OpenSpec.upto fnSeamGradesSpec)

/-- 'laws.FnConversions', WHERE WHAT IT READS IS OF BULK AT MOST 1048576: true; the input reads as it did. -/
def fnConversionsUptoRow : OpenClaim := { program := "ytlaclknhenccdaa", sum := "ea20fc7c44dbfc3d869a5513870e60dfab91ada9e75dc1f8292282a82eb6b860", func := "loop.example/g01043/laws.FnConversions", spec := "fnConversions", apart := false, narrowed := true }
def FnConversionsUptoSaid : Prop := fnConversionsUptoRow.holds Try.pinned (OpenSpec.upto fnConversionsSpec)

/-- 'laws.FnMiddles', WHERE WHAT IT READS IS OF BULK AT MOST 1048576: true; the input reads as it did. -/
def fnMiddlesUptoRow : OpenClaim := { program := "ytlaclknhenccdaa", sum := "ea20fc7c44dbfc3d869a5513870e60dfab91ada9e75dc1f8292282a82eb6b860", func := "loop.example/g01043/laws.FnMiddles", spec := "fnMiddles", unfollowed := true, recurses := true, apart := false, narrowed := true }
def FnMiddlesUptoSaid : Prop := fnMiddlesUptoRow.holds Try.pinned (OpenSpec.upto fnMiddlesSpec)

/-- 'laws.FnRankedLasts', WHERE WHAT IT READS IS OF BULK AT MOST 1048576: true; the input reads as it did. -/
def fnRankedLastsUptoRow : OpenClaim := { program := "ytlaclknhenccdaa", sum := "ea20fc7c44dbfc3d869a5513870e60dfab91ada9e75dc1f8292282a82eb6b860", func := "loop.example/g01043/laws.FnRankedLasts", spec := "fnRankedLasts", unfollowed := true, recurses := true, apart := false, narrowed := true }
def FnRankedLastsUptoSaid : Prop := fnRankedLastsUptoRow.holds Try.pinned (OpenSpec.upto fnRankedLastsSpec)

/-- 'laws.FnHulls', WHERE WHAT IT READS IS OF BULK AT MOST 1048576: true; the input reads as it did. -/
def fnHullsUptoRow : OpenClaim := { program := "ytlaclknhenccdaa", sum := "ea20fc7c44dbfc3d869a5513870e60dfab91ada9e75dc1f8292282a82eb6b860", func := "loop.example/g01043/laws.FnHulls", spec := "fnHulls", unfollowed := true, recurses := true, apart := false, narrowed := true }
def FnHullsUptoSaid : Prop := fnHullsUptoRow.holds Try.pinned (OpenSpec.upto fnHullsSpec)

end Rows
end Go.Proofs.Ytlaclknhenccdaa
