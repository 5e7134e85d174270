/-
  No cell of these rows narrows 'for every input' (looked for: loops, veiled, ifaces, maps, wideKeys, modest, calm, conditions, laid).
  DERIVED. THE GIVEN ROWS OF THIS SEAT. 7 by the template 'for every input the law returns true; each argument reads behind the call as it read before'; 0 by the template 'total and deterministic' (their statements: YtakjfpdcnfmffaaTotals.lean).
  GIVEN WITH THE SEED: the statements are not yours to turn. If you find one false, say at which input.
  Laid BY PROGRAM, IN A SANDBOX (cutbox-rows.mjs): the forced cells as the released guide's own fill.sh prints them over the translation 429fe8e2657a40be… (all of the seat's roots in one cut). By AI agents, Wed Nov 11 2026. No macro, syntax, notation, axiom, sorry.
-/
import Derived.Test.YtakjfpdcnfmffaaChecked
import GoSem.Claim
import GoSem.ClaimJoined
import GoSem.ClaimMapViews
import Derived.JoinedTies
import Derived.KernelRfl
namespace Go.Proofs.Ytakjfpdcnfmffaa
/- THE CELL 'sum', in the pinned program and in every row, IS THE sha256 OF THE DUMP (.gsa) THAT YtakjfpdcnfmffaaProg.lean LOADS. Nothing in Lean hashes anything: it is a label: what it is worth is what the hold of that sum in a sandbox is worth. -/
noncomputable def Try.pinned : Pinned := { name := "ytakjfpdcnfmffaa", sum := "429fe8e2657a40be0261d218b10191a47710b6422f0e39528723bcce6a1e373b", checked := Try.checked }
namespace Rows
def none {H : Type} : Left H := { results := [], args := [] }

/-- 'laws.FnExactSameOutline': WHATEVER THE INPUT: true; the input reads as it did. -/
def fnExactSameOutlineSpec : ChangeSpec := { name := "fnExactSameOutline", fn := fun _ => fun
  | [d1, d2] => { results := [.lit (.bool true)], args := [d1, d2] }
  | _ => none }
def fnExactSameOutlineRow : OpenClaim := { program := "ytakjfpdcnfmffaa", sum := "429fe8e2657a40be0261d218b10191a47710b6422f0e39528723bcce6a1e373b", func := "loop.example/g01043/laws.FnExactSameOutline", spec := "fnExactSameOutline", apart := false }
def FnExactSameOutlineSaid : Prop := fnExactSameOutlineRow.holds Try.pinned (OpenSpec.ofChange fnExactSameOutlineSpec)

/-- ITS FALSE NEIGHBOUR: 'it returns false'. Refute it at one input. -/
def fnExactSameOutlineWrong : ChangeSpec := { name := "fnExactSameOutline", fn := fun _ => fun
  | [d1, d2] => { results := [.lit (.bool false)], args := [d1, d2] }
  | _ => none }
def FnExactSameOutlineWrongFalsely : Prop := fnExactSameOutlineRow.holds Try.pinned (OpenSpec.ofChange fnExactSameOutlineWrong)

/-- 'laws.FnExactSameStrips': WHATEVER THE INPUT: true; the input reads as it did. -/
def fnExactSameStripsSpec : ChangeSpec := { name := "fnExactSameStrips", fn := fun _ => fun
  | [d1, d2] => { results := [.lit (.bool true)], args := [d1, d2] }
  | _ => none }
def fnExactSameStripsRow : OpenClaim := { program := "ytakjfpdcnfmffaa", sum := "429fe8e2657a40be0261d218b10191a47710b6422f0e39528723bcce6a1e373b", func := "loop.example/g01043/laws.FnExactSameStrips", spec := "fnExactSameStrips", apart := false }
def FnExactSameStripsSaid : Prop := fnExactSameStripsRow.holds Try.pinned (OpenSpec.ofChange fnExactSameStripsSpec)

/-- ITS FALSE NEIGHBOUR: 'it returns false'. Refute it at one input. -/
def fnExactSameStripsWrong : ChangeSpec := { name := "fnExactSameStrips", fn := fun _ => fun
  | [d1, d2] => { results := [.lit (.bool false)], args := [d1, d2] }
  | _ => none }
def FnExactSameStripsWrongFalsely : Prop := fnExactSameStripsRow.holds Try.pinned (OpenSpec.ofChange fnExactSameStripsWrong)

/-- 'laws.FnExactFoldLength': WHATEVER THE INPUT: true; the input reads as it did. -/
def fnExactFoldLengthSpec : ChangeSpec := { name := "fnExactFoldLength", fn := fun _ => fun
  | [d1, d2, d3] => { results := [.lit (.bool true)], args := [d1, d2, d3] }
  | _ => none }
def fnExactFoldLengthRow : OpenClaim := { program := "ytakjfpdcnfmffaa", sum := "429fe8e2657a40be0261d218b10191a47710b6422f0e39528723bcce6a1e373b", func := "loop.example/g01043/laws.FnExactFoldLength", spec := "fnExactFoldLength", unfollowed := true, recurses := true, apart := false }
def FnExactFoldLengthSaid : Prop := fnExactFoldLengthRow.holds Try.pinned (OpenSpec.ofChange fnExactFoldLengthSpec)

/-- ITS FALSE NEIGHBOUR: 'it returns false'. Refute it at one input. -/
def fnExactFoldLengthWrong : ChangeSpec := { name := "fnExactFoldLength", fn := fun _ => fun
  | [d1, d2, d3] => { results := [.lit (.bool false)], args := [d1, d2, d3] }
  | _ => none }
def FnExactFoldLengthWrongFalsely : Prop := fnExactFoldLengthRow.holds Try.pinned (OpenSpec.ofChange fnExactFoldLengthWrong)

/-- 'laws.FnExactValidCuts': WHATEVER THE INPUT: true; the input reads as it did. -/
def fnExactValidCutsSpec : ChangeSpec := { name := "fnExactValidCuts", fn := fun _ => fun
  | [d] => { results := [.lit (.bool true)], args := [d] }
  | _ => none }
def fnExactValidCutsRow : OpenClaim := { program := "ytakjfpdcnfmffaa", sum := "429fe8e2657a40be0261d218b10191a47710b6422f0e39528723bcce6a1e373b", func := "loop.example/g01043/laws.FnExactValidCuts", spec := "fnExactValidCuts", unfollowed := true, recurses := true, apart := false }
def FnExactValidCutsSaid : Prop := fnExactValidCutsRow.holds Try.pinned (OpenSpec.ofChange fnExactValidCutsSpec)

/-- ITS FALSE NEIGHBOUR: 'it returns false'. Refute it at one input. -/
def fnExactValidCutsWrong : ChangeSpec := { name := "fnExactValidCuts", fn := fun _ => fun
  | [d] => { results := [.lit (.bool false)], args := [d] }
  | _ => none }
def FnExactValidCutsWrongFalsely : Prop := fnExactValidCutsRow.holds Try.pinned (OpenSpec.ofChange fnExactValidCutsWrong)

/-- 'laws.FnExactNotchFault': WHATEVER THE INPUT: true; the input reads as it did. -/
def fnExactNotchFaultSpec : ChangeSpec := { name := "fnExactNotchFault", fn := fun _ => fun
  | [d1, d2, d3, d4, d5] => { results := [.lit (.bool true)], args := [d1, d2, d3, d4, d5] }
  | _ => none }
def fnExactNotchFaultRow : OpenClaim := { program := "ytakjfpdcnfmffaa", sum := "429fe8e2657a40be0261d218b10191a47710b6422f0e39528723bcce6a1e373b", func := "loop.example/g01043/laws.FnExactNotchFault", spec := "fnExactNotchFault", apart := false }
def FnExactNotchFaultSaid : Prop := fnExactNotchFaultRow.holds Try.pinned (OpenSpec.ofChange fnExactNotchFaultSpec)

/-- ITS FALSE NEIGHBOUR: 'it returns false'. Refute it at one input. -/
def fnExactNotchFaultWrong : ChangeSpec := { name := "fnExactNotchFault", fn := fun _ => fun
  | [d1, d2, d3, d4, d5] => { results := [.lit (.bool false)], args := [d1, d2, d3, d4, d5] }
  | _ => none }
def FnExactNotchFaultWrongFalsely : Prop := fnExactNotchFaultRow.holds Try.pinned (OpenSpec.ofChange fnExactNotchFaultWrong)

/-- 'laws.FnExactValidStrips': WHATEVER THE INPUT: true; the input reads as it did. -/
def fnExactValidStripsSpec : ChangeSpec := { name := "fnExactValidStrips", fn := fun _ => fun
  | [d] => { results := [.lit (.bool true)], args := [d] }
  | _ => none }
def fnExactValidStripsRow : OpenClaim := { program := "ytakjfpdcnfmffaa", sum := "429fe8e2657a40be0261d218b10191a47710b6422f0e39528723bcce6a1e373b", func := "loop.example/g01043/laws.FnExactValidStrips", spec := "fnExactValidStrips", unfollowed := true, recurses := true, apart := false }
def FnExactValidStripsSaid : Prop := fnExactValidStripsRow.holds Try.pinned (OpenSpec.ofChange fnExactValidStripsSpec)

/-- ITS FALSE NEIGHBOUR: 'it returns false'. Refute it at one input. -/
def fnExactValidStripsWrong : ChangeSpec := { name := "fnExactValidStrips", fn := fun _ => fun
  | [d] => { results := [.lit (.bool false)], args := [d] }
  | _ => none }
def FnExactValidStripsWrongFalsely : Prop := fnExactValidStripsRow.holds Try.pinned (OpenSpec.ofChange fnExactValidStripsWrong)

/-- 'laws.FnExactNotchesOf': WHATEVER THE INPUT: true; the input reads as it did. -/
def fnExactNotchesOfSpec : ChangeSpec := { name := "fnExactNotchesOf", fn := fun _ => fun
  | [d1, d2] => { results := [.lit (.bool true)], args := [d1, d2] }
  | _ => none }
def fnExactNotchesOfRow : OpenClaim := { program := "ytakjfpdcnfmffaa", sum := "429fe8e2657a40be0261d218b10191a47710b6422f0e39528723bcce6a1e373b", func := "loop.example/g01043/laws.FnExactNotchesOf", spec := "fnExactNotchesOf", apart := false }
def FnExactNotchesOfSaid : Prop := fnExactNotchesOfRow.holds Try.pinned (OpenSpec.ofChange fnExactNotchesOfSpec)

/-- ITS FALSE NEIGHBOUR: 'it returns false'. Refute it at one input. -/
def fnExactNotchesOfWrong : ChangeSpec := { name := "fnExactNotchesOf", fn := fun _ => fun
  | [d1, d2] => { results := [.lit (.bool false)], args := [d1, d2] }
  | _ => none }
def FnExactNotchesOfWrongFalsely : Prop := fnExactNotchesOfRow.holds Try.pinned (OpenSpec.ofChange fnExactNotchesOfWrong)

/- THE SECOND FORM. 'bulk': how many values and letters a reading holds, each counted each time it is reached (what is shared counts as often as it is met; a slice's spare places count too). A statement '..UptoSaid' is the law's where the arguments, and the package variables that the reading takes, are together of bulk at most 1048576: NARROWER than '..Said'. Prove '..Said' where nothing that the law and all that it calls make is longer than what came in: it says more and counts as full. Else prove '..UptoSaid'. A law counts once. -/
mutual
def uptoBulk {H : Type} : DataW H → Nat
  | .lit (.string bytes) => bytes.length + 1
  | .lit _ => 1
  | .nil => 1
  | .ptr d => uptoBulk d + 1
  | .slice elems spare => uptoBulkAll elems + uptoBulkAll spare + 1
  | .agg parts => uptoBulkAll parts + 1
  | .iface _ d => uptoBulk d + 1
  | .map entries => uptoBulkEntries entries + 1
  | .held _ => 1
def uptoBulkAll {H : Type} : List (DataW H) → Nat
  | [] => 0
  | d :: r => uptoBulk d + uptoBulkAll r
def uptoBulkEntries {H : Type} : List (Lit × DataW H) → Nat
  | [] => 0
  | x :: r => uptoBulkEntry x + uptoBulkEntries r
def uptoBulkEntry {H : Type} : Lit × DataW H → Nat
  | (.string bytes, d) => bytes.length + uptoBulk d + 1
  | (_, d) => uptoBulk d + 1
 end
def uptoSmall : (H : Type) → List (DataW H) → Bool := fun _ ds => decide (uptoBulkAll ds ≤ 1048576)
def OpenSpec.upto (s : _root_.Go.ChangeSpec) : _root_.Go.OpenSpec := { _root_.Go.OpenSpec.ofChange s with cond := some uptoSmall }

/-- 'laws.FnExactSameOutline', WHERE WHAT IT READS IS OF BULK AT MOST 1048576: true; the input reads as it did. -/
def fnExactSameOutlineUptoRow : OpenClaim := { program := "ytakjfpdcnfmffaa", sum := "429fe8e2657a40be0261d218b10191a47710b6422f0e39528723bcce6a1e373b", func := "loop.example/g01043/laws.FnExactSameOutline", spec := "fnExactSameOutline", apart := false, narrowed := true }
def FnExactSameOutlineUptoSaid : Prop := fnExactSameOutlineUptoRow.holds Try.pinned (OpenSpec.upto fnExactSameOutlineSpec)

/-- 'laws.FnExactSameStrips', WHERE WHAT IT READS IS OF BULK AT MOST 1048576: true; the input reads as it did. -/
def fnExactSameStripsUptoRow : OpenClaim := { program := "ytakjfpdcnfmffaa", sum := "429fe8e2657a40be0261d218b10191a47710b6422f0e39528723bcce6a1e373b", func := "loop.example/g01043/laws.FnExactSameStrips", spec := "fnExactSameStrips", apart := false, narrowed := true }
def FnExactSameStripsUptoSaid : Prop := fnExactSameStripsUptoRow.holds Try.pinned (OpenSpec.upto fnExactSameStripsSpec)

/-- 'laws.FnExactFoldLength', WHERE WHAT IT READS IS OF BULK AT MOST 1048576: true; the input reads as it did. -/
def fnExactFoldLengthUptoRow : OpenClaim := { program := "ytakjfpdcnfmffaa", sum := "429fe8e2657a40be0261d218b10191a47710b6422f0e39528723bcce6a1e373b", func := "loop.example/g01043/laws.FnExactFoldLength", spec := "fnExactFoldLength", unfollowed := true, recurses := true, apart := false, narrowed := true }
def FnExactFoldLengthUptoSaid : Prop := fnExactFoldLengthUptoRow.holds Try.pinned (OpenSpec.upto fnExactFoldLengthSpec)

/-- 'laws.FnExactValidCuts', WHERE WHAT IT READS IS OF BULK AT MOST 1048576: true; the input reads as it did. -/
def fnExactValidCutsUptoRow : OpenClaim := { program := "ytakjfpdcnfmffaa", sum := "429fe8e2657a40be0261d218b10191a47710b6422f0e39528723bcce6a1e373b", func := "loop.example/g01043/laws.FnExactValidCuts", spec := "fnExactValidCuts", unfollowed := true, recurses := true, apart := false, narrowed := true }
def FnExactValidCutsUptoSaid : Prop := fnExactValidCutsUptoRow.holds Try.pinned (OpenSpec.upto fnExactValidCutsSpec)

/-- 'laws.FnExactNotchFault', WHERE WHAT IT READS IS OF BULK AT MOST 1048576: true; the input reads as it did. -/
def fnExactNotchFaultUptoRow : OpenClaim := { program := "ytakjfpdcnfmffaa", sum := "429fe8e2657a40be0261d218b10191a47710b6422f0e39528723bcce6a1e373b", func := "loop.example/g01043/laws.FnExactNotchFault", spec := "fnExactNotchFault", apart := false, narrowed := true }
def FnExactNotchFaultUptoSaid : Prop := fnExactNotchFaultUptoRow.holds Try.pinned (OpenSpec.upto fnExactNotchFaultSpec)

/-- 'laws.FnExactValidStrips', WHERE WHAT IT READS IS OF BULK AT MOST 1048576: true; the input reads as it did. -/
def fnExactValidStripsUptoRow : OpenClaim := { program := "ytakjfpdcnfmffaa", sum := "429fe8e2657a40be0261d218b10191a47710b6422f0e39528723bcce6a1e373b", func := "loop.example/g01043/laws.FnExactValidStrips", spec := "fnExactValidStrips", unfollowed := true, recurses := true, apart := false, narrowed := true }
def FnExactValidStripsUptoSaid : Prop := fnExactValidStripsUptoRow.holds Try.pinned (OpenSpec.upto fnExactValidStripsSpec)

/-- 'laws.FnExactNotchesOf', WHERE WHAT IT READS IS OF BULK AT MOST 1048576: true; the input reads as it did. -/
def fnExactNotchesOfUptoRow : OpenClaim := { program := "ytakjfpdcnfmffaa", sum := "429fe8e2657a40be0261d218b10191a47710b6422f0e39528723bcce6a1e373b", func := "loop.example/g01043/laws.FnExactNotchesOf", spec := "fnExactNotchesOf", apart := false, narrowed := true }
def FnExactNotchesOfUptoSaid : Prop := fnExactNotchesOfUptoRow.holds Try.pinned (OpenSpec.upto fnExactNotchesOfSpec)

end Rows
end Go.Proofs.Ytakjfpdcnfmffaa
