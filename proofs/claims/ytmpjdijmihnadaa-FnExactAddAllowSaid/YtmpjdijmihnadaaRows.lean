/-
  No cell of these rows narrows 'for every input' (looked for: loops, veiled, ifaces, maps, wideKeys, modest, calm, conditions, laid).
  DERIVED. THE GIVEN ROWS OF THIS SEAT. 6 by the template 'for every input the law returns true; each argument reads behind the call as it read before'; 0 by the template 'total and deterministic' (their statements: YtmpjdijmihnadaaTotals.lean).
  GIVEN WITH THE SEED: the statements are not yours to turn. If you find one false, say at which input.
  Laid BY PROGRAM, IN A SANDBOX (cutbox-rows.mjs): the forced cells as the released guide's own fill.sh prints them over the translation cfe3aaca3a0cf9a1… (all of the seat's roots in one cut). By AI agents, Wed Nov 11 2026. No macro, syntax, notation, axiom, sorry.
-/
import Derived.Test.YtmpjdijmihnadaaChecked
import GoSem.Claim
import GoSem.ClaimJoined
import GoSem.ClaimMapViews
import Derived.JoinedTies
import Derived.KernelRfl
namespace Go.Proofs.Ytmpjdijmihnadaa
/- THE CELL 'sum', in the pinned program and in every row, IS THE sha256 OF THE DUMP (.gsa) THAT YtmpjdijmihnadaaProg.lean LOADS. Nothing in Lean hashes anything: it is a label: what it is worth is what the hold of that sum in a sandbox is worth. -/
noncomputable def Try.pinned : Pinned := { name := "ytmpjdijmihnadaa", sum := "cfe3aaca3a0cf9a1622dd0ec3931d22d615ce822a350bd40c7b3528d7d223117", checked := Try.checked }
namespace Rows
def none {H : Type} : Left H := { results := [], args := [] }

/-- 'laws.FnExactAllowArea': WHATEVER THE INPUT: true; the input reads as it did. -/
def fnExactAllowAreaSpec : ChangeSpec := { name := "fnExactAllowArea", fn := fun _ => fun
  | [d] => { results := [.lit (.bool true)], args := [d] }
  | _ => none }
def fnExactAllowAreaRow : OpenClaim := { program := "ytmpjdijmihnadaa", sum := "cfe3aaca3a0cf9a1622dd0ec3931d22d615ce822a350bd40c7b3528d7d223117", func := "loop.example/g01043/laws.FnExactAllowArea", spec := "fnExactAllowArea", unfollowed := true, recurses := true, apart := false }
def FnExactAllowAreaSaid : Prop := fnExactAllowAreaRow.holds Try.pinned (OpenSpec.ofChange fnExactAllowAreaSpec)

/-- ITS FALSE NEIGHBOUR: 'it returns false'. Refute it at one input. -/
def fnExactAllowAreaWrong : ChangeSpec := { name := "fnExactAllowArea", fn := fun _ => fun
  | [d] => { results := [.lit (.bool false)], args := [d] }
  | _ => none }
def FnExactAllowAreaWrongFalsely : Prop := fnExactAllowAreaRow.holds Try.pinned (OpenSpec.ofChange fnExactAllowAreaWrong)

/-- 'laws.FnExactRoundStrips': WHATEVER THE INPUT: true; the input reads as it did. -/
def fnExactRoundStripsSpec : ChangeSpec := { name := "fnExactRoundStrips", fn := fun _ => fun
  | [d] => { results := [.lit (.bool true)], args := [d] }
  | _ => none }
def fnExactRoundStripsRow : OpenClaim := { program := "ytmpjdijmihnadaa", sum := "cfe3aaca3a0cf9a1622dd0ec3931d22d615ce822a350bd40c7b3528d7d223117", func := "loop.example/g01043/laws.FnExactRoundStrips", spec := "fnExactRoundStrips", unfollowed := true, recurses := true, apart := false }
def FnExactRoundStripsSaid : Prop := fnExactRoundStripsRow.holds Try.pinned (OpenSpec.ofChange fnExactRoundStripsSpec)

/-- ITS FALSE NEIGHBOUR: 'it returns false'. Refute it at one input. -/
def fnExactRoundStripsWrong : ChangeSpec := { name := "fnExactRoundStrips", fn := fun _ => fun
  | [d] => { results := [.lit (.bool false)], args := [d] }
  | _ => none }
def FnExactRoundStripsWrongFalsely : Prop := fnExactRoundStripsRow.holds Try.pinned (OpenSpec.ofChange fnExactRoundStripsWrong)

/-- 'laws.FnExactEaseOf': WHATEVER THE INPUT: true; the input reads as it did. -/
def fnExactEaseOfSpec : ChangeSpec := { name := "fnExactEaseOf", fn := fun _ => fun
  | [d1, d2, d3] => { results := [.lit (.bool true)], args := [d1, d2, d3] }
  | _ => none }
def fnExactEaseOfRow : OpenClaim := { program := "ytmpjdijmihnadaa", sum := "cfe3aaca3a0cf9a1622dd0ec3931d22d615ce822a350bd40c7b3528d7d223117", func := "loop.example/g01043/laws.FnExactEaseOf", spec := "fnExactEaseOf", apart := false }
def FnExactEaseOfSaid : Prop := fnExactEaseOfRow.holds Try.pinned (OpenSpec.ofChange fnExactEaseOfSpec)

/-- ITS FALSE NEIGHBOUR: 'it returns false'. Refute it at one input. -/
def fnExactEaseOfWrong : ChangeSpec := { name := "fnExactEaseOf", fn := fun _ => fun
  | [d1, d2, d3] => { results := [.lit (.bool false)], args := [d1, d2, d3] }
  | _ => none }
def FnExactEaseOfWrongFalsely : Prop := fnExactEaseOfRow.holds Try.pinned (OpenSpec.ofChange fnExactEaseOfWrong)

/-- 'laws.FnExactAddAllow': WHATEVER THE INPUT: true; the input reads as it did. -/
def fnExactAddAllowSpec : ChangeSpec := { name := "fnExactAddAllow", fn := fun _ => fun
  | [d1, d2, d3] => { results := [.lit (.bool true)], args := [d1, d2, d3] }
  | _ => none }
def fnExactAddAllowRow : OpenClaim := { program := "ytmpjdijmihnadaa", sum := "cfe3aaca3a0cf9a1622dd0ec3931d22d615ce822a350bd40c7b3528d7d223117", func := "loop.example/g01043/laws.FnExactAddAllow", spec := "fnExactAddAllow", unfollowed := true, recurses := true, apart := false }
def FnExactAddAllowSaid : Prop := fnExactAddAllowRow.holds Try.pinned (OpenSpec.ofChange fnExactAddAllowSpec)

/-- ITS FALSE NEIGHBOUR: 'it returns false'. Refute it at one input. -/
def fnExactAddAllowWrong : ChangeSpec := { name := "fnExactAddAllow", fn := fun _ => fun
  | [d1, d2, d3] => { results := [.lit (.bool false)], args := [d1, d2, d3] }
  | _ => none }
def FnExactAddAllowWrongFalsely : Prop := fnExactAddAllowRow.holds Try.pinned (OpenSpec.ofChange fnExactAddAllowWrong)

/-- 'laws.FnExactCutLengths': WHATEVER THE INPUT: true; the input reads as it did. -/
def fnExactCutLengthsSpec : ChangeSpec := { name := "fnExactCutLengths", fn := fun _ => fun
  | [d] => { results := [.lit (.bool true)], args := [d] }
  | _ => none }
def fnExactCutLengthsRow : OpenClaim := { program := "ytmpjdijmihnadaa", sum := "cfe3aaca3a0cf9a1622dd0ec3931d22d615ce822a350bd40c7b3528d7d223117", func := "loop.example/g01043/laws.FnExactCutLengths", spec := "fnExactCutLengths", unfollowed := true, recurses := true, apart := false }
def FnExactCutLengthsSaid : Prop := fnExactCutLengthsRow.holds Try.pinned (OpenSpec.ofChange fnExactCutLengthsSpec)

/-- ITS FALSE NEIGHBOUR: 'it returns false'. Refute it at one input. -/
def fnExactCutLengthsWrong : ChangeSpec := { name := "fnExactCutLengths", fn := fun _ => fun
  | [d] => { results := [.lit (.bool false)], args := [d] }
  | _ => none }
def FnExactCutLengthsWrongFalsely : Prop := fnExactCutLengthsRow.holds Try.pinned (OpenSpec.ofChange fnExactCutLengthsWrong)

/-- 'laws.FnNotches': WHATEVER THE INPUT: true; the input reads as it did. -/
def fnNotchesSpec : ChangeSpec := { name := "fnNotches", fn := fun _ => fun
  | [d] => { results := [.lit (.bool true)], args := [d] }
  | _ => none }
def fnNotchesRow : OpenClaim := { program := "ytmpjdijmihnadaa", sum := "cfe3aaca3a0cf9a1622dd0ec3931d22d615ce822a350bd40c7b3528d7d223117", func := "loop.example/g01043/laws.FnNotches", spec := "fnNotches", unfollowed := true, recurses := true, apart := false }
def FnNotchesSaid : Prop := fnNotchesRow.holds Try.pinned (OpenSpec.ofChange fnNotchesSpec)

/-- ITS FALSE NEIGHBOUR: 'it returns false'. Refute it at one input. -/
def fnNotchesWrong : ChangeSpec := { name := "fnNotches", fn := fun _ => fun
  | [d] => { results := [.lit (.bool false)], args := [d] }
  | _ => none }
def FnNotchesWrongFalsely : Prop := fnNotchesRow.holds Try.pinned (OpenSpec.ofChange fnNotchesWrong)

/- THE SECOND FORM. 'bulk': how many values and letters a reading holds, each counted each time it is reached (what is shared counts as often as it is met; a slice's spare places count too). A statement '..UptoSaid' is the law's where the arguments, and the package variables that the reading takes, are together of bulk at most 1048576: NARROWER than '..Said'. Prove '..Said' where nothing that the law and all that it calls make is longer than what came in: it says more and counts as full. Else prove '..UptoSaid'. A law counts once. -/
mutual
def uptoBulk {H : Type} : DataW H → Nat
  | .lit (.string bytes) => bytes.length + 1
  | .lit _ => 1
  | .nil => 1
  | .ptr d => uptoBulk d + 1
  | .slice elems spare => uptoBulkAll elems + uptoBulkAll spare + 1
  | .agg parts => uptoBulkAll parts + 1
  | .iface _ d => uptoBulk d + 1
  | .map entries => uptoBulkEntries entries + 1
  | .held _ => 1
def uptoBulkAll {H : Type} : List (DataW H) → Nat
  | [] => 0
  | d :: r => uptoBulk d + uptoBulkAll r
def uptoBulkEntries {H : Type} : List (Lit × DataW H) → Nat
  | [] => 0
  | x :: r => uptoBulkEntry x + uptoBulkEntries r
def uptoBulkEntry {H : Type} : Lit × DataW H → Nat
  | (.string bytes, d) => bytes.length + uptoBulk d + 1
  | (_, d) => uptoBulk d + 1
 end
def uptoSmall : (H : Type) → List (DataW H) → Bool := fun _ ds => decide (uptoBulkAll ds ≤ 1048576)
def OpenSpec.upto (s : _root_.Go.ChangeSpec) : _root_.Go.OpenSpec := { _root_.Go.OpenSpec.ofChange s with cond := some uptoSmall }

/-- 'laws.FnExactAllowArea', WHERE WHAT IT READS IS OF BULK AT MOST 1048576: true; the input reads as it did. -/
def fnExactAllowAreaUptoRow : OpenClaim := { program := "ytmpjdijmihnadaa", sum := "cfe3aaca3a0cf9a1622dd0ec3931d22d615ce822a350bd40c7b3528d7d223117", func := "loop.example/g01043/laws.FnExactAllowArea", spec := "fnExactAllowArea", unfollowed := true, recurses := true, apart := false, narrowed := true }
def FnExactAllowAreaUptoSaid : Prop := fnExactAllowAreaUptoRow.holds Try.pinned (OpenSpec.upto fnExactAllowAreaSpec)

/-- 'laws.FnExactRoundStrips', WHERE WHAT IT READS IS OF BULK AT MOST 1048576: true; the input reads as it did. -/
def fnExactRoundStripsUptoRow : OpenClaim := { program := "ytmpjdijmihnadaa", sum := "cfe3aaca3a0cf9a1622dd0ec3931d22d615ce822a350bd40c7b3528d7d223117", func := "loop.example/g01043/laws.FnExactRoundStrips", spec := "fnExactRoundStrips", unfollowed := true, recurses := true, apart := false, narrowed := true }
def FnExactRoundStripsUptoSaid : Prop := fnExactRoundStripsUptoRow.holds Try.pinned (OpenSpec.upto fnExactRoundStripsSpec)

/-- 'laws.FnExactEaseOf', WHERE WHAT IT READS IS OF BULK AT MOST 1048576: true; the input reads as it did. -/
def fnExactEaseOfUptoRow : OpenClaim := { program := "ytmpjdijmihnadaa", sum := "cfe3aaca3a0cf9a1622dd0ec3931d22d615ce822a350bd40c7b3528d7d223117", func := "loop.example/g01043/laws.FnExactEaseOf", spec := "fnExactEaseOf", apart := false, narrowed := true }
def FnExactEaseOfUptoSaid : Prop := fnExactEaseOfUptoRow.holds Try.pinned (OpenSpec.upto fnExactEaseOfSpec)

/-- 'laws.FnExactAddAllow', WHERE WHAT IT READS IS OF BULK AT MOST 1048576: true; the input reads as it did. -/
def fnExactAddAllowUptoRow : OpenClaim := { program := "ytmpjdijmihnadaa", sum := "cfe3aaca3a0cf9a1622dd0ec3931d22d615ce822a350bd40c7b3528d7d223117", func := "loop.example/g01043/laws.FnExactAddAllow", spec := "fnExactAddAllow", unfollowed := true, recurses := true, apart := false, narrowed := true }
def FnExactAddAllowUptoSaid : Prop := fnExactAddAllowUptoRow.holds Try.pinned (OpenSpec.upto fnExactAddAllowSpec)

/-- 'laws.FnExactCutLengths', WHERE WHAT IT READS IS OF BULK AT MOST 1048576: true; the input reads as it did. -/
def fnExactCutLengthsUptoRow : OpenClaim := { program := "ytmpjdijmihnadaa", sum := "cfe3aaca3a0cf9a1622dd0ec3931d22d615ce822a350bd40c7b3528d7d223117", func := "loop.example/g01043/laws.FnExactCutLengths", spec := "fnExactCutLengths", unfollowed := true, recurses := true, apart := false, narrowed := true }
def FnExactCutLengthsUptoSaid : Prop := fnExactCutLengthsUptoRow.holds Try.pinned (OpenSpec.upto fnExactCutLengthsSpec)

/-- 'laws.FnNotches', WHERE WHAT IT READS IS OF BULK AT MOST 1048576: true; the input reads as it did. -/
def fnNotchesUptoRow : OpenClaim := { program := "ytmpjdijmihnadaa", sum := "cfe3aaca3a0cf9a1622dd0ec3931d22d615ce822a350bd40c7b3528d7d223117", func := "loop.example/g01043/laws.FnNotches", spec := "fnNotches", unfollowed := true, recurses := true, apart := false, narrowed := true }
def FnNotchesUptoSaid : Prop := fnNotchesUptoRow.holds Try.pinned (OpenSpec.upto fnNotchesSpec)

end Rows
end Go.Proofs.Ytmpjdijmihnadaa
