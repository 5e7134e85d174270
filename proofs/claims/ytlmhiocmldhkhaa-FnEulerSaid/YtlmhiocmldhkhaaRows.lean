/-
  No cell of these rows narrows 'for every input' (looked for: loops, veiled, ifaces, maps, wideKeys, modest, calm, conditions, laid).
  DERIVED. THE GIVEN ROWS OF THIS SEAT. 3 by the template 'for every input the law returns true; each argument reads behind the call as it read before'; 0 by the template 'total and deterministic' (their statements: YtlmhiocmldhkhaaTotals.lean).
  GIVEN WITH THE SEED: the statements are not yours to turn. If you find one false, say at which input.
  Laid BY PROGRAM, IN A SANDBOX (cutbox-rows.mjs): the forced cells as the released guide's own fill.sh prints them over the translation a1133ff240f5a3ea… (all of the seat's roots in one cut). By AI agents, Wed Nov 11 2026. No macro, syntax, notation, axiom, sorry.
-/
import Derived.Test.YtlmhiocmldhkhaaChecked
import GoSem.Claim
import GoSem.ClaimJoined
import GoSem.ClaimMapViews
import Derived.JoinedTies
import Derived.KernelRfl
namespace Go.Proofs.Ytlmhiocmldhkhaa
/- THE CELL 'sum', in the pinned program and in every row, IS THE sha256 OF THE DUMP (.gsa) THAT YtlmhiocmldhkhaaProg.lean LOADS. Nothing in Lean hashes anything: it is a label: what it is worth is what the hold of that sum in a sandbox is worth. -/
noncomputable def Try.pinned : Pinned := { name := "ytlmhiocmldhkhaa", sum := "a1133ff240f5a3ea543584aa5779de73ef474d349152a1cf74b54fa855f8551a", checked := Try.checked }
namespace Rows
def none {H : Type} : Left H := { results := [], args := [] }

/-- 'laws.FnExactAddSeam': WHATEVER THE INPUT: true; the input reads as it did. -/
def fnExactAddSeamSpec : ChangeSpec := { name := "fnExactAddSeam", fn := fun _ => fun
  | [d1, d2] => { results := [.lit (.bool true)], args := [d1, d2] }
  | _ => none }
def fnExactAddSeamRow : OpenClaim := { program := "ytlmhiocmldhkhaa", sum := "a1133ff240f5a3ea543584aa5779de73ef474d349152a1cf74b54fa855f8551a", func := "loop.example/g01043/laws.FnExactAddSeam", spec := "fnExactAddSeam", unfollowed := true, recurses := true, plainKeys := false, apart := false }
def FnExactAddSeamSaid : Prop := fnExactAddSeamRow.holds Try.pinned (OpenSpec.ofChange fnExactAddSeamSpec)

/-- ITS FALSE NEIGHBOUR: 'it returns false'. Refute it at one input. -/
def fnExactAddSeamWrong : ChangeSpec := { name := "fnExactAddSeam", fn := fun _ => fun
  | [d1, d2] => { results := [.lit (.bool false)], args := [d1, d2] }
  | _ => none }
def FnExactAddSeamWrongFalsely : Prop := fnExactAddSeamRow.holds Try.pinned (OpenSpec.ofChange fnExactAddSeamWrong)

/-- 'laws.FnSound': WHATEVER THE INPUT: true; the input reads as it did. -/
def fnSoundSpec : ChangeSpec := { name := "fnSound", fn := fun _ => fun
  | [d1, d2] => { results := [.lit (.bool true)], args := [d1, d2] }
  | _ => none }
def fnSoundRow : OpenClaim := { program := "ytlmhiocmldhkhaa", sum := "a1133ff240f5a3ea543584aa5779de73ef474d349152a1cf74b54fa855f8551a", func := "loop.example/g01043/laws.FnSound", spec := "fnSound", unfollowed := true, recurses := true, plainKeys := false, apart := false }
def FnSoundSaid : Prop := fnSoundRow.holds Try.pinned (OpenSpec.ofChange fnSoundSpec)

/-- ITS FALSE NEIGHBOUR: 'it returns false'. Refute it at one input. -/
def fnSoundWrong : ChangeSpec := { name := "fnSound", fn := fun _ => fun
  | [d1, d2] => { results := [.lit (.bool false)], args := [d1, d2] }
  | _ => none }
def FnSoundWrongFalsely : Prop := fnSoundRow.holds Try.pinned (OpenSpec.ofChange fnSoundWrong)

/-- 'laws.FnEuler': WHATEVER THE INPUT: true; the input reads as it did. -/
def fnEulerSpec : ChangeSpec := { name := "fnEuler", fn := fun _ => fun
  | [d] => { results := [.lit (.bool true)], args := [d] }
  | _ => none }
def fnEulerRow : OpenClaim := { program := "ytlmhiocmldhkhaa", sum := "a1133ff240f5a3ea543584aa5779de73ef474d349152a1cf74b54fa855f8551a", func := "loop.example/g01043/laws.FnEuler", spec := "fnEuler", unfollowed := true, recurses := true, plainKeys := false, apart := false }
def FnEulerSaid : Prop := fnEulerRow.holds Try.pinned (OpenSpec.ofChange fnEulerSpec)

/-- ITS FALSE NEIGHBOUR: 'it returns false'. Refute it at one input. -/
def fnEulerWrong : ChangeSpec := { name := "fnEuler", fn := fun _ => fun
  | [d] => { results := [.lit (.bool false)], args := [d] }
  | _ => none }
def FnEulerWrongFalsely : Prop := fnEulerRow.holds Try.pinned (OpenSpec.ofChange fnEulerWrong)

/- THE SECOND FORM. 'bulk': how many values and letters a reading holds, each counted each time it is reached (what is shared counts as often as it is met; a slice's spare places count too). A statement '..UptoSaid' is the law's where the arguments, and the package variables that the reading takes, are together of bulk at most 1048576: NARROWER than '..Said'. Prove '..Said' where nothing that the law and all that it calls make is longer than what came in: it says more and counts as full. Else prove '..UptoSaid'. A law counts once. -/
mutual
def uptoBulk {H : Type} : DataW H → Nat
  | .lit (.string bytes) => bytes.length + 1
  | .lit _ => 1
  | .nil => 1
  | .ptr d => uptoBulk d + 1
  | .slice elems spare => uptoBulkAll elems + uptoBulkAll spare + 1
  | .agg parts => uptoBulkAll parts + 1
  | .iface _ d => uptoBulk d + 1
  | .map entries => uptoBulkEntries entries + 1
  | .held _ => 1
def uptoBulkAll {H : Type} : List (DataW H) → Nat
  | [] => 0
  | d :: r => uptoBulk d + uptoBulkAll r
def uptoBulkEntries {H : Type} : List (Lit × DataW H) → Nat
  | [] => 0
  | x :: r => uptoBulkEntry x + uptoBulkEntries r
def uptoBulkEntry {H : Type} : Lit × DataW H → Nat
  | (.string bytes, d) => bytes.length + uptoBulk d + 1
  | (_, d) => uptoBulk d + 1
 end
def uptoSmall : (H : Type) → List (DataW H) → Bool := fun _ ds => decide (uptoBulkAll ds ≤ 1048576)
def OpenSpec.upto (s : _root_.Go.ChangeSpec) : _root_.Go.OpenSpec := { _root_.Go.OpenSpec.ofChange s with cond := some uptoSmall }

/-- 'laws.FnExactAddSeam', WHERE WHAT IT READS IS OF BULK AT MOST 1048576: true; the input reads as it did. -/
def fnExactAddSeamUptoRow : OpenClaim := { program := "ytlmhiocmldhkhaa", sum := "a1133ff240f5a3ea543584aa5779de73ef474d349152a1cf74b54fa855f8551a", func := "loop.example/g01043/laws.FnExactAddSeam", spec := "fnExactAddSeam", unfollowed := true, recurses := true, plainKeys := false, apart := false, narrowed := true }
def FnExactAddSeamUptoSaid : Prop := fnExactAddSeamUptoRow.holds Try.pinned (OpenSpec.upto fnExactAddSeamSpec)

/-- 'laws.FnSound', WHERE WHAT IT READS IS OF BULK AT MOST 1048576: true; the input reads as it did. -/
def fnSoundUptoRow : OpenClaim := { program := "ytlmhiocmldhkhaa", sum := "a1133ff240f5a3ea543584aa5779de73ef474d349152a1cf74b54fa855f8551a", func := "loop.example/g01043/laws.FnSound", spec := "fnSound", unfollowed := true, recurses := true, plainKeys := false, apart := false, narrowed := true }
def FnSoundUptoSaid : Prop := fnSoundUptoRow.holds Try.pinned (OpenSpec.upto fnSoundSpec)

/-- 'laws.FnEuler', WHERE WHAT IT READS IS OF BULK AT MOST 1048576: true; the input reads as it did. -/
def fnEulerUptoRow : OpenClaim := { program := "ytlmhiocmldhkhaa", sum := "a1133ff240f5a3ea543584aa5779de73ef474d349152a1cf74b54fa855f8551a", func := "loop.example/g01043/laws.FnEuler", spec := "fnEuler", unfollowed := true, recurses := true, plainKeys := false, apart := false, narrowed := true }
def FnEulerUptoSaid : Prop := fnEulerUptoRow.holds Try.pinned (OpenSpec.upto fnEulerSpec)

end Rows
end Go.Proofs.Ytlmhiocmldhkhaa
