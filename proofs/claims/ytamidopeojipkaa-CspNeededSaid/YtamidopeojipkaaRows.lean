/-
  No cell of these rows narrows 'for every input' (looked for: loops, veiled, ifaces, maps, wideKeys, modest, calm, conditions, laid).
  DERIVED. THE GIVEN ROWS OF THIS SEAT. 7 by the template 'for every input the law returns true; each argument reads behind the call as it read before'; 0 by the template 'total and deterministic' (their statements: YtamidopeojipkaaTotals.lean).
  GIVEN WITH THE SEED: the statements are not yours to turn. If you find one false, say at which input.
  Laid BY PROGRAM, IN A SANDBOX (cutbox-rows.mjs): the forced cells as the released guide's own fill.sh prints them over the translation 3e50a8e6bed398e0… (all of the seat's roots in one cut). By AI agents, Wed Nov 11 2026. No macro, syntax, notation, axiom, sorry.
-/
import Derived.Test.YtamidopeojipkaaChecked
import GoSem.Claim
import GoSem.ClaimJoined
import GoSem.ClaimMapViews
import Derived.JoinedTies
import Derived.KernelRfl
namespace Go.Proofs.Ytamidopeojipkaa
/- THE CELL 'sum', in the pinned program and in every row, IS THE sha256 OF THE DUMP (.gsa) THAT YtamidopeojipkaaProg.lean LOADS. Nothing in Lean hashes anything: it is a label: what it is worth is what the hold of that sum in a sandbox is worth. -/
noncomputable def Try.pinned : Pinned := { name := "ytamidopeojipkaa", sum := "3e50a8e6bed398e092d16d06c4f1ef481d6846a5bfbb9e50f42dae79641405af", checked := Try.checked }
namespace Rows
def none {H : Type} : Left H := { results := [], args := [] }

/-- 'synthesislaw35.CspChecks': WHATEVER THE INPUT: true; the input reads as it did. -/
def cspChecksSpec : ChangeSpec := { name := "cspChecks", fn := fun _ => fun
  | [d] => { results := [.lit (.bool true)], args := [d] }
  | _ => none }
def cspChecksRow : OpenClaim := { program := "ytamidopeojipkaa", sum := "3e50a8e6bed398e092d16d06c4f1ef481d6846a5bfbb9e50f42dae79641405af", func := "synthesis/synthesislaw35.CspChecks", spec := "cspChecks", recurses := true, plainKeys := false, apart := false }
def CspChecksSaid : Prop := cspChecksRow.holds Try.pinned (OpenSpec.ofChange cspChecksSpec)

/-- ITS FALSE NEIGHBOUR: 'it returns false'. Refute it at one input. -/
def cspChecksWrong : ChangeSpec := { name := "cspChecks", fn := fun _ => fun
  | [d] => { results := [.lit (.bool false)], args := [d] }
  | _ => none }
def CspChecksWrongFalsely : Prop := cspChecksRow.holds Try.pinned (OpenSpec.ofChange cspChecksWrong)

/-- 'synthesislaw35.CspPropagates': WHATEVER THE INPUT: true; the input reads as it did. -/
def cspPropagatesSpec : ChangeSpec := { name := "cspPropagates", fn := fun _ => fun
  | [d] => { results := [.lit (.bool true)], args := [d] }
  | _ => none }
def cspPropagatesRow : OpenClaim := { program := "ytamidopeojipkaa", sum := "3e50a8e6bed398e092d16d06c4f1ef481d6846a5bfbb9e50f42dae79641405af", func := "synthesis/synthesislaw35.CspPropagates", spec := "cspPropagates", recurses := true, plainKeys := false, apart := false }
def CspPropagatesSaid : Prop := cspPropagatesRow.holds Try.pinned (OpenSpec.ofChange cspPropagatesSpec)

/-- ITS FALSE NEIGHBOUR: 'it returns false'. Refute it at one input. -/
def cspPropagatesWrong : ChangeSpec := { name := "cspPropagates", fn := fun _ => fun
  | [d] => { results := [.lit (.bool false)], args := [d] }
  | _ => none }
def CspPropagatesWrongFalsely : Prop := cspPropagatesRow.holds Try.pinned (OpenSpec.ofChange cspPropagatesWrong)

/-- 'synthesislaw35.CspSolves': WHATEVER THE INPUT: true; the input reads as it did. -/
def cspSolvesSpec : ChangeSpec := { name := "cspSolves", fn := fun _ => fun
  | [d] => { results := [.lit (.bool true)], args := [d] }
  | _ => none }
def cspSolvesRow : OpenClaim := { program := "ytamidopeojipkaa", sum := "3e50a8e6bed398e092d16d06c4f1ef481d6846a5bfbb9e50f42dae79641405af", func := "synthesis/synthesislaw35.CspSolves", spec := "cspSolves", recurses := true, plainKeys := false, apart := false }
def CspSolvesSaid : Prop := cspSolvesRow.holds Try.pinned (OpenSpec.ofChange cspSolvesSpec)

/-- ITS FALSE NEIGHBOUR: 'it returns false'. Refute it at one input. -/
def cspSolvesWrong : ChangeSpec := { name := "cspSolves", fn := fun _ => fun
  | [d] => { results := [.lit (.bool false)], args := [d] }
  | _ => none }
def CspSolvesWrongFalsely : Prop := cspSolvesRow.holds Try.pinned (OpenSpec.ofChange cspSolvesWrong)

/-- 'synthesislaw35.CspLists': WHATEVER THE INPUT: true; the input reads as it did. -/
def cspListsSpec : ChangeSpec := { name := "cspLists", fn := fun _ => fun
  | [d1, d2] => { results := [.lit (.bool true)], args := [d1, d2] }
  | _ => none }
def cspListsRow : OpenClaim := { program := "ytamidopeojipkaa", sum := "3e50a8e6bed398e092d16d06c4f1ef481d6846a5bfbb9e50f42dae79641405af", func := "synthesis/synthesislaw35.CspLists", spec := "cspLists", recurses := true, plainKeys := false, apart := false }
def CspListsSaid : Prop := cspListsRow.holds Try.pinned (OpenSpec.ofChange cspListsSpec)

/-- ITS FALSE NEIGHBOUR: 'it returns false'. Refute it at one input. -/
def cspListsWrong : ChangeSpec := { name := "cspLists", fn := fun _ => fun
  | [d1, d2] => { results := [.lit (.bool false)], args := [d1, d2] }
  | _ => none }
def CspListsWrongFalsely : Prop := cspListsRow.holds Try.pinned (OpenSpec.ofChange cspListsWrong)

/-- 'synthesislaw35.CspCores': WHATEVER THE INPUT: true; the input reads as it did. -/
def cspCoresSpec : ChangeSpec := { name := "cspCores", fn := fun _ => fun
  | [d] => { results := [.lit (.bool true)], args := [d] }
  | _ => none }
def cspCoresRow : OpenClaim := { program := "ytamidopeojipkaa", sum := "3e50a8e6bed398e092d16d06c4f1ef481d6846a5bfbb9e50f42dae79641405af", func := "synthesis/synthesislaw35.CspCores", spec := "cspCores", recurses := true, plainKeys := false, apart := false }
def CspCoresSaid : Prop := cspCoresRow.holds Try.pinned (OpenSpec.ofChange cspCoresSpec)

/-- ITS FALSE NEIGHBOUR: 'it returns false'. Refute it at one input. -/
def cspCoresWrong : ChangeSpec := { name := "cspCores", fn := fun _ => fun
  | [d] => { results := [.lit (.bool false)], args := [d] }
  | _ => none }
def CspCoresWrongFalsely : Prop := cspCoresRow.holds Try.pinned (OpenSpec.ofChange cspCoresWrong)

/-- 'synthesislaw35.CspSound': WHATEVER THE INPUT: true; the input reads as it did. -/
def cspSoundSpec : ChangeSpec := { name := "cspSound", fn := fun _ => fun
  | [d] => { results := [.lit (.bool true)], args := [d] }
  | _ => none }
def cspSoundRow : OpenClaim := { program := "ytamidopeojipkaa", sum := "3e50a8e6bed398e092d16d06c4f1ef481d6846a5bfbb9e50f42dae79641405af", func := "synthesis/synthesislaw35.CspSound", spec := "cspSound", recurses := true, plainKeys := false, apart := false }
def CspSoundSaid : Prop := cspSoundRow.holds Try.pinned (OpenSpec.ofChange cspSoundSpec)

/-- ITS FALSE NEIGHBOUR: 'it returns false'. Refute it at one input. -/
def cspSoundWrong : ChangeSpec := { name := "cspSound", fn := fun _ => fun
  | [d] => { results := [.lit (.bool false)], args := [d] }
  | _ => none }
def CspSoundWrongFalsely : Prop := cspSoundRow.holds Try.pinned (OpenSpec.ofChange cspSoundWrong)

/-- 'synthesislaw35.CspNeeded': WHATEVER THE INPUT: true; the input reads as it did. -/
def cspNeededSpec : ChangeSpec := { name := "cspNeeded", fn := fun _ => fun
  | [d] => { results := [.lit (.bool true)], args := [d] }
  | _ => none }
def cspNeededRow : OpenClaim := { program := "ytamidopeojipkaa", sum := "3e50a8e6bed398e092d16d06c4f1ef481d6846a5bfbb9e50f42dae79641405af", func := "synthesis/synthesislaw35.CspNeeded", spec := "cspNeeded", recurses := true, plainKeys := false, apart := false }
def CspNeededSaid : Prop := cspNeededRow.holds Try.pinned (OpenSpec.ofChange cspNeededSpec)

/-- ITS FALSE NEIGHBOUR: 'it returns false'. Refute it at one input. -/
def cspNeededWrong : ChangeSpec := { name := "cspNeeded", fn := fun _ => fun
  | [d] => { results := [.lit (.bool false)], args := [d] }
  | _ => none }
def CspNeededWrongFalsely : Prop := cspNeededRow.holds Try.pinned (OpenSpec.ofChange cspNeededWrong)

/- THE SECOND FORM. 'bulk': how many values and letters a reading holds, each counted each time it is reached (what is shared counts as often as it is met; a slice's spare places count too). A statement '..UptoSaid' is the law's where the arguments, and the package variables that the reading takes, are together of bulk at most 1048576: NARROWER than '..Said'. Prove '..Said' where nothing that the law and all that it calls make is longer than what came in: it says more and counts as full. Else prove '..UptoSaid'. A law counts once. -/
mutual
def uptoBulk {H : Type} : DataW H → Nat
  | .lit (.string bytes) => bytes.length + 1
  | .lit _ => 1
  | .nil => 1
  | .ptr d => uptoBulk d + 1
  | .slice elems spare => uptoBulkAll elems + uptoBulkAll spare + 1
  | .agg parts => uptoBulkAll parts + 1
  | .iface _ d => uptoBulk d + 1
  | .map entries => uptoBulkEntries entries + 1
  | .held _ => 1
def uptoBulkAll {H : Type} : List (DataW H) → Nat
  | [] => 0
  | d :: r => uptoBulk d + uptoBulkAll r
def uptoBulkEntries {H : Type} : List (Lit × DataW H) → Nat
  | [] => 0
  | x :: r => uptoBulkEntry x + uptoBulkEntries r
def uptoBulkEntry {H : Type} : Lit × DataW H → Nat
  | (.string bytes, d) => bytes.length + uptoBulk d + 1
  | (_, d) => uptoBulk d + 1
 end
def uptoSmall : (H : Type) → List (DataW H) → Bool := fun _ ds => decide (uptoBulkAll ds ≤ 1048576)
def OpenSpec.upto (s : _root_.Go.ChangeSpec) : _root_.Go.OpenSpec := { _root_.Go.OpenSpec.ofChange s with cond := some uptoSmall }

/-- 'synthesislaw35.CspChecks', WHERE WHAT IT READS IS OF BULK AT MOST 1048576: true; the input reads as it did. -/
def cspChecksUptoRow : OpenClaim := { program := "ytamidopeojipkaa", sum := "3e50a8e6bed398e092d16d06c4f1ef481d6846a5bfbb9e50f42dae79641405af", func := "synthesis/synthesislaw35.CspChecks", spec := "cspChecks", recurses := true, plainKeys := false, apart := false, narrowed := true }
def CspChecksUptoSaid : Prop := cspChecksUptoRow.holds Try.pinned (OpenSpec.upto cspChecksSpec)

/-- 'synthesislaw35.CspPropagates', WHERE WHAT IT READS IS OF BULK AT MOST 1048576: true; the input reads as it did. -/
def cspPropagatesUptoRow : OpenClaim := { program := "ytamidopeojipkaa", sum := "3e50a8e6bed398e092d16d06c4f1ef481d6846a5bfbb9e50f42dae79641405af", func := "synthesis/synthesislaw35.CspPropagates", spec := "cspPropagates", recurses := true, plainKeys := false, apart := false, narrowed := true }
def CspPropagatesUptoSaid : Prop := cspPropagatesUptoRow.holds Try.pinned (OpenSpec.upto cspPropagatesSpec)

/-- 'synthesislaw35.CspSolves', WHERE WHAT IT READS IS OF BULK AT MOST 1048576: true; the input reads as it did. -/
def cspSolvesUptoRow : OpenClaim := { program := "ytamidopeojipkaa", sum := "3e50a8e6bed398e092d16d06c4f1ef481d6846a5bfbb9e50f42dae79641405af", func := "synthesis/synthesislaw35.CspSolves", spec := "cspSolves", recurses := true, plainKeys := false, apart := false, narrowed := true }
def CspSolvesUptoSaid : Prop := cspSolvesUptoRow.holds Try.pinned (OpenSpec.upto cspSolvesSpec)

/-- 'synthesislaw35.CspLists', WHERE WHAT IT READS IS OF BULK AT MOST 1048576: true; the input reads as it did. -/
def cspListsUptoRow : OpenClaim := { program := "ytamidopeojipkaa", sum := "3e50a8e6bed398e092d16d06c4f1ef481d6846a5bfbb9e50f42dae79641405af", func := "synthesis/synthesislaw35.CspLists", spec := "cspLists", recurses := true, plainKeys := false, apart := false, narrowed := true }
def CspListsUptoSaid : Prop := cspListsUptoRow.holds Try.pinned (OpenSpec.upto cspListsSpec)

/-- 'synthesislaw35.CspCores', WHERE WHAT IT READS IS OF BULK AT MOST 1048576: true; the input reads as it did. -/
def cspCoresUptoRow : OpenClaim := { program := "ytamidopeojipkaa", sum := "3e50a8e6bed398e092d16d06c4f1ef481d6846a5bfbb9e50f42dae79641405af", func := "synthesis/synthesislaw35.CspCores", spec := "cspCores", recurses := true, plainKeys := false, apart := false, narrowed := true }
def CspCoresUptoSaid : Prop := cspCoresUptoRow.holds Try.pinned (OpenSpec.upto cspCoresSpec)

/-- 'synthesislaw35.CspSound', WHERE WHAT IT READS IS OF BULK AT MOST 1048576: true; the input reads as it did. -/
def cspSoundUptoRow : OpenClaim := { program := "ytamidopeojipkaa", sum := "3e50a8e6bed398e092d16d06c4f1ef481d6846a5bfbb9e50f42dae79641405af", func := "synthesis/synthesislaw35.CspSound", spec := "cspSound", recurses := true, plainKeys := false, apart := false, narrowed := true }
def CspSoundUptoSaid : Prop := cspSoundUptoRow.holds Try.pinned (OpenSpec.upto cspSoundSpec)

/-- 'synthesislaw35.CspNeeded', WHERE WHAT IT READS IS OF BULK AT MOST 1048576: true; the input reads as it did. -/
def cspNeededUptoRow : OpenClaim := { program := "ytamidopeojipkaa", sum := "3e50a8e6bed398e092d16d06c4f1ef481d6846a5bfbb9e50f42dae79641405af", func := "synthesis/synthesislaw35.CspNeeded", spec := "cspNeeded", recurses := true, plainKeys := false, apart := false, narrowed := true }
def CspNeededUptoSaid : Prop := cspNeededUptoRow.holds Try.pinned (OpenSpec.upto cspNeededSpec)

end Rows
end Go.Proofs.Ytamidopeojipkaa
