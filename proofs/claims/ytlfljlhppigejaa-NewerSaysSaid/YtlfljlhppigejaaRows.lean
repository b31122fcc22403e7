/-
  No cell of these rows narrows 'for every input' (looked for: loops, veiled, ifaces, maps, wideKeys, modest, calm, conditions, laid).
  DERIVED. THE GIVEN ROWS OF THIS SEAT. 11 by the template 'for every input the law returns true; each argument reads behind the call as it read before'; 0 by the template 'total and deterministic' (their statements: YtlfljlhppigejaaTotals.lean).
  GIVEN WITH THE SEED: the statements are not yours to turn. If you find one false, say at which input.
  Laid BY PROGRAM, IN A SANDBOX (cutbox-rows.mjs): the forced cells as the released guide's own fill.sh prints them over the translation 450f717cec2dfe41… (all of the seat's roots in one cut). By AI agents, Wed Nov 11 2026. No macro, syntax, notation, axiom, sorry.
-/
import Derived.Test.YtlfljlhppigejaaChecked
import GoSem.Claim
import GoSem.ClaimJoined
import GoSem.ClaimMapViews
import Derived.JoinedTies
import Derived.KernelRfl
namespace Go.Proofs.Ytlfljlhppigejaa
/- THE CELL 'sum', in the pinned program and in every row, IS THE sha256 OF THE DUMP (.gsa) THAT YtlfljlhppigejaaProg.lean LOADS. Nothing in Lean hashes anything: it is a label: what it is worth is what the hold of that sum in a sandbox is worth. -/
noncomputable def Try.pinned : Pinned := { name := "ytlfljlhppigejaa", sum := "450f717cec2dfe410b55d7078a6b3981bac0d0c9165c1d77960c9080297cc0a1", checked := Try.checked }
namespace Rows
def none {H : Type} : Left H := { results := [], args := [] }

/-- 'ferrymanlaw.LeastSays': WHATEVER THE INPUT: true; the input reads as it did. -/
def leastSaysSpec : ChangeSpec := { name := "leastSays", fn := fun _ => fun
  | [d1, d2, d3] => { results := [.lit (.bool true)], args := [d1, d2, d3] }
  | _ => none }
def leastSaysRow : OpenClaim := { program := "ytlfljlhppigejaa", sum := "450f717cec2dfe410b55d7078a6b3981bac0d0c9165c1d77960c9080297cc0a1", func := "ferryman/ferrymanlaw.LeastSays", spec := "leastSays", unfollowed := true, recurses := true, plainKeys := false, apart := false }
def LeastSaysSaid : Prop := leastSaysRow.holds Try.pinned (OpenSpec.ofChange leastSaysSpec)

/-- ITS FALSE NEIGHBOUR: 'it returns false'. Refute it at one input. -/
def leastSaysWrong : ChangeSpec := { name := "leastSays", fn := fun _ => fun
  | [d1, d2, d3] => { results := [.lit (.bool false)], args := [d1, d2, d3] }
  | _ => none }
def LeastSaysWrongFalsely : Prop := leastSaysRow.holds Try.pinned (OpenSpec.ofChange leastSaysWrong)

/-- 'ferrymanlaw.RulesSays': WHATEVER THE INPUT: true; the input reads as it did. -/
def rulesSaysSpec : ChangeSpec := { name := "rulesSays", fn := fun _ => fun
  | [d1, d2, d3, d4, d5] => { results := [.lit (.bool true)], args := [d1, d2, d3, d4, d5] }
  | _ => none }
def rulesSaysRow : OpenClaim := { program := "ytlfljlhppigejaa", sum := "450f717cec2dfe410b55d7078a6b3981bac0d0c9165c1d77960c9080297cc0a1", func := "ferryman/ferrymanlaw.RulesSays", spec := "rulesSays", plainKeys := false, apart := false }
def RulesSaysSaid : Prop := rulesSaysRow.holds Try.pinned (OpenSpec.ofChange rulesSaysSpec)

/-- ITS FALSE NEIGHBOUR: 'it returns false'. Refute it at one input. -/
def rulesSaysWrong : ChangeSpec := { name := "rulesSays", fn := fun _ => fun
  | [d1, d2, d3, d4, d5] => { results := [.lit (.bool false)], args := [d1, d2, d3, d4, d5] }
  | _ => none }
def RulesSaysWrongFalsely : Prop := rulesSaysRow.holds Try.pinned (OpenSpec.ofChange rulesSaysWrong)

/-- 'ferrymanlaw.WireSays': WHATEVER THE INPUT: true; the input reads as it did. -/
def wireSaysSpec : ChangeSpec := { name := "wireSays", fn := fun _ => fun
  | [d1, d2, d3] => { results := [.lit (.bool true)], args := [d1, d2, d3] }
  | _ => none }
def wireSaysRow : OpenClaim := { program := "ytlfljlhppigejaa", sum := "450f717cec2dfe410b55d7078a6b3981bac0d0c9165c1d77960c9080297cc0a1", func := "ferryman/ferrymanlaw.WireSays", spec := "wireSays", plainKeys := false, apart := false }
def WireSaysSaid : Prop := wireSaysRow.holds Try.pinned (OpenSpec.ofChange wireSaysSpec)

/-- ITS FALSE NEIGHBOUR: 'it returns false'. Refute it at one input. -/
def wireSaysWrong : ChangeSpec := { name := "wireSays", fn := fun _ => fun
  | [d1, d2, d3] => { results := [.lit (.bool false)], args := [d1, d2, d3] }
  | _ => none }
def WireSaysWrongFalsely : Prop := wireSaysRow.holds Try.pinned (OpenSpec.ofChange wireSaysWrong)

/-- 'ferrymanlaw.NewerSays': WHATEVER THE INPUT: true; the input reads as it did. -/
def newerSaysSpec : ChangeSpec := { name := "newerSays", fn := fun _ => fun
  | [d1, d2, d3, d4] => { results := [.lit (.bool true)], args := [d1, d2, d3, d4] }
  | _ => none }
def newerSaysRow : OpenClaim := { program := "ytlfljlhppigejaa", sum := "450f717cec2dfe410b55d7078a6b3981bac0d0c9165c1d77960c9080297cc0a1", func := "ferryman/ferrymanlaw.NewerSays", spec := "newerSays", unfollowed := true, recurses := true, plainKeys := false, apart := false }
def NewerSaysSaid : Prop := newerSaysRow.holds Try.pinned (OpenSpec.ofChange newerSaysSpec)

/-- ITS FALSE NEIGHBOUR: 'it returns false'. Refute it at one input. -/
def newerSaysWrong : ChangeSpec := { name := "newerSays", fn := fun _ => fun
  | [d1, d2, d3, d4] => { results := [.lit (.bool false)], args := [d1, d2, d3, d4] }
  | _ => none }
def NewerSaysWrongFalsely : Prop := newerSaysRow.holds Try.pinned (OpenSpec.ofChange newerSaysWrong)

/-- 'ferrymantop.TopRules': WHATEVER THE INPUT: true; the input reads as it did. -/
def topRulesSpec : ChangeSpec := { name := "topRules", fn := fun _ => fun
  | [d1, d2, d3, d4] => { results := [.lit (.bool true)], args := [d1, d2, d3, d4] }
  | _ => none }
def topRulesRow : OpenClaim := { program := "ytlfljlhppigejaa", sum := "450f717cec2dfe410b55d7078a6b3981bac0d0c9165c1d77960c9080297cc0a1", func := "ferryman/ferrymantop.TopRules", spec := "topRules", plainKeys := false, apart := false }
def TopRulesSaid : Prop := topRulesRow.holds Try.pinned (OpenSpec.ofChange topRulesSpec)

/-- ITS FALSE NEIGHBOUR: 'it returns false'. Refute it at one input. -/
def topRulesWrong : ChangeSpec := { name := "topRules", fn := fun _ => fun
  | [d1, d2, d3, d4] => { results := [.lit (.bool false)], args := [d1, d2, d3, d4] }
  | _ => none }
def TopRulesWrongFalsely : Prop := topRulesRow.holds Try.pinned (OpenSpec.ofChange topRulesWrong)

/-- 'ferrymanlaw.ElderSays': WHATEVER THE INPUT: true; the input reads as it did. -/
def elderSaysSpec : ChangeSpec := { name := "elderSays", fn := fun _ => fun
  | [d1, d2, d3, d4] => { results := [.lit (.bool true)], args := [d1, d2, d3, d4] }
  | _ => none }
def elderSaysRow : OpenClaim := { program := "ytlfljlhppigejaa", sum := "450f717cec2dfe410b55d7078a6b3981bac0d0c9165c1d77960c9080297cc0a1", func := "ferryman/ferrymanlaw.ElderSays", spec := "elderSays", unfollowed := true, recurses := true, plainKeys := false, apart := false }
def ElderSaysSaid : Prop := elderSaysRow.holds Try.pinned (OpenSpec.ofChange elderSaysSpec)

/-- ITS FALSE NEIGHBOUR: 'it returns false'. Refute it at one input. -/
def elderSaysWrong : ChangeSpec := { name := "elderSays", fn := fun _ => fun
  | [d1, d2, d3, d4] => { results := [.lit (.bool false)], args := [d1, d2, d3, d4] }
  | _ => none }
def ElderSaysWrongFalsely : Prop := elderSaysRow.holds Try.pinned (OpenSpec.ofChange elderSaysWrong)

/-- 'ferrymantop.TopWire': WHATEVER THE INPUT: true; the input reads as it did. -/
def topWireSpec : ChangeSpec := { name := "topWire", fn := fun _ => fun
  | [d1, d2, d3, d4, d5] => { results := [.lit (.bool true)], args := [d1, d2, d3, d4, d5] }
  | _ => none }
def topWireRow : OpenClaim := { program := "ytlfljlhppigejaa", sum := "450f717cec2dfe410b55d7078a6b3981bac0d0c9165c1d77960c9080297cc0a1", func := "ferryman/ferrymantop.TopWire", spec := "topWire", plainKeys := false, apart := false }
def TopWireSaid : Prop := topWireRow.holds Try.pinned (OpenSpec.ofChange topWireSpec)

/-- ITS FALSE NEIGHBOUR: 'it returns false'. Refute it at one input. -/
def topWireWrong : ChangeSpec := { name := "topWire", fn := fun _ => fun
  | [d1, d2, d3, d4, d5] => { results := [.lit (.bool false)], args := [d1, d2, d3, d4, d5] }
  | _ => none }
def TopWireWrongFalsely : Prop := topWireRow.holds Try.pinned (OpenSpec.ofChange topWireWrong)

/-- 'ferrymanlaw.SnapStates': WHATEVER THE INPUT: true; the input reads as it did. -/
def snapStatesSpec : ChangeSpec := { name := "snapStates", fn := fun _ => fun
  | [d1, d2] => { results := [.lit (.bool true)], args := [d1, d2] }
  | _ => none }
def snapStatesRow : OpenClaim := { program := "ytlfljlhppigejaa", sum := "450f717cec2dfe410b55d7078a6b3981bac0d0c9165c1d77960c9080297cc0a1", func := "ferryman/ferrymanlaw.SnapStates", spec := "snapStates", inPlace := ["internal/abi.NoEscape"], unfollowed := true, recurses := true, plainKeys := false, apart := false }
def SnapStatesSaid : Prop := snapStatesRow.holds Try.pinned (OpenSpec.ofChange snapStatesSpec)

/-- ITS FALSE NEIGHBOUR: 'it returns false'. Refute it at one input. -/
def snapStatesWrong : ChangeSpec := { name := "snapStates", fn := fun _ => fun
  | [d1, d2] => { results := [.lit (.bool false)], args := [d1, d2] }
  | _ => none }
def SnapStatesWrongFalsely : Prop := snapStatesRow.holds Try.pinned (OpenSpec.ofChange snapStatesWrong)

/-- 'ferrymanlaw.FerrySays': WHATEVER THE INPUT: true; the input reads as it did. -/
def ferrySaysSpec : ChangeSpec := { name := "ferrySays", fn := fun _ => fun
  | [d1, d2, d3] => { results := [.lit (.bool true)], args := [d1, d2, d3] }
  | _ => none }
def ferrySaysRow : OpenClaim := { program := "ytlfljlhppigejaa", sum := "450f717cec2dfe410b55d7078a6b3981bac0d0c9165c1d77960c9080297cc0a1", func := "ferryman/ferrymanlaw.FerrySays", spec := "ferrySays", unfollowed := true, recurses := true, plainKeys := false, apart := false }
def FerrySaysSaid : Prop := ferrySaysRow.holds Try.pinned (OpenSpec.ofChange ferrySaysSpec)

/-- ITS FALSE NEIGHBOUR: 'it returns false'. Refute it at one input. -/
def ferrySaysWrong : ChangeSpec := { name := "ferrySays", fn := fun _ => fun
  | [d1, d2, d3] => { results := [.lit (.bool false)], args := [d1, d2, d3] }
  | _ => none }
def FerrySaysWrongFalsely : Prop := ferrySaysRow.holds Try.pinned (OpenSpec.ofChange ferrySaysWrong)

/-- 'ferrymantop.TopNewer': WHATEVER THE INPUT: true; the input reads as it did. -/
def topNewerSpec : ChangeSpec := { name := "topNewer", fn := fun _ => fun
  | [d1, d2] => { results := [.lit (.bool true)], args := [d1, d2] }
  | _ => none }
def topNewerRow : OpenClaim := { program := "ytlfljlhppigejaa", sum := "450f717cec2dfe410b55d7078a6b3981bac0d0c9165c1d77960c9080297cc0a1", func := "ferryman/ferrymantop.TopNewer", spec := "topNewer", unfollowed := true, recurses := true, plainKeys := false, apart := false }
def TopNewerSaid : Prop := topNewerRow.holds Try.pinned (OpenSpec.ofChange topNewerSpec)

/-- ITS FALSE NEIGHBOUR: 'it returns false'. Refute it at one input. -/
def topNewerWrong : ChangeSpec := { name := "topNewer", fn := fun _ => fun
  | [d1, d2] => { results := [.lit (.bool false)], args := [d1, d2] }
  | _ => none }
def TopNewerWrongFalsely : Prop := topNewerRow.holds Try.pinned (OpenSpec.ofChange topNewerWrong)

/-- 'ferrymanlaw.SnapReads': WHATEVER THE INPUT: true; the input reads as it did. -/
def snapReadsSpec : ChangeSpec := { name := "snapReads", fn := fun _ => fun
  | [d1, d2, d3] => { results := [.lit (.bool true)], args := [d1, d2, d3] }
  | _ => none }
def snapReadsRow : OpenClaim := { program := "ytlfljlhppigejaa", sum := "450f717cec2dfe410b55d7078a6b3981bac0d0c9165c1d77960c9080297cc0a1", func := "ferryman/ferrymanlaw.SnapReads", spec := "snapReads", inPlace := ["internal/abi.NoEscape"], unfollowed := true, recurses := true, plainKeys := false, apart := false }
def SnapReadsSaid : Prop := snapReadsRow.holds Try.pinned (OpenSpec.ofChange snapReadsSpec)

/-- ITS FALSE NEIGHBOUR: 'it returns false'. Refute it at one input. -/
def snapReadsWrong : ChangeSpec := { name := "snapReads", fn := fun _ => fun
  | [d1, d2, d3] => { results := [.lit (.bool false)], args := [d1, d2, d3] }
  | _ => none }
def SnapReadsWrongFalsely : Prop := snapReadsRow.holds Try.pinned (OpenSpec.ofChange snapReadsWrong)

/- THE SECOND FORM. 'bulk': how many values and letters a reading holds, each counted each time it is reached (what is shared counts as often as it is met; a slice's spare places count too). A statement '..UptoSaid' is the law's where the arguments, and the package variables that the reading takes, are together of bulk at most 1048576: NARROWER than '..Said'. Prove '..Said' where nothing that the law and all that it calls make is longer than what came in: it says more and counts as full. Else prove '..UptoSaid'. A law counts once. -/
mutual
def uptoBulk {H : Type} : DataW H → Nat
  | .lit (.string bytes) => bytes.length + 1
  | .lit _ => 1
  | .nil => 1
  | .ptr d => uptoBulk d + 1
  | .slice elems spare => uptoBulkAll elems + uptoBulkAll spare + 1
  | .agg parts => uptoBulkAll parts + 1
  | .iface _ d => uptoBulk d + 1
  | .map entries => uptoBulkEntries entries + 1
  | .held _ => 1
def uptoBulkAll {H : Type} : List (DataW H) → Nat
  | [] => 0
  | d :: r => uptoBulk d + uptoBulkAll r
def uptoBulkEntries {H : Type} : List (Lit × DataW H) → Nat
  | [] => 0
  | x :: r => uptoBulkEntry x + uptoBulkEntries r
def uptoBulkEntry {H : Type} : Lit × DataW H → Nat
  | (.string bytes, d) => bytes.length + uptoBulk d + 1
  | (_, d) => uptoBulk d + 1
 end
def uptoSmall : (H : Type) → List (DataW H) → Bool := fun _ ds => decide (uptoBulkAll ds ≤ 1048576)
def OpenSpec.upto (s : _root_.Go.ChangeSpec) : _root_.Go.OpenSpec := { _root_.Go.OpenSpec.ofChange s with cond := some uptoSmall }

/-- 'ferrymanlaw.LeastSays', WHERE WHAT IT READS IS OF BULK AT MOST 1048576: true; the input reads as it did. -/
def leastSaysUptoRow : OpenClaim := { program := "ytlfljlhppigejaa", sum := "450f717cec2dfe410b55d7078a6b3981bac0d0c9165c1d77960c9080297cc0a1", func := "ferryman/ferrymanlaw.LeastSays", spec := "leastSays", unfollowed := true, recurses := true, plainKeys := false, apart := false, narrowed := true }
def LeastSaysUptoSaid : Prop := leastSaysUptoRow.holds Try.pinned (OpenSpec.upto leastSaysSpec)

/-- 'ferrymanlaw.RulesSays', WHERE WHAT IT READS IS OF BULK AT MOST 1048576: true; the input reads as it did. -/
def rulesSaysUptoRow : OpenClaim := { program := "ytlfljlhppigejaa", sum := "450f717cec2dfe410b55d7078a6b3981bac0d0c9165c1d77960c9080297cc0a1", func := "ferryman/ferrymanlaw.RulesSays", spec := "rulesSays", plainKeys := false, apart := false, narrowed := true }
def RulesSaysUptoSaid : Prop := rulesSaysUptoRow.holds Try.pinned (OpenSpec.upto rulesSaysSpec)

/-- 'ferrymanlaw.WireSays', WHERE WHAT IT READS IS OF BULK AT MOST 1048576: true; the input reads as it did. -/
def wireSaysUptoRow : OpenClaim := { program := "ytlfljlhppigejaa", sum := "450f717cec2dfe410b55d7078a6b3981bac0d0c9165c1d77960c9080297cc0a1", func := "ferryman/ferrymanlaw.WireSays", spec := "wireSays", plainKeys := false, apart := false, narrowed := true }
def WireSaysUptoSaid : Prop := wireSaysUptoRow.holds Try.pinned (OpenSpec.upto wireSaysSpec)

/-- 'ferrymanlaw.NewerSays', WHERE WHAT IT READS IS OF BULK AT MOST 1048576: true; the input reads as it did. -/
def newerSaysUptoRow : OpenClaim := { program := "ytlfljlhppigejaa", sum := "450f717cec2dfe410b55d7078a6b3981bac0d0c9165c1d77960c9080297cc0a1", func := "ferryman/ferrymanlaw.NewerSays", spec := "newerSays", unfollowed := true, recurses := true, plainKeys := false, apart := false, narrowed := true }
def NewerSaysUptoSaid : Prop := newerSaysUptoRow.holds Try.pinned (OpenSpec.upto newerSaysSpec)

/-- 'ferrymantop.TopRules', WHERE WHAT IT READS IS OF BULK AT MOST 1048576: true; the input reads as it did. -/
def topRulesUptoRow : OpenClaim := { program := "ytlfljlhppigejaa", sum := "450f717cec2dfe410b55d7078a6b3981bac0d0c9165c1d77960c9080297cc0a1", func := "ferryman/ferrymantop.TopRules", spec := "topRules", plainKeys := false, apart := false, narrowed := true }
def TopRulesUptoSaid : Prop := topRulesUptoRow.holds Try.pinned (OpenSpec.upto topRulesSpec)

/-- 'ferrymanlaw.ElderSays', WHERE WHAT IT READS IS OF BULK AT MOST 1048576: true; the input reads as it did. -/
def elderSaysUptoRow : OpenClaim := { program := "ytlfljlhppigejaa", sum := "450f717cec2dfe410b55d7078a6b3981bac0d0c9165c1d77960c9080297cc0a1", func := "ferryman/ferrymanlaw.ElderSays", spec := "elderSays", unfollowed := true, recurses := true, plainKeys := false, apart := false, narrowed := true }
def ElderSaysUptoSaid : Prop := elderSaysUptoRow.holds Try.pinned (OpenSpec.upto elderSaysSpec)

/-- 'ferrymantop.TopWire', WHERE WHAT IT READS IS OF BULK AT MOST 1048576: true; the input reads as it did. -/
def topWireUptoRow : OpenClaim := { program := "ytlfljlhppigejaa", sum := "450f717cec2dfe410b55d7078a6b3981bac0d0c9165c1d77960c9080297cc0a1", func := "ferryman/ferrymantop.TopWire", spec := "topWire", plainKeys := false, apart := false, narrowed := true }
def TopWireUptoSaid : Prop := topWireUptoRow.holds Try.pinned (OpenSpec.upto topWireSpec)

/-- 'ferrymanlaw.SnapStates', WHERE WHAT IT READS IS OF BULK AT MOST 1048576: true; the input reads as it did. -/
def snapStatesUptoRow : OpenClaim := { program := "ytlfljlhppigejaa", sum := "450f717cec2dfe410b55d7078a6b3981bac0d0c9165c1d77960c9080297cc0a1", func := "ferryman/ferrymanlaw.SnapStates", spec := "snapStates", inPlace := ["internal/abi.NoEscape"], unfollowed := true, recurses := true, plainKeys := false, apart := false, narrowed := true }
def SnapStatesUptoSaid : Prop := snapStatesUptoRow.holds Try.pinned (OpenSpec.upto snapStatesSpec)

/-- 'ferrymanlaw.FerrySays', WHERE WHAT IT READS IS OF BULK AT MOST 1048576: true; the input reads as it did. -/
def ferrySaysUptoRow : OpenClaim := { program := "ytlfljlhppigejaa", sum := "450f717cec2dfe410b55d7078a6b3981bac0d0c9165c1d77960c9080297cc0a1", func := "ferryman/ferrymanlaw.FerrySays", spec := "ferrySays", unfollowed := true, recurses := true, plainKeys := false, apart := false, narrowed := true }
def FerrySaysUptoSaid : Prop := ferrySaysUptoRow.holds Try.pinned (OpenSpec.upto ferrySaysSpec)

/-- 'ferrymantop.TopNewer', WHERE WHAT IT READS IS OF BULK AT MOST 1048576: true; the input reads as it did. -/
def topNewerUptoRow : OpenClaim := { program := "ytlfljlhppigejaa", sum := "450f717cec2dfe410b55d7078a6b3981bac0d0c9165c1d77960c9080297cc0a1", func := "ferryman/ferrymantop.TopNewer", spec := "topNewer", unfollowed := true, recurses := true, plainKeys := false, apart := false, narrowed := true }
def TopNewerUptoSaid : Prop := topNewerUptoRow.holds Try.pinned (OpenSpec.upto topNewerSpec)

/-- 'ferrymanlaw.SnapReads', WHERE WHAT IT READS IS OF BULK AT MOST 1048576: true; the input reads as it did. -/
def snapReadsUptoRow : OpenClaim := { program := "ytlfljlhppigejaa", sum := "450f717cec2dfe410b55d7078a6b3981bac0d0c9165c1d77960c9080297cc0a1", func := "ferryman/ferrymanlaw.SnapReads", spec := "snapReads", inPlace := ["internal/abi.NoEscape"], unfollowed := true, recurses := true, plainKeys := false, apart := false, narrowed := true }
def SnapReadsUptoSaid : Prop := snapReadsUptoRow.holds Try.pinned (OpenSpec.upto snapReadsSpec)

end Rows
end Go.Proofs.Ytlfljlhppigejaa
