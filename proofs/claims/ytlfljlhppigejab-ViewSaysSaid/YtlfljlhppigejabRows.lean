/-
  No cell of these rows narrows 'for every input' (looked for: loops, veiled, ifaces, maps, wideKeys, modest, calm, conditions, laid).
  DERIVED. THE GIVEN ROWS OF THIS SEAT. 5 by the template 'for every input the law returns true; each argument reads behind the call as it read before'; 0 by the template 'total and deterministic' (their statements: YtlfljlhppigejabTotals.lean).
  GIVEN WITH THE SEED: the statements are not yours to turn. If you find one false, say at which input.
  Laid BY PROGRAM, IN A SANDBOX (cutbox-rows.mjs): the forced cells as the released guide's own fill.sh prints them over the translation c68eb2e582b74912… (all of the seat's roots in one cut). By AI agents, Wed Nov 11 2026. No macro, syntax, notation, axiom, sorry.
-/
import Derived.Test.YtlfljlhppigejabChecked
import GoSem.Claim
import GoSem.ClaimJoined
import GoSem.ClaimMapViews
import Derived.JoinedTies
import Derived.KernelRfl
namespace Go.Proofs.Ytlfljlhppigejab
/- THE CELL 'sum', in the pinned program and in every row, IS THE sha256 OF THE DUMP (.gsa) THAT YtlfljlhppigejabProg.lean LOADS. Nothing in Lean hashes anything: it is a label: what it is worth is what the hold of that sum in a sandbox is worth. -/
noncomputable def Try.pinned : Pinned := { name := "ytlfljlhppigejab", sum := "c68eb2e582b74912414f9061f6826a3bb28bc9ef6ecaeade2f50de631d4aac59", checked := Try.checked }
namespace Rows
def none {H : Type} : Left H := { results := [], args := [] }

/-- 'ferrymanlaw.SnapTapes': WHATEVER THE INPUT: true; the input reads as it did. -/
def snapTapesSpec : ChangeSpec := { name := "snapTapes", fn := fun _ => fun
  | [d1, d2] => { results := [.lit (.bool true)], args := [d1, d2] }
  | _ => none }
def snapTapesRow : OpenClaim := { program := "ytlfljlhppigejab", sum := "c68eb2e582b74912414f9061f6826a3bb28bc9ef6ecaeade2f50de631d4aac59", func := "ferryman/ferrymanlaw.SnapTapes", spec := "snapTapes", inPlace := ["internal/abi.NoEscape"], unfollowed := true, recurses := true, plainKeys := false, apart := false }
def SnapTapesSaid : Prop := snapTapesRow.holds Try.pinned (OpenSpec.ofChange snapTapesSpec)

/-- ITS FALSE NEIGHBOUR: 'it returns false'. Refute it at one input. -/
def snapTapesWrong : ChangeSpec := { name := "snapTapes", fn := fun _ => fun
  | [d1, d2] => { results := [.lit (.bool false)], args := [d1, d2] }
  | _ => none }
def SnapTapesWrongFalsely : Prop := snapTapesRow.holds Try.pinned (OpenSpec.ofChange snapTapesWrong)

/-- 'ferrymanlaw.ViewSays': WHATEVER THE INPUT: true; the input reads as it did. -/
def viewSaysSpec : ChangeSpec := { name := "viewSays", fn := fun _ => fun
  | [d1, d2, d3, d4] => { results := [.lit (.bool true)], args := [d1, d2, d3, d4] }
  | _ => none }
def viewSaysRow : OpenClaim := { program := "ytlfljlhppigejab", sum := "c68eb2e582b74912414f9061f6826a3bb28bc9ef6ecaeade2f50de631d4aac59", func := "ferryman/ferrymanlaw.ViewSays", spec := "viewSays", inPlace := ["internal/reflectlite.ValueOf", "internal/reflectlite.Swapper", "(internal/reflectlite.Value).Len"], unfollowed := true, recurses := true, plainKeys := false, apart := false }
def ViewSaysSaid : Prop := viewSaysRow.holds Try.pinned (OpenSpec.ofChange viewSaysSpec)

/-- ITS FALSE NEIGHBOUR: 'it returns false'. Refute it at one input. -/
def viewSaysWrong : ChangeSpec := { name := "viewSays", fn := fun _ => fun
  | [d1, d2, d3, d4] => { results := [.lit (.bool false)], args := [d1, d2, d3, d4] }
  | _ => none }
def ViewSaysWrongFalsely : Prop := viewSaysRow.holds Try.pinned (OpenSpec.ofChange viewSaysWrong)

/-- 'ferrymantop.TopElder': WHATEVER THE INPUT: true; the input reads as it did. -/
def topElderSpec : ChangeSpec := { name := "topElder", fn := fun _ => fun
  | [d1, d2] => { results := [.lit (.bool true)], args := [d1, d2] }
  | _ => none }
def topElderRow : OpenClaim := { program := "ytlfljlhppigejab", sum := "c68eb2e582b74912414f9061f6826a3bb28bc9ef6ecaeade2f50de631d4aac59", func := "ferryman/ferrymantop.TopElder", spec := "topElder", unfollowed := true, recurses := true, plainKeys := false, apart := false }
def TopElderSaid : Prop := topElderRow.holds Try.pinned (OpenSpec.ofChange topElderSpec)

/-- ITS FALSE NEIGHBOUR: 'it returns false'. Refute it at one input. -/
def topElderWrong : ChangeSpec := { name := "topElder", fn := fun _ => fun
  | [d1, d2] => { results := [.lit (.bool false)], args := [d1, d2] }
  | _ => none }
def TopElderWrongFalsely : Prop := topElderRow.holds Try.pinned (OpenSpec.ofChange topElderWrong)

/-- 'ferrymantop.TopSnap': WHATEVER THE INPUT: true; the input reads as it did. -/
def topSnapSpec : ChangeSpec := { name := "topSnap", fn := fun _ => fun
  | [d1, d2, d3] => { results := [.lit (.bool true)], args := [d1, d2, d3] }
  | _ => none }
def topSnapRow : OpenClaim := { program := "ytlfljlhppigejab", sum := "c68eb2e582b74912414f9061f6826a3bb28bc9ef6ecaeade2f50de631d4aac59", func := "ferryman/ferrymantop.TopSnap", spec := "topSnap", inPlace := ["internal/abi.NoEscape"], unfollowed := true, recurses := true, plainKeys := false, apart := false }
def TopSnapSaid : Prop := topSnapRow.holds Try.pinned (OpenSpec.ofChange topSnapSpec)

/-- ITS FALSE NEIGHBOUR: 'it returns false'. Refute it at one input. -/
def topSnapWrong : ChangeSpec := { name := "topSnap", fn := fun _ => fun
  | [d1, d2, d3] => { results := [.lit (.bool false)], args := [d1, d2, d3] }
  | _ => none }
def TopSnapWrongFalsely : Prop := topSnapRow.holds Try.pinned (OpenSpec.ofChange topSnapWrong)

/-- 'ferrymantop.TopLeast': WHATEVER THE INPUT: true; the input reads as it did. -/
def topLeastSpec : ChangeSpec := { name := "topLeast", fn := fun _ => fun
  | [d1, d2] => { results := [.lit (.bool true)], args := [d1, d2] }
  | _ => none }
def topLeastRow : OpenClaim := { program := "ytlfljlhppigejab", sum := "c68eb2e582b74912414f9061f6826a3bb28bc9ef6ecaeade2f50de631d4aac59", func := "ferryman/ferrymantop.TopLeast", spec := "topLeast", inPlace := ["internal/reflectlite.ValueOf", "internal/reflectlite.Swapper", "(internal/reflectlite.Value).Len"], unfollowed := true, recurses := true, plainKeys := false, apart := false }
def TopLeastSaid : Prop := topLeastRow.holds Try.pinned (OpenSpec.ofChange topLeastSpec)

/-- ITS FALSE NEIGHBOUR: 'it returns false'. Refute it at one input. -/
def topLeastWrong : ChangeSpec := { name := "topLeast", fn := fun _ => fun
  | [d1, d2] => { results := [.lit (.bool false)], args := [d1, d2] }
  | _ => none }
def TopLeastWrongFalsely : Prop := topLeastRow.holds Try.pinned (OpenSpec.ofChange topLeastWrong)

/- THE SECOND FORM. 'bulk': how many values and letters a reading holds, each counted each time it is reached (what is shared counts as often as it is met; a slice's spare places count too). A statement '..UptoSaid' is the law's where the arguments, and the package variables that the reading takes, are together of bulk at most 1048576: NARROWER than '..Said'. Prove '..Said' where nothing that the law and all that it calls make is longer than what came in: it says more and counts as full. Else prove '..UptoSaid'. A law counts once. -/
mutual
def uptoBulk {H : Type} : DataW H → Nat
  | .lit (.string bytes) => bytes.length + 1
  | .lit _ => 1
  | .nil => 1
  | .ptr d => uptoBulk d + 1
  | .slice elems spare => uptoBulkAll elems + uptoBulkAll spare + 1
  | .agg parts => uptoBulkAll parts + 1
  | .iface _ d => uptoBulk d + 1
  | .map entries => uptoBulkEntries entries + 1
  | .held _ => 1
def uptoBulkAll {H : Type} : List (DataW H) → Nat
  | [] => 0
  | d :: r => uptoBulk d + uptoBulkAll r
def uptoBulkEntries {H : Type} : List (Lit × DataW H) → Nat
  | [] => 0
  | x :: r => uptoBulkEntry x + uptoBulkEntries r
def uptoBulkEntry {H : Type} : Lit × DataW H → Nat
  | (.string bytes, d) => bytes.length + uptoBulk d + 1
  | (_, d) => uptoBulk d + 1
 end
def uptoSmall : (H : Type) → List (DataW H) → Bool := fun _ ds => decide (uptoBulkAll ds ≤ 1048576)
def OpenSpec.upto (s : _root_.Go.ChangeSpec) : _root_.Go.OpenSpec := { _root_.Go.OpenSpec.ofChange s with cond := some uptoSmall }

/-- 'ferrymanlaw.SnapTapes', WHERE WHAT IT READS IS OF BULK AT MOST 1048576: true; the input reads as it did. -/
def snapTapesUptoRow : OpenClaim := { program := "ytlfljlhppigejab", sum := "c68eb2e582b74912414f9061f6826a3bb28bc9ef6ecaeade2f50de631d4aac59", func := "ferryman/ferrymanlaw.SnapTapes", spec := "snapTapes", inPlace := ["internal/abi.NoEscape"], unfollowed := true, recurses := true, plainKeys := false, apart := false, narrowed := true }
def SnapTapesUptoSaid : Prop := snapTapesUptoRow.holds Try.pinned (OpenSpec.upto snapTapesSpec)

/-- 'ferrymanlaw.ViewSays', WHERE WHAT IT READS IS OF BULK AT MOST 1048576: true; the input reads as it did. -/
def viewSaysUptoRow : OpenClaim := { program := "ytlfljlhppigejab", sum := "c68eb2e582b74912414f9061f6826a3bb28bc9ef6ecaeade2f50de631d4aac59", func := "ferryman/ferrymanlaw.ViewSays", spec := "viewSays", inPlace := ["internal/reflectlite.ValueOf", "internal/reflectlite.Swapper", "(internal/reflectlite.Value).Len"], unfollowed := true, recurses := true, plainKeys := false, apart := false, narrowed := true }
def ViewSaysUptoSaid : Prop := viewSaysUptoRow.holds Try.pinned (OpenSpec.upto viewSaysSpec)

/-- 'ferrymantop.TopElder', WHERE WHAT IT READS IS OF BULK AT MOST 1048576: true; the input reads as it did. -/
def topElderUptoRow : OpenClaim := { program := "ytlfljlhppigejab", sum := "c68eb2e582b74912414f9061f6826a3bb28bc9ef6ecaeade2f50de631d4aac59", func := "ferryman/ferrymantop.TopElder", spec := "topElder", unfollowed := true, recurses := true, plainKeys := false, apart := false, narrowed := true }
def TopElderUptoSaid : Prop := topElderUptoRow.holds Try.pinned (OpenSpec.upto topElderSpec)

/-- 'ferrymantop.TopSnap', WHERE WHAT IT READS IS OF BULK AT MOST 1048576: true; the input reads as it did. -/
def topSnapUptoRow : OpenClaim := { program := "ytlfljlhppigejab", sum := "c68eb2e582b74912414f9061f6826a3bb28bc9ef6ecaeade2f50de631d4aac59", func := "ferryman/ferrymantop.TopSnap", spec := "topSnap", inPlace := ["internal/abi.NoEscape"], unfollowed := true, recurses := true, plainKeys := false, apart := false, narrowed := true }
def TopSnapUptoSaid : Prop := topSnapUptoRow.holds Try.pinned (OpenSpec.upto topSnapSpec)

/-- 'ferrymantop.TopLeast', WHERE WHAT IT READS IS OF BULK AT MOST 1048576: true; the input reads as it did. -/
def topLeastUptoRow : OpenClaim := { program := "ytlfljlhppigejab", sum := "c68eb2e582b74912414f9061f6826a3bb28bc9ef6ecaeade2f50de631d4aac59", func := "ferryman/ferrymantop.TopLeast", spec := "topLeast", inPlace := ["internal/reflectlite.ValueOf", "internal/reflectlite.Swapper", "(internal/reflectlite.Value).Len"], unfollowed := true, recurses := true, plainKeys := false, apart := false, narrowed := true }
def TopLeastUptoSaid : Prop := topLeastUptoRow.holds Try.pinned (OpenSpec.upto topLeastSpec)

end Rows
end Go.Proofs.Ytlfljlhppigejab
