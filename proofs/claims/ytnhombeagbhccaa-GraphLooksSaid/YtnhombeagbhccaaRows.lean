/-
  No cell of these rows narrows 'for every input' (looked for: loops, veiled, ifaces, maps, wideKeys, modest, calm, conditions, laid).
  DERIVED. THE GIVEN ROWS OF THIS SEAT. 4 by the template 'for every input the law returns true; each argument reads behind the call as it read before'; 0 by the template 'total and deterministic' (their statements: YtnhombeagbhccaaTotals.lean).
  GIVEN WITH THE SEED: the statements are not yours to turn. If you find one false, say at which input.
  Laid BY PROGRAM, IN A SANDBOX (cutbox-rows.mjs): the forced cells as the released guide's own fill.sh prints them over the translation 94f9ff389cddbb2e… (all of the seat's roots in one cut). By AI agents, Wed Nov 11 2026. No macro, syntax, notation, axiom, sorry.
-/
import Derived.Test.YtnhombeagbhccaaChecked
import GoSem.Claim
import GoSem.ClaimJoined
import GoSem.ClaimMapViews
import Derived.JoinedTies
import Derived.KernelRfl
namespace Go.Proofs.Ytnhombeagbhccaa
/- THE CELL 'sum', in the pinned program and in every row, IS THE sha256 OF THE DUMP (.gsa) THAT YtnhombeagbhccaaProg.lean LOADS. Nothing in Lean hashes anything: it is a label: what it is worth is what the hold of that sum in a sandbox is worth. -/
noncomputable def Try.pinned : Pinned := { name := "ytnhombeagbhccaa", sum := "94f9ff389cddbb2e3d80fd0ceda156f3d9b400d20a635f4448b1a7cc3924be0b", checked := Try.checked }
namespace Rows
def none {H : Type} : Left H := { results := [], args := [] }

/-- 'demesnelaw10.GraphPlays': WHATEVER THE INPUT: true; the input reads as it did. -/
def graphPlaysSpec : ChangeSpec := { name := "graphPlays", fn := fun _ => fun
  | [d1, d2, d3, d4] => { results := [.lit (.bool true)], args := [d1, d2, d3, d4] }
  | _ => none }
def graphPlaysRow : OpenClaim := { program := "ytnhombeagbhccaa", sum := "94f9ff389cddbb2e3d80fd0ceda156f3d9b400d20a635f4448b1a7cc3924be0b", func := "demesne/demesnelaw10.GraphPlays", spec := "graphPlays", unfollowed := true, recurses := true, apart := false }
def GraphPlaysSaid : Prop := graphPlaysRow.holds Try.pinned (OpenSpec.ofChange graphPlaysSpec)

/-- ITS FALSE NEIGHBOUR: 'it returns false'. Refute it at one input. -/
def graphPlaysWrong : ChangeSpec := { name := "graphPlays", fn := fun _ => fun
  | [d1, d2, d3, d4] => { results := [.lit (.bool false)], args := [d1, d2, d3, d4] }
  | _ => none }
def GraphPlaysWrongFalsely : Prop := graphPlaysRow.holds Try.pinned (OpenSpec.ofChange graphPlaysWrong)

/-- 'demesnelaw10.GraphGone': WHATEVER THE INPUT: true; the input reads as it did. -/
def graphGoneSpec : ChangeSpec := { name := "graphGone", fn := fun _ => fun
  | [d1, d2] => { results := [.lit (.bool true)], args := [d1, d2] }
  | _ => none }
def graphGoneRow : OpenClaim := { program := "ytnhombeagbhccaa", sum := "94f9ff389cddbb2e3d80fd0ceda156f3d9b400d20a635f4448b1a7cc3924be0b", func := "demesne/demesnelaw10.GraphGone", spec := "graphGone", unfollowed := true, recurses := true, apart := false }
def GraphGoneSaid : Prop := graphGoneRow.holds Try.pinned (OpenSpec.ofChange graphGoneSpec)

/-- ITS FALSE NEIGHBOUR: 'it returns false'. Refute it at one input. -/
def graphGoneWrong : ChangeSpec := { name := "graphGone", fn := fun _ => fun
  | [d1, d2] => { results := [.lit (.bool false)], args := [d1, d2] }
  | _ => none }
def GraphGoneWrongFalsely : Prop := graphGoneRow.holds Try.pinned (OpenSpec.ofChange graphGoneWrong)

/-- 'demesnelaw10.GraphLooks': WHATEVER THE INPUT: true; the input reads as it did. -/
def graphLooksSpec : ChangeSpec := { name := "graphLooks", fn := fun _ => fun
  | [d1, d2, d3, d4, d5] => { results := [.lit (.bool true)], args := [d1, d2, d3, d4, d5] }
  | _ => none }
def graphLooksRow : OpenClaim := { program := "ytnhombeagbhccaa", sum := "94f9ff389cddbb2e3d80fd0ceda156f3d9b400d20a635f4448b1a7cc3924be0b", func := "demesne/demesnelaw10.GraphLooks", spec := "graphLooks", unfollowed := true, recurses := true, apart := false }
def GraphLooksSaid : Prop := graphLooksRow.holds Try.pinned (OpenSpec.ofChange graphLooksSpec)

/-- ITS FALSE NEIGHBOUR: 'it returns false'. Refute it at one input. -/
def graphLooksWrong : ChangeSpec := { name := "graphLooks", fn := fun _ => fun
  | [d1, d2, d3, d4, d5] => { results := [.lit (.bool false)], args := [d1, d2, d3, d4, d5] }
  | _ => none }
def GraphLooksWrongFalsely : Prop := graphLooksRow.holds Try.pinned (OpenSpec.ofChange graphLooksWrong)

/-- 'demesnelaw10.GraphNil': WHATEVER THE INPUT: true; the input reads as it did. -/
def graphNilSpec : ChangeSpec := { name := "graphNil", fn := fun _ => fun
  | [d] => { results := [.lit (.bool true)], args := [d] }
  | _ => none }
def graphNilRow : OpenClaim := { program := "ytnhombeagbhccaa", sum := "94f9ff389cddbb2e3d80fd0ceda156f3d9b400d20a635f4448b1a7cc3924be0b", func := "demesne/demesnelaw10.GraphNil", spec := "graphNil", unfollowed := true, recurses := true, apart := false }
def GraphNilSaid : Prop := graphNilRow.holds Try.pinned (OpenSpec.ofChange graphNilSpec)

/-- ITS FALSE NEIGHBOUR: 'it returns false'. Refute it at one input. -/
def graphNilWrong : ChangeSpec := { name := "graphNil", fn := fun _ => fun
  | [d] => { results := [.lit (.bool false)], args := [d] }
  | _ => none }
def GraphNilWrongFalsely : Prop := graphNilRow.holds Try.pinned (OpenSpec.ofChange graphNilWrong)

/- THE SECOND FORM. 'bulk': how many values and letters a reading holds, each counted each time it is reached (what is shared counts as often as it is met; a slice's spare places count too). A statement '..UptoSaid' is the law's where the arguments, and the package variables that the reading takes, are together of bulk at most 1048576: NARROWER than '..Said'. Prove '..Said' where nothing that the law and all that it calls make is longer than what came in: it says more and counts as full. Else prove '..UptoSaid'. A law counts once. -/
mutual
def uptoBulk {H : Type} : DataW H → Nat
  | .lit (.string bytes) => bytes.length + 1
  | .lit _ => 1
  | .nil => 1
  | .ptr d => uptoBulk d + 1
  | .slice elems spare => uptoBulkAll elems + uptoBulkAll spare + 1
  | .agg parts => uptoBulkAll parts + 1
  | .iface _ d => uptoBulk d + 1
  | .map entries => uptoBulkEntries entries + 1
  | .held _ => 1
def uptoBulkAll {H : Type} : List (DataW H) → Nat
  | [] => 0
  | d :: r => uptoBulk d + uptoBulkAll r
def uptoBulkEntries {H : Type} : List (Lit × DataW H) → Nat
  | [] => 0
  | x :: r => uptoBulkEntry x + uptoBulkEntries r
def uptoBulkEntry {H : Type} : Lit × DataW H → Nat
  | (.string bytes, d) => bytes.length + uptoBulk d + 1
  | (_, d) => uptoBulk d + 1
 end
def uptoSmall : (H : Type) → List (DataW H) → Bool := fun _ ds => decide (uptoBulkAll ds ≤ 1048576)
def OpenSpec.upto (s : _root_.Go.ChangeSpec) : _root_.Go.OpenSpec := { _root_.Go.OpenSpec.ofChange s with cond := some uptoSmall }

/-- 'demesnelaw10.GraphPlays', WHERE WHAT IT READS IS OF BULK AT MOST 1048576: true; the input reads as it did. -/
def graphPlaysUptoRow : OpenClaim := { program := "ytnhombeagbhccaa", sum := "94f9ff389cddbb2e3d80fd0ceda156f3d9b400d20a635f4448b1a7cc3924be0b", func := "demesne/demesnelaw10.GraphPlays", spec := "graphPlays", unfollowed := true, recurses := true, apart := false, narrowed := true }
def GraphPlaysUptoSaid : Prop := graphPlaysUptoRow.holds Try.pinned (OpenSpec.upto graphPlaysSpec)

/-- 'demesnelaw10.GraphGone', WHERE WHAT IT READS IS OF BULK AT MOST 1048576: true; the input reads as it did. -/
def graphGoneUptoRow : OpenClaim := { program := "ytnhombeagbhccaa", sum := "94f9ff389cddbb2e3d80fd0ceda156f3d9b400d20a635f4448b1a7cc3924be0b", func := "demesne/demesnelaw10.GraphGone", spec := "graphGone", unfollowed := true, recurses := true, apart := false, narrowed := true }
def GraphGoneUptoSaid : Prop := graphGoneUptoRow.holds Try.pinned (OpenSpec.upto graphGoneSpec)

/-- 'demesnelaw10.GraphLooks', WHERE WHAT IT READS IS OF BULK AT MOST 1048576: true; the input reads as it did. -/
def graphLooksUptoRow : OpenClaim := { program := "ytnhombeagbhccaa", sum := "94f9ff389cddbb2e3d80fd0ceda156f3d9b400d20a635f4448b1a7cc3924be0b", func := "demesne/demesnelaw10.GraphLooks", spec := "graphLooks", unfollowed := true, recurses := true, apart := false, narrowed := true }
def GraphLooksUptoSaid : Prop := graphLooksUptoRow.holds Try.pinned (OpenSpec.upto graphLooksSpec)

/-- 'demesnelaw10.GraphNil', WHERE WHAT IT READS IS OF BULK AT MOST 1048576: true; the input reads as it did. -/
def graphNilUptoRow : OpenClaim := { program := "ytnhombeagbhccaa", sum := "94f9ff389cddbb2e3d80fd0ceda156f3d9b400d20a635f4448b1a7cc3924be0b", func := "demesne/demesnelaw10.GraphNil", spec := "graphNil", unfollowed := true, recurses := true, apart := false, narrowed := true }
def GraphNilUptoSaid : Prop := graphNilUptoRow.holds Try.pinned (OpenSpec.upto graphNilSpec)

end Rows
end Go.Proofs.Ytnhombeagbhccaa
