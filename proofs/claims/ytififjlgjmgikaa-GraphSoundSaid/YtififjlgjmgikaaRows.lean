/-
  No cell of these rows narrows 'for every input' (looked for: loops, veiled, ifaces, maps, wideKeys, modest, calm, conditions, laid).
  DERIVED. THE GIVEN ROWS OF THIS SEAT. 7 by the template 'for every input the law returns true; each argument reads behind the call as it read before'; 0 by the template 'total and deterministic' (their statements: YtififjlgjmgikaaTotals.lean).
  GIVEN WITH THE SEED: the statements are not yours to turn. If you find one false, say at which input.
  Laid BY PROGRAM, IN A SANDBOX (cutbox-rows.mjs): the forced cells as the released guide's own fill.sh prints them over the translation d6c877181e131840… (all of the seat's roots in one cut). By AI agents, Wed Nov 11 2026. No macro, syntax, notation, axiom, sorry.
-/
import Derived.Test.YtififjlgjmgikaaChecked
import GoSem.Claim
import GoSem.ClaimJoined
import GoSem.ClaimMapViews
import Derived.JoinedTies
import Derived.KernelRfl
namespace Go.Proofs.Ytififjlgjmgikaa
/- THE CELL 'sum', in the pinned program and in every row, IS THE sha256 OF THE DUMP (.gsa) THAT YtififjlgjmgikaaProg.lean LOADS. Nothing in Lean hashes anything: it is a label: what it is worth is what the hold of that sum in a sandbox is worth. -/
noncomputable def Try.pinned : Pinned := { name := "ytififjlgjmgikaa", sum := "d6c877181e1318406f775615f9f125ff7b9d51e2156be8f14b7ecf9dfed60de4", checked := Try.checked }
namespace Rows
def none {H : Type} : Left H := { results := [], args := [] }

/-- 'manorboylaw19.GraphCovers': WHATEVER THE INPUT: true; the input reads as it did. -/
def graphCoversSpec : ChangeSpec := { name := "graphCovers", fn := fun _ => fun
  | [d] => { results := [.lit (.bool true)], args := [d] }
  | _ => none }
def graphCoversRow : OpenClaim := { program := "ytififjlgjmgikaa", sum := "d6c877181e1318406f775615f9f125ff7b9d51e2156be8f14b7ecf9dfed60de4", func := "manorboy/manorboylaw19.GraphCovers", spec := "graphCovers", unfollowed := true, recurses := true, apart := false }
def GraphCoversSaid : Prop := graphCoversRow.holds Try.pinned (OpenSpec.ofChange graphCoversSpec)

/-- ITS FALSE NEIGHBOUR: 'it returns false'. Refute it at one input. -/
def graphCoversWrong : ChangeSpec := { name := "graphCovers", fn := fun _ => fun
  | [d] => { results := [.lit (.bool false)], args := [d] }
  | _ => none }
def GraphCoversWrongFalsely : Prop := graphCoversRow.holds Try.pinned (OpenSpec.ofChange graphCoversWrong)

/-- 'manorboylaw19.GraphOrder': WHATEVER THE INPUT: true; the input reads as it did. -/
def graphOrderSpec : ChangeSpec := { name := "graphOrder", fn := fun _ => fun
  | [d1, d2, d3, d4] => { results := [.lit (.bool true)], args := [d1, d2, d3, d4] }
  | _ => none }
def graphOrderRow : OpenClaim := { program := "ytififjlgjmgikaa", sum := "d6c877181e1318406f775615f9f125ff7b9d51e2156be8f14b7ecf9dfed60de4", func := "manorboy/manorboylaw19.GraphOrder", spec := "graphOrder", unfollowed := true, recurses := true, apart := false }
def GraphOrderSaid : Prop := graphOrderRow.holds Try.pinned (OpenSpec.ofChange graphOrderSpec)

/-- ITS FALSE NEIGHBOUR: 'it returns false'. Refute it at one input. -/
def graphOrderWrong : ChangeSpec := { name := "graphOrder", fn := fun _ => fun
  | [d1, d2, d3, d4] => { results := [.lit (.bool false)], args := [d1, d2, d3, d4] }
  | _ => none }
def GraphOrderWrongFalsely : Prop := graphOrderRow.holds Try.pinned (OpenSpec.ofChange graphOrderWrong)

/-- 'manorboylaw19.GraphParts': WHATEVER THE INPUT: true; the input reads as it did. -/
def graphPartsSpec : ChangeSpec := { name := "graphParts", fn := fun _ => fun
  | [d1, d2, d3, d4] => { results := [.lit (.bool true)], args := [d1, d2, d3, d4] }
  | _ => none }
def graphPartsRow : OpenClaim := { program := "ytififjlgjmgikaa", sum := "d6c877181e1318406f775615f9f125ff7b9d51e2156be8f14b7ecf9dfed60de4", func := "manorboy/manorboylaw19.GraphParts", spec := "graphParts", unfollowed := true, recurses := true, apart := false }
def GraphPartsSaid : Prop := graphPartsRow.holds Try.pinned (OpenSpec.ofChange graphPartsSpec)

/-- ITS FALSE NEIGHBOUR: 'it returns false'. Refute it at one input. -/
def graphPartsWrong : ChangeSpec := { name := "graphParts", fn := fun _ => fun
  | [d1, d2, d3, d4] => { results := [.lit (.bool false)], args := [d1, d2, d3, d4] }
  | _ => none }
def GraphPartsWrongFalsely : Prop := graphPartsRow.holds Try.pinned (OpenSpec.ofChange graphPartsWrong)

/-- 'manorboylaw19.GraphLeast': WHATEVER THE INPUT: true; the input reads as it did. -/
def graphLeastSpec : ChangeSpec := { name := "graphLeast", fn := fun _ => fun
  | [d1, d2, d3, d4] => { results := [.lit (.bool true)], args := [d1, d2, d3, d4] }
  | _ => none }
def graphLeastRow : OpenClaim := { program := "ytififjlgjmgikaa", sum := "d6c877181e1318406f775615f9f125ff7b9d51e2156be8f14b7ecf9dfed60de4", func := "manorboy/manorboylaw19.GraphLeast", spec := "graphLeast", unfollowed := true, recurses := true, apart := false }
def GraphLeastSaid : Prop := graphLeastRow.holds Try.pinned (OpenSpec.ofChange graphLeastSpec)

/-- ITS FALSE NEIGHBOUR: 'it returns false'. Refute it at one input. -/
def graphLeastWrong : ChangeSpec := { name := "graphLeast", fn := fun _ => fun
  | [d1, d2, d3, d4] => { results := [.lit (.bool false)], args := [d1, d2, d3, d4] }
  | _ => none }
def GraphLeastWrongFalsely : Prop := graphLeastRow.holds Try.pinned (OpenSpec.ofChange graphLeastWrong)

/-- 'manorboylaw19.GraphHeads': WHATEVER THE INPUT: true; the input reads as it did. -/
def graphHeadsSpec : ChangeSpec := { name := "graphHeads", fn := fun _ => fun
  | [d] => { results := [.lit (.bool true)], args := [d] }
  | _ => none }
def graphHeadsRow : OpenClaim := { program := "ytififjlgjmgikaa", sum := "d6c877181e1318406f775615f9f125ff7b9d51e2156be8f14b7ecf9dfed60de4", func := "manorboy/manorboylaw19.GraphHeads", spec := "graphHeads", unfollowed := true, recurses := true, apart := false }
def GraphHeadsSaid : Prop := graphHeadsRow.holds Try.pinned (OpenSpec.ofChange graphHeadsSpec)

/-- ITS FALSE NEIGHBOUR: 'it returns false'. Refute it at one input. -/
def graphHeadsWrong : ChangeSpec := { name := "graphHeads", fn := fun _ => fun
  | [d] => { results := [.lit (.bool false)], args := [d] }
  | _ => none }
def GraphHeadsWrongFalsely : Prop := graphHeadsRow.holds Try.pinned (OpenSpec.ofChange graphHeadsWrong)

/-- 'manorboylaw19.GraphKnots': WHATEVER THE INPUT: true; the input reads as it did. -/
def graphKnotsSpec : ChangeSpec := { name := "graphKnots", fn := fun _ => fun
  | [d1, d2] => { results := [.lit (.bool true)], args := [d1, d2] }
  | _ => none }
def graphKnotsRow : OpenClaim := { program := "ytififjlgjmgikaa", sum := "d6c877181e1318406f775615f9f125ff7b9d51e2156be8f14b7ecf9dfed60de4", func := "manorboy/manorboylaw19.GraphKnots", spec := "graphKnots", unfollowed := true, recurses := true, apart := false }
def GraphKnotsSaid : Prop := graphKnotsRow.holds Try.pinned (OpenSpec.ofChange graphKnotsSpec)

/-- ITS FALSE NEIGHBOUR: 'it returns false'. Refute it at one input. -/
def graphKnotsWrong : ChangeSpec := { name := "graphKnots", fn := fun _ => fun
  | [d1, d2] => { results := [.lit (.bool false)], args := [d1, d2] }
  | _ => none }
def GraphKnotsWrongFalsely : Prop := graphKnotsRow.holds Try.pinned (OpenSpec.ofChange graphKnotsWrong)

/-- 'manorboylaw19.GraphSound': WHATEVER THE INPUT: true; the input reads as it did. -/
def graphSoundSpec : ChangeSpec := { name := "graphSound", fn := fun _ => fun
  | [d1, d2, d3, d4] => { results := [.lit (.bool true)], args := [d1, d2, d3, d4] }
  | _ => none }
def graphSoundRow : OpenClaim := { program := "ytififjlgjmgikaa", sum := "d6c877181e1318406f775615f9f125ff7b9d51e2156be8f14b7ecf9dfed60de4", func := "manorboy/manorboylaw19.GraphSound", spec := "graphSound", unfollowed := true, recurses := true, apart := false }
def GraphSoundSaid : Prop := graphSoundRow.holds Try.pinned (OpenSpec.ofChange graphSoundSpec)

/-- ITS FALSE NEIGHBOUR: 'it returns false'. Refute it at one input. -/
def graphSoundWrong : ChangeSpec := { name := "graphSound", fn := fun _ => fun
  | [d1, d2, d3, d4] => { results := [.lit (.bool false)], args := [d1, d2, d3, d4] }
  | _ => none }
def GraphSoundWrongFalsely : Prop := graphSoundRow.holds Try.pinned (OpenSpec.ofChange graphSoundWrong)

/- THE SECOND FORM. 'bulk': how many values and letters a reading holds, each counted each time it is reached (what is shared counts as often as it is met; a slice's spare places count too). A statement '..UptoSaid' is the law's where the arguments, and the package variables that the reading takes, are together of bulk at most 1048576: NARROWER than '..Said'. Prove '..Said' where nothing that the law and all that it calls make is longer than what came in: it says more and counts as full. Else prove '..UptoSaid'. A law counts once. -/
mutual
def uptoBulk {H : Type} : DataW H → Nat
  | .lit (.string bytes) => bytes.length + 1
  | .lit _ => 1
  | .nil => 1
  | .ptr d => uptoBulk d + 1
  | .slice elems spare => uptoBulkAll elems + uptoBulkAll spare + 1
  | .agg parts => uptoBulkAll parts + 1
  | .iface _ d => uptoBulk d + 1
  | .map entries => uptoBulkEntries entries + 1
  | .held _ => 1
def uptoBulkAll {H : Type} : List (DataW H) → Nat
  | [] => 0
  | d :: r => uptoBulk d + uptoBulkAll r
def uptoBulkEntries {H : Type} : List (Lit × DataW H) → Nat
  | [] => 0
  | x :: r => uptoBulkEntry x + uptoBulkEntries r
def uptoBulkEntry {H : Type} : Lit × DataW H → Nat
  | (.string bytes, d) => bytes.length + uptoBulk d + 1
  | (_, d) => uptoBulk d + 1
 end
def uptoSmall : (H : Type) → List (DataW H) → Bool := fun _ ds => decide (uptoBulkAll ds ≤ 1048576)
def OpenSpec.upto (s : _root_.Go.ChangeSpec) : _root_.Go.OpenSpec := { _root_.Go.OpenSpec.ofChange s with cond := some uptoSmall }

/-- 'manorboylaw19.GraphCovers', WHERE WHAT IT READS IS OF BULK AT MOST 1048576: true; the input reads as it did. -/
def graphCoversUptoRow : OpenClaim := { program := "ytififjlgjmgikaa", sum := "d6c877181e1318406f775615f9f125ff7b9d51e2156be8f14b7ecf9dfed60de4", func := "manorboy/manorboylaw19.GraphCovers", spec := "graphCovers", unfollowed := true, recurses := true, apart := false, narrowed := true }
def GraphCoversUptoSaid : Prop := graphCoversUptoRow.holds Try.pinned (OpenSpec.upto graphCoversSpec)

/-- 'manorboylaw19.GraphOrder', WHERE WHAT IT READS IS OF BULK AT MOST 1048576: true; the input reads as it did. -/
def graphOrderUptoRow : OpenClaim := { program := "ytififjlgjmgikaa", sum := "d6c877181e1318406f775615f9f125ff7b9d51e2156be8f14b7ecf9dfed60de4", func := "manorboy/manorboylaw19.GraphOrder", spec := "graphOrder", unfollowed := true, recurses := true, apart := false, narrowed := true }
def GraphOrderUptoSaid : Prop := graphOrderUptoRow.holds Try.pinned (OpenSpec.upto graphOrderSpec)

/-- 'manorboylaw19.GraphParts', WHERE WHAT IT READS IS OF BULK AT MOST 1048576: true; the input reads as it did. -/
def graphPartsUptoRow : OpenClaim := { program := "ytififjlgjmgikaa", sum := "d6c877181e1318406f775615f9f125ff7b9d51e2156be8f14b7ecf9dfed60de4", func := "manorboy/manorboylaw19.GraphParts", spec := "graphParts", unfollowed := true, recurses := true, apart := false, narrowed := true }
def GraphPartsUptoSaid : Prop := graphPartsUptoRow.holds Try.pinned (OpenSpec.upto graphPartsSpec)

/-- 'manorboylaw19.GraphLeast', WHERE WHAT IT READS IS OF BULK AT MOST 1048576: true; the input reads as it did. -/
def graphLeastUptoRow : OpenClaim := { program := "ytififjlgjmgikaa", sum := "d6c877181e1318406f775615f9f125ff7b9d51e2156be8f14b7ecf9dfed60de4", func := "manorboy/manorboylaw19.GraphLeast", spec := "graphLeast", unfollowed := true, recurses := true, apart := false, narrowed := true }
def GraphLeastUptoSaid : Prop := graphLeastUptoRow.holds Try.pinned (OpenSpec.upto graphLeastSpec)

/-- 'manorboylaw19.GraphHeads', WHERE WHAT IT READS IS OF BULK AT MOST 1048576: true; the input reads as it did. -/
def graphHeadsUptoRow : OpenClaim := { program := "ytififjlgjmgikaa", sum := "d6c877181e1318406f775615f9f125ff7b9d51e2156be8f14b7ecf9dfed60de4", func := "manorboy/manorboylaw19.GraphHeads", spec := "graphHeads", unfollowed := true, recurses := true, apart := false, narrowed := true }
def GraphHeadsUptoSaid : Prop := graphHeadsUptoRow.holds Try.pinned (OpenSpec.upto graphHeadsSpec)

/-- 'manorboylaw19.GraphKnots', WHERE WHAT IT READS IS OF BULK AT MOST 1048576: true; the input reads as it did. -/
def graphKnotsUptoRow : OpenClaim := { program := "ytififjlgjmgikaa", sum := "d6c877181e1318406f775615f9f125ff7b9d51e2156be8f14b7ecf9dfed60de4", func := "manorboy/manorboylaw19.GraphKnots", spec := "graphKnots", unfollowed := true, recurses := true, apart := false, narrowed := true }
def GraphKnotsUptoSaid : Prop := graphKnotsUptoRow.holds Try.pinned (OpenSpec.upto graphKnotsSpec)

/-- 'manorboylaw19.GraphSound', WHERE WHAT IT READS IS OF BULK AT MOST 1048576: true; the input reads as it did. -/
def graphSoundUptoRow : OpenClaim := { program := "ytififjlgjmgikaa", sum := "d6c877181e1318406f775615f9f125ff7b9d51e2156be8f14b7ecf9dfed60de4", func := "manorboy/manorboylaw19.GraphSound", spec := "graphSound", unfollowed := true, recurses := true, apart := false, narrowed := true }
def GraphSoundUptoSaid : Prop := graphSoundUptoRow.holds Try.pinned (OpenSpec.upto graphSoundSpec)

end Rows
end Go.Proofs.Ytififjlgjmgikaa
