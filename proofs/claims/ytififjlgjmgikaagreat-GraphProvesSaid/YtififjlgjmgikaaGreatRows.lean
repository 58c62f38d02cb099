/-
  No cell of these rows narrows 'for every input' (looked for: loops, veiled, ifaces, maps, wideKeys, modest, calm, conditions, laid).
  DERIVED. THE GIVEN ROWS OF THIS SEAT. 8 by the template 'for every input the law returns true; each argument reads behind the call as it read before'; 0 by the template 'total and deterministic' (their statements: YtififjlgjmgikaaGreatTotals.lean).
  GIVEN WITH THE SEED: the statements are not yours to turn. If you find one false, say at which input.
  Laid BY PROGRAM, IN A SANDBOX (cutbox-rows.mjs): the forced cells as the released guide's own fill.sh prints them over the translation a5b23da9b6d7a7a9… (all of the seat's roots in one cut). By AI agents, Wed Nov 11 2026. No macro, syntax, notation, axiom, sorry.
-/
import Derived.Test.YtififjlgjmgikaaGreatChecked
import GoSem.Claim
import GoSem.ClaimJoined
import GoSem.ClaimMapViews
import Derived.JoinedTies
import Derived.KernelRfl
namespace Go.Proofs.YtififjlgjmgikaaGreat
/- THE CELL 'sum', in the pinned program and in every row, IS THE sha256 OF THE DUMP (.gsa) THAT YtififjlgjmgikaaGreatProg.lean LOADS. Nothing in Lean hashes anything: it is a label: what it is worth is what the hold of that sum in a sandbox is worth. -/
noncomputable def Tryz.pinned : Pinned := { name := "ytififjlgjmgikaagreat", sum := "a5b23da9b6d7a7a92edf21874483021cef3bbe8955041baa85318e1480232ec1", checked := Tryz.checked }
namespace Rows
def none {H : Type} : Left H := { results := [], args := [] }

/-- 'manorboylaw19.GraphIdoms': WHATEVER THE INPUT: true; the input reads as it did. -/
def graphIdomsSpec : ChangeSpec := { name := "graphIdoms", fn := fun _ => fun
  | [d] => { results := [.lit (.bool true)], args := [d] }
  | _ => none }
def graphIdomsRow : OpenClaim := { program := "ytififjlgjmgikaagreat", sum := "a5b23da9b6d7a7a92edf21874483021cef3bbe8955041baa85318e1480232ec1", func := "manorboy/manorboylaw19.GraphIdoms", spec := "graphIdoms", unfollowed := true, recurses := true, plainKeys := false, apart := false }
def GraphIdomsSaid : Prop := graphIdomsRow.holds Tryz.pinned (OpenSpec.ofChange graphIdomsSpec)

/-- ITS FALSE NEIGHBOUR: 'it returns false'. Refute it at one input. -/
def graphIdomsWrong : ChangeSpec := { name := "graphIdoms", fn := fun _ => fun
  | [d] => { results := [.lit (.bool false)], args := [d] }
  | _ => none }
def GraphIdomsWrongFalsely : Prop := graphIdomsRow.holds Tryz.pinned (OpenSpec.ofChange graphIdomsWrong)

/-- 'manorboylaw19.GraphBlocks': WHATEVER THE INPUT: true; the input reads as it did. -/
def graphBlocksSpec : ChangeSpec := { name := "graphBlocks", fn := fun _ => fun
  | [d1, d2] => { results := [.lit (.bool true)], args := [d1, d2] }
  | _ => none }
def graphBlocksRow : OpenClaim := { program := "ytififjlgjmgikaagreat", sum := "a5b23da9b6d7a7a92edf21874483021cef3bbe8955041baa85318e1480232ec1", func := "manorboy/manorboylaw19.GraphBlocks", spec := "graphBlocks", unfollowed := true, recurses := true, plainKeys := false, apart := false }
def GraphBlocksSaid : Prop := graphBlocksRow.holds Tryz.pinned (OpenSpec.ofChange graphBlocksSpec)

/-- ITS FALSE NEIGHBOUR: 'it returns false'. Refute it at one input. -/
def graphBlocksWrong : ChangeSpec := { name := "graphBlocks", fn := fun _ => fun
  | [d1, d2] => { results := [.lit (.bool false)], args := [d1, d2] }
  | _ => none }
def GraphBlocksWrongFalsely : Prop := graphBlocksRow.holds Tryz.pinned (OpenSpec.ofChange graphBlocksWrong)

/-- 'manorboylaw19.GraphAsks': WHATEVER THE INPUT: true; the input reads as it did. -/
def graphAsksSpec : ChangeSpec := { name := "graphAsks", fn := fun _ => fun
  | [d1, d2, d3] => { results := [.lit (.bool true)], args := [d1, d2, d3] }
  | _ => none }
def graphAsksRow : OpenClaim := { program := "ytififjlgjmgikaagreat", sum := "a5b23da9b6d7a7a92edf21874483021cef3bbe8955041baa85318e1480232ec1", func := "manorboy/manorboylaw19.GraphAsks", spec := "graphAsks", unfollowed := true, recurses := true, plainKeys := false, apart := false }
def GraphAsksSaid : Prop := graphAsksRow.holds Tryz.pinned (OpenSpec.ofChange graphAsksSpec)

/-- ITS FALSE NEIGHBOUR: 'it returns false'. Refute it at one input. -/
def graphAsksWrong : ChangeSpec := { name := "graphAsks", fn := fun _ => fun
  | [d1, d2, d3] => { results := [.lit (.bool false)], args := [d1, d2, d3] }
  | _ => none }
def GraphAsksWrongFalsely : Prop := graphAsksRow.holds Tryz.pinned (OpenSpec.ofChange graphAsksWrong)

/-- 'manorboylaw19.GraphLives': WHATEVER THE INPUT: true; the input reads as it did. -/
def graphLivesSpec : ChangeSpec := { name := "graphLives", fn := fun _ => fun
  | [d1, d2, d3, d4] => { results := [.lit (.bool true)], args := [d1, d2, d3, d4] }
  | _ => none }
def graphLivesRow : OpenClaim := { program := "ytififjlgjmgikaagreat", sum := "a5b23da9b6d7a7a92edf21874483021cef3bbe8955041baa85318e1480232ec1", func := "manorboy/manorboylaw19.GraphLives", spec := "graphLives", unfollowed := true, recurses := true, plainKeys := false, apart := false }
def GraphLivesSaid : Prop := graphLivesRow.holds Tryz.pinned (OpenSpec.ofChange graphLivesSpec)

/-- ITS FALSE NEIGHBOUR: 'it returns false'. Refute it at one input. -/
def graphLivesWrong : ChangeSpec := { name := "graphLives", fn := fun _ => fun
  | [d1, d2, d3, d4] => { results := [.lit (.bool false)], args := [d1, d2, d3, d4] }
  | _ => none }
def GraphLivesWrongFalsely : Prop := graphLivesRow.holds Tryz.pinned (OpenSpec.ofChange graphLivesWrong)

/-- 'manorboylaw19.GraphReasons': WHATEVER THE INPUT: true; the input reads as it did. -/
def graphReasonsSpec : ChangeSpec := { name := "graphReasons", fn := fun _ => fun
  | [d1, d2, d3, d4, d5] => { results := [.lit (.bool true)], args := [d1, d2, d3, d4, d5] }
  | _ => none }
def graphReasonsRow : OpenClaim := { program := "ytififjlgjmgikaagreat", sum := "a5b23da9b6d7a7a92edf21874483021cef3bbe8955041baa85318e1480232ec1", func := "manorboy/manorboylaw19.GraphReasons", spec := "graphReasons", unfollowed := true, recurses := true, plainKeys := false, apart := false }
def GraphReasonsSaid : Prop := graphReasonsRow.holds Tryz.pinned (OpenSpec.ofChange graphReasonsSpec)

/-- ITS FALSE NEIGHBOUR: 'it returns false'. Refute it at one input. -/
def graphReasonsWrong : ChangeSpec := { name := "graphReasons", fn := fun _ => fun
  | [d1, d2, d3, d4, d5] => { results := [.lit (.bool false)], args := [d1, d2, d3, d4, d5] }
  | _ => none }
def GraphReasonsWrongFalsely : Prop := graphReasonsRow.holds Tryz.pinned (OpenSpec.ofChange graphReasonsWrong)

/-- 'manorboylaw19.GraphChecks': WHATEVER THE INPUT: true; the input reads as it did. -/
def graphChecksSpec : ChangeSpec := { name := "graphChecks", fn := fun _ => fun
  | [d1, d2] => { results := [.lit (.bool true)], args := [d1, d2] }
  | _ => none }
def graphChecksRow : OpenClaim := { program := "ytififjlgjmgikaagreat", sum := "a5b23da9b6d7a7a92edf21874483021cef3bbe8955041baa85318e1480232ec1", func := "manorboy/manorboylaw19.GraphChecks", spec := "graphChecks", unfollowed := true, recurses := true, plainKeys := false, apart := false }
def GraphChecksSaid : Prop := graphChecksRow.holds Tryz.pinned (OpenSpec.ofChange graphChecksSpec)

/-- ITS FALSE NEIGHBOUR: 'it returns false'. Refute it at one input. -/
def graphChecksWrong : ChangeSpec := { name := "graphChecks", fn := fun _ => fun
  | [d1, d2] => { results := [.lit (.bool false)], args := [d1, d2] }
  | _ => none }
def GraphChecksWrongFalsely : Prop := graphChecksRow.holds Tryz.pinned (OpenSpec.ofChange graphChecksWrong)

/-- 'manorboylaw19.GraphProves': WHATEVER THE INPUT: true; the input reads as it did. -/
def graphProvesSpec : ChangeSpec := { name := "graphProves", fn := fun _ => fun
  | [d] => { results := [.lit (.bool true)], args := [d] }
  | _ => none }
def graphProvesRow : OpenClaim := { program := "ytififjlgjmgikaagreat", sum := "a5b23da9b6d7a7a92edf21874483021cef3bbe8955041baa85318e1480232ec1", func := "manorboy/manorboylaw19.GraphProves", spec := "graphProves", unfollowed := true, recurses := true, plainKeys := false, apart := false }
def GraphProvesSaid : Prop := graphProvesRow.holds Tryz.pinned (OpenSpec.ofChange graphProvesSpec)

/-- ITS FALSE NEIGHBOUR: 'it returns false'. Refute it at one input. -/
def graphProvesWrong : ChangeSpec := { name := "graphProves", fn := fun _ => fun
  | [d] => { results := [.lit (.bool false)], args := [d] }
  | _ => none }
def GraphProvesWrongFalsely : Prop := graphProvesRow.holds Tryz.pinned (OpenSpec.ofChange graphProvesWrong)

/-- 'manorboylaw19.GraphLoops': WHATEVER THE INPUT: true; the input reads as it did. -/
def graphLoopsSpec : ChangeSpec := { name := "graphLoops", fn := fun _ => fun
  | [d] => { results := [.lit (.bool true)], args := [d] }
  | _ => none }
def graphLoopsRow : OpenClaim := { program := "ytififjlgjmgikaagreat", sum := "a5b23da9b6d7a7a92edf21874483021cef3bbe8955041baa85318e1480232ec1", func := "manorboy/manorboylaw19.GraphLoops", spec := "graphLoops", unfollowed := true, recurses := true, plainKeys := false, apart := false }
def GraphLoopsSaid : Prop := graphLoopsRow.holds Tryz.pinned (OpenSpec.ofChange graphLoopsSpec)

/-- ITS FALSE NEIGHBOUR: 'it returns false'. Refute it at one input. -/
def graphLoopsWrong : ChangeSpec := { name := "graphLoops", fn := fun _ => fun
  | [d] => { results := [.lit (.bool false)], args := [d] }
  | _ => none }
def GraphLoopsWrongFalsely : Prop := graphLoopsRow.holds Tryz.pinned (OpenSpec.ofChange graphLoopsWrong)

/- THE SECOND FORM. 'bulk': how many values and letters a reading holds, each counted each time it is reached (what is shared counts as often as it is met; a slice's spare places count too). A statement '..UptoSaid' is the law's where the arguments, and the package variables that the reading takes, are together of bulk at most 1048576: NARROWER than '..Said'. Prove '..Said' where nothing that the law and all that it calls make is longer than what came in: it says more and counts as full. Else prove '..UptoSaid'. A law counts once. -/
mutual
def uptoBulk {H : Type} : DataW H → Nat
  | .lit (.string bytes) => bytes.length + 1
  | .lit _ => 1
  | .nil => 1
  | .ptr d => uptoBulk d + 1
  | .slice elems spare => uptoBulkAll elems + uptoBulkAll spare + 1
  | .agg parts => uptoBulkAll parts + 1
  | .iface _ d => uptoBulk d + 1
  | .map entries => uptoBulkEntries entries + 1
  | .held _ => 1
def uptoBulkAll {H : Type} : List (DataW H) → Nat
  | [] => 0
  | d :: r => uptoBulk d + uptoBulkAll r
def uptoBulkEntries {H : Type} : List (Lit × DataW H) → Nat
  | [] => 0
  | x :: r => uptoBulkEntry x + uptoBulkEntries r
def uptoBulkEntry {H : Type} : Lit × DataW H → Nat
  | (.string bytes, d) => bytes.length + uptoBulk d + 1
  | (_, d) => uptoBulk d + 1
 end
def uptoSmall : (H : Type) → List (DataW H) → Bool := fun _ ds => decide (uptoBulkAll ds ≤ 1048576)
def OpenSpec.upto (s : _root_.Go.ChangeSpec) : _root_.Go.OpenSpec := { _root_.Go.OpenSpec.ofChange s with cond := some uptoSmall }

/-- 'manorboylaw19.GraphIdoms', WHERE WHAT IT READS IS OF BULK AT MOST 1048576: true; the input reads as it did. -/
def graphIdomsUptoRow : OpenClaim := { program := "ytififjlgjmgikaagreat", sum := "a5b23da9b6d7a7a92edf21874483021cef3bbe8955041baa85318e1480232ec1", func := "manorboy/manorboylaw19.GraphIdoms", spec := "graphIdoms", unfollowed := true, recurses := true, plainKeys := false, apart := false, narrowed := true }
def GraphIdomsUptoSaid : Prop := graphIdomsUptoRow.holds Tryz.pinned (OpenSpec.upto graphIdomsSpec)

/-- 'manorboylaw19.GraphBlocks', WHERE WHAT IT READS IS OF BULK AT MOST 1048576: true; the input reads as it did. -/
def graphBlocksUptoRow : OpenClaim := { program := "ytififjlgjmgikaagreat", sum := "a5b23da9b6d7a7a92edf21874483021cef3bbe8955041baa85318e1480232ec1", func := "manorboy/manorboylaw19.GraphBlocks", spec := "graphBlocks", unfollowed := true, recurses := true, plainKeys := false, apart := false, narrowed := true }
def GraphBlocksUptoSaid : Prop := graphBlocksUptoRow.holds Tryz.pinned (OpenSpec.upto graphBlocksSpec)

/-- 'manorboylaw19.GraphAsks', WHERE WHAT IT READS IS OF BULK AT MOST 1048576: true; the input reads as it did. -/
def graphAsksUptoRow : OpenClaim := { program := "ytififjlgjmgikaagreat", sum := "a5b23da9b6d7a7a92edf21874483021cef3bbe8955041baa85318e1480232ec1", func := "manorboy/manorboylaw19.GraphAsks", spec := "graphAsks", unfollowed := true, recurses := true, plainKeys := false, apart := false, narrowed := true }
def GraphAsksUptoSaid : Prop := graphAsksUptoRow.holds Tryz.pinned (OpenSpec.upto graphAsksSpec)

/-- 'manorboylaw19.GraphLives', WHERE WHAT IT READS IS OF BULK AT MOST 1048576: true; the input reads as it did. -/
def graphLivesUptoRow : OpenClaim := { program := "ytififjlgjmgikaagreat", sum := "a5b23da9b6d7a7a92edf21874483021cef3bbe8955041baa85318e1480232ec1", func := "manorboy/manorboylaw19.GraphLives", spec := "graphLives", unfollowed := true, recurses := true, plainKeys := false, apart := false, narrowed := true }
def GraphLivesUptoSaid : Prop := graphLivesUptoRow.holds Tryz.pinned (OpenSpec.upto graphLivesSpec)

/-- 'manorboylaw19.GraphReasons', WHERE WHAT IT READS IS OF BULK AT MOST 1048576: true; the input reads as it did. -/
def graphReasonsUptoRow : OpenClaim := { program := "ytififjlgjmgikaagreat", sum := "a5b23da9b6d7a7a92edf21874483021cef3bbe8955041baa85318e1480232ec1", func := "manorboy/manorboylaw19.GraphReasons", spec := "graphReasons", unfollowed := true, recurses := true, plainKeys := false, apart := false, narrowed := true }
def GraphReasonsUptoSaid : Prop := graphReasonsUptoRow.holds Tryz.pinned (OpenSpec.upto graphReasonsSpec)

/-- 'manorboylaw19.GraphChecks', WHERE WHAT IT READS IS OF BULK AT MOST 1048576: true; the input reads as it did. -/
def graphChecksUptoRow : OpenClaim := { program := "ytififjlgjmgikaagreat", sum := "a5b23da9b6d7a7a92edf21874483021cef3bbe8955041baa85318e1480232ec1", func := "manorboy/manorboylaw19.GraphChecks", spec := "graphChecks", unfollowed := true, recurses := true, plainKeys := false, apart := false, narrowed := true }
def GraphChecksUptoSaid : Prop := graphChecksUptoRow.holds Tryz.pinned (OpenSpec.upto graphChecksSpec)

/-- 'manorboylaw19.GraphProves', WHERE WHAT IT READS IS OF BULK AT MOST 1048576: true; the input reads as it did. -/
def graphProvesUptoRow : OpenClaim := { program := "ytififjlgjmgikaagreat", sum := "a5b23da9b6d7a7a92edf21874483021cef3bbe8955041baa85318e1480232ec1", func := "manorboy/manorboylaw19.GraphProves", spec := "graphProves", unfollowed := true, recurses := true, plainKeys := false, apart := false, narrowed := true }
def GraphProvesUptoSaid : Prop := graphProvesUptoRow.holds Tryz.pinned (OpenSpec.upto graphProvesSpec)

/-- 'manorboylaw19.GraphLoops', WHERE WHAT IT READS IS OF BULK AT MOST 1048576: true; the input reads as it did. -/
def graphLoopsUptoRow : OpenClaim := { program := "ytififjlgjmgikaagreat", sum := "a5b23da9b6d7a7a92edf21874483021cef3bbe8955041baa85318e1480232ec1", func := "manorboy/manorboylaw19.GraphLoops", spec := "graphLoops", unfollowed := true, recurses := true, plainKeys := false, apart := false, narrowed := true }
def GraphLoopsUptoSaid : Prop := graphLoopsUptoRow.holds Tryz.pinned (OpenSpec.upto graphLoopsSpec)

end Rows
end Go.Proofs.YtififjlgjmgikaaGreat
