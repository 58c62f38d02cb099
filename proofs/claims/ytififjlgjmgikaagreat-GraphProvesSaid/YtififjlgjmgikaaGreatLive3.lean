/- graph.CheckLive. GraphLeast, walked. -/
import Derived.Test.YtififjlgjmgikaaGreatLiveA
namespace Go.Proofs.YtififjlgjmgikaaGreat
set_option linter.all false
open Go.RowKit

open Classical in
noncomputable def ckE (n : Nat) (nx : Nat → List Int) (us ds ls : List Int) : Int := if ∀ p, p < n → CkP nx us ds ls p then 0 else 8
end Go.Proofs.YtififjlgjmgikaaGreat
namespace Go.Proofs.YtififjlgjmgikaaGreat
set_option linter.all false
open Go.RowKit

noncomputable def ckAll (c : CodeD) (us ds ls : List Int) : Int := if setsE c [us, ds, ls] = 0 then ckE c.instrs.length (nextL c) us ds ls else setsE c [us, ds, ls]
end Go.Proofs.YtififjlgjmgikaaGreat
