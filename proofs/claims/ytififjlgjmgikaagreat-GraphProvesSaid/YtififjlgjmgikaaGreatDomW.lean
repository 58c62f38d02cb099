/- graph.Dominates, few. -/
import Derived.Test.YtififjlgjmgikaaGreatAwake
import Derived.Test.YtififjlgjmgikaaGreatDomM
namespace Go.Proofs.YtififjlgjmgikaaGreat
set_option linter.all false
open Go.RowKit

noncomputable def domD (f : FlowD) (a b : Int) : Bool := f.reached.getD b.toNat false && !dcd (AroundR f a b)
noncomputable def domE (c : CodeD) (a b : Int) : Int := if checkedE c = 0 then (if bothB (theFlow c) a b = true then 0 else 5) else checkedE c
noncomputable def domV (c : CodeD) (a b : Int) : Bool := decide (domE c a b = 0) && domD (theFlow c) a b
set_option maxHeartbeats 1000000 in
theorem law_few (H : PH) (v : Value) (c : CodeD) (w : World) (hc : CodeV H v c) :
    Calls Tryz.prog 12 #[v] w fun e w' => e = .returned (.bool (decide (c.instrs.length ≤ 120))) ∧ Below w.heap.size w w' := by
  obtain ⟨s0, s1, s2, s3, s4, s5, s6, rfl, hc⟩ := hc
  have b0 := hc.instrs.le
  obtain ⟨A0, c0, rfl, k0, -⟩ := hc.instrs.open_
  by_cases h : c.instrs.length ≤ 120
  · have h' : (c.instrs.length : Int) ≤ 120 := by omega
    rw [decide_eq_true h]
    go_enter Tryz.func12, Tryz.ntmps12
    go_wp2
    go_ret
    exact ⟨rfl, (Below.refl _ _).alloc (Nat.le_refl _) _⟩
  · have h' : ¬ (c.instrs.length : Int) ≤ 120 := by omega
    rw [decide_eq_false h]
    go_enter Tryz.func12, Tryz.ntmps12
    go_wp2
    go_ret
    exact ⟨rfl, (Below.refl _ _).alloc (Nat.le_refl _) _⟩
end Go.Proofs.YtififjlgjmgikaaGreat
