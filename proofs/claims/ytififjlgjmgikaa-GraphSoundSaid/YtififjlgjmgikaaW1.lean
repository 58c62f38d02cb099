/- Small functions of package code. -/
import Derived.Test.YtififjlgjmgikaaData
import Derived.Test.YtififjlgjmgikaaRows
namespace Go.Proofs.Ytififjlgjmgikaa
set_option linter.all false
open Go.RowKit
def withinB (n lo hi : Int) : Bool := decide (lo ≤ n) && decide (n ≤ hi)
def isTypeB (n : Int) : Bool := n == 1 || n == 2 || n == 3
def largeB (c : CodeD) : Bool := c.instrs.length == 0 || decide (20000 < c.instrs.length) || decide (2000 < c.procs.length) || decide (2000 < c.thunks.length) || decide (2000 < c.switches.length) || decide (2000 < c.strings.length) || decide (2000 < c.reals.length) || decide (2000 < c.owns.length)
set_option maxHeartbeats 400000 in
theorem code_within (n lo hi : Int) (w : World) : Calls Try.prog 34 #[.int .i64 n, .int .i64 lo, .int .i64 hi] w fun e w' => e = .returned (.bool (withinB n lo hi)) ∧ w = w' := by
  go_enter Try.func34, Try.ntmps34
  go_wp2
  all_goals (go_ret; exact ⟨ret_bool (by simp [withinB]; omega), rfl⟩)
set_option maxHeartbeats 400000 in
theorem code_isType (n : Int) (w : World) : Calls Try.prog 94 #[.int .i64 n] w fun e w' => e = .returned (.bool (isTypeB n)) ∧ w = w' := by
  go_enter Try.func94, Try.ntmps94
  go_wp2
  all_goals (go_ret; exact ⟨ret_bool (by simp [isTypeB, *]), rfl⟩)
def mxI (x y : Int) : Int := if x < y then y else x
theorem run_max6 (P : Program) (w : World) (ts : Array TypeId) (t : TypeId) (a b c d e f : Int) :
    (Builtin.max_ ts t #[.int .i64 a, .int .i64 b, .int .i64 c, .int .i64 d, .int .i64 e, .int .i64 f]).run P w = .ok (.int .i64 (mxI (mxI (mxI (mxI (mxI a b) c) d) e) f)) w := rfl
theorem mxI_lt (x y z : Int) : z < mxI x y ↔ z < x ∨ z < y := by unfold mxI; split <;> omega
set_option maxHeartbeats 400000 in
theorem code_large (H : PH) (v : Value) (c : CodeD) (w : World) (hc : CodeV H v c) : Calls Try.prog 75 #[v] w fun e w' => e = .returned (.bool (largeB c)) ∧ Below w.heap.size w w' := by
  obtain ⟨s0, s1, s2, s3, s4, s5, s6, rfl, hc⟩ := hc
  obtain ⟨A0, c0, rfl, k0, -⟩ := hc.instrs.open_
  obtain ⟨A1, c1, rfl, k1, -⟩ := hc.procs.open_
  obtain ⟨A2, c2, rfl, k2, -⟩ := hc.thunks.open_
  obtain ⟨A3, c3, rfl, k3, -⟩ := hc.switches.open_
  obtain ⟨A4, c4, rfl, k4, -⟩ := hc.strings.open_
  obtain ⟨A5, c5, rfl, k5, -⟩ := hc.reals.open_
  obtain ⟨A6, c6, rfl, k6, -⟩ := hc.owns.open_
  have hmx := run_max6 Try.prog
  go_enter Try.func75, Try.ntmps75
  go_wp2
  all_goals (go_ret; refine ⟨ret_bool ?_, (Below.refl _ _).alloc (Nat.le_refl _) _⟩)
  · simp [largeB, *]
  · have h1 : ¬ c.instrs.length = 0 := by simp [*]
    rw [Bool.eq_iff_iff]
    simp only [largeB, Bool.or_eq_true, decide_eq_true_eq, beq_iff_eq, mxI_lt]
    omega
  · simp only [largeB]
    rw [Bool.eq_iff_iff]
    simp only [Bool.or_eq_true, decide_eq_true_eq, beq_iff_eq, true_iff]
    omega
end Go.Proofs.Ytififjlgjmgikaa
