/- Closures of code.tables; real.Valid. -/
import Derived.Test.YtififjlgjmgikaaSlices1b
import Derived.Test.YtififjlgjmgikaaW1
namespace Go.Proofs.Ytififjlgjmgikaa
set_option linter.all false
open Go.RowKit
def oddB (x : Int) : Bool := decide (x < 32) || decide (126 < x) || x == 34
def absI (x : Int) : Int := mxI x (wrap64 (-x))
def realB (x : RealD) : Bool :=
  (x.man == 0 && x.exp == 0) || (decide (1 ≤ absI x.man) && decide (absI x.man < 16777216) && (x.exp == -150 || (decide (8388608 ≤ absI x.man) && decide (-150 < x.exp) && decide (x.exp ≤ 150))))
set_option maxHeartbeats 400000 in
theorem code_tables3 (x : Int) (w : World) : Calls Try.prog 96 #[.int .u8 x] w fun e w' => e = .returned (.bool (oddB x)) ∧ w = w' := by
  go_enter Try.func96, Try.ntmps96
  go_wp2
  all_goals (go_ret; exact ⟨ret_bool (by simp [oddB, *] <;> omega), rfl⟩)
set_option maxHeartbeats 400000 in
theorem code_tables1 (x : Int) (b : Nat) (A : Option Addr) (n cap : Nat) (hn : n ≤ 140737488351232) (w : World) (hc : w.cell? ⟨b, 0, none⟩ = some (.slice A n cap)) :
    Calls Try.prog 93 #[.int .i64 x, .pointer (some ⟨b, 0, none⟩)] w fun e w' => e = .returned (.bool (withinB x 0 ((n : Int) - 1))) ∧ w = w' := by
  go_enter Try.func93, Try.ntmps93
  go_wp2_with (go_at_call 34; refine (code_within _ _ _ _).mono ?_; rintro e w' ⟨rfl, rfl⟩)
  go_ret
  exact ⟨rfl, rfl⟩
set_option maxHeartbeats 400000 in
theorem code_tables2 (x : Int) (b b1 : Nat) (A : Option Addr) (n cap : Nat) (hn : n ≤ 140737488351232) (w : World) (hc : w.cell? ⟨b, 0, none⟩ = some (.slice A n cap))
    (hf : w.cell? ⟨b1, 0, none⟩ = some (.func (.func 93) #[] #[.pointer (some ⟨b, 0, none⟩)])) :
    Calls Try.prog 95 #[.int .i64 x, .pointer (some ⟨b1, 0, none⟩)] w fun e w' => e = .returned (.bool (!withinB x 0 ((n : Int) - 1))) ∧ w = w' := by
  go_enter Try.func95, Try.ntmps95
  go_wp2_with (go_at_call 93; refine (code_tables1 _ _ _ _ _ hn _ hc).mono ?_; rintro e w' ⟨rfl, rfl⟩)
  go_ret
  exact ⟨rfl, rfl⟩
set_option maxHeartbeats 800000 in
theorem real_Valid (x : RealD) (hx : I64 x.man ∧ I64 x.exp) (w : World) : Calls Try.prog 98 #[.agg #[.int .i64 x.man, .int .i64 x.exp]] w fun e w' => e = .returned (.bool (realB x)) ∧ Below w.heap.size w w' := by
  obtain ⟨m, e⟩ := x
  obtain ⟨⟨hm1, hm2⟩, he1, he2⟩ := hx
  simp only at *
  go_enter Try.func98, Try.ntmps98
  go_wp2
  all_goals (go_ret; refine ⟨ret_bool ?_, (Below.refl _ _).alloc (Nat.le_refl _) _⟩)
  all_goals
    have hw0 : m = 0 → wrap64 (-m) = 0 := by intro h; rw [h]; unfold wrap64; omega
    simp only [realB, absI, mxI]
    generalize wrap64 (-m) = mm at *
    rw [Bool.eq_iff_iff]
    simp only [Bool.or_eq_true, Bool.and_eq_true, decide_eq_true_eq, beq_iff_eq, true_iff, false_iff, Bool.false_eq_true]
    split <;> (first | omega | (simp only [true_or, and_true]; omega))
end Go.Proofs.Ytififjlgjmgikaa
