/- The rules of operands: each rule's function, and the map that code.rules makes of them. -/
import Derived.Test.YtififjlgjmgikaaFormats
import Derived.Test.YtififjlgjmgikaaW1
namespace Go.Proofs.Ytififjlgjmgikaa
set_option linter.all false
open Go.RowKit

def lenB (n : Int) (len : Nat) : Bool := withinB n 0 ((len : Int) - 1)
theorem lenB_lt {n : Int} {len : Nat} (h : lenB n len = true) : 0 ≤ n ∧ n < len := by
  simp only [lenB, withinB, Bool.and_eq_true, decide_eq_true_eq] at h
  omega
def ruleB (kind : Int) (c : CodeD) (n : Int) : Bool :=
  if kind = 0 then withinB n 0 0
  else if kind = 1 then withinB n (-2147483647) 2147483647
  else if kind = 2 then lenB n c.reals.length
  else if kind = 3 then withinB n 0 1
  else if kind = 4 then lenB n c.strings.length
  else if kind = 5 then withinB n 0 200
  else if kind = 6 then withinB n 0 1999
  else if kind = 7 then withinB n (-1) 1999
  else if kind = 8 then withinB n 0 2000
  else if kind = 9 then isTypeB n
  else if kind = 10 then isTypeB n || n == 4
  else if kind = 11 then lenB n c.owns.length && c.owns.getD n.toNat 0 != 0
  else if kind = 12 then lenB n c.owns.length && c.owns.getD n.toNat 0 == 0
  else if kind = 13 then lenB n c.thunks.length
  else if kind = 14 then lenB n c.procs.length
  else if kind = 15 then lenB n c.procs.length && (c.procs.getD n.toNat default).type != 0
  else if kind = 16 then lenB n c.instrs.length
  else if kind = 17 then lenB n c.switches.length
  else if kind = 18 then withinB n 0 8
  else if kind = 19 then withinB n 1 4
  else if kind = 20 then withinB n 1 2000
  else if kind = 21 then n == 1 || n == 2
  else if kind = 22 then withinB n 3 18
  else if kind = 23 then withinB n 1 3
  else withinB n 2 9
set_option maxHeartbeats 400000 in
theorem code_rule2 (H : PH) (v : Value) (c : CodeD) (n : Int) (w : World) (hw : Sees w H) (hc : CodeV H v c) :
    Calls Try.prog 100 #[v, .int .i64 n] w fun e w' => e = .returned (.bool (lenB n c.reals.length)) ∧ Below w.heap.size w w' := by
  obtain ⟨s0, s1, s2, s3, s4, s5, s6, rfl, hc⟩ := hc
  obtain ⟨A0, c0, rfl, k0, e0⟩ := hc.instrs.open_
  have b0 := hc.instrs.le
  obtain ⟨A1, c1, rfl, k1, e1⟩ := hc.procs.open_
  have b1 := hc.procs.le
  obtain ⟨A2, c2, rfl, k2, e2⟩ := hc.thunks.open_
  have b2 := hc.thunks.le
  obtain ⟨A3, c3, rfl, k3, e3⟩ := hc.switches.open_
  have b3 := hc.switches.le
  obtain ⟨A4, c4, rfl, k4, e4⟩ := hc.strings.open_
  have b4 := hc.strings.le
  obtain ⟨A5, c5, rfl, k5, e5⟩ := hc.reals.open_
  have b5 := hc.reals.le
  obtain ⟨A6, c6, rfl, k6, e6⟩ := hc.owns.open_
  have b6 := hc.owns.le
  clear hc
  clear e0 e1 e2 e3 e4 e5 e6
  go_enter Try.func100, Try.ntmps100
  go_wp2_with (go_at_call 34; refine (code_within _ _ _ _).mono ?_; rintro e w' ⟨rfl, rfl⟩)
  go_ret
  exact ⟨rfl, (Below.refl _ _).alloc (Nat.le_refl _) _⟩
set_option maxHeartbeats 400000 in
theorem code_rule4 (H : PH) (v : Value) (c : CodeD) (n : Int) (w : World) (hw : Sees w H) (hc : CodeV H v c) :
    Calls Try.prog 101 #[v, .int .i64 n] w fun e w' => e = .returned (.bool (lenB n c.strings.length)) ∧ Below w.heap.size w w' := by
  obtain ⟨s0, s1, s2, s3, s4, s5, s6, rfl, hc⟩ := hc
  obtain ⟨A0, c0, rfl, k0, e0⟩ := hc.instrs.open_
  have b0 := hc.instrs.le
  obtain ⟨A1, c1, rfl, k1, e1⟩ := hc.procs.open_
  have b1 := hc.procs.le
  obtain ⟨A2, c2, rfl, k2, e2⟩ := hc.thunks.open_
  have b2 := hc.thunks.le
  obtain ⟨A3, c3, rfl, k3, e3⟩ := hc.switches.open_
  have b3 := hc.switches.le
  obtain ⟨A4, c4, rfl, k4, e4⟩ := hc.strings.open_
  have b4 := hc.strings.le
  obtain ⟨A5, c5, rfl, k5, e5⟩ := hc.reals.open_
  have b5 := hc.reals.le
  obtain ⟨A6, c6, rfl, k6, e6⟩ := hc.owns.open_
  have b6 := hc.owns.le
  clear hc
  clear e0 e1 e2 e3 e4 e5 e6
  go_enter Try.func101, Try.ntmps101
  go_wp2_with (go_at_call 34; refine (code_within _ _ _ _).mono ?_; rintro e w' ⟨rfl, rfl⟩)
  go_ret
  exact ⟨rfl, (Below.refl _ _).alloc (Nat.le_refl _) _⟩
set_option maxHeartbeats 400000 in
theorem code_rule13 (H : PH) (v : Value) (c : CodeD) (n : Int) (w : World) (hw : Sees w H) (hc : CodeV H v c) :
    Calls Try.prog 106 #[v, .int .i64 n] w fun e w' => e = .returned (.bool (lenB n c.thunks.length)) ∧ Below w.heap.size w w' := by
  obtain ⟨s0, s1, s2, s3, s4, s5, s6, rfl, hc⟩ := hc
  obtain ⟨A0, c0, rfl, k0, e0⟩ := hc.instrs.open_
  have b0 := hc.instrs.le
  obtain ⟨A1, c1, rfl, k1, e1⟩ := hc.procs.open_
  have b1 := hc.procs.le
  obtain ⟨A2, c2, rfl, k2, e2⟩ := hc.thunks.open_
  have b2 := hc.thunks.le
  obtain ⟨A3, c3, rfl, k3, e3⟩ := hc.switches.open_
  have b3 := hc.switches.le
  obtain ⟨A4, c4, rfl, k4, e4⟩ := hc.strings.open_
  have b4 := hc.strings.le
  obtain ⟨A5, c5, rfl, k5, e5⟩ := hc.reals.open_
  have b5 := hc.reals.le
  obtain ⟨A6, c6, rfl, k6, e6⟩ := hc.owns.open_
  have b6 := hc.owns.le
  clear hc
  clear e0 e1 e2 e3 e4 e5 e6
  go_enter Try.func106, Try.ntmps106
  go_wp2_with (go_at_call 34; refine (code_within _ _ _ _).mono ?_; rintro e w' ⟨rfl, rfl⟩)
  go_ret
  exact ⟨rfl, (Below.refl _ _).alloc (Nat.le_refl _) _⟩
set_option maxHeartbeats 400000 in
theorem code_rule14 (H : PH) (v : Value) (c : CodeD) (n : Int) (w : World) (hw : Sees w H) (hc : CodeV H v c) :
    Calls Try.prog 107 #[v, .int .i64 n] w fun e w' => e = .returned (.bool (lenB n c.procs.length)) ∧ Below w.heap.size w w' := by
  obtain ⟨s0, s1, s2, s3, s4, s5, s6, rfl, hc⟩ := hc
  obtain ⟨A0, c0, rfl, k0, e0⟩ := hc.instrs.open_
  have b0 := hc.instrs.le
  obtain ⟨A1, c1, rfl, k1, e1⟩ := hc.procs.open_
  have b1 := hc.procs.le
  obtain ⟨A2, c2, rfl, k2, e2⟩ := hc.thunks.open_
  have b2 := hc.thunks.le
  obtain ⟨A3, c3, rfl, k3, e3⟩ := hc.switches.open_
  have b3 := hc.switches.le
  obtain ⟨A4, c4, rfl, k4, e4⟩ := hc.strings.open_
  have b4 := hc.strings.le
  obtain ⟨A5, c5, rfl, k5, e5⟩ := hc.reals.open_
  have b5 := hc.reals.le
  obtain ⟨A6, c6, rfl, k6, e6⟩ := hc.owns.open_
  have b6 := hc.owns.le
  clear hc
  clear e0 e1 e2 e3 e4 e5 e6
  go_enter Try.func107, Try.ntmps107
  go_wp2_with (go_at_call 34; refine (code_within _ _ _ _).mono ?_; rintro e w' ⟨rfl, rfl⟩)
  go_ret
  exact ⟨rfl, (Below.refl _ _).alloc (Nat.le_refl _) _⟩
set_option maxHeartbeats 400000 in
theorem code_rule16 (H : PH) (v : Value) (c : CodeD) (n : Int) (w : World) (hw : Sees w H) (hc : CodeV H v c) :
    Calls Try.prog 109 #[v, .int .i64 n] w fun e w' => e = .returned (.bool (lenB n c.instrs.length)) ∧ Below w.heap.size w w' := by
  obtain ⟨s0, s1, s2, s3, s4, s5, s6, rfl, hc⟩ := hc
  obtain ⟨A0, c0, rfl, k0, e0⟩ := hc.instrs.open_
  have b0 := hc.instrs.le
  obtain ⟨A1, c1, rfl, k1, e1⟩ := hc.procs.open_
  have b1 := hc.procs.le
  obtain ⟨A2, c2, rfl, k2, e2⟩ := hc.thunks.open_
  have b2 := hc.thunks.le
  obtain ⟨A3, c3, rfl, k3, e3⟩ := hc.switches.open_
  have b3 := hc.switches.le
  obtain ⟨A4, c4, rfl, k4, e4⟩ := hc.strings.open_
  have b4 := hc.strings.le
  obtain ⟨A5, c5, rfl, k5, e5⟩ := hc.reals.open_
  have b5 := hc.reals.le
  obtain ⟨A6, c6, rfl, k6, e6⟩ := hc.owns.open_
  have b6 := hc.owns.le
  clear hc
  clear e0 e1 e2 e3 e4 e5 e6
  go_enter Try.func109, Try.ntmps109
  go_wp2_with (go_at_call 34; refine (code_within _ _ _ _).mono ?_; rintro e w' ⟨rfl, rfl⟩)
  go_ret
  exact ⟨rfl, (Below.refl _ _).alloc (Nat.le_refl _) _⟩
set_option maxHeartbeats 400000 in
theorem code_rule17 (H : PH) (v : Value) (c : CodeD) (n : Int) (w : World) (hw : Sees w H) (hc : CodeV H v c) :
    Calls Try.prog 110 #[v, .int .i64 n] w fun e w' => e = .returned (.bool (lenB n c.switches.length)) ∧ Below w.heap.size w w' := by
  obtain ⟨s0, s1, s2, s3, s4, s5, s6, rfl, hc⟩ := hc
  obtain ⟨A0, c0, rfl, k0, e0⟩ := hc.instrs.open_
  have b0 := hc.instrs.le
  obtain ⟨A1, c1, rfl, k1, e1⟩ := hc.procs.open_
  have b1 := hc.procs.le
  obtain ⟨A2, c2, rfl, k2, e2⟩ := hc.thunks.open_
  have b2 := hc.thunks.le
  obtain ⟨A3, c3, rfl, k3, e3⟩ := hc.switches.open_
  have b3 := hc.switches.le
  obtain ⟨A4, c4, rfl, k4, e4⟩ := hc.strings.open_
  have b4 := hc.strings.le
  obtain ⟨A5, c5, rfl, k5, e5⟩ := hc.reals.open_
  have b5 := hc.reals.le
  obtain ⟨A6, c6, rfl, k6, e6⟩ := hc.owns.open_
  have b6 := hc.owns.le
  clear hc
  clear e0 e1 e2 e3 e4 e5 e6
  go_enter Try.func110, Try.ntmps110
  go_wp2_with (go_at_call 34; refine (code_within _ _ _ _).mono ?_; rintro e w' ⟨rfl, rfl⟩)
  go_ret
  exact ⟨rfl, (Below.refl _ _).alloc (Nat.le_refl _) _⟩
set_option maxHeartbeats 400000 in
theorem code_rule9 (H : PH) (v : Value) (c : CodeD) (n : Int) (w : World) (hw : Sees w H) (hc : CodeV H v c) :
    Calls Try.prog 102 #[v, .int .i64 n] w fun e w' => e = .returned (.bool (isTypeB n)) ∧ Below w.heap.size w w' := by
  obtain ⟨s0, s1, s2, s3, s4, s5, s6, rfl, hc⟩ := hc
  obtain ⟨A0, c0, rfl, k0, e0⟩ := hc.instrs.open_
  have b0 := hc.instrs.le
  obtain ⟨A1, c1, rfl, k1, e1⟩ := hc.procs.open_
  have b1 := hc.procs.le
  obtain ⟨A2, c2, rfl, k2, e2⟩ := hc.thunks.open_
  have b2 := hc.thunks.le
  obtain ⟨A3, c3, rfl, k3, e3⟩ := hc.switches.open_
  have b3 := hc.switches.le
  obtain ⟨A4, c4, rfl, k4, e4⟩ := hc.strings.open_
  have b4 := hc.strings.le
  obtain ⟨A5, c5, rfl, k5, e5⟩ := hc.reals.open_
  have b5 := hc.reals.le
  obtain ⟨A6, c6, rfl, k6, e6⟩ := hc.owns.open_
  have b6 := hc.owns.le
  clear hc
  clear e0 e1 e2 e3 e4 e5 e6
  go_enter Try.func102, Try.ntmps102
  go_wp2_with (go_at_call 94; refine (code_isType _ _).mono ?_; rintro e w' ⟨rfl, rfl⟩)
  go_ret
  exact ⟨rfl, (Below.refl _ _).alloc (Nat.le_refl _) _⟩
set_option maxHeartbeats 400000 in
theorem code_rule10 (H : PH) (v : Value) (c : CodeD) (n : Int) (w : World) (hw : Sees w H) (hc : CodeV H v c) :
    Calls Try.prog 103 #[v, .int .i64 n] w fun e w' => e = .returned (.bool (isTypeB n || n == 4)) ∧ Below w.heap.size w w' := by
  obtain ⟨s0, s1, s2, s3, s4, s5, s6, rfl, hc⟩ := hc
  obtain ⟨A0, c0, rfl, k0, e0⟩ := hc.instrs.open_
  have b0 := hc.instrs.le
  obtain ⟨A1, c1, rfl, k1, e1⟩ := hc.procs.open_
  have b1 := hc.procs.le
  obtain ⟨A2, c2, rfl, k2, e2⟩ := hc.thunks.open_
  have b2 := hc.thunks.le
  obtain ⟨A3, c3, rfl, k3, e3⟩ := hc.switches.open_
  have b3 := hc.switches.le
  obtain ⟨A4, c4, rfl, k4, e4⟩ := hc.strings.open_
  have b4 := hc.strings.le
  obtain ⟨A5, c5, rfl, k5, e5⟩ := hc.reals.open_
  have b5 := hc.reals.le
  obtain ⟨A6, c6, rfl, k6, e6⟩ := hc.owns.open_
  have b6 := hc.owns.le
  clear hc
  clear e0 e1 e2 e3 e4 e5 e6
  go_enter Try.func103, Try.ntmps103
  cases h0 : isTypeB n
  all_goals
    go_wp2_with (go_at_call 94; refine (code_isType _ _).mono ?_; rintro e w' ⟨rfl, rfl⟩; rw [h0])
    go_ret
    exact ⟨ret_bool (by simp [h0]), (Below.refl _ _).alloc (Nat.le_refl _) _⟩
set_option maxHeartbeats 400000 in
theorem code_rule11 (H : PH) (v : Value) (c : CodeD) (n : Int) (w : World) (hw : Sees w H) (hc : CodeV H v c) :
    Calls Try.prog 104 #[v, .int .i64 n] w fun e w' => e = .returned (.bool (lenB n c.owns.length && c.owns.getD n.toNat 0 != 0)) ∧ Below w.heap.size w w' := by
  cases h0 : lenB n c.owns.length
  · obtain ⟨s0, s1, s2, s3, s4, s5, s6, rfl, hc⟩ := hc
    obtain ⟨A0, c0, rfl, k0, -⟩ := hc.instrs.open_
    have b0 := hc.instrs.le
    obtain ⟨A1, c1, rfl, k1, -⟩ := hc.procs.open_
    have b1 := hc.procs.le
    obtain ⟨A2, c2, rfl, k2, -⟩ := hc.thunks.open_
    have b2 := hc.thunks.le
    obtain ⟨A3, c3, rfl, k3, -⟩ := hc.switches.open_
    have b3 := hc.switches.le
    obtain ⟨A4, c4, rfl, k4, -⟩ := hc.strings.open_
    have b4 := hc.strings.le
    obtain ⟨A5, c5, rfl, k5, -⟩ := hc.reals.open_
    have b5 := hc.reals.le
    obtain ⟨A6, c6, rfl, k6, -⟩ := hc.owns.open_
    have b6 := hc.owns.le
    clear hc
    go_enter Try.func104, Try.ntmps104
    go_wp2_with (go_at_call 34; refine (code_within _ _ _ _).mono ?_; rintro e w' ⟨rfl, rfl⟩; rw [show withinB n 0 ((c.owns.length : Int) - 1) = false from h0])
    go_ret
    exact ⟨ret_bool (by simp), (Below.refl _ _).alloc (Nat.le_refl _) _⟩
  · have hn := lenB_lt h0
    have hl := hc
    obtain ⟨s0, s1, s2, s3, s4, s5, s6, rfl, hc⟩ := hc
    obtain ⟨A0, c0, rfl, k0, -⟩ := hc.instrs.open_
    have b0 := hc.instrs.le
    obtain ⟨A1, c1, rfl, k1, -⟩ := hc.procs.open_
    have b1 := hc.procs.le
    obtain ⟨A2, c2, rfl, k2, -⟩ := hc.thunks.open_
    have b2 := hc.thunks.le
    obtain ⟨A3, c3, rfl, k3, -⟩ := hc.switches.open_
    have b3 := hc.switches.le
    obtain ⟨A4, c4, rfl, k4, -⟩ := hc.strings.open_
    have b4 := hc.strings.le
    obtain ⟨A5, c5, rfl, k5, -⟩ := hc.reals.open_
    have b5 := hc.reals.le
    obtain ⟨bb, off, c6, rfl, k6, hb, hcell, -⟩ := hc.owns.ints (by omega)
    have b6 := hc.owns.le
    clear hc
    have hlt := hw.lt' hb
    have hcl := hcell w hw n.toNat (by omega)
    clear hcell hl
    generalize c.owns.getD n.toNat 0 = x at *
    go_enter Try.func104, Try.ntmps104
    go_wp2_with (go_at_call 34; refine (code_within _ _ _ _).mono ?_; rintro e w' ⟨rfl, rfl⟩; rw [show withinB n 0 ((c.owns.length : Int) - 1) = true from h0])
    go_ret
    exact ⟨ret_bool (by simp), (Below.refl _ _).alloc (Nat.le_refl _) _⟩
set_option maxHeartbeats 400000 in
theorem code_rule12 (H : PH) (v : Value) (c : CodeD) (n : Int) (w : World) (hw : Sees w H) (hc : CodeV H v c) :
    Calls Try.prog 105 #[v, .int .i64 n] w fun e w' => e = .returned (.bool (lenB n c.owns.length && c.owns.getD n.toNat 0 == 0)) ∧ Below w.heap.size w w' := by
  cases h0 : lenB n c.owns.length
  · obtain ⟨s0, s1, s2, s3, s4, s5, s6, rfl, hc⟩ := hc
    obtain ⟨A0, c0, rfl, k0, -⟩ := hc.instrs.open_
    have b0 := hc.instrs.le
    obtain ⟨A1, c1, rfl, k1, -⟩ := hc.procs.open_
    have b1 := hc.procs.le
    obtain ⟨A2, c2, rfl, k2, -⟩ := hc.thunks.open_
    have b2 := hc.thunks.le
    obtain ⟨A3, c3, rfl, k3, -⟩ := hc.switches.open_
    have b3 := hc.switches.le
    obtain ⟨A4, c4, rfl, k4, -⟩ := hc.strings.open_
    have b4 := hc.strings.le
    obtain ⟨A5, c5, rfl, k5, -⟩ := hc.reals.open_
    have b5 := hc.reals.le
    obtain ⟨A6, c6, rfl, k6, -⟩ := hc.owns.open_
    have b6 := hc.owns.le
    clear hc
    go_enter Try.func105, Try.ntmps105
    go_wp2_with (go_at_call 34; refine (code_within _ _ _ _).mono ?_; rintro e w' ⟨rfl, rfl⟩; rw [show withinB n 0 ((c.owns.length : Int) - 1) = false from h0])
    go_ret
    exact ⟨ret_bool (by simp), (Below.refl _ _).alloc (Nat.le_refl _) _⟩
  · have hn := lenB_lt h0
    have hl := hc
    obtain ⟨s0, s1, s2, s3, s4, s5, s6, rfl, hc⟩ := hc
    obtain ⟨A0, c0, rfl, k0, -⟩ := hc.instrs.open_
    have b0 := hc.instrs.le
    obtain ⟨A1, c1, rfl, k1, -⟩ := hc.procs.open_
    have b1 := hc.procs.le
    obtain ⟨A2, c2, rfl, k2, -⟩ := hc.thunks.open_
    have b2 := hc.thunks.le
    obtain ⟨A3, c3, rfl, k3, -⟩ := hc.switches.open_
    have b3 := hc.switches.le
    obtain ⟨A4, c4, rfl, k4, -⟩ := hc.strings.open_
    have b4 := hc.strings.le
    obtain ⟨A5, c5, rfl, k5, -⟩ := hc.reals.open_
    have b5 := hc.reals.le
    obtain ⟨bb, off, c6, rfl, k6, hb, hcell, -⟩ := hc.owns.ints (by omega)
    have b6 := hc.owns.le
    clear hc
    have hlt := hw.lt' hb
    have hcl := hcell w hw n.toNat (by omega)
    clear hcell hl
    generalize c.owns.getD n.toNat 0 = x at *
    go_enter Try.func105, Try.ntmps105
    go_wp2_with (go_at_call 34; refine (code_within _ _ _ _).mono ?_; rintro e w' ⟨rfl, rfl⟩; rw [show withinB n 0 ((c.owns.length : Int) - 1) = true from h0])
    go_ret
    exact ⟨ret_bool (by simp), (Below.refl _ _).alloc (Nat.le_refl _) _⟩
set_option maxHeartbeats 400000 in
theorem code_rule15 (H : PH) (v : Value) (c : CodeD) (n : Int) (w : World) (hw : Sees w H) (hc : CodeV H v c) :
    Calls Try.prog 108 #[v, .int .i64 n] w fun e w' => e = .returned (.bool (lenB n c.procs.length && (c.procs.getD n.toNat default).type != 0)) ∧ Below w.heap.size w w' := by
  cases h0 : lenB n c.procs.length
  · obtain ⟨s0, s1, s2, s3, s4, s5, s6, rfl, hc⟩ := hc
    obtain ⟨A0, c0, rfl, k0, -⟩ := hc.instrs.open_
    have b0 := hc.instrs.le
    obtain ⟨A1, c1, rfl, k1, -⟩ := hc.procs.open_
    have b1 := hc.procs.le
    obtain ⟨A2, c2, rfl, k2, -⟩ := hc.thunks.open_
    have b2 := hc.thunks.le
    obtain ⟨A3, c3, rfl, k3, -⟩ := hc.switches.open_
    have b3 := hc.switches.le
    obtain ⟨A4, c4, rfl, k4, -⟩ := hc.strings.open_
    have b4 := hc.strings.le
    obtain ⟨A5, c5, rfl, k5, -⟩ := hc.reals.open_
    have b5 := hc.reals.le
    obtain ⟨A6, c6, rfl, k6, -⟩ := hc.owns.open_
    have b6 := hc.owns.le
    clear hc
    go_enter Try.func108, Try.ntmps108
    go_wp2_with (go_at_call 34; refine (code_within _ _ _ _).mono ?_; rintro e w' ⟨rfl, rfl⟩; rw [show withinB n 0 ((c.procs.length : Int) - 1) = false from h0])
    go_ret
    exact ⟨ret_bool (by simp), (Below.refl _ _).alloc (Nat.le_refl _) _⟩
  · have hn := lenB_lt h0
    have hl := hc
    obtain ⟨s0, s1, s2, s3, s4, s5, s6, rfl, hc⟩ := hc
    obtain ⟨A0, c0, rfl, k0, -⟩ := hc.instrs.open_
    have b0 := hc.instrs.le
    obtain ⟨bb, off, c1, rfl, k1, hb, hcell, -⟩ := hc.procs.procs (by omega)
    have b1 := hc.procs.le
    obtain ⟨A2, c2, rfl, k2, -⟩ := hc.thunks.open_
    have b2 := hc.thunks.le
    obtain ⟨A3, c3, rfl, k3, -⟩ := hc.switches.open_
    have b3 := hc.switches.le
    obtain ⟨A4, c4, rfl, k4, -⟩ := hc.strings.open_
    have b4 := hc.strings.le
    obtain ⟨A5, c5, rfl, k5, -⟩ := hc.reals.open_
    have b5 := hc.reals.le
    obtain ⟨A6, c6, rfl, k6, -⟩ := hc.owns.open_
    have b6 := hc.owns.le
    clear hc
    have hlt := hw.lt' hb
    have hcl := (hcell w hw n.toNat (by omega)).2.2.1
    clear hcell hl
    generalize (c.procs.getD n.toNat default).type = x at *
    go_enter Try.func108, Try.ntmps108
    go_wp2_with (go_at_call 34; refine (code_within _ _ _ _).mono ?_; rintro e w' ⟨rfl, rfl⟩; rw [show withinB n 0 ((c.procs.length : Int) - 1) = true from h0])
    go_ret
    exact ⟨ret_bool (by simp), (Below.refl _ _).alloc (Nat.le_refl _) _⟩
set_option maxHeartbeats 400000 in
theorem code_rule21 (H : PH) (v : Value) (c : CodeD) (n : Int) (w : World) (hw : Sees w H) (hc : CodeV H v c) :
    Calls Try.prog 111 #[v, .int .i64 n] w fun e w' => e = .returned (.bool (n == 1 || n == 2)) ∧ Below w.heap.size w w' := by
  obtain ⟨s0, s1, s2, s3, s4, s5, s6, rfl, hc⟩ := hc
  obtain ⟨A0, c0, rfl, k0, -⟩ := hc.instrs.open_
  have b0 := hc.instrs.le
  obtain ⟨A1, c1, rfl, k1, -⟩ := hc.procs.open_
  have b1 := hc.procs.le
  obtain ⟨A2, c2, rfl, k2, -⟩ := hc.thunks.open_
  have b2 := hc.thunks.le
  obtain ⟨A3, c3, rfl, k3, -⟩ := hc.switches.open_
  have b3 := hc.switches.le
  obtain ⟨A4, c4, rfl, k4, -⟩ := hc.strings.open_
  have b4 := hc.strings.le
  obtain ⟨A5, c5, rfl, k5, -⟩ := hc.reals.open_
  have b5 := hc.reals.le
  obtain ⟨A6, c6, rfl, k6, -⟩ := hc.owns.open_
  have b6 := hc.owns.le
  clear hc
  go_enter Try.func111, Try.ntmps111
  go_wp2
  all_goals (go_ret; exact ⟨ret_bool (by simp [*]), (Below.refl _ _).alloc (Nat.le_refl _) _⟩)
set_option maxHeartbeats 400000 in
theorem code_between1 (H : PH) (v : Value) (c : CodeD) (n lo hi : Int) (p q : Nat) (w : World) (hc : CodeV H v c) (hp : w.cell? ⟨p, 0, none⟩ = some (.int .i64 lo)) (hq : w.cell? ⟨q, 0, none⟩ = some (.int .i64 hi)) :
    Calls Try.prog 119 #[v, .int .i64 n, .pointer (some ⟨p, 0, none⟩), .pointer (some ⟨q, 0, none⟩)] w fun e w' => e = .returned (.bool (withinB n lo hi)) ∧ Below w.heap.size w w' := by
  obtain ⟨s0, s1, s2, s3, s4, s5, s6, rfl, hc⟩ := hc
  obtain ⟨A0, c0, rfl, k0, -⟩ := hc.instrs.open_
  have b0 := hc.instrs.le
  obtain ⟨A1, c1, rfl, k1, -⟩ := hc.procs.open_
  have b1 := hc.procs.le
  obtain ⟨A2, c2, rfl, k2, -⟩ := hc.thunks.open_
  have b2 := hc.thunks.le
  obtain ⟨A3, c3, rfl, k3, -⟩ := hc.switches.open_
  have b3 := hc.switches.le
  obtain ⟨A4, c4, rfl, k4, -⟩ := hc.strings.open_
  have b4 := hc.strings.le
  obtain ⟨A5, c5, rfl, k5, -⟩ := hc.reals.open_
  have b5 := hc.reals.le
  obtain ⟨A6, c6, rfl, k6, -⟩ := hc.owns.open_
  have b6 := hc.owns.le
  clear hc
  have hpl := World.block_lt_of_cell? w _ hp
  have hql := World.block_lt_of_cell? w _ hq
  go_enter Try.func119, Try.ntmps119
  go_wp2_with (go_at_call 34; refine (code_within _ _ _ _).mono ?_; rintro e w' ⟨rfl, rfl⟩)
  go_ret
  exact ⟨rfl, (Below.refl _ _).alloc (Nat.le_refl _) _⟩
end Go.Proofs.Ytififjlgjmgikaa
