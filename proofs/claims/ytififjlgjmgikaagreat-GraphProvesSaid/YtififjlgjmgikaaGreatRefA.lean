/- The reference's layer 14: operands (seat .Z). The reference's layer 14: instructions (seat .Z). -/
import Derived.Test.YtififjlgjmgikaaGreatCheck
import Derived.Test.YtififjlgjmgikaaGreatLiveA
import Derived.Test.YtififjlgjmgikaaGreatPlanA
namespace Go.Proofs.YtififjlgjmgikaaGreat
set_option linter.all false
open Go.RowKit

set_option maxHeartbeats 400000 in
theorem r14_in (n lo hi : Int) (w : World) : Calls Tryz.prog 181 #[.int .i64 n, .int .i64 lo, .int .i64 hi] w fun e w' => e = .returned (.bool (withinB n lo hi)) ∧ w = w' := by
  go_enter Tryz.func181, Tryz.ntmps181
  go_wp2
  all_goals (go_ret; exact ⟨ret_bool (by simp [withinB]; omega), rfl⟩)
def isOpB (op : Int) : Bool := withinB op 1 53
set_option maxHeartbeats 400000 in
theorem r14_IsOp (n : Int) (w : World) : Calls Tryz.prog 182 #[.int .i64 n] w fun e w' => e = .returned (.bool (isOpB n)) ∧ w = w' := by
  go_enter Tryz.func182, Tryz.ntmps182
  go_wp2
  all_goals (go_ret; exact ⟨ret_bool (by simp [isOpB, withinB]; omega), rfl⟩)
/-- The letters of the kinds of operands, as the reference lists them. -/
def kindsB : List (List UInt8) := [[], [110], [114], [98], [115], [], [104, 107], [104, 107, 121], [104, 107], [104, 107], [104, 107], [104, 107], [111], [111], [97], [], [116], [112, 104], [102, 104], [108, 104], [119, 104], [99], [99], [75], [], [109], [], [], [107, 121], [107], [107, 100, 121], [107, 107], [107, 121], [97, 100, 121], [97, 97], [100], [], [], [100], [], [103], [121], [49], [50], [], [117], [108], [108], [], [], [120], [], [122]]
def kindsArr : Array Value := (kindsB.map fun l => Value.string ⟨l.toArray⟩).toArray
def kindsS (op : Int) : ByteArray := ⟨(kindsB.getD (op - 1).toNat []).toArray⟩
set_option maxRecDepth 100000 in
set_option maxHeartbeats 1000000 in
theorem r14_kinds (k : Nat) (hk : k < 53) (w : World) : Calls Tryz.prog 183 #[.int .i64 ((k : Int) + 1)] w fun e w' => e = .returned (.string (kindsS ((k : Int) + 1))) ∧ Below w.heap.size w w' := by
  have hw1 : IntKind.i64.wrap ((k : Int) + 1 - 1) = (k : Int) := by rw [show (k : Int) + 1 - 1 = k by omega]; exact IntWalk.i64_in _ (by omega)
  have hw2 : wrap64 ((k : Int) + 1 - 1) = (k : Int) := by rw [show (k : Int) + 1 - 1 = k by omega]; unfold wrap64; omega
  have hw3 : (k : Int) + 1 - 1 = k := by omega
  have hcell : ∀ T, (w.alloc (.cells kindsArr T)).cell? ⟨w.heap.size, k, none⟩ = some (.string (kindsS ((k : Int) + 1))) := by
    intro T
    rw [cell_blk (ga_new w _) k]
    unfold kindsArr kindsS
    rw [hw3, Int.toNat_natCast, List.getElem?_toArray, List.getElem?_map, List.getD_eq_getElem?_getD, List.getElem?_eq_getElem (show k < kindsB.length from hk)]
    rfl
  unfold kindsArr kindsB at hcell
  simp only [List.map_cons, List.map_nil] at hcell
  generalize kindsS ((k : Int) + 1) = S at *
  have hk' : (k : Int) < 53 := by omega
  have hk0 : (0 : Int) ≤ k := by omega
  go_enter Tryz.func183, Tryz.ntmps183
  go_wp2
  go_ret
  exact ⟨rfl, (Below.refl _ _).alloc (Nat.le_refl _) _⟩
def letter (k : Int) : Int := if k = 1 then 110 else if k = 2 then 114 else if k = 3 then 98 else if k = 4 then 115 else if k = 5 then 104 else if k = 6 then 107 else if k = 7 then 75 else if k = 8 then 109 else if k = 9 then 121 else if k = 10 then 120
  else if k = 11 then 111 else if k = 12 then 97 else if k = 13 then 116 else if k = 14 then 112 else if k = 15 then 102 else if k = 16 then 108 else if k = 17 then 119 else if k = 18 then 99 else if k = 19 then 100 else if k = 20 then 103
  else if k = 21 then 49 else if k = 22 then 50 else if k = 23 then 117 else 122
theorem fmtOf_mem {k : Int} {f : FmtD} (h : fmtOf k = some f) : (k, f) ∈ fmtTab := by
  unfold fmtOf at h
  obtain ⟨p, hp, rfl⟩ := Option.map_eq_some_iff.1 h
  have h1 := List.find?_some hp
  simp at h1
  subst h1
  exact List.mem_of_find?_eq_some hp
theorem fmtOf_op {k : Int} (h : isOpB k = true) : ∃ f, fmtOf k = some f := by
  have key : ∀ j : Nat, j < 53 → (fmtOf ((j : Int) + 1)).isSome = true := by decide
  simp [isOpB, withinB] at h
  have := key (k - 1).toNat (by omega)
  rw [show (((k - 1).toNat : Nat) : Int) + 1 = k by omega] at this
  exact Option.isSome_iff_exists.1 this
theorem lets (op : Int) (f : FmtD) (h : fmtOf op = some f) : isOpB op = true ∧ ∃ l : List UInt8, kindsS op = ⟨l.toArray⟩ ∧ l.length ≤ 3 ∧ ∀ j, j < 3 → (j < l.length → f.kind j ≠ 0 ∧ ((l.getD j 0).toNat : Int) = letter (f.kind j)) ∧ (l.length ≤ j → f.kind j = 0) := by
  have key : ∀ p ∈ fmtTab, isOpB p.1 = true ∧ (kindsB.getD (p.1 - 1).toNat []).length ≤ 3 ∧ ∀ j, j < 3 → (j < (kindsB.getD (p.1 - 1).toNat []).length → p.2.kind j ≠ 0 ∧ (((kindsB.getD (p.1 - 1).toNat []).getD j 0).toNat : Int) = letter (p.2.kind j)) ∧ ((kindsB.getD (p.1 - 1).toNat []).length ≤ j → p.2.kind j = 0) := by decide
  have hm := fmtOf_mem h
  have := key _ hm
  exact ⟨this.1, _, rfl, this.2⟩
/-- The seven slices of a code. -/
theorem CodeV.forms {H : PH} {v : Value} {c : CodeD} (h : CodeV H v c) : ∃ A0 c0 A1 c1 A2 c2 A3 c3 A4 c4 A5 c5 A6 c6,
    v = .agg #[.slice A0 c.instrs.length c0, .slice A1 c.procs.length c1, .slice A2 c.thunks.length c2, .slice A3 c.switches.length c3, .slice A4 c.strings.length c4, .slice A5 c.reals.length c5, .slice A6 c.owns.length c6] ∧
    CodeC H (.slice A0 c.instrs.length c0) (.slice A1 c.procs.length c1) (.slice A2 c.thunks.length c2) (.slice A3 c.switches.length c3) (.slice A4 c.strings.length c4) (.slice A5 c.reals.length c5) (.slice A6 c.owns.length c6) c ∧
    (c.instrs.length ≤ 140737488351232 ∧ c.procs.length ≤ 140737488351232 ∧ c.thunks.length ≤ 140737488351232 ∧ c.switches.length ≤ 140737488351232 ∧ c.strings.length ≤ 140737488351232 ∧ c.reals.length ≤ 140737488351232 ∧ c.owns.length ≤ 140737488351232) := by
  obtain ⟨s0, s1, s2, s3, s4, s5, s6, rfl, hc⟩ := h
  have b0 := hc.instrs.le
  have b1 := hc.procs.le
  have b2 := hc.thunks.le
  have b3 := hc.switches.le
  have b4 := hc.strings.le
  have b5 := hc.reals.le
  have b6 := hc.owns.le
  have h0 := hc
  obtain ⟨A0, c0, rfl, -, -⟩ := hc.instrs.open_
  obtain ⟨A1, c1, rfl, -, -⟩ := hc.procs.open_
  obtain ⟨A2, c2, rfl, -, -⟩ := hc.thunks.open_
  obtain ⟨A3, c3, rfl, -, -⟩ := hc.switches.open_
  obtain ⟨A4, c4, rfl, -, -⟩ := hc.strings.open_
  obtain ⟨A5, c5, rfl, -, -⟩ := hc.reals.open_
  obtain ⟨A6, c6, rfl, -, -⟩ := hc.owns.open_
  exact ⟨A0, c0, A1, c1, A2, c2, A3, c3, A4, c4, A5, c5, A6, c6, rfl, h0, b0, b1, b2, b3, b4, b5, b6⟩
set_option maxHeartbeats 1000000 in
theorem r14_own (H : PH) (v : Value) (c : CodeD) (n : Int) (z : Bool) (w : World) (hw : Sees w H) (hc : CodeV H v c) :
    Calls Tryz.prog 187 #[v, .int .i64 n, .bool z] w fun e w' => e = .returned (.bool (lenB n c.owns.length && ((c.owns.getD n.toNat 0 == 0) == z))) ∧ Below w.heap.size w w' := by
  obtain ⟨A0, c0, A1, c1, A2, c2, A3, c3, A4, c4, A5, c5, A6, c6, rfl, hc, b0, b1, b2, b3, b4, b5, b6⟩ := hc.forms
  cases h0 : lenB n c.owns.length
  · clear hc
    go_enter Tryz.func187, Tryz.ntmps187
    go_wp2_with (go_at_call 181; refine (r14_in _ _ _ _).mono ?_; rintro e w' ⟨rfl, rfl⟩; rw [show withinB n 0 ((c.owns.length : Int) - 1) = false from h0])
    go_ret
    exact ⟨ret_bool (by simp), (Below.refl _ _).alloc (Nat.le_refl _) _⟩
  · have hn := lenB_lt h0
    obtain ⟨bb, off, c6', e6, -, hb, hcell, -⟩ := hc.owns.ints (by omega)
    injection e6 with e6 _ _
    subst e6
    clear hc
    have hlt := hw.lt' hb
    have hcl := hcell w hw n.toNat (by omega)
    clear hcell
    generalize c.owns.getD n.toNat 0 = x at *
    go_enter Tryz.func187, Tryz.ntmps187
    go_wp2_with (go_at_call 181; refine (r14_in _ _ _ _).mono ?_; rintro e w' ⟨rfl, rfl⟩; rw [show withinB n 0 ((c.owns.length : Int) - 1) = true from h0])
    go_ret
    exact ⟨ret_bool (by simp), (Below.refl _ _).alloc (Nat.le_refl _) _⟩
theorem in3 (n : Int) : withinB n 1 3 = isTypeB n := by
  rw [Bool.eq_iff_iff]; simp [withinB, isTypeB]; omega
theorem in4 (n : Int) : withinB n 1 4 = (isTypeB n || n == 4) := by
  rw [Bool.eq_iff_iff]; simp [withinB, isTypeB]; omega
theorem in2 (n : Int) : withinB n 1 2 = (n == 1 || n == 2) := by
  rw [Bool.eq_iff_iff]; simp [withinB]; omega
set_option maxRecDepth 100000 in
set_option maxHeartbeats 4000000 in
theorem r14_operand (H : PH) (v : Value) (c : CodeD) (j n : Int) (w : World) (hw : Sees w H) (hc : CodeV H v c) (h1 : 1 ≤ j) (h2 : j ≤ 24) :
    Calls Tryz.prog 185 #[v, .int .u8 (letter j), .int .i64 n] w fun e w' => e = .returned (.bool (ruleB j c n)) ∧ Below w.heap.size w w' := by
  have hc0 := hc
  obtain ⟨A0, c0, A1, c1, A2, c2, A3, c3, A4, c4, A5, c5, A6, c6, rfl, hc, b0, b1, b2, b3, b4, b5, b6⟩ := hc.forms
  have hB0 : Below w.heap.size w (w.alloc (.cells #[.slice A0 c.instrs.length c0, .slice A1 c.procs.length c1, .slice A2 c.thunks.length c2, .slice A3 c.switches.length c3, .slice A4 c.strings.length c4, .slice A5 c.reals.length c5, .slice A6 c.owns.length c6] 30)) := (Below.refl _ _).alloc (Nat.le_refl _) _
  by_cases h15 : j = 15
  · subst h15
    rw [show letter 15 = 102 from rfl, show ruleB 15 c n = (lenB n c.procs.length && (c.procs.getD n.toNat default).type != 0) from rfl]
    cases h0 : lenB n c.procs.length
    · clear hc hc0
      go_enter Tryz.func185, Tryz.ntmps185
      go_wp2_with (go_at_call 181; refine (r14_in _ _ _ _).mono ?_; rintro e w' ⟨rfl, rfl⟩; rw [show withinB n 0 ((c.procs.length : Int) - 1) = false from h0])
      go_ret
      exact ⟨ret_bool (by simp), hB0⟩
    · have hn := lenB_lt h0
      obtain ⟨bb, off, c1', e1, -, hb, hcell, -⟩ := hc.procs.procs (by omega)
      injection e1 with e1 _ _
      subst e1
      have hlt := hw.lt' hb
      have hcl := (hcell w hw n.toNat (by omega)).2.2.1
      clear hcell hc hc0
      generalize (c.procs.getD n.toNat default).type = x at *
      go_enter Tryz.func185, Tryz.ntmps185
      go_wp2_with (go_at_call 181; refine (r14_in _ _ _ _).mono ?_; rintro e w' ⟨rfl, rfl⟩; rw [show withinB n 0 ((c.procs.length : Int) - 1) = true from h0])
      go_ret
      exact ⟨ret_bool (by simp), (Below.refl _ _).alloc (Nat.le_refl _) _⟩
  · have hO := Lib.hid (fun (z : Bool) (w1 : World) (hs : Sees w1 H) => r14_own H _ c n z w1 hs hc0)
    clear hc hc0
    have hj : j = 1 ∨ j = 2 ∨ j = 3 ∨ j = 4 ∨ j = 5 ∨ j = 6 ∨ j = 7 ∨ j = 8 ∨ j = 9 ∨ j = 10 ∨ j = 11 ∨ j = 12 ∨ j = 13 ∨ j = 14 ∨ j = 16 ∨ j = 17 ∨ j = 18 ∨ j = 19 ∨ j = 20 ∨ j = 21 ∨ j = 22 ∨ j = 23 ∨ j = 24 := by omega
    clear h1 h2 h15
    rcases hj with rfl | rfl | rfl | rfl | rfl | rfl | rfl | rfl | rfl | rfl | rfl | rfl | rfl | rfl | rfl | rfl | rfl | rfl | rfl | rfl | rfl | rfl | rfl
    all_goals
      unfold letter
      go_enter Tryz.func185, Tryz.ntmps185
      go_wp2_with (first
        | (go_at_call 181; refine (r14_in _ _ _ _).mono ?_; rintro e w' ⟨rfl, rfl⟩; have hB1 := hB0)
        | (go_at_call 187; refine (hO.out _ _ (hw.below hB0)).mono ?_; rintro e w' ⟨rfl, hB2⟩; have hB1 := bstep hB0 hB2))
      go_ret
      exact ⟨ret_bool (by first | rfl | exact in3 n | exact in4 n | exact in2 n | (simp [ruleB]; done)), hB1⟩
set_option maxHeartbeats 400000 in
theorem r14_Operand (x : InstrD) (j : Nat) (hj : j < 3) (w : World) : Calls Tryz.prog 184 #[.agg #[.int .i64 x.op, .int .i64 x.a, .int .i64 x.b, .int .i64 x.c], .int .i64 j] w fun e w' => e = .returned (.int .i64 (x.arg j)) ∧ Below w.heap.size w w' := by
  obtain ⟨o, a, b, c⟩ := x
  simp only
  have h3 : j = 0 ∨ j = 1 ∨ j = 2 := by omega
  rcases h3 with rfl | rfl | rfl
  all_goals
    go_enter Tryz.func184, Tryz.ntmps184
    go_wp2
    go_ret
    exact ⟨rfl, ((Below.refl _ _).alloc (Nat.le_refl _) _).alloc (by simp) _⟩
end Go.Proofs.YtififjlgjmgikaaGreat
namespace Go.Proofs.YtififjlgjmgikaaGreat
set_option linter.all false
open Go.RowKit

def instrE (c : CodeD) (x : InstrD) : Int := if isOpB x.op then (if instrOk c x then 0 else 3) else 1
theorem box4 {w : World} {b : Nat} {s0 s1 s2 s3 : Value} {T : TypeId} (h : w.heap[b]? = some (.cells #[s0, s1, s2, s3] T (0, 0))) :
    w.cell? ⟨b, 0, none⟩ = some s0 ∧ w.cell? ⟨b, 1, none⟩ = some s1 ∧ w.cell? ⟨b, 2, none⟩ = some s2 ∧ w.cell? ⟨b, 3, none⟩ = some s3 :=
  ⟨cell_blk h 0, cell_blk h 1, cell_blk h 2, cell_blk h 3⟩
theorem instr_bad {c : CodeD} {x : InstrD} {f : FmtD} (hf : fmtOf x.op = some f) (j : Nat) (hj : j < 3) (hr : ruleB (f.kind j) c (x.arg j) = false) : instrE c x = 3 := by
  have h1 := (lets x.op f hf).1
  have h2 : instrOk c x = false := by
    unfold instrOk
    rw [hf]
    apply Bool.eq_false_iff.2
    intro h
    have := opsOk_iff.1 h j hj
    rw [hr] at this
    cases this
  simp [instrE, h1, h2]
theorem instr_good {c : CodeD} {x : InstrD} {f : FmtD} (hf : fmtOf x.op = some f) (h : ∀ j, j < 3 → ruleB (f.kind j) c (x.arg j) = true) : instrE c x = 0 := by
  have h1 := (lets x.op f hf).1
  have h2 : instrOk c x = true := by
    unfold instrOk
    rw [hf]
    exact opsOk_iff.2 h
  simp [instrE, h1, h2]
theorem drewB {w w1 : World} (h : Below w.heap.size w.drew w1) : Below w.heap.size w w1 := ⟨h.os, h.tape, h.output, h.size, h.block⟩
theorem rule_zero (c : CodeD) (n : Int) : ruleB 0 c n = (n == 0) := by
  show withinB n 0 0 = _
  rw [Bool.eq_iff_iff]; simp [withinB]; omega
set_option maxRecDepth 100000 in
set_option maxHeartbeats 4000000 in
theorem r14_instr (H : PH) (v : Value) (c : CodeD) (x : InstrD) (w : World) (hw : Sees w H) (hc : CodeV H v c) :
    Calls Tryz.prog 166 #[v, .agg #[.int .i64 x.op, .int .i64 x.a, .int .i64 x.b, .int .i64 x.c]] w fun e w' => e = .returned (.int .i64 (instrE c x)) ∧ Below w.heap.size w w' := by
  have hc0 := hc
  obtain ⟨s0, s1, s2, s3, s4, s5, s6, rfl, hc⟩ := hc
  have hB0 : Below w.heap.size w ((w.alloc (.cells #[s0, s1, s2, s3, s4, s5, s6] 30)).alloc (.cells #[.int .i64 x.op, .int .i64 x.a, .int .i64 x.b, .int .i64 x.c] 123)) := ((Below.refl _ _).alloc (Nat.le_refl _) _).alloc (by simp) _
  have hx0 := ga_old (o := .cells #[.int .i64 x.op, .int .i64 x.a, .int .i64 x.b, .int .i64 x.c] 123) (ga_new w (.cells #[s0, s1, s2, s3, s4, s5, s6] 30))
  have hy0 := blk1 w (.cells #[s0, s1, s2, s3, s4, s5, s6] 30) (.cells #[.int .i64 x.op, .int .i64 x.a, .int .i64 x.b, .int .i64 x.c] 123)
  cases hop : isOpB x.op
  · have he : instrE c x = 1 := by simp [instrE, hop]
    rw [he]
    have hoh := Lib.hid hop
    clear hop he hc hc0
    go_enter Tryz.func166, Tryz.ntmps166
    go_wp2_with (go_at_call 182; refine (r14_IsOp _ _).mono ?_; rintro e w' ⟨rfl, rfl⟩; rw [hoh.out])
    go_ret
    exact ⟨rfl, hB0⟩
  · obtain ⟨f, hf⟩ := fmtOf_op hop
    obtain ⟨-, l, hl, hl3, hlj⟩ := lets x.op f hf
    have hO := Lib.hid (fun (j n : Int) (h1 : 1 ≤ j) (h2 : j ≤ 24) (w1 : World) (hs : Sees w1 H) => r14_operand H _ c j n w1 hs hc0 h1 h2)
    have hGood := Lib.hid (fun (h : ∀ j, j < 3 → ruleB (f.kind j) c (x.arg j) = true) => instr_good hf h)
    have hBad := Lib.hid (fun (j : Nat) (hj : j < 3) (hr : ruleB (f.kind j) c (x.arg j) = false) => instr_bad hf j hj hr)
    have hk24 := Lib.hid (fun (j : Nat) => fmtOf_kinds hf j)
    have hArg := Lib.hid (fun (j : Nat) (hj : j < 3) (w1 : World) => r14_Operand x j hj w1)
    obtain ⟨k, hk⟩ : ∃ k : Nat, x.op = (k : Int) + 1 := ⟨(x.op - 1).toNat, by simp [isOpB, withinB] at hop; omega⟩
    have hk53 : k < 53 := by simp [isOpB, withinB] at hop; omega
    have hKi := Lib.hid (fun w1 : World => r14_kinds k hk53 w1)
    rw [← hk, hl] at hKi
    have hoh := Lib.hid hop
    have hljh := Lib.hid hlj
    generalize instrE c x = E at *
    clear hop hf hc hc0 hk hk53 hl hlj
    have q := box4 hy0
    go_enter Tryz.func166, Tryz.ntmps166
    go_wp2_with (first
      | (go_at_call 182; refine (r14_IsOp _ _).mono ?_; rintro e w' ⟨rfl, rfl⟩; rw [hoh.out])
      | (go_at_call 183; refine (hKi.out _).mono ?_; rintro e w2 ⟨rfl, hB2⟩))
    have hBa := bstep hB0 hB2
    have hx2 := blk_keep hB2 hx0
    have hy2 := blk_keep hB2 hy0
    clear q hB2 hx0 hy0 hB0
    go_loopw [6] (fun i wr => ∃ j : Nat, j ≤ 3 ∧ i = .int .i64 j ∧ Aside (∀ m, m < j → ruleB (f.kind m) c (x.arg m) = true) ∧ Below w2.heap.size w2 wr) (fun i _ => 3 - (intOf i).toNat)
    case atStart => exact ⟨0, by omega, rfl, fun i h => by omega, Below.refl _ _⟩
    case round =>
      obtain ⟨j, hj, rfl, hok, hB⟩ := hrel
      have hok' := Lib.hid hok
      clear hok
      by_cases hj3 : j < 3
      · have hj3' : (j : Int) < 3 := by omega
        have hx3 := blk_keep hB hx2
        have hy3 := blk_keep hB hy2
        have q := box4 hy3
        go_wp2_with (go_at_call 184; refine (hArg.out j hj3 _).mono ?_; rintro e w4 ⟨rfl, hB4⟩)
        have hx4 := blk_keep hB4 hx3
        have hs4 := ((hw.below hBa).below hB).below hB4
        clear q
        have q := box7 hx4
        have hl4 : w.heap.size < w4.heap.size := (Array.getElem?_eq_some_iff.1 hx4).1
        generalize hn : x.arg j = n at *
        have hnh := Lib.hid hn
        have hkr := hk24.out j
        by_cases hjl : j < l.length
        · obtain ⟨hne, hlet⟩ := (hljh.out j hj3).1 hjl
          have hOj := fun (n : Int) (w1 : World) (hs : Sees w1 H) => hO.out (f.kind j) n (by omega) hkr.2 w1 hs
          rw [← hlet, show l.getD j 0 = (⟨l.toArray⟩ : ByteArray)[j]'hjl from by simp [List.getD_eq_getElem?_getD, hjl]; rfl] at hOj
          have hOh := Lib.hid hOj
          have hjl' : (j : Int) < l.length := by omega
          have hjn : ¬ (l.length : Int) ≤ j := by omega
          have hjd : decide (l.length ≤ j) = false := decide_eq_false (by omega)
          clear hOj hne hlet hkr
          cases hr : ruleB (f.kind j) c n
          all_goals
            have hrh := Lib.hid hr
            clear hr
            go_wp2
            refine wp_region_plan (fun w' => w'.heap[w.heap.size]? = some (.cells #[s0, s1, s2, s3, s4, s5, s6] 30)) [(0, true), (1, true), (2, true), (3, true), (4, true), (5, true), (6, true), (7, true), (8, true), (9, true), (10, false), (11, true), (12, true), (13, true), (14, true), (15, true), (16, true), (17, true), (18, true), (19, true), (20, true), (21, true), (22, true)] (by kernel_rfl) (by kernel_rfl) (by kernel_rfl) hx4 ?_
            repeat first
              | (refine plan_skip rfl (by rfl) ?_; simp only [Act.put, List.setIfInBounds_toArray, List.set_cons_zero, List.set_cons_succ])
              | (refine plan_read (v := ?_) rfl (by rfl) ?_ ?_; rotate_left; (focus (intro w' hSw; have q' := box7 hSw; have l' := (Array.getElem?_eq_some_iff.1 hSw).1; go_simp; all_goals with_reducible rfl)); simp only [Act.put, List.setIfInBounds_toArray, List.set_cons_zero, List.set_cons_succ])
            refine plan_step rfl (by rfl) (fun K hK => ?_)
            go_simp
            (go_at_call 185; refine (hOh.out _ _ (by exact fun i o e => hs4 i o e)).mono ?_; rintro e w6 ⟨rfl, hB6⟩; rw [hrh.out])
            refine hK.out _ _ (blk_keep hB6 hx4) ?_
            clear hK K
            repeat first
              | (refine plan_skip rfl (by rfl) ?_; simp only [Act.put, List.setIfInBounds_toArray, List.set_cons_zero, List.set_cons_succ])
              | (refine plan_read (v := ?_) rfl (by rfl) ?_ ?_; rotate_left; (focus (intro w' hSw; have q' := box7 hSw; have l' := (Array.getElem?_eq_some_iff.1 hSw).1; go_simp; all_goals with_reducible rfl)); simp only [Act.put, List.setIfInBounds_toArray, List.set_cons_zero, List.set_cons_succ])
            refine plan_nil (NoPanic.normal ?_)
            go_wp2
          · go_ret
            exact ⟨by rw [hBad.out j hj3 (by rw [hnh.out]; exact hrh.out)]; rfl, bstep hBa (bstep hB (bstep hB4 (drewB hB6)))⟩
          · go_roundw
            case rel =>
              refine ⟨j + 1, by omega, by go_num, ?_, bstep hB (bstep hB4 (drewB hB6))⟩
              intro m hm
              by_cases e : m = j
              · rw [e, hnh.out]; exact hrh.out
              · exact hok'.out m (by omega)
            case measure => simp [intOf]; omega
        · have hz := (hljh.out j hj3).2 (by omega)
          have hjl' : ¬ (j : Int) < l.length := by omega
          have hjn : (l.length : Int) ≤ j := by omega
          by_cases hn0 : n = 0
          · have hb : (n != 0) = false := by simp [hn0]
            have hrh := Lib.hid (show ruleB (f.kind j) c (x.arg j) = true by rw [hz, rule_zero, hnh.out, hn0]; rfl)
            clear hn0 hz hkr
            go_wp2_with fail
            go_quiet (fail)
            go_wp2
            go_roundw
            case rel =>
              refine ⟨j + 1, by omega, by go_num, ?_, ⟨(bstep hB hB4).os, (bstep hB hB4).tape, (bstep hB hB4).output, (bstep hB hB4).size, (bstep hB hB4).block⟩⟩
              intro m hm
              by_cases e : m = j
              · rw [e]; exact hrh.out
              · exact hok'.out m (by omega)
            case measure => simp [intOf]; omega
          · have hb : (n != 0) = true := by simpa using hn0
            have hrh := Lib.hid (show ruleB (f.kind j) c (x.arg j) = false by rw [hz, rule_zero, hnh.out]; simpa using hn0)
            clear hn0 hz hkr
            go_wp2_with fail
            go_quiet (fail)
            go_wp2
            go_ret
            have hBb := bstep hBa (bstep hB hB4)
            exact ⟨by rw [hBad.out j hj3 hrh.out]; rfl, ⟨hBb.os, hBb.tape, hBb.output, hBb.size, hBb.block⟩⟩
      · have hj3' : ¬ (j : Int) < 3 := by omega
        have hg := Lib.hid (hGood.out fun m hm => hok'.out m (by omega))
        go_wp2
        go_ret
        exact ⟨by rw [hg.out]; rfl, bstep hBa hB⟩
end Go.Proofs.YtififjlgjmgikaaGreat
