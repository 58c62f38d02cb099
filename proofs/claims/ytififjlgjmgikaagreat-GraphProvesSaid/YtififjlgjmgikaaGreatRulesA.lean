/- The table of formats, and the map that code.formats makes of it. The rules of operands: each rule's function, and the map that code.rules makes of them. The map of rules. -/
import Derived.Test.YtififjlgjmgikaaGreatMaps
import Derived.Test.YtififjlgjmgikaaGreatRows
import Derived.KernelRfl
import Derived.Test.YtififjlgjmgikaaGreatSlicesW
import Derived.Laws.EntriesVeiled
namespace Go.Proofs.YtififjlgjmgikaaGreat
set_option linter.all false
open Go.RowKit

structure FmtD where
  name : ByteArray
  k0 : Int
  k1 : Int
  k2 : Int
def fmtTab : List (Int × FmtD) := [
  (1, ⟨⟨#[104, 97, 108, 116]⟩, 0, 0, 0⟩),
  (2, ⟨⟨#[105, 110, 116]⟩, 1, 0, 0⟩),
  (3, ⟨⟨#[114, 101, 97, 108]⟩, 2, 0, 0⟩),
  (4, ⟨⟨#[98, 111, 111, 108]⟩, 3, 0, 0⟩),
  (5, ⟨⟨#[115, 116, 114, 105, 110, 103]⟩, 4, 0, 0⟩),
  (6, ⟨⟨#[112, 111, 112]⟩, 0, 0, 0⟩),
  (7, ⟨⟨#[108, 111, 97, 100]⟩, 5, 6, 0⟩),
  (8, ⟨⟨#[114, 101, 102]⟩, 5, 6, 9⟩),
  (9, ⟨⟨#[97, 99, 116, 117, 97, 108]⟩, 5, 6, 0⟩),
  (10, ⟨⟨#[118, 97, 108, 117, 101]⟩, 5, 6, 0⟩),
  (11, ⟨⟨#[97, 100, 100, 114, 101, 115, 115]⟩, 5, 6, 0⟩),
  (12, ⟨⟨#[100, 101, 115, 105, 103]⟩, 5, 6, 0⟩),
  (13, ⟨⟨#[108, 111, 97, 100, 111, 119, 110]⟩, 11, 0, 0⟩),
  (14, ⟨⟨#[114, 101, 102, 111, 119, 110]⟩, 11, 0, 0⟩),
  (15, ⟨⟨#[97, 99, 116, 117, 97, 108, 111, 119, 110]⟩, 12, 0, 0⟩),
  (16, ⟨⟨#[110, 111, 116, 104, 105, 110, 103]⟩, 0, 0, 0⟩),
  (17, ⟨⟨#[116, 104, 117, 110, 107]⟩, 13, 0, 0⟩),
  (18, ⟨⟨#[112, 114, 111, 99]⟩, 14, 5, 0⟩),
  (19, ⟨⟨#[115, 101, 108, 102]⟩, 15, 5, 0⟩),
  (20, ⟨⟨#[108, 97, 98, 101, 108]⟩, 16, 5, 0⟩),
  (21, ⟨⟨#[115, 119, 105, 116, 99, 104]⟩, 17, 5, 0⟩),
  (22, ⟨⟨#[99, 97, 108, 108]⟩, 18, 0, 0⟩),
  (23, ⟨⟨#[102, 117, 110, 99]⟩, 18, 0, 0⟩),
  (24, ⟨⟨#[114, 101, 116, 117, 114, 110]⟩, 7, 0, 0⟩),
  (25, ⟨⟨#[114, 101, 115, 117, 108, 116]⟩, 0, 0, 0⟩),
  (26, ⟨⟨#[101, 110, 116, 101, 114]⟩, 8, 0, 0⟩),
  (27, ⟨⟨#[108, 101, 97, 118, 101]⟩, 0, 0, 0⟩),
  (28, ⟨⟨#[109, 97, 114, 107]⟩, 0, 0, 0⟩),
  (29, ⟨⟨#[122, 101, 114, 111]⟩, 6, 9, 0⟩),
  (30, ⟨⟨#[107, 101, 101, 112]⟩, 6, 0, 0⟩),
  (31, ⟨⟨#[97, 114, 114, 97, 121]⟩, 6, 19, 9⟩),
  (32, ⟨⟨#[108, 105, 107, 101]⟩, 6, 6, 0⟩),
  (33, ⟨⟨#[99, 111, 112, 121]⟩, 6, 9, 0⟩),
  (34, ⟨⟨#[97, 114, 114, 97, 121, 111, 119, 110]⟩, 12, 19, 9⟩),
  (35, ⟨⟨#[108, 105, 107, 101, 111, 119, 110]⟩, 12, 12, 0⟩),
  (36, ⟨⟨#[110, 101, 101, 100, 97, 114, 114, 97, 121]⟩, 19, 0, 0⟩),
  (37, ⟨⟨#[110, 101, 101, 100, 115, 119, 105, 116, 99, 104]⟩, 0, 0, 0⟩),
  (38, ⟨⟨#[115, 117, 98, 115]⟩, 0, 0, 0⟩),
  (39, ⟨⟨#[105, 110, 100, 101, 120]⟩, 19, 0, 0⟩),
  (40, ⟨⟨#[102, 101, 116, 99, 104]⟩, 0, 0, 0⟩),
  (41, ⟨⟨#[115, 116, 111, 114, 101]⟩, 20, 0, 0⟩),
  (42, ⟨⟨#[99, 111, 110, 118, 101, 114, 116]⟩, 9, 0, 0⟩),
  (43, ⟨⟨#[111, 110, 101]⟩, 21, 0, 0⟩),
  (44, ⟨⟨#[116, 119, 111]⟩, 22, 0, 0⟩),
  (45, ⟨⟨#[119, 105, 116, 104, 105, 110]⟩, 0, 0, 0⟩),
  (46, ⟨⟨#[102, 110]⟩, 23, 0, 0⟩),
  (47, ⟨⟨#[106, 117, 109, 112]⟩, 16, 0, 0⟩),
  (48, ⟨⟨#[106, 117, 109, 112, 102, 97, 108, 115, 101]⟩, 16, 0, 0⟩),
  (49, ⟨⟨#[103, 111, 116, 111]⟩, 0, 0, 0⟩),
  (50, ⟨⟨#[101, 108, 101, 109, 101, 110, 116]⟩, 0, 0, 0⟩),
  (51, ⟨⟨#[111, 117, 116]⟩, 10, 0, 0⟩),
  (52, ⟨⟨#[105, 110]⟩, 0, 0, 0⟩),
  (53, ⟨⟨#[116, 114, 97, 112]⟩, 24, 0, 0⟩)]
def FmtD.val (f : FmtD) : Value := .agg #[.string f.name, .int .i64 f.k0, .int .i64 f.k1, .int .i64 f.k2]
def fmtL : List (Int × Value) := fmtTab.map fun p => (p.1, p.2.val)
def fmtOf (k : Int) : Option FmtD := (fmtTab.find? fun p => k == p.1).map (·.2)
theorem findL_map {α : Type} (f : α → Value) (t : List (Int × α)) (k : Int) (i : Nat) : ((findL (t.map fun p => (p.1, f p.2)) k i).map (·.2)) = ((t.find? fun p => k == p.1).map (·.2)).map f := by
  induction t generalizing i with
  | nil => rfl
  | cons p t ih =>
    simp only [List.map_cons, findL, List.find?_cons]
    by_cases h : k = p.1
    · simp [h]
    · have hb : (k == p.1) = false := by simpa using h
      simp [h, hb, ih]
theorem mget_fmtL (k : Int) : mget fmtL k = (fmtOf k).map FmtD.val := findL_map FmtD.val fmtTab k 0

theorem below_step {B b : Nat} {w w1 w2 : World} (hB : Below B w w1) (hb : B ≤ b) (hs : B ≤ w1.heap.size) (hg : w1.grownBy w2 (some b)) : Below B w w2 := hB.grown hg hs (by intro k e; cases e; exact hb)

set_option maxHeartbeats 4000000 in
set_option maxRecDepth 100000 in
theorem code_formats (w : World) : Calls Tryz.prog 120 #[] w fun e w' => ∃ b, e = .returned (.map (some b)) ∧ w.heap.size ≤ b ∧ MapL (.int .i64) w' b fmtL ∧ Below w.heap.size w w' := by
  have hK : KeyK Tryz.prog 3 (fun x : Int => Value.int .i64 x) := keyInt Tryz.underlying3
  have hmm := @run_makeMap Tryz.prog
  go_enter Tryz.func120, Tryz.ntmps120
  have hM := MapL.new (fun x : Int => Value.int .i64 x) w
  have hB : Below w.heap.size w (w.alloc (.map #[] 0)) := (Below.refl _ _).alloc (Nat.le_refl _) _
  have hs : w.heap.size ≤ (w.alloc (.map #[] 0)).heap.size := by simp
  repeat (first | (refine wpL_insert rfl _ _ _ 148 rfl Tryz.underlying148 (fun x : Int => Value.int .i64 x) hK (int_inj _) _ _ rfl hM _ _ (by rfl) rfl ?_; clear hM; intro w1 hM hg; replace hB := below_step hB (Nat.le_refl _) hs hg; replace hs := hB.size; clear hg) | go_step)
  go_ret
  refine ⟨_, rfl, Nat.le_refl _, ?_, hB⟩
  exact (fun l h (e : l = fmtL) => e ▸ h : ∀ l, MapL (fun x : Int => Value.int .i64 x) w1 w.heap.size l → l = fmtL → MapL (fun x : Int => Value.int .i64 x) w1 w.heap.size fmtL) _ hM (by kernel_rfl)
end Go.Proofs.YtififjlgjmgikaaGreat
namespace Go.Proofs.YtififjlgjmgikaaGreat
set_option linter.all false
open Go.RowKit

def lenB (n : Int) (len : Nat) : Bool := withinB n 0 ((len : Int) - 1)
theorem lenB_lt {n : Int} {len : Nat} (h : lenB n len = true) : 0 ≤ n ∧ n < len := by
  simp only [lenB, withinB, Bool.and_eq_true, decide_eq_true_eq] at h
  omega
def ruleB (kind : Int) (c : CodeD) (n : Int) : Bool :=
  if kind = 0 then withinB n 0 0
  else if kind = 1 then withinB n (-2147483647) 2147483647
  else if kind = 2 then lenB n c.reals.length
  else if kind = 3 then withinB n 0 1
  else if kind = 4 then lenB n c.strings.length
  else if kind = 5 then withinB n 0 200
  else if kind = 6 then withinB n 0 1999
  else if kind = 7 then withinB n (-1) 1999
  else if kind = 8 then withinB n 0 2000
  else if kind = 9 then isTypeB n
  else if kind = 10 then isTypeB n || n == 4
  else if kind = 11 then lenB n c.owns.length && c.owns.getD n.toNat 0 != 0
  else if kind = 12 then lenB n c.owns.length && c.owns.getD n.toNat 0 == 0
  else if kind = 13 then lenB n c.thunks.length
  else if kind = 14 then lenB n c.procs.length
  else if kind = 15 then lenB n c.procs.length && (c.procs.getD n.toNat default).type != 0
  else if kind = 16 then lenB n c.instrs.length
  else if kind = 17 then lenB n c.switches.length
  else if kind = 18 then withinB n 0 8
  else if kind = 19 then withinB n 1 4
  else if kind = 20 then withinB n 1 2000
  else if kind = 21 then n == 1 || n == 2
  else if kind = 22 then withinB n 3 18
  else if kind = 23 then withinB n 1 3
  else withinB n 2 9
set_option maxHeartbeats 400000 in
theorem code_rule2 (H : PH) (v : Value) (c : CodeD) (n : Int) (w : World) (hw : Sees w H) (hc : CodeV H v c) :
    Calls Tryz.prog 152 #[v, .int .i64 n] w fun e w' => e = .returned (.bool (lenB n c.reals.length)) ∧ Below w.heap.size w w' := by
  obtain ⟨s0, s1, s2, s3, s4, s5, s6, rfl, hc⟩ := hc
  obtain ⟨A0, c0, rfl, k0, e0⟩ := hc.instrs.open_
  have b0 := hc.instrs.le
  obtain ⟨A1, c1, rfl, k1, e1⟩ := hc.procs.open_
  have b1 := hc.procs.le
  obtain ⟨A2, c2, rfl, k2, e2⟩ := hc.thunks.open_
  have b2 := hc.thunks.le
  obtain ⟨A3, c3, rfl, k3, e3⟩ := hc.switches.open_
  have b3 := hc.switches.le
  obtain ⟨A4, c4, rfl, k4, e4⟩ := hc.strings.open_
  have b4 := hc.strings.le
  obtain ⟨A5, c5, rfl, k5, e5⟩ := hc.reals.open_
  have b5 := hc.reals.le
  obtain ⟨A6, c6, rfl, k6, e6⟩ := hc.owns.open_
  have b6 := hc.owns.le
  clear hc
  clear e0 e1 e2 e3 e4 e5 e6
  go_enter Tryz.func152, Tryz.ntmps152
  go_wp2_with (go_at_call 127; refine (code_within _ _ _ _).mono ?_; rintro e w' ⟨rfl, rfl⟩)
  go_ret
  exact ⟨rfl, (Below.refl _ _).alloc (Nat.le_refl _) _⟩
set_option maxHeartbeats 400000 in
theorem code_rule4 (H : PH) (v : Value) (c : CodeD) (n : Int) (w : World) (hw : Sees w H) (hc : CodeV H v c) :
    Calls Tryz.prog 153 #[v, .int .i64 n] w fun e w' => e = .returned (.bool (lenB n c.strings.length)) ∧ Below w.heap.size w w' := by
  obtain ⟨s0, s1, s2, s3, s4, s5, s6, rfl, hc⟩ := hc
  obtain ⟨A0, c0, rfl, k0, e0⟩ := hc.instrs.open_
  have b0 := hc.instrs.le
  obtain ⟨A1, c1, rfl, k1, e1⟩ := hc.procs.open_
  have b1 := hc.procs.le
  obtain ⟨A2, c2, rfl, k2, e2⟩ := hc.thunks.open_
  have b2 := hc.thunks.le
  obtain ⟨A3, c3, rfl, k3, e3⟩ := hc.switches.open_
  have b3 := hc.switches.le
  obtain ⟨A4, c4, rfl, k4, e4⟩ := hc.strings.open_
  have b4 := hc.strings.le
  obtain ⟨A5, c5, rfl, k5, e5⟩ := hc.reals.open_
  have b5 := hc.reals.le
  obtain ⟨A6, c6, rfl, k6, e6⟩ := hc.owns.open_
  have b6 := hc.owns.le
  clear hc
  clear e0 e1 e2 e3 e4 e5 e6
  go_enter Tryz.func153, Tryz.ntmps153
  go_wp2_with (go_at_call 127; refine (code_within _ _ _ _).mono ?_; rintro e w' ⟨rfl, rfl⟩)
  go_ret
  exact ⟨rfl, (Below.refl _ _).alloc (Nat.le_refl _) _⟩
set_option maxHeartbeats 400000 in
theorem code_rule13 (H : PH) (v : Value) (c : CodeD) (n : Int) (w : World) (hw : Sees w H) (hc : CodeV H v c) :
    Calls Tryz.prog 158 #[v, .int .i64 n] w fun e w' => e = .returned (.bool (lenB n c.thunks.length)) ∧ Below w.heap.size w w' := by
  obtain ⟨s0, s1, s2, s3, s4, s5, s6, rfl, hc⟩ := hc
  obtain ⟨A0, c0, rfl, k0, e0⟩ := hc.instrs.open_
  have b0 := hc.instrs.le
  obtain ⟨A1, c1, rfl, k1, e1⟩ := hc.procs.open_
  have b1 := hc.procs.le
  obtain ⟨A2, c2, rfl, k2, e2⟩ := hc.thunks.open_
  have b2 := hc.thunks.le
  obtain ⟨A3, c3, rfl, k3, e3⟩ := hc.switches.open_
  have b3 := hc.switches.le
  obtain ⟨A4, c4, rfl, k4, e4⟩ := hc.strings.open_
  have b4 := hc.strings.le
  obtain ⟨A5, c5, rfl, k5, e5⟩ := hc.reals.open_
  have b5 := hc.reals.le
  obtain ⟨A6, c6, rfl, k6, e6⟩ := hc.owns.open_
  have b6 := hc.owns.le
  clear hc
  clear e0 e1 e2 e3 e4 e5 e6
  go_enter Tryz.func158, Tryz.ntmps158
  go_wp2_with (go_at_call 127; refine (code_within _ _ _ _).mono ?_; rintro e w' ⟨rfl, rfl⟩)
  go_ret
  exact ⟨rfl, (Below.refl _ _).alloc (Nat.le_refl _) _⟩
set_option maxHeartbeats 400000 in
theorem code_rule14 (H : PH) (v : Value) (c : CodeD) (n : Int) (w : World) (hw : Sees w H) (hc : CodeV H v c) :
    Calls Tryz.prog 159 #[v, .int .i64 n] w fun e w' => e = .returned (.bool (lenB n c.procs.length)) ∧ Below w.heap.size w w' := by
  obtain ⟨s0, s1, s2, s3, s4, s5, s6, rfl, hc⟩ := hc
  obtain ⟨A0, c0, rfl, k0, e0⟩ := hc.instrs.open_
  have b0 := hc.instrs.le
  obtain ⟨A1, c1, rfl, k1, e1⟩ := hc.procs.open_
  have b1 := hc.procs.le
  obtain ⟨A2, c2, rfl, k2, e2⟩ := hc.thunks.open_
  have b2 := hc.thunks.le
  obtain ⟨A3, c3, rfl, k3, e3⟩ := hc.switches.open_
  have b3 := hc.switches.le
  obtain ⟨A4, c4, rfl, k4, e4⟩ := hc.strings.open_
  have b4 := hc.strings.le
  obtain ⟨A5, c5, rfl, k5, e5⟩ := hc.reals.open_
  have b5 := hc.reals.le
  obtain ⟨A6, c6, rfl, k6, e6⟩ := hc.owns.open_
  have b6 := hc.owns.le
  clear hc
  clear e0 e1 e2 e3 e4 e5 e6
  go_enter Tryz.func159, Tryz.ntmps159
  go_wp2_with (go_at_call 127; refine (code_within _ _ _ _).mono ?_; rintro e w' ⟨rfl, rfl⟩)
  go_ret
  exact ⟨rfl, (Below.refl _ _).alloc (Nat.le_refl _) _⟩
set_option maxHeartbeats 400000 in
theorem code_rule16 (H : PH) (v : Value) (c : CodeD) (n : Int) (w : World) (hw : Sees w H) (hc : CodeV H v c) :
    Calls Tryz.prog 161 #[v, .int .i64 n] w fun e w' => e = .returned (.bool (lenB n c.instrs.length)) ∧ Below w.heap.size w w' := by
  obtain ⟨s0, s1, s2, s3, s4, s5, s6, rfl, hc⟩ := hc
  obtain ⟨A0, c0, rfl, k0, e0⟩ := hc.instrs.open_
  have b0 := hc.instrs.le
  obtain ⟨A1, c1, rfl, k1, e1⟩ := hc.procs.open_
  have b1 := hc.procs.le
  obtain ⟨A2, c2, rfl, k2, e2⟩ := hc.thunks.open_
  have b2 := hc.thunks.le
  obtain ⟨A3, c3, rfl, k3, e3⟩ := hc.switches.open_
  have b3 := hc.switches.le
  obtain ⟨A4, c4, rfl, k4, e4⟩ := hc.strings.open_
  have b4 := hc.strings.le
  obtain ⟨A5, c5, rfl, k5, e5⟩ := hc.reals.open_
  have b5 := hc.reals.le
  obtain ⟨A6, c6, rfl, k6, e6⟩ := hc.owns.open_
  have b6 := hc.owns.le
  clear hc
  clear e0 e1 e2 e3 e4 e5 e6
  go_enter Tryz.func161, Tryz.ntmps161
  go_wp2_with (go_at_call 127; refine (code_within _ _ _ _).mono ?_; rintro e w' ⟨rfl, rfl⟩)
  go_ret
  exact ⟨rfl, (Below.refl _ _).alloc (Nat.le_refl _) _⟩
set_option maxHeartbeats 400000 in
theorem code_rule17 (H : PH) (v : Value) (c : CodeD) (n : Int) (w : World) (hw : Sees w H) (hc : CodeV H v c) :
    Calls Tryz.prog 162 #[v, .int .i64 n] w fun e w' => e = .returned (.bool (lenB n c.switches.length)) ∧ Below w.heap.size w w' := by
  obtain ⟨s0, s1, s2, s3, s4, s5, s6, rfl, hc⟩ := hc
  obtain ⟨A0, c0, rfl, k0, e0⟩ := hc.instrs.open_
  have b0 := hc.instrs.le
  obtain ⟨A1, c1, rfl, k1, e1⟩ := hc.procs.open_
  have b1 := hc.procs.le
  obtain ⟨A2, c2, rfl, k2, e2⟩ := hc.thunks.open_
  have b2 := hc.thunks.le
  obtain ⟨A3, c3, rfl, k3, e3⟩ := hc.switches.open_
  have b3 := hc.switches.le
  obtain ⟨A4, c4, rfl, k4, e4⟩ := hc.strings.open_
  have b4 := hc.strings.le
  obtain ⟨A5, c5, rfl, k5, e5⟩ := hc.reals.open_
  have b5 := hc.reals.le
  obtain ⟨A6, c6, rfl, k6, e6⟩ := hc.owns.open_
  have b6 := hc.owns.le
  clear hc
  clear e0 e1 e2 e3 e4 e5 e6
  go_enter Tryz.func162, Tryz.ntmps162
  go_wp2_with (go_at_call 127; refine (code_within _ _ _ _).mono ?_; rintro e w' ⟨rfl, rfl⟩)
  go_ret
  exact ⟨rfl, (Below.refl _ _).alloc (Nat.le_refl _) _⟩
set_option maxHeartbeats 400000 in
theorem code_rule9 (H : PH) (v : Value) (c : CodeD) (n : Int) (w : World) (hw : Sees w H) (hc : CodeV H v c) :
    Calls Tryz.prog 154 #[v, .int .i64 n] w fun e w' => e = .returned (.bool (isTypeB n)) ∧ Below w.heap.size w w' := by
  obtain ⟨s0, s1, s2, s3, s4, s5, s6, rfl, hc⟩ := hc
  obtain ⟨A0, c0, rfl, k0, e0⟩ := hc.instrs.open_
  have b0 := hc.instrs.le
  obtain ⟨A1, c1, rfl, k1, e1⟩ := hc.procs.open_
  have b1 := hc.procs.le
  obtain ⟨A2, c2, rfl, k2, e2⟩ := hc.thunks.open_
  have b2 := hc.thunks.le
  obtain ⟨A3, c3, rfl, k3, e3⟩ := hc.switches.open_
  have b3 := hc.switches.le
  obtain ⟨A4, c4, rfl, k4, e4⟩ := hc.strings.open_
  have b4 := hc.strings.le
  obtain ⟨A5, c5, rfl, k5, e5⟩ := hc.reals.open_
  have b5 := hc.reals.le
  obtain ⟨A6, c6, rfl, k6, e6⟩ := hc.owns.open_
  have b6 := hc.owns.le
  clear hc
  clear e0 e1 e2 e3 e4 e5 e6
  go_enter Tryz.func154, Tryz.ntmps154
  go_wp2_with (go_at_call 146; refine (code_isType _ _).mono ?_; rintro e w' ⟨rfl, rfl⟩)
  go_ret
  exact ⟨rfl, (Below.refl _ _).alloc (Nat.le_refl _) _⟩
set_option maxHeartbeats 400000 in
theorem code_rule10 (H : PH) (v : Value) (c : CodeD) (n : Int) (w : World) (hw : Sees w H) (hc : CodeV H v c) :
    Calls Tryz.prog 155 #[v, .int .i64 n] w fun e w' => e = .returned (.bool (isTypeB n || n == 4)) ∧ Below w.heap.size w w' := by
  obtain ⟨s0, s1, s2, s3, s4, s5, s6, rfl, hc⟩ := hc
  obtain ⟨A0, c0, rfl, k0, e0⟩ := hc.instrs.open_
  have b0 := hc.instrs.le
  obtain ⟨A1, c1, rfl, k1, e1⟩ := hc.procs.open_
  have b1 := hc.procs.le
  obtain ⟨A2, c2, rfl, k2, e2⟩ := hc.thunks.open_
  have b2 := hc.thunks.le
  obtain ⟨A3, c3, rfl, k3, e3⟩ := hc.switches.open_
  have b3 := hc.switches.le
  obtain ⟨A4, c4, rfl, k4, e4⟩ := hc.strings.open_
  have b4 := hc.strings.le
  obtain ⟨A5, c5, rfl, k5, e5⟩ := hc.reals.open_
  have b5 := hc.reals.le
  obtain ⟨A6, c6, rfl, k6, e6⟩ := hc.owns.open_
  have b6 := hc.owns.le
  clear hc
  clear e0 e1 e2 e3 e4 e5 e6
  go_enter Tryz.func155, Tryz.ntmps155
  cases h0 : isTypeB n
  all_goals
    go_wp2_with (go_at_call 146; refine (code_isType _ _).mono ?_; rintro e w' ⟨rfl, rfl⟩; rw [h0])
    go_ret
    exact ⟨ret_bool (by simp [h0]), (Below.refl _ _).alloc (Nat.le_refl _) _⟩
set_option maxHeartbeats 400000 in
theorem code_rule11 (H : PH) (v : Value) (c : CodeD) (n : Int) (w : World) (hw : Sees w H) (hc : CodeV H v c) :
    Calls Tryz.prog 156 #[v, .int .i64 n] w fun e w' => e = .returned (.bool (lenB n c.owns.length && c.owns.getD n.toNat 0 != 0)) ∧ Below w.heap.size w w' := by
  cases h0 : lenB n c.owns.length
  · obtain ⟨s0, s1, s2, s3, s4, s5, s6, rfl, hc⟩ := hc
    obtain ⟨A0, c0, rfl, k0, -⟩ := hc.instrs.open_
    have b0 := hc.instrs.le
    obtain ⟨A1, c1, rfl, k1, -⟩ := hc.procs.open_
    have b1 := hc.procs.le
    obtain ⟨A2, c2, rfl, k2, -⟩ := hc.thunks.open_
    have b2 := hc.thunks.le
    obtain ⟨A3, c3, rfl, k3, -⟩ := hc.switches.open_
    have b3 := hc.switches.le
    obtain ⟨A4, c4, rfl, k4, -⟩ := hc.strings.open_
    have b4 := hc.strings.le
    obtain ⟨A5, c5, rfl, k5, -⟩ := hc.reals.open_
    have b5 := hc.reals.le
    obtain ⟨A6, c6, rfl, k6, -⟩ := hc.owns.open_
    have b6 := hc.owns.le
    clear hc
    go_enter Tryz.func156, Tryz.ntmps156
    go_wp2_with (go_at_call 127; refine (code_within _ _ _ _).mono ?_; rintro e w' ⟨rfl, rfl⟩; rw [show withinB n 0 ((c.owns.length : Int) - 1) = false from h0])
    go_ret
    exact ⟨ret_bool (by simp), (Below.refl _ _).alloc (Nat.le_refl _) _⟩
  · have hn := lenB_lt h0
    have hl := hc
    obtain ⟨s0, s1, s2, s3, s4, s5, s6, rfl, hc⟩ := hc
    obtain ⟨A0, c0, rfl, k0, -⟩ := hc.instrs.open_
    have b0 := hc.instrs.le
    obtain ⟨A1, c1, rfl, k1, -⟩ := hc.procs.open_
    have b1 := hc.procs.le
    obtain ⟨A2, c2, rfl, k2, -⟩ := hc.thunks.open_
    have b2 := hc.thunks.le
    obtain ⟨A3, c3, rfl, k3, -⟩ := hc.switches.open_
    have b3 := hc.switches.le
    obtain ⟨A4, c4, rfl, k4, -⟩ := hc.strings.open_
    have b4 := hc.strings.le
    obtain ⟨A5, c5, rfl, k5, -⟩ := hc.reals.open_
    have b5 := hc.reals.le
    obtain ⟨bb, off, c6, rfl, k6, hb, hcell, -⟩ := hc.owns.ints (by omega)
    have b6 := hc.owns.le
    clear hc
    have hlt := hw.lt' hb
    have hcl := hcell w hw n.toNat (by omega)
    clear hcell hl
    generalize c.owns.getD n.toNat 0 = x at *
    go_enter Tryz.func156, Tryz.ntmps156
    go_wp2_with (go_at_call 127; refine (code_within _ _ _ _).mono ?_; rintro e w' ⟨rfl, rfl⟩; rw [show withinB n 0 ((c.owns.length : Int) - 1) = true from h0])
    go_ret
    exact ⟨ret_bool (by simp), (Below.refl _ _).alloc (Nat.le_refl _) _⟩
set_option maxHeartbeats 400000 in
theorem code_rule12 (H : PH) (v : Value) (c : CodeD) (n : Int) (w : World) (hw : Sees w H) (hc : CodeV H v c) :
    Calls Tryz.prog 157 #[v, .int .i64 n] w fun e w' => e = .returned (.bool (lenB n c.owns.length && c.owns.getD n.toNat 0 == 0)) ∧ Below w.heap.size w w' := by
  cases h0 : lenB n c.owns.length
  · obtain ⟨s0, s1, s2, s3, s4, s5, s6, rfl, hc⟩ := hc
    obtain ⟨A0, c0, rfl, k0, -⟩ := hc.instrs.open_
    have b0 := hc.instrs.le
    obtain ⟨A1, c1, rfl, k1, -⟩ := hc.procs.open_
    have b1 := hc.procs.le
    obtain ⟨A2, c2, rfl, k2, -⟩ := hc.thunks.open_
    have b2 := hc.thunks.le
    obtain ⟨A3, c3, rfl, k3, -⟩ := hc.switches.open_
    have b3 := hc.switches.le
    obtain ⟨A4, c4, rfl, k4, -⟩ := hc.strings.open_
    have b4 := hc.strings.le
    obtain ⟨A5, c5, rfl, k5, -⟩ := hc.reals.open_
    have b5 := hc.reals.le
    obtain ⟨A6, c6, rfl, k6, -⟩ := hc.owns.open_
    have b6 := hc.owns.le
    clear hc
    go_enter Tryz.func157, Tryz.ntmps157
    go_wp2_with (go_at_call 127; refine (code_within _ _ _ _).mono ?_; rintro e w' ⟨rfl, rfl⟩; rw [show withinB n 0 ((c.owns.length : Int) - 1) = false from h0])
    go_ret
    exact ⟨ret_bool (by simp), (Below.refl _ _).alloc (Nat.le_refl _) _⟩
  · have hn := lenB_lt h0
    have hl := hc
    obtain ⟨s0, s1, s2, s3, s4, s5, s6, rfl, hc⟩ := hc
    obtain ⟨A0, c0, rfl, k0, -⟩ := hc.instrs.open_
    have b0 := hc.instrs.le
    obtain ⟨A1, c1, rfl, k1, -⟩ := hc.procs.open_
    have b1 := hc.procs.le
    obtain ⟨A2, c2, rfl, k2, -⟩ := hc.thunks.open_
    have b2 := hc.thunks.le
    obtain ⟨A3, c3, rfl, k3, -⟩ := hc.switches.open_
    have b3 := hc.switches.le
    obtain ⟨A4, c4, rfl, k4, -⟩ := hc.strings.open_
    have b4 := hc.strings.le
    obtain ⟨A5, c5, rfl, k5, -⟩ := hc.reals.open_
    have b5 := hc.reals.le
    obtain ⟨bb, off, c6, rfl, k6, hb, hcell, -⟩ := hc.owns.ints (by omega)
    have b6 := hc.owns.le
    clear hc
    have hlt := hw.lt' hb
    have hcl := hcell w hw n.toNat (by omega)
    clear hcell hl
    generalize c.owns.getD n.toNat 0 = x at *
    go_enter Tryz.func157, Tryz.ntmps157
    go_wp2_with (go_at_call 127; refine (code_within _ _ _ _).mono ?_; rintro e w' ⟨rfl, rfl⟩; rw [show withinB n 0 ((c.owns.length : Int) - 1) = true from h0])
    go_ret
    exact ⟨ret_bool (by simp), (Below.refl _ _).alloc (Nat.le_refl _) _⟩
set_option maxHeartbeats 400000 in
theorem code_rule15 (H : PH) (v : Value) (c : CodeD) (n : Int) (w : World) (hw : Sees w H) (hc : CodeV H v c) :
    Calls Tryz.prog 160 #[v, .int .i64 n] w fun e w' => e = .returned (.bool (lenB n c.procs.length && (c.procs.getD n.toNat default).type != 0)) ∧ Below w.heap.size w w' := by
  cases h0 : lenB n c.procs.length
  · obtain ⟨s0, s1, s2, s3, s4, s5, s6, rfl, hc⟩ := hc
    obtain ⟨A0, c0, rfl, k0, -⟩ := hc.instrs.open_
    have b0 := hc.instrs.le
    obtain ⟨A1, c1, rfl, k1, -⟩ := hc.procs.open_
    have b1 := hc.procs.le
    obtain ⟨A2, c2, rfl, k2, -⟩ := hc.thunks.open_
    have b2 := hc.thunks.le
    obtain ⟨A3, c3, rfl, k3, -⟩ := hc.switches.open_
    have b3 := hc.switches.le
    obtain ⟨A4, c4, rfl, k4, -⟩ := hc.strings.open_
    have b4 := hc.strings.le
    obtain ⟨A5, c5, rfl, k5, -⟩ := hc.reals.open_
    have b5 := hc.reals.le
    obtain ⟨A6, c6, rfl, k6, -⟩ := hc.owns.open_
    have b6 := hc.owns.le
    clear hc
    go_enter Tryz.func160, Tryz.ntmps160
    go_wp2_with (go_at_call 127; refine (code_within _ _ _ _).mono ?_; rintro e w' ⟨rfl, rfl⟩; rw [show withinB n 0 ((c.procs.length : Int) - 1) = false from h0])
    go_ret
    exact ⟨ret_bool (by simp), (Below.refl _ _).alloc (Nat.le_refl _) _⟩
  · have hn := lenB_lt h0
    have hl := hc
    obtain ⟨s0, s1, s2, s3, s4, s5, s6, rfl, hc⟩ := hc
    obtain ⟨A0, c0, rfl, k0, -⟩ := hc.instrs.open_
    have b0 := hc.instrs.le
    obtain ⟨bb, off, c1, rfl, k1, hb, hcell, -⟩ := hc.procs.procs (by omega)
    have b1 := hc.procs.le
    obtain ⟨A2, c2, rfl, k2, -⟩ := hc.thunks.open_
    have b2 := hc.thunks.le
    obtain ⟨A3, c3, rfl, k3, -⟩ := hc.switches.open_
    have b3 := hc.switches.le
    obtain ⟨A4, c4, rfl, k4, -⟩ := hc.strings.open_
    have b4 := hc.strings.le
    obtain ⟨A5, c5, rfl, k5, -⟩ := hc.reals.open_
    have b5 := hc.reals.le
    obtain ⟨A6, c6, rfl, k6, -⟩ := hc.owns.open_
    have b6 := hc.owns.le
    clear hc
    have hlt := hw.lt' hb
    have hcl := (hcell w hw n.toNat (by omega)).2.2.1
    clear hcell hl
    generalize (c.procs.getD n.toNat default).type = x at *
    go_enter Tryz.func160, Tryz.ntmps160
    go_wp2_with (go_at_call 127; refine (code_within _ _ _ _).mono ?_; rintro e w' ⟨rfl, rfl⟩; rw [show withinB n 0 ((c.procs.length : Int) - 1) = true from h0])
    go_ret
    exact ⟨ret_bool (by simp), (Below.refl _ _).alloc (Nat.le_refl _) _⟩
set_option maxHeartbeats 400000 in
theorem code_rule21 (H : PH) (v : Value) (c : CodeD) (n : Int) (w : World) (hw : Sees w H) (hc : CodeV H v c) :
    Calls Tryz.prog 163 #[v, .int .i64 n] w fun e w' => e = .returned (.bool (n == 1 || n == 2)) ∧ Below w.heap.size w w' := by
  obtain ⟨s0, s1, s2, s3, s4, s5, s6, rfl, hc⟩ := hc
  obtain ⟨A0, c0, rfl, k0, -⟩ := hc.instrs.open_
  have b0 := hc.instrs.le
  obtain ⟨A1, c1, rfl, k1, -⟩ := hc.procs.open_
  have b1 := hc.procs.le
  obtain ⟨A2, c2, rfl, k2, -⟩ := hc.thunks.open_
  have b2 := hc.thunks.le
  obtain ⟨A3, c3, rfl, k3, -⟩ := hc.switches.open_
  have b3 := hc.switches.le
  obtain ⟨A4, c4, rfl, k4, -⟩ := hc.strings.open_
  have b4 := hc.strings.le
  obtain ⟨A5, c5, rfl, k5, -⟩ := hc.reals.open_
  have b5 := hc.reals.le
  obtain ⟨A6, c6, rfl, k6, -⟩ := hc.owns.open_
  have b6 := hc.owns.le
  clear hc
  go_enter Tryz.func163, Tryz.ntmps163
  go_wp2
  all_goals (go_ret; exact ⟨ret_bool (by simp [*]), (Below.refl _ _).alloc (Nat.le_refl _) _⟩)
set_option maxHeartbeats 400000 in
theorem code_between1 (H : PH) (v : Value) (c : CodeD) (n lo hi : Int) (p q : Nat) (w : World) (hc : CodeV H v c) (hp : w.cell? ⟨p, 0, none⟩ = some (.int .i64 lo)) (hq : w.cell? ⟨q, 0, none⟩ = some (.int .i64 hi)) :
    Calls Tryz.prog 175 #[v, .int .i64 n, .pointer (some ⟨p, 0, none⟩), .pointer (some ⟨q, 0, none⟩)] w fun e w' => e = .returned (.bool (withinB n lo hi)) ∧ Below w.heap.size w w' := by
  obtain ⟨s0, s1, s2, s3, s4, s5, s6, rfl, hc⟩ := hc
  obtain ⟨A0, c0, rfl, k0, -⟩ := hc.instrs.open_
  have b0 := hc.instrs.le
  obtain ⟨A1, c1, rfl, k1, -⟩ := hc.procs.open_
  have b1 := hc.procs.le
  obtain ⟨A2, c2, rfl, k2, -⟩ := hc.thunks.open_
  have b2 := hc.thunks.le
  obtain ⟨A3, c3, rfl, k3, -⟩ := hc.switches.open_
  have b3 := hc.switches.le
  obtain ⟨A4, c4, rfl, k4, -⟩ := hc.strings.open_
  have b4 := hc.strings.le
  obtain ⟨A5, c5, rfl, k5, -⟩ := hc.reals.open_
  have b5 := hc.reals.le
  obtain ⟨A6, c6, rfl, k6, -⟩ := hc.owns.open_
  have b6 := hc.owns.le
  clear hc
  have hpl := World.block_lt_of_cell? w _ hp
  have hql := World.block_lt_of_cell? w _ hq
  go_enter Tryz.func175, Tryz.ntmps175
  go_wp2_with (go_at_call 127; refine (code_within _ _ _ _).mono ?_; rintro e w' ⟨rfl, rfl⟩)
  go_ret
  exact ⟨rfl, (Below.refl _ _).alloc (Nat.le_refl _) _⟩
end Go.Proofs.YtififjlgjmgikaaGreat
namespace Go.Proofs.YtififjlgjmgikaaGreat
set_option linter.all false
open Go.RowKit

/-- A function value that tells whether an operand is valid. -/
def RuleV (H : PH) (fv : Value) (p : CodeD → Int → Bool) : Prop :=
  ∃ K cap, fv = .func (.func K) #[] cap ∧ Enters K ∧ ∀ (w' : World) (H' : PH) (v : Value) (c : CodeD) (n : Int), PH.le H H' → Sees w' H' → CodeV H' v c →
    Calls Tryz.prog K (#[v, .int .i64 n] ++ cap) w' fun e w'' => e = .returned (.bool (p c n)) ∧ Below w'.heap.size w' w''
theorem RuleV.mono {H H' : PH} (h : PH.le H H') {fv : Value} {p : CodeD → Int → Bool} (k : RuleV H fv p) : RuleV H' fv p := by
  obtain ⟨K, cap, e, hE, k⟩ := k
  exact ⟨K, cap, e, hE, fun w' H2 v c n hl => k w' H2 v c n (PH.le_trans h hl)⟩
/-- What is new from block B on, but for block b. -/
def newPH (B b : Nat) (w : World) : PH := fun i => if i < B ∨ i = b then none else w.heap[i]?
theorem newPH.sees (B b : Nat) (w : World) : Sees w (newPH B b w) := by
  intro i o h
  unfold newPH at h
  split at h
  · cases h
  · exact h
theorem newPH.grown {B b : Nat} {w w1 : World} (h : w.grownBy w1 (some b)) : PH.le (newPH B b w) (newPH B b w1) := by
  intro i o e
  have hs := newPH.sees B b w i o e
  have hi : i < w.heap.size := (Array.getElem?_eq_some_iff.1 hs).1
  unfold newPH at e ⊢
  split at e
  · cases e
  · rename_i hn
    rw [if_neg hn, h.block i hi (fun k => hn (Or.inr (by injection k)))]
    exact e
theorem newPH.below {B b : Nat} {w w1 : World} (h : Below w.heap.size w w1) : PH.le (newPH B b w) (newPH B b w1) := by
  intro i o e
  have hs := newPH.sees B b w i o e
  have hi : i < w.heap.size := (Array.getElem?_eq_some_iff.1 hs).1
  unfold newPH at e ⊢
  split at e
  · cases e
  · rename_i hn
    rw [if_neg hn, h.block i hi]
    exact e
structure RulesAt (B b : Nat) (w : World) (l : List (Int × Value)) : Prop where
  map : MapL (fun x : Int => Value.int .i64 x) w b l
  ok : ∀ k v, mget l k = some v → ∃ fv, v = .agg #[fv] ∧ RuleV (newPH B b w) fv (ruleB k)
theorem RulesAt.below {B b : Nat} {w w1 : World} {l : List (Int × Value)} (h : RulesAt B b w l) (hb : Below w.heap.size w w1) : RulesAt B b w1 l :=
  ⟨h.map.of_block (hb.block b h.map.lt), fun k v e => by
    obtain ⟨fv, e1, e2⟩ := h.ok k v e
    exact ⟨fv, e1, e2.mono (newPH.below hb)⟩⟩
theorem wpL_rule {ops : Array Oper} {rest : List Oper} {o : Oper} {a : Act} {Q : Exit → Act → World → Prop} {w : World} {B b : Nat} {l : List (Int × Value)}
    (hgd : o.guard = none) (m x v : Operand) (hop : o.op = Op.insert 150 m x v) (hR : RulesAt B b w l) (hm : a.eval m = .map (some b)) (k : Int) (fv : Value) (hx : a.eval x = .int .i64 k) (hv : a.eval v = .agg #[fv])
    (hr : RuleV (newPH B b w) fv (ruleB k))
    (h : ∀ w', RulesAt B b w' (mput l k (.agg #[fv])) → w.grownBy w' (some b) → wpList Tryz.prog ops Q rest (a.put o.dst undef) w') : wpList Tryz.prog ops Q (o :: rest) a w := by
  refine wpL_insert hgd m x v _ hop Tryz.underlying150 (fun x : Int => Value.int .i64 x) (keyInt Tryz.underlying3) (int_inj _) b l hm hR.map k _ hx hv fun w' hM hg => h w' ⟨hM, fun k' v' e => ?_⟩ hg
  rw [mget_put] at e
  split at e
  · rename_i hk
    subst hk
    cases e
    exact ⟨fv, rfl, hr.mono (newPH.grown hg)⟩
  · obtain ⟨fv', e1, e2⟩ := hR.ok k' v' e
    exact ⟨fv', e1, e2.mono (newPH.grown hg)⟩

theorem ruleV2 (H : PH) : RuleV H (.func (.func 152) #[] #[]) (ruleB 2) := ⟨_, _, rfl, enters_mk Tryz.func152 (by kernel_rfl) rfl, fun w' H' v c n _ hs hc => code_rule2 H' v c n w' hs hc⟩
theorem ruleV4 (H : PH) : RuleV H (.func (.func 153) #[] #[]) (ruleB 4) := ⟨_, _, rfl, enters_mk Tryz.func153 (by kernel_rfl) rfl, fun w' H' v c n _ hs hc => code_rule4 H' v c n w' hs hc⟩
theorem ruleV9 (H : PH) : RuleV H (.func (.func 154) #[] #[]) (ruleB 9) := ⟨_, _, rfl, enters_mk Tryz.func154 (by kernel_rfl) rfl, fun w' H' v c n _ hs hc => code_rule9 H' v c n w' hs hc⟩
theorem ruleV10 (H : PH) : RuleV H (.func (.func 155) #[] #[]) (ruleB 10) := ⟨_, _, rfl, enters_mk Tryz.func155 (by kernel_rfl) rfl, fun w' H' v c n _ hs hc => code_rule10 H' v c n w' hs hc⟩
theorem ruleV11 (H : PH) : RuleV H (.func (.func 156) #[] #[]) (ruleB 11) := ⟨_, _, rfl, enters_mk Tryz.func156 (by kernel_rfl) rfl, fun w' H' v c n _ hs hc => code_rule11 H' v c n w' hs hc⟩
theorem ruleV12 (H : PH) : RuleV H (.func (.func 157) #[] #[]) (ruleB 12) := ⟨_, _, rfl, enters_mk Tryz.func157 (by kernel_rfl) rfl, fun w' H' v c n _ hs hc => code_rule12 H' v c n w' hs hc⟩
theorem ruleV13 (H : PH) : RuleV H (.func (.func 158) #[] #[]) (ruleB 13) := ⟨_, _, rfl, enters_mk Tryz.func158 (by kernel_rfl) rfl, fun w' H' v c n _ hs hc => code_rule13 H' v c n w' hs hc⟩
theorem ruleV14 (H : PH) : RuleV H (.func (.func 159) #[] #[]) (ruleB 14) := ⟨_, _, rfl, enters_mk Tryz.func159 (by kernel_rfl) rfl, fun w' H' v c n _ hs hc => code_rule14 H' v c n w' hs hc⟩
theorem ruleV15 (H : PH) : RuleV H (.func (.func 160) #[] #[]) (ruleB 15) := ⟨_, _, rfl, enters_mk Tryz.func160 (by kernel_rfl) rfl, fun w' H' v c n _ hs hc => code_rule15 H' v c n w' hs hc⟩
theorem ruleV16 (H : PH) : RuleV H (.func (.func 161) #[] #[]) (ruleB 16) := ⟨_, _, rfl, enters_mk Tryz.func161 (by kernel_rfl) rfl, fun w' H' v c n _ hs hc => code_rule16 H' v c n w' hs hc⟩
theorem ruleV17 (H : PH) : RuleV H (.func (.func 162) #[] #[]) (ruleB 17) := ⟨_, _, rfl, enters_mk Tryz.func162 (by kernel_rfl) rfl, fun w' H' v c n _ hs hc => code_rule17 H' v c n w' hs hc⟩
theorem ruleV21 (H : PH) : RuleV H (.func (.func 163) #[] #[]) (ruleB 21) := ⟨_, _, rfl, enters_mk Tryz.func163 (by kernel_rfl) rfl, fun w' H' v c n _ hs hc => code_rule21 H' v c n w' hs hc⟩
set_option maxHeartbeats 400000 in
theorem code_between (lo hi : Int) (w : World) : Calls Tryz.prog 151 #[.int .i64 lo, .int .i64 hi] w fun e w' =>
    ∃ fv, e = .returned (.agg #[fv]) ∧ (∀ B b, B ≤ w.heap.size → b < w.heap.size → RuleV (newPH B b w') fv fun _ n => withinB n lo hi) ∧ Below w.heap.size w w' := by
  go_enter Tryz.func151, Tryz.ntmps151
  go_wp2
  refine bodyPost_ret (v := .agg #[.func (.func 175) #[] #[.pointer (some ⟨w.heap.size, 0, none⟩), .pointer (some ⟨w.heap.size + 1, 0, none⟩)]]) (by simp [results, Tryz.results151, go_sem]) rfl ?_
  refine ⟨_, rfl, ?_, (((Below.refl _ _).alloc (Nat.le_refl _) _).alloc (by simp) _).alloc (by simp; omega) _⟩
  intro B b hB hb
  refine ⟨_, _, rfl, enters_mk Tryz.func175 (by kernel_rfl) rfl, fun w' H' v c n hl hs hc => code_between1 H' v c n lo hi _ _ w' hc ?_ ?_⟩
  · have := hs w.heap.size (.cells #[.int .i64 lo] 3 (0, 0)) (hl _ _ (by unfold newPH; rw [if_neg (by omega)]; simp only [get_alloc, World.size_alloc]; (repeat rw [if_neg (by omega)]); rw [if_pos trivial]))
    simp [World.cell?, this]
  · have := hs (w.heap.size + 1) (.cells #[.int .i64 hi] 3 (0, 0)) (hl _ _ (by unfold newPH; rw [if_neg (by omega)]; simp only [get_alloc, World.size_alloc]; (repeat rw [if_neg (by omega)]); rw [if_pos trivial]))
    simp [World.cell?, this]

set_option maxHeartbeats 4000000 in
set_option maxRecDepth 100000 in
theorem code_rules (w : World) : Calls Tryz.prog 121 #[] w fun e w' => ∃ b l, e = .returned (.map (some b)) ∧ w.heap.size ≤ b ∧ RulesAt w.heap.size b w' l ∧
    (∀ k, 0 ≤ k → k ≤ 24 → (mget l k).isSome = true) ∧ Below w.heap.size w w' := by
  have hmm := @run_makeMap Tryz.prog
  go_enter Tryz.func121, Tryz.ntmps121
  have hR : RulesAt w.heap.size w.heap.size (w.alloc (.map #[] 0)) [] := ⟨MapL.new _ w, fun k v h => by cases h⟩
  have hB : Below w.heap.size w (w.alloc (.map #[] 0)) := (Below.refl _ _).alloc (Nat.le_refl _) _
  have hs : w.heap.size + 1 ≤ (w.alloc (.map #[] 0)).heap.size := by simp
  repeat (first
    | (go_at_call 151; refine (code_between _ _ _).mono ?_; rintro e w1 ⟨fv, rfl, hv, hb⟩; replace hv := hv w.heap.size w.heap.size (by omega) (by omega); replace hR := hR.below hb; replace hB := hB.trans (hb.mono (by omega)); replace hs := Nat.le_trans hs hb.size; clear hb; dsimp only)
    | (refine wpL_rule rfl _ _ _ rfl hR (by rfl) _ _ (by rfl) (by rfl) ?_ ?_
       · first | exact hv | exact ruleV2 _ | exact ruleV4 _ | exact ruleV9 _ | exact ruleV10 _ | exact ruleV11 _ | exact ruleV12 _ | exact ruleV13 _ | exact ruleV14 _ | exact ruleV15 _ | exact ruleV16 _ | exact ruleV17 _ | exact ruleV21 _
       clear hR; intro w1 hR hg; replace hB := below_step hB (Nat.le_refl _) (by omega) hg; replace hs := Nat.le_trans hs hg.size; clear hg; try clear hv)
    | go_step)
  go_ret
  refine ⟨_, _, rfl, Nat.le_refl _, hR, ?_, hB⟩
  intro k h0 h1
  iterate 25 (rw [mget_put]; split; · rfl)
  exfalso; omega
end Go.Proofs.YtififjlgjmgikaaGreat
