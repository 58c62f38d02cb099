/- slices.IndexFunc, slices.ContainsFunc over a function value. slices.IndexFunc, slices.ContainsFunc at bytes. Small functions of package code. Closures of code.tables; real.Valid. -/
import Derived.Test.YtififjlgjmgikaaGreatData
import Derived.Test.YtififjlgjmgikaaGreatRows
namespace Go.Proofs.YtififjlgjmgikaaGreat
set_option linter.all false
open Go.RowKit

/-- A function value that tells a number. -/
def PredV (H : PH) (q : IntKind) (fv : Value) (S : Int → Prop) (p : Int → Bool) : Prop :=
  ∃ K cap, fv = .func (.func K) #[] cap ∧ Enters K ∧ ∀ (w' : World) (H' : PH) (x : Int), PH.le H H' → Sees w' H' → S x →
    Calls Tryz.prog K (#[.int q x] ++ cap) w' fun e w'' => e = .returned (.bool (p x)) ∧ Below w'.heap.size w' w''
def idxF {α : Type} (p : α → Bool) (xs : List α) : Int := match xs.findIdx? p with | some i => (i : Int) | none => -1
theorem idxF_none {α : Type} {p : α → Bool} {xs : List α} (h : ∀ (i : Nat) (x : α), xs[i]? = some x → p x = false) : idxF p xs = -1 := by
  have : xs.findIdx? p = none := by
    rw [List.findIdx?_eq_none_iff]
    intro x hx
    obtain ⟨i, hi⟩ := List.getElem?_of_mem hx
    exact h i x hi
  simp [idxF, this]
theorem idxF_some {α : Type} {p : α → Bool} {xs : List α} {k : Nat} {x : α} (hk : xs[k]? = some x) (hx : p x = true) (h : ∀ (i : Nat) (y : α), i < k → xs[i]? = some y → p y = false) : idxF p xs = k := by
  have : xs.findIdx? p = some k := by
    obtain ⟨hl, rfl⟩ := List.getElem?_eq_some_iff.1 hk
    rw [List.findIdx?_eq_some_iff_getElem]
    refine ⟨hl, hx, fun j hj => ?_⟩
    have := h j xs[j] hj (by simp)
    simp [this]
  simp [idxF, this]
theorem idxF_ge {α : Type} (p : α → Bool) (xs : List α) : decide (0 ≤ idxF p xs) = xs.any p := by
  unfold idxF
  cases h : xs.findIdx? p with
  | none =>
    rw [List.findIdx?_eq_none_iff] at h
    have h2 : xs.any p = false := by simpa using h
    simp [h2]
  | some i =>
    rw [List.findIdx?_eq_some_iff_getElem] at h
    obtain ⟨hl, hx, _⟩ := h
    have : xs.any p = true := List.any_eq_true.2 ⟨xs[i], List.getElem_mem hl, hx⟩
    simp [this]

set_option maxHeartbeats 400000 in
theorem slices_IndexFunc_int (H : PH) (v fv : Value) (xs : List Int) (S : Int → Prop) (p : Int → Bool) (w : World) (hw : Sees w H) (hv : Ints H v xs) (hf : PredV H .i64 fv S p) (hS : ∀ x ∈ xs, S x) :
    Calls Tryz.prog 113 #[v, fv] w fun e w' => e = .returned (.int .i64 (idxF p xs)) ∧ Below w.heap.size w w' := by
  obtain ⟨K, cap, rfl, hE, hf⟩ := hf
  unfold Enters at hE
  have hle := hv.le
  obtain ⟨A, c, rfl, hc, -⟩ := hv.open_
  have hR := Lib.hid hf
  clear hf
  go_enter Tryz.func113, Tryz.ntmps113
  go_wp2
  go_loopw [8] (fun i wr => ∃ k : Nat, k ≤ xs.length ∧ i = .int .i64 k ∧ (∀ j x, j < k → xs[j]? = some x → p x = false) ∧ Below w.heap.size w wr) (fun i _ => xs.length - (intOf i).toNat)
  case atStart => exact ⟨0, Nat.zero_le _, rfl, fun j x h => by omega, Below.refl _ _⟩
  case round =>
    obtain ⟨k, hk, rfl, hno, hB⟩ := hrel
    by_cases hlt : k < xs.length
    · obtain ⟨b, off, c', hA, -, hb, hcell, -⟩ := hv.ints (by omega)
      cases hA
      have hsee : Sees wr H := hw.below hB
      have hcl := hcell wr hsee k hlt
      have hx : xs[k]? = some (xs.getD k 0) := by simp [hlt]
      have hSx := hS _ (List.mem_of_getElem? hx)
      generalize xs.getD k 0 = x at *
      clear hcell
      have hH := Lib.hid hx; clear hx
      have hno' := Lib.hid hno; clear hno
      cases hp : p x
      · have hP := Lib.hid hp; clear hp
        go_wp2_with (first | (refine (hR.out wr H x (PH.le_refl H) hsee hSx).mono ?_; rintro e w' ⟨rfl, hB'⟩; rw [hP.out]))
        refine ⟨⟨k + 1, by omega, by go_num, fun j y hj hy => ?_, bstep hB hB'⟩, by simp [intOf]; omega⟩
        by_cases e : j = k
        · subst e; rw [hH.out] at hy; cases hy; exact hP.out
        · exact hno'.out j y (by omega) hy
      · have hP := Lib.hid hp; clear hp
        go_wp2_with (first | (refine (hR.out wr H x (PH.le_refl H) hsee hSx).mono ?_; rintro e w' ⟨rfl, hB'⟩; rw [hP.out]))
        go_ret
        exact ⟨ret_num (idxF_some hH.out hP.out fun i y hi hy => hno'.out i y hi hy).symm, bstep hB hB'⟩
    · have hlt' : ¬ (k : Int) < xs.length := by omega
      have hno' := Lib.hid hno; clear hno
      go_wp2
      go_ret
      exact ⟨ret_num (idxF_none fun i y hy => hno'.out i y (by have := (List.getElem?_eq_some_iff.1 hy).1; omega) hy).symm, hB⟩
set_option maxHeartbeats 400000 in
theorem slices_ContainsFunc_int (H : PH) (v fv : Value) (xs : List Int) (S : Int → Prop) (p : Int → Bool) (w : World) (hw : Sees w H) (hv : Ints H v xs) (hf : PredV H .i64 fv S p) (hS : ∀ x ∈ xs, S x) :
    Calls Tryz.prog 100 #[v, fv] w fun e w' => e = .returned (.bool (xs.any p)) ∧ Below w.heap.size w w' := by
  go_enter Tryz.func100, Tryz.ntmps100
  have hC := slices_IndexFunc_int H v fv xs S p w hw hv hf hS
  go_wp2_with (go_at_call 113; refine hC.mono ?_; rintro e w' ⟨rfl, hB⟩)
  go_ret
  exact ⟨ret_bool (idxF_ge p xs), hB⟩
end Go.Proofs.YtififjlgjmgikaaGreat
namespace Go.Proofs.YtififjlgjmgikaaGreat
set_option linter.all false
open Go.RowKit
set_option maxHeartbeats 400000 in
theorem slices_IndexFunc_u8 (H : PH) (v fv : Value) (xs : List Int) (S : Int → Prop) (p : Int → Bool) (w : World) (hw : Sees w H) (hv : SlV rU8 H v xs) (hf : PredV H .u8 fv S p) (hS : ∀ x ∈ xs, S x) :
    Calls Tryz.prog 174 #[v, fv] w fun e w' => e = .returned (.int .i64 (idxF p xs)) ∧ Below w.heap.size w w' := by
  obtain ⟨K, cap, rfl, hE, hf⟩ := hf
  unfold Enters at hE
  have hle := hv.le
  obtain ⟨A, c, rfl, hc, -⟩ := hv.open_
  have hR := Lib.hid hf
  clear hf
  go_enter Tryz.func174, Tryz.ntmps174
  go_wp2
  go_loopw [8] (fun i wr => ∃ k : Nat, k ≤ xs.length ∧ i = .int .i64 k ∧ (∀ j x, j < k → xs[j]? = some x → p x = false) ∧ Below w.heap.size w wr) (fun i _ => xs.length - (intOf i).toNat)
  case atStart => exact ⟨0, Nat.zero_le _, rfl, fun j x h => by omega, Below.refl _ _⟩
  case round =>
    obtain ⟨k, hk, rfl, hno, hB⟩ := hrel
    by_cases hlt : k < xs.length
    · obtain ⟨b, off, c', hA, -, hb, hcell, -⟩ := hv.u8s (by omega)
      cases hA
      have hsee : Sees wr H := hw.below hB
      have hcl := hcell wr hsee k hlt
      have hx : xs[k]? = some (xs.getD k 0) := by simp [hlt]
      have hSx := hS _ (List.mem_of_getElem? hx)
      generalize xs.getD k 0 = x at *
      clear hcell
      have hH := Lib.hid hx; clear hx
      have hno' := Lib.hid hno; clear hno
      cases hp : p x
      · have hP := Lib.hid hp; clear hp
        go_wp2_with (first | (refine (hR.out wr H x (PH.le_refl H) hsee hSx).mono ?_; rintro e w' ⟨rfl, hB'⟩; rw [hP.out]))
        refine ⟨⟨k + 1, by omega, by go_num, fun j y hj hy => ?_, bstep hB hB'⟩, by simp [intOf]; omega⟩
        by_cases e : j = k
        · subst e; rw [hH.out] at hy; cases hy; exact hP.out
        · exact hno'.out j y (by omega) hy
      · have hP := Lib.hid hp; clear hp
        go_wp2_with (first | (refine (hR.out wr H x (PH.le_refl H) hsee hSx).mono ?_; rintro e w' ⟨rfl, hB'⟩; rw [hP.out]))
        go_ret
        exact ⟨ret_num (idxF_some hH.out hP.out fun i y hi hy => hno'.out i y hi hy).symm, bstep hB hB'⟩
    · have hlt' : ¬ (k : Int) < xs.length := by omega
      have hno' := Lib.hid hno; clear hno
      go_wp2
      go_ret
      exact ⟨ret_num (idxF_none fun i y hy => hno'.out i y (by have := (List.getElem?_eq_some_iff.1 hy).1; omega) hy).symm, hB⟩
set_option maxHeartbeats 400000 in
theorem slices_ContainsFunc_u8 (H : PH) (v fv : Value) (xs : List Int) (S : Int → Prop) (p : Int → Bool) (w : World) (hw : Sees w H) (hv : SlV rU8 H v xs) (hf : PredV H .u8 fv S p) (hS : ∀ x ∈ xs, S x) :
    Calls Tryz.prog 149 #[v, fv] w fun e w' => e = .returned (.bool (xs.any p)) ∧ Below w.heap.size w w' := by
  go_enter Tryz.func149, Tryz.ntmps149
  have hC := slices_IndexFunc_u8 H v fv xs S p w hw hv hf hS
  go_wp2_with (go_at_call 174; refine hC.mono ?_; rintro e w' ⟨rfl, hB⟩)
  go_ret
  exact ⟨ret_bool (idxF_ge p xs), hB⟩
end Go.Proofs.YtififjlgjmgikaaGreat
namespace Go.Proofs.YtififjlgjmgikaaGreat
set_option linter.all false
open Go.RowKit
def withinB (n lo hi : Int) : Bool := decide (lo ≤ n) && decide (n ≤ hi)
def isTypeB (n : Int) : Bool := n == 1 || n == 2 || n == 3
def largeB (c : CodeD) : Bool := c.instrs.length == 0 || decide (20000 < c.instrs.length) || decide (2000 < c.procs.length) || decide (2000 < c.thunks.length) || decide (2000 < c.switches.length) || decide (2000 < c.strings.length) || decide (2000 < c.reals.length) || decide (2000 < c.owns.length)
set_option maxHeartbeats 400000 in
theorem code_within (n lo hi : Int) (w : World) : Calls Tryz.prog 127 #[.int .i64 n, .int .i64 lo, .int .i64 hi] w fun e w' => e = .returned (.bool (withinB n lo hi)) ∧ w = w' := by
  go_enter Tryz.func127, Tryz.ntmps127
  go_wp2
  all_goals (go_ret; exact ⟨ret_bool (by simp [withinB]; omega), rfl⟩)
set_option maxHeartbeats 400000 in
theorem code_isType (n : Int) (w : World) : Calls Tryz.prog 146 #[.int .i64 n] w fun e w' => e = .returned (.bool (isTypeB n)) ∧ w = w' := by
  go_enter Tryz.func146, Tryz.ntmps146
  go_wp2
  all_goals (go_ret; exact ⟨ret_bool (by simp [isTypeB, *]), rfl⟩)
def mxI (x y : Int) : Int := if x < y then y else x
theorem run_max6 (P : Program) (w : World) (ts : Array TypeId) (t : TypeId) (a b c d e f : Int) :
    (Builtin.max_ ts t #[.int .i64 a, .int .i64 b, .int .i64 c, .int .i64 d, .int .i64 e, .int .i64 f]).run P w = .ok (.int .i64 (mxI (mxI (mxI (mxI (mxI a b) c) d) e) f)) w := rfl
theorem mxI_lt (x y z : Int) : z < mxI x y ↔ z < x ∨ z < y := by unfold mxI; split <;> omega
set_option maxHeartbeats 400000 in
theorem code_large (H : PH) (v : Value) (c : CodeD) (w : World) (hc : CodeV H v c) : Calls Tryz.prog 118 #[v] w fun e w' => e = .returned (.bool (largeB c)) ∧ Below w.heap.size w w' := by
  obtain ⟨s0, s1, s2, s3, s4, s5, s6, rfl, hc⟩ := hc
  obtain ⟨A0, c0, rfl, k0, -⟩ := hc.instrs.open_
  obtain ⟨A1, c1, rfl, k1, -⟩ := hc.procs.open_
  obtain ⟨A2, c2, rfl, k2, -⟩ := hc.thunks.open_
  obtain ⟨A3, c3, rfl, k3, -⟩ := hc.switches.open_
  obtain ⟨A4, c4, rfl, k4, -⟩ := hc.strings.open_
  obtain ⟨A5, c5, rfl, k5, -⟩ := hc.reals.open_
  obtain ⟨A6, c6, rfl, k6, -⟩ := hc.owns.open_
  have hmx := run_max6 Tryz.prog
  go_enter Tryz.func118, Tryz.ntmps118
  go_wp2
  all_goals (go_ret; refine ⟨ret_bool ?_, (Below.refl _ _).alloc (Nat.le_refl _) _⟩)
  · simp [largeB, *]
  · have h1 : ¬ c.instrs.length = 0 := by simp [*]
    rw [Bool.eq_iff_iff]
    simp only [largeB, Bool.or_eq_true, decide_eq_true_eq, beq_iff_eq, mxI_lt]
    omega
  · simp only [largeB]
    rw [Bool.eq_iff_iff]
    simp only [Bool.or_eq_true, decide_eq_true_eq, beq_iff_eq, true_iff]
    omega
end Go.Proofs.YtififjlgjmgikaaGreat
namespace Go.Proofs.YtififjlgjmgikaaGreat
set_option linter.all false
open Go.RowKit
def oddB (x : Int) : Bool := decide (x < 32) || decide (126 < x) || x == 34
def absI (x : Int) : Int := mxI x (wrap64 (-x))
def realB (x : RealD) : Bool :=
  (x.man == 0 && x.exp == 0) || (decide (1 ≤ absI x.man) && decide (absI x.man < 16777216) && (x.exp == -150 || (decide (8388608 ≤ absI x.man) && decide (-150 < x.exp) && decide (x.exp ≤ 150))))
set_option maxHeartbeats 400000 in
theorem code_tables3 (x : Int) (w : World) : Calls Tryz.prog 148 #[.int .u8 x] w fun e w' => e = .returned (.bool (oddB x)) ∧ w = w' := by
  go_enter Tryz.func148, Tryz.ntmps148
  go_wp2
  all_goals (go_ret; exact ⟨ret_bool (by simp [oddB, *] <;> omega), rfl⟩)
set_option maxHeartbeats 400000 in
theorem code_tables1 (x : Int) (b : Nat) (A : Option Addr) (n cap : Nat) (hn : n ≤ 140737488351232) (w : World) (hc : w.cell? ⟨b, 0, none⟩ = some (.slice A n cap)) :
    Calls Tryz.prog 145 #[.int .i64 x, .pointer (some ⟨b, 0, none⟩)] w fun e w' => e = .returned (.bool (withinB x 0 ((n : Int) - 1))) ∧ w = w' := by
  go_enter Tryz.func145, Tryz.ntmps145
  go_wp2_with (go_at_call 127; refine (code_within _ _ _ _).mono ?_; rintro e w' ⟨rfl, rfl⟩)
  go_ret
  exact ⟨rfl, rfl⟩
set_option maxHeartbeats 400000 in
theorem code_tables2 (x : Int) (b b1 : Nat) (A : Option Addr) (n cap : Nat) (hn : n ≤ 140737488351232) (w : World) (hc : w.cell? ⟨b, 0, none⟩ = some (.slice A n cap))
    (hf : w.cell? ⟨b1, 0, none⟩ = some (.func (.func 145) #[] #[.pointer (some ⟨b, 0, none⟩)])) :
    Calls Tryz.prog 147 #[.int .i64 x, .pointer (some ⟨b1, 0, none⟩)] w fun e w' => e = .returned (.bool (!withinB x 0 ((n : Int) - 1))) ∧ w = w' := by
  go_enter Tryz.func147, Tryz.ntmps147
  go_wp2_with (go_at_call 145; refine (code_tables1 _ _ _ _ _ hn _ hc).mono ?_; rintro e w' ⟨rfl, rfl⟩)
  go_ret
  exact ⟨rfl, rfl⟩
set_option maxHeartbeats 800000 in
theorem real_Valid (x : RealD) (hx : I64 x.man ∧ I64 x.exp) (w : World) : Calls Tryz.prog 150 #[.agg #[.int .i64 x.man, .int .i64 x.exp]] w fun e w' => e = .returned (.bool (realB x)) ∧ Below w.heap.size w w' := by
  obtain ⟨m, e⟩ := x
  obtain ⟨⟨hm1, hm2⟩, he1, he2⟩ := hx
  simp only at *
  go_enter Tryz.func150, Tryz.ntmps150
  go_wp2
  all_goals (go_ret; refine ⟨ret_bool ?_, (Below.refl _ _).alloc (Nat.le_refl _) _⟩)
  all_goals
    have hw0 : m = 0 → wrap64 (-m) = 0 := by intro h; rw [h]; unfold wrap64; omega
    simp only [realB, absI, mxI]
    generalize wrap64 (-m) = mm at *
    rw [Bool.eq_iff_iff]
    simp only [Bool.or_eq_true, Bool.and_eq_true, decide_eq_true_eq, beq_iff_eq, true_iff, false_iff, Bool.false_eq_true]
    split <;> (first | omega | (simp only [true_or, and_true]; omega))
end Go.Proofs.YtififjlgjmgikaaGreat
