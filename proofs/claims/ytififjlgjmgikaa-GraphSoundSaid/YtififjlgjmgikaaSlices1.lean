/- slices.IndexFunc, slices.ContainsFunc over a function value. -/
import Derived.Test.YtififjlgjmgikaaData
import Derived.Test.YtififjlgjmgikaaRows
namespace Go.Proofs.Ytififjlgjmgikaa
set_option linter.all false
open Go.RowKit

/-- A function value that tells a number. -/
def PredV (H : PH) (q : IntKind) (fv : Value) (S : Int → Prop) (p : Int → Bool) : Prop :=
  ∃ K cap, fv = .func (.func K) #[] cap ∧ Enters K ∧ ∀ (w' : World) (H' : PH) (x : Int), PH.le H H' → Sees w' H' → S x →
    Calls Try.prog K (#[.int q x] ++ cap) w' fun e w'' => e = .returned (.bool (p x)) ∧ Below w'.heap.size w' w''
def idxF {α : Type} (p : α → Bool) (xs : List α) : Int := match xs.findIdx? p with | some i => (i : Int) | none => -1
theorem idxF_none {α : Type} {p : α → Bool} {xs : List α} (h : ∀ (i : Nat) (x : α), xs[i]? = some x → p x = false) : idxF p xs = -1 := by
  have : xs.findIdx? p = none := by
    rw [List.findIdx?_eq_none_iff]
    intro x hx
    obtain ⟨i, hi⟩ := List.getElem?_of_mem hx
    exact h i x hi
  simp [idxF, this]
theorem idxF_some {α : Type} {p : α → Bool} {xs : List α} {k : Nat} {x : α} (hk : xs[k]? = some x) (hx : p x = true) (h : ∀ (i : Nat) (y : α), i < k → xs[i]? = some y → p y = false) : idxF p xs = k := by
  have : xs.findIdx? p = some k := by
    obtain ⟨hl, rfl⟩ := List.getElem?_eq_some_iff.1 hk
    rw [List.findIdx?_eq_some_iff_getElem]
    refine ⟨hl, hx, fun j hj => ?_⟩
    have := h j xs[j] hj (by simp)
    simp [this]
  simp [idxF, this]
theorem idxF_ge {α : Type} (p : α → Bool) (xs : List α) : decide (0 ≤ idxF p xs) = xs.any p := by
  unfold idxF
  cases h : xs.findIdx? p with
  | none =>
    rw [List.findIdx?_eq_none_iff] at h
    have h2 : xs.any p = false := by simpa using h
    simp [h2]
  | some i =>
    rw [List.findIdx?_eq_some_iff_getElem] at h
    obtain ⟨hl, hx, _⟩ := h
    have : xs.any p = true := List.any_eq_true.2 ⟨xs[i], List.getElem_mem hl, hx⟩
    simp [this]

set_option maxHeartbeats 400000 in
theorem slices_IndexFunc_int (H : PH) (v fv : Value) (xs : List Int) (S : Int → Prop) (p : Int → Bool) (w : World) (hw : Sees w H) (hv : Ints H v xs) (hf : PredV H .i64 fv S p) (hS : ∀ x ∈ xs, S x) :
    Calls Try.prog 65 #[v, fv] w fun e w' => e = .returned (.int .i64 (idxF p xs)) ∧ Below w.heap.size w w' := by
  obtain ⟨K, cap, rfl, hE, hf⟩ := hf
  unfold Enters at hE
  have hle := hv.le
  obtain ⟨A, c, rfl, hc, -⟩ := hv.open_
  have hR := Lib.hid hf
  clear hf
  go_enter Try.func65, Try.ntmps65
  go_wp2
  go_loopw [8] (fun i wr => ∃ k : Nat, k ≤ xs.length ∧ i = .int .i64 k ∧ (∀ j x, j < k → xs[j]? = some x → p x = false) ∧ Below w.heap.size w wr) (fun i _ => xs.length - (intOf i).toNat)
  case atStart => exact ⟨0, Nat.zero_le _, rfl, fun j x h => by omega, Below.refl _ _⟩
  case round =>
    obtain ⟨k, hk, rfl, hno, hB⟩ := hrel
    by_cases hlt : k < xs.length
    · obtain ⟨b, off, c', hA, -, hb, hcell, -⟩ := hv.ints (by omega)
      cases hA
      have hsee : Sees wr H := hw.below hB
      have hcl := hcell wr hsee k hlt
      have hx : xs[k]? = some (xs.getD k 0) := by simp [hlt]
      have hSx := hS _ (List.mem_of_getElem? hx)
      generalize xs.getD k 0 = x at *
      clear hcell
      have hH := Lib.hid hx; clear hx
      have hno' := Lib.hid hno; clear hno
      cases hp : p x
      · have hP := Lib.hid hp; clear hp
        go_wp2_with (first | (refine (hR.out wr H x (PH.le_refl H) hsee hSx).mono ?_; rintro e w' ⟨rfl, hB'⟩; rw [hP.out]))
        refine ⟨⟨k + 1, by omega, by go_num, fun j y hj hy => ?_, bstep hB hB'⟩, by simp [intOf]; omega⟩
        by_cases e : j = k
        · subst e; rw [hH.out] at hy; cases hy; exact hP.out
        · exact hno'.out j y (by omega) hy
      · have hP := Lib.hid hp; clear hp
        go_wp2_with (first | (refine (hR.out wr H x (PH.le_refl H) hsee hSx).mono ?_; rintro e w' ⟨rfl, hB'⟩; rw [hP.out]))
        go_ret
        exact ⟨ret_num (idxF_some hH.out hP.out fun i y hi hy => hno'.out i y hi hy).symm, bstep hB hB'⟩
    · have hlt' : ¬ (k : Int) < xs.length := by omega
      have hno' := Lib.hid hno; clear hno
      go_wp2
      go_ret
      exact ⟨ret_num (idxF_none fun i y hy => hno'.out i y (by have := (List.getElem?_eq_some_iff.1 hy).1; omega) hy).symm, hB⟩
set_option maxHeartbeats 400000 in
theorem slices_ContainsFunc_int (H : PH) (v fv : Value) (xs : List Int) (S : Int → Prop) (p : Int → Bool) (w : World) (hw : Sees w H) (hv : Ints H v xs) (hf : PredV H .i64 fv S p) (hS : ∀ x ∈ xs, S x) :
    Calls Try.prog 63 #[v, fv] w fun e w' => e = .returned (.bool (xs.any p)) ∧ Below w.heap.size w w' := by
  go_enter Try.func63, Try.ntmps63
  have hC := slices_IndexFunc_int H v fv xs S p w hw hv hf hS
  go_wp2_with (go_at_call 65; refine hC.mono ?_; rintro e w' ⟨rfl, hB⟩)
  go_ret
  exact ⟨ret_bool (idxF_ge p xs), hB⟩
end Go.Proofs.Ytififjlgjmgikaa
