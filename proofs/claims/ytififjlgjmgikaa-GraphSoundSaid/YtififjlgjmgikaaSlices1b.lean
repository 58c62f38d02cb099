/- slices.IndexFunc, slices.ContainsFunc at bytes. -/
import Derived.Test.YtififjlgjmgikaaSlices1
namespace Go.Proofs.Ytififjlgjmgikaa
set_option linter.all false
open Go.RowKit
set_option maxHeartbeats 400000 in
theorem slices_IndexFunc_u8 (H : PH) (v fv : Value) (xs : List Int) (S : Int → Prop) (p : Int → Bool) (w : World) (hw : Sees w H) (hv : SlV rU8 H v xs) (hf : PredV H .u8 fv S p) (hS : ∀ x ∈ xs, S x) :
    Calls Try.prog 118 #[v, fv] w fun e w' => e = .returned (.int .i64 (idxF p xs)) ∧ Below w.heap.size w w' := by
  obtain ⟨K, cap, rfl, hE, hf⟩ := hf
  unfold Enters at hE
  have hle := hv.le
  obtain ⟨A, c, rfl, hc, -⟩ := hv.open_
  have hR := Lib.hid hf
  clear hf
  go_enter Try.func118, Try.ntmps118
  go_wp2
  go_loopw [8] (fun i wr => ∃ k : Nat, k ≤ xs.length ∧ i = .int .i64 k ∧ (∀ j x, j < k → xs[j]? = some x → p x = false) ∧ Below w.heap.size w wr) (fun i _ => xs.length - (intOf i).toNat)
  case atStart => exact ⟨0, Nat.zero_le _, rfl, fun j x h => by omega, Below.refl _ _⟩
  case round =>
    obtain ⟨k, hk, rfl, hno, hB⟩ := hrel
    by_cases hlt : k < xs.length
    · obtain ⟨b, off, c', hA, -, hb, hcell, -⟩ := hv.u8s (by omega)
      cases hA
      have hsee : Sees wr H := hw.below hB
      have hcl := hcell wr hsee k hlt
      have hx : xs[k]? = some (xs.getD k 0) := by simp [hlt]
      have hSx := hS _ (List.mem_of_getElem? hx)
      generalize xs.getD k 0 = x at *
      clear hcell
      have hH := Lib.hid hx; clear hx
      have hno' := Lib.hid hno; clear hno
      cases hp : p x
      · have hP := Lib.hid hp; clear hp
        go_wp2_with (first | (refine (hR.out wr H x (PH.le_refl H) hsee hSx).mono ?_; rintro e w' ⟨rfl, hB'⟩; rw [hP.out]))
        refine ⟨⟨k + 1, by omega, by go_num, fun j y hj hy => ?_, bstep hB hB'⟩, by simp [intOf]; omega⟩
        by_cases e : j = k
        · subst e; rw [hH.out] at hy; cases hy; exact hP.out
        · exact hno'.out j y (by omega) hy
      · have hP := Lib.hid hp; clear hp
        go_wp2_with (first | (refine (hR.out wr H x (PH.le_refl H) hsee hSx).mono ?_; rintro e w' ⟨rfl, hB'⟩; rw [hP.out]))
        go_ret
        exact ⟨ret_num (idxF_some hH.out hP.out fun i y hi hy => hno'.out i y hi hy).symm, bstep hB hB'⟩
    · have hlt' : ¬ (k : Int) < xs.length := by omega
      have hno' := Lib.hid hno; clear hno
      go_wp2
      go_ret
      exact ⟨ret_num (idxF_none fun i y hy => hno'.out i y (by have := (List.getElem?_eq_some_iff.1 hy).1; omega) hy).symm, hB⟩
set_option maxHeartbeats 400000 in
theorem slices_ContainsFunc_u8 (H : PH) (v fv : Value) (xs : List Int) (S : Int → Prop) (p : Int → Bool) (w : World) (hw : Sees w H) (hv : SlV rU8 H v xs) (hf : PredV H .u8 fv S p) (hS : ∀ x ∈ xs, S x) :
    Calls Try.prog 97 #[v, fv] w fun e w' => e = .returned (.bool (xs.any p)) ∧ Below w.heap.size w w' := by
  go_enter Try.func97, Try.ntmps97
  have hC := slices_IndexFunc_u8 H v fv xs S p w hw hv hf hS
  go_wp2_with (go_at_call 118; refine hC.mono ?_; rintro e w' ⟨rfl, hB⟩)
  go_ret
  exact ⟨ret_bool (idxF_ge p xs), hB⟩
end Go.Proofs.Ytififjlgjmgikaa
