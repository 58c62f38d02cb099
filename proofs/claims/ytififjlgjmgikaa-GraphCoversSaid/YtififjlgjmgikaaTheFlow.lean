/- The flow of a code is one (no program). -/
import Derived.Test.YtififjlgjmgikaaFlowD
namespace Go.Proofs.Ytififjlgjmgikaa
set_option linter.all false
open Go.RowKit

noncomputable def dcd (p : Prop) : Bool := @decide p (Classical.propDecidable p)
theorem dcd_iff {p : Prop} : dcd p = true ↔ p := @decide_eq_true_iff p (Classical.propDecidable p)
noncomputable def leadB (c : CodeD) : List Bool := (List.range c.instrs.length).map fun p => dcd (IsLeader c p)
noncomputable def theFlow (c : CodeD) : FlowD where
  blocks := blocksF c (leadB c)
  of_ := ofK (leadB c) c.instrs.length
  ahead := aheadIJ (nxF c (leadB c)) (cnt (leadB c) c.instrs.length) 0
  entry := (List.range (cnt (leadB c) c.instrs.length)).map fun (i : Nat) => dcd (∃ p ∈ entriesL c, ofI (leadB c) p = (i : Int))
  reached := (List.range (cnt (leadB c) c.instrs.length)).map fun (i : Nat) => dcd (ReachC c ((rowsK (leadB c) c.instrs.length).getD i (0, 0)).1)
theorem marks_map {n : Nat} (p : Nat → Prop) : Marks ((List.range n).map fun i => dcd (p i)) n p := by
  refine ⟨by simp, fun j hj => ?_⟩
  rw [List.getD_eq_getElem?_getD, List.getElem?_map, List.getElem?_range hj]
  exact dcd_iff
theorem Marks.eq {a b : List Bool} {n : Nat} {p : Nat → Prop} (h : Marks a n p) (k : Marks b n p) : a = b := by
  apply List.ext_getElem?
  intro j
  by_cases hj : j < n
  · have h1 := h.iff_ j hj
    have h2 := k.iff_ j hj
    have h3 : j < a.length := by rw [h.len]; exact hj
    have h4 : j < b.length := by rw [k.len]; exact hj
    rw [List.getD_eq_getElem?_getD, List.getElem?_eq_getElem h3, Option.getD_some] at h1
    rw [List.getD_eq_getElem?_getD, List.getElem?_eq_getElem h4, Option.getD_some] at h2
    rw [List.getElem?_eq_getElem h3, List.getElem?_eq_getElem h4, Bool.eq_iff_iff.2 (h1.trans h2.symm)]
  · rw [List.getElem?_eq_none (by rw [h.len]; omega), List.getElem?_eq_none (by rw [k.len]; omega)]
theorem lead_marks (c : CodeD) : Marks (leadB c) c.instrs.length (IsLeader c) := marks_map _
theorem theFlow_is (c : CodeD) : IsFlow c (theFlow c) := ⟨leadB c, lead_marks c, rfl, rfl, rfl, marks_map _, marks_map _⟩
theorem IsFlow.eq {c : CodeD} {f : FlowD} (h : IsFlow c f) : f = theFlow c := by
  obtain ⟨bs, h1, h2, h3, h4, h5, h6⟩ := h
  obtain ⟨bs', k1, k2, k3, k4, k5, k6⟩ := theFlow_is c
  obtain rfl := h1.eq k1
  cases f
  generalize theFlow c = g at *
  cases g
  simp only at h2 h3 h4 h5 h6 k2 k3 k4 k5 k6
  subst h2; subst h3; subst h4; subst k2; subst k3; subst k4
  obtain rfl := h5.eq k5
  obtain rfl := h6.eq k6
  rfl
end Go.Proofs.Ytififjlgjmgikaa
