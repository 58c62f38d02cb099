/- The blocks of a code, by its leaders (no program). -/
import Derived.Test.YtififjlgjmgikaaFlow
namespace Go.Proofs.Ytififjlgjmgikaa
set_option linter.all false
open Go.RowKit

/-- How many of the first k places are marked. -/
def cnt (bs : List Bool) : Nat → Nat
  | 0 => 0
  | k + 1 => cnt bs k + (bs.getD k false).toNat
/-- The end of the last row is k. -/
def endAt (r : List (Int × Int)) (k : Int) : List (Int × Int) := r.set (r.length - 1) ((r.getD (r.length - 1) (0, 0)).1, k)
/-- Begin and end of each block, behind k places. -/
def rowsK (bs : List Bool) : Nat → List (Int × Int)
  | 0 => []
  | k + 1 => endAt (if bs.getD k false then rowsK bs k ++ [((k : Int), 0)] else rowsK bs k) (k + 1)
def ofI (bs : List Bool) (p : Int) : Int := cnt bs (p.toNat + 1) - 1
def ofK (bs : List Bool) (k : Nat) : List Int := (List.range k).map fun (p : Nat) => ofI bs p
theorem endAt_len (r : List (Int × Int)) (k : Int) : (endAt r k).length = r.length := by simp [endAt]
theorem rowsK_len (bs : List Bool) (k : Nat) : (rowsK bs k).length = cnt bs k := by
  induction k with
  | zero => rfl
  | succ k ih =>
    simp only [rowsK, endAt_len, cnt]
    cases bs.getD k false <;> simp [ih]
theorem cnt_mono (bs : List Bool) {i j : Nat} (h : i ≤ j) : cnt bs i ≤ cnt bs j := by
  induction j with
  | zero => rw [Nat.le_zero.1 h]; exact Nat.le_refl _
  | succ j ih =>
    by_cases e : i = j + 1
    · subst e; exact Nat.le_refl _
    · have := ih (by omega)
      simp only [cnt]; omega
theorem cnt_le (bs : List Bool) (k : Nat) : cnt bs k ≤ k := by
  induction k with
  | zero => exact Nat.le_refl _
  | succ k ih => simp only [cnt]; cases bs.getD k false <;> simp <;> omega
theorem cnt_pos {bs : List Bool} (h : bs.getD 0 false = true) {k : Nat} (hk : 0 < k) : 0 < cnt bs k := by
  have := cnt_mono bs (show 1 ≤ k from hk)
  simp only [cnt, h] at this
  simp at this
  omega
theorem cnt_marked {bs : List Bool} {k : Nat} (h : bs.getD k false = true) : cnt bs (k + 1) = cnt bs k + 1 := by simp only [cnt, h, Bool.toNat_true]
theorem cnt_plain {bs : List Bool} {k : Nat} (h : bs.getD k false = false) : cnt bs (k + 1) = cnt bs k := by simp only [cnt, h, Bool.toNat_false, Nat.add_zero]
theorem ofK_len (bs : List Bool) (k : Nat) : (ofK bs k).length = k := by simp [ofK]
theorem ofK_succ (bs : List Bool) (k : Nat) : ofK bs (k + 1) = ofK bs k ++ [(cnt bs (k + 1) : Int) - 1] := by
  simp [ofK, List.range_succ, ofI]
theorem ofK_at (bs : List Bool) {n p : Nat} (h : p < n) : (ofK bs n).getD p 0 = ofI bs p := by
  unfold ofK
  rw [List.getD_eq_getElem?_getD, List.getElem?_map, List.getElem?_range h]
  rfl
theorem ofI_range {bs : List Bool} (h0 : bs.getD 0 false = true) {n p : Nat} (hp : p < n) : 0 ≤ ofI bs p ∧ ofI bs p < cnt bs n := by
  unfold ofI
  rw [Int.toNat_natCast]
  have h1 := cnt_pos h0 (show 0 < p + 1 by omega)
  have h2 := cnt_mono bs (show p + 1 ≤ n from hp)
  omega
/-- Block i extends from s to t. -/
structure RowAt (bs : List Bool) (k i s t : Nat) : Prop where
  lt : s < t
  le : t ≤ k
  lead : bs.getD s false = true
  cs : cnt bs s = i
  ct : cnt bs t = i + 1
  mid : ∀ p, s < p → p < t → bs.getD p false = false
  edge : t = k ∨ bs.getD t false = true
theorem rows_spec (bs : List Bool) (k : Nat) : ∀ i, i < cnt bs k → ∃ s t : Nat, (rowsK bs k)[i]? = some ((s : Int), (t : Int)) ∧ RowAt bs k i s t := by
  induction k with
  | zero => intro i hi; simp [cnt] at hi
  | succ k ih =>
    intro i hi
    have hl := rowsK_len bs k
    simp only [rowsK]
    cases hb : bs.getD k false
    · rw [cnt_plain hb] at hi
      obtain ⟨s, t, h1, h2⟩ := ih i hi
      simp only [Bool.false_eq_true, if_false]
      unfold endAt
      rw [List.getElem?_set, hl]
      by_cases e : i = cnt bs k - 1
      · have htk : t = k := by
          rcases h2.edge with h | h
          · exact h
          · have h3 := cnt_marked h
            have := h2.le
            have h4 := h2.ct
            apply Classical.byContradiction
            intro hne
            have := cnt_mono bs (show t + 1 ≤ k by omega)
            omega
        subst e
        refine ⟨s, k + 1, ?_, ⟨by have := h2.lt; omega, Nat.le_refl _, h2.lead, h2.cs, by rw [cnt_plain hb]; omega, fun p h3 h4 => ?_, .inl rfl⟩⟩
        · rw [if_pos rfl, if_pos (by omega), List.getD_eq_getElem?_getD, h1]
          rfl
        · by_cases e2 : p = k
          · rw [e2]; exact hb
          · exact h2.mid p h3 (by omega)
      · rw [if_neg (fun h => e h.symm), h1]
        refine ⟨s, t, rfl, ⟨h2.lt, by have := h2.le; omega, h2.lead, h2.cs, h2.ct, h2.mid, ?_⟩⟩
        rcases h2.edge with h | h
        · have := h2.ct
          rw [h] at this
          omega
        · exact .inr h
    · rw [cnt_marked hb] at hi
      simp only [if_true]
      unfold endAt
      rw [List.getElem?_set, List.length_append, hl, List.length_singleton, Nat.add_sub_cancel]
      by_cases e : i = cnt bs k
      · subst e
        refine ⟨k, k + 1, ?_, ⟨by omega, Nat.le_refl _, hb, rfl, cnt_marked hb, fun p h3 h4 => by omega, .inl rfl⟩⟩
        rw [if_pos rfl, if_pos (by omega), List.getD_eq_getElem?_getD, List.getElem?_append_right (by omega), hl, Nat.sub_self]
        rfl
      · obtain ⟨s, t, h1, h2⟩ := ih i (by omega)
        rw [if_neg (fun h => e h.symm), List.getElem?_append_left (by omega), h1]
        refine ⟨s, t, rfl, ⟨h2.lt, by have := h2.le; omega, h2.lead, h2.cs, h2.ct, h2.mid, ?_⟩⟩
        rcases h2.edge with h | h
        · rw [h]; exact .inr hb
        · exact .inr h
/-- A place lies in the block that ofI tells, and in no other one. -/
theorem row_of {bs : List Bool} {k i s t : Nat} (h : RowAt bs k i s t) {p : Nat} (hp : p < k) : (s ≤ p ∧ p < t) ↔ ofI bs p = i := by
  unfold ofI
  rw [Int.toNat_natCast]
  have hs := cnt_marked h.lead
  have h1 := h.cs
  have h2 := h.ct
  constructor
  · rintro ⟨a, b⟩
    have h3 := cnt_mono bs (show s + 1 ≤ p + 1 by omega)
    have h4 := cnt_mono bs (show p + 1 ≤ t by omega)
    omega
  · intro e
    constructor
    · apply Classical.byContradiction
      intro hn
      have := cnt_mono bs (show p + 1 ≤ s by omega)
      omega
    · apply Classical.byContradiction
      intro hn
      rcases h.edge with h3 | h3
      · omega
      · have h4 := cnt_marked h3
        have := cnt_mono bs (show t + 1 ≤ p + 1 by omega)
        omega
/-- The blocks that can follow block i. -/
def nxF (c : CodeD) (bs : List Bool) (i : Nat) : List Int := (nextL c (((rowsK bs c.instrs.length).getD i (0, 0)).2 - 1).toNat).map (ofI bs)
end Go.Proofs.Ytififjlgjmgikaa
