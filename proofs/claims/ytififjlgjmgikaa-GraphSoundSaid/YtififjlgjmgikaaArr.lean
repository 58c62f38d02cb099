/- Arrays of bools that the walk made, known whole. -/
import Derived.Test.YtififjlgjmgikaaNext
namespace Go.Proofs.Ytififjlgjmgikaa
set_option linter.all false
open Go.RowKit

def ArrB (w : World) (g : Nat) (bs : List Bool) : Prop := w.heap[g]? = some (.cells (bs.map Value.bool).toArray 4 (0, 0))
theorem ArrB.lt {w : World} {g : Nat} {bs : List Bool} (h : ArrB w g bs) : g < w.heap.size := (Array.getElem?_eq_some_iff.1 h).1
theorem ArrB.cell {w : World} {g : Nat} {bs : List Bool} (h : ArrB w g bs) {j : Nat} (hj : j < bs.length) : w.cell? ⟨g, j, none⟩ = some (.bool (bs.getD j false)) := by
  rw [cell_blk h]
  simp [hj]
theorem ArrB.free {w : World} {g : Nat} {bs : List Bool} (h : ArrB w g bs) (j : Nat) : w.frozen? ⟨g, j, none⟩ = false := by
  have h' : w.heap[g]? = some (.cells (bs.map Value.bool).toArray 4 (0, 0)) := h
  simp [World.frozen?, h']
theorem ArrB.of_block {w w1 : World} {g : Nat} {bs : List Bool} (h : ArrB w g bs) (hb : w1.heap[g]? = w.heap[g]?) : ArrB w1 g bs := hb.trans h
theorem ArrB.set {w : World} {g : Nat} {bs : List Bool} (h : ArrB w g bs) (j : Nat) (b : Bool) : ArrB (w.setCell ⟨g, j, none⟩ (.bool b)) g (bs.set j b) := by
  have h' : w.heap[g]? = some (.cells (bs.map Value.bool).toArray 4 (0, 0)) := h
  unfold ArrB World.setCell
  simp [Array.getElem?_modify, h']
theorem setCell_other {w : World} {g j k : Nat} {u : Value} (h : k ≠ g) : (w.setCell ⟨g, j, none⟩ u).heap[k]? = w.heap[k]? := by
  unfold World.setCell
  simp [Array.getElem?_modify, Ne.symm h]
theorem setCell_below {B : Nat} {w w1 : World} {g j : Nat} {u : Value} (h : Below B w w1) (hg : B ≤ g) : Below B w (w1.setCell ⟨g, j, none⟩ u) :=
  ⟨h.os, h.tape, h.output, by rw [show (w1.setCell ⟨g, j, none⟩ u).heap.size = w1.heap.size by simp [World.setCell]]; exact h.size, fun k hk => (setCell_other (by omega)).trans (h.block k hk)⟩
theorem ArrB.new (w : World) (n : Nat) : ArrB (w.alloc (.cells (Array.replicate n (.bool false)) 4)) w.heap.size (List.replicate n false) := by
  unfold ArrB
  rw [ga_new]
  simp
/-- A slice cut to its first elements. -/
theorem OwnI.cut {w : World} {base : Nat} {g n cap k : Nat} {xs : List Int} (h : OwnI w base (.slice (some ⟨g, 0, none⟩) n cap) xs) (hk : k ≤ xs.length) : OwnI w base (.slice (some ⟨g, 0, none⟩) k cap) (xs.take k) := by
  rcases h.2 with ⟨e, _⟩ | ⟨g', cap', cur, e, h2, h3, h4, h5, h6, h7⟩
  · cases e
  · cases e
    have hl : (xs.take k).length = k := by simp; omega
    refine ⟨by simp [ints], .inr ⟨g, cap, cur, by rw [hl], h2, h3, by rw [hl]; omega, h5, h6, ?_⟩⟩
    rw [hl]
    have : (cur.toList.take (xs.length * 1)).take (k * 1) = (ints xs).take (k * 1) := by rw [h7]
    rw [List.take_take, Nat.min_eq_left (by omega)] at this
    rw [this]
    simp [ints]
theorem OwnI.form {w : World} {base : Nat} {v : Value} {xs : List Int} (h : OwnI w base v xs) (hx : 0 < xs.length) : ∃ g cap, v = .slice (some ⟨g, 0, none⟩) xs.length cap ∧ xs.length ≤ cap ∧ base ≤ g ∧ g < w.heap.size ∧
    ∀ j, j < xs.length → w.cell? ⟨g, j, none⟩ = some (.int .i64 (xs.getD j 0)) := by
  rcases h.2 with ⟨e, h0⟩ | ⟨g, cap, cur, rfl, h2, h3, h4, h5, h6, h7⟩
  · omega
  · refine ⟨g, cap, rfl, h4, h2, (Array.getElem?_eq_some_iff.1 h3).1, fun j hj => ?_⟩
    rw [cell_blk h3]
    have e : (cur.toList.take (xs.length * 1))[j]? = (ints xs)[j]? := by rw [h7]
    rw [List.getElem?_take, if_pos (by omega)] at e
    rw [← Array.getElem?_toList, e]
    simp [ints, hj]
theorem OwnI.len_form {w : World} {base : Nat} {v : Value} {xs : List Int} (h : OwnI w base v xs) : ∃ A cap, v = .slice A xs.length cap ∧ xs.length ≤ cap := by
  rcases h.2 with ⟨e, h0⟩ | ⟨g, cap, cur, rfl, h2, h3, h4, _⟩
  · exact ⟨none, 0, by rw [h0]; exact e, by omega⟩
  · exact ⟨_, cap, rfl, h4⟩
end Go.Proofs.Ytififjlgjmgikaa
