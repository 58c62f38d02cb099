/- The reference's different (seat .Z). -/
import Derived.Test.YtififjlgjmgikaaGreatRefD
import Derived.Test.YtififjlgjmgikaaGreatPlanA
namespace Go.Proofs.YtififjlgjmgikaaGreat
set_option linter.all false
open Go.RowKit

theorem cell_heap {w w' : World} (h : w'.heap = w.heap) (a : Addr) : w'.cell? a = w.cell? a := by
  simp only [World.cell?, h]
theorem size_heap {w w' : World} {b : Nat} (h : w'.heap = w.heap) (hb : b < w.heap.size) : b < w'.heap.size := by rw [h]; exact hb
theorem bdrew {w w1 : World} (h : Below w.heap.size w w1) : Below w.heap.size w w1.drew := ⟨h.os, h.tape, h.output, h.size, h.block⟩
theorem SlV.take_ {α : Type} {r : Rp α} {H : PH} {A : Option Addr} {n cap : Nat} {xs : List α} (h : SlV r H (.slice A n cap) xs) {k : Nat} (hk : k ≤ xs.length) : SlV r H (.slice A k cap) (xs.take k) := by
  obtain ⟨A', cap', e, h1, h2, h3⟩ := h
  cases e
  refine ⟨A, cap, by rw [List.length_take, Nat.min_eq_left hk], by rw [List.length_take]; omega, by rw [List.length_take]; unfold maxN at *; omega, fun i x hi => ?_⟩
  have hik : i < k := by have := (List.getElem?_eq_some_iff.1 hi).1; rw [List.length_take] at this; omega
  rw [List.getElem?_take, if_pos hik] at hi
  exact h3 i x hi
def diffB (xs : List Int) : Bool := decide xs.Nodup
end Go.Proofs.YtififjlgjmgikaaGreat
