/- What the laws on leaders need (no program). -/
import Derived.Test.YtififjlgjmgikaaDomM
namespace Go.Proofs.Ytififjlgjmgikaa
set_option linter.all false
open Go.RowKit

theorem leadB_len (c : CodeD) : (leadB c).length = c.instrs.length := (lead_marks c).len
theorem lead_end (c : CodeD) {j : Nat} (h : c.instrs.length ≤ j) : (leadB c).getD j false = false := by
  rw [List.getD_eq_getElem?_getD, List.getElem?_eq_none (by rw [leadB_len]; exact h)]
  rfl
theorem BlkAt.from_ {c : CodeD} {i s t : Nat} (h : BlkAt c i s t) : ((theFlow c).blocks.getD i default).from_ = (s : Int) ∧ ((theFlow c).blocks.getD i default).to_ = (t : Int) := by
  rw [List.getD_eq_getElem?_getD, h.blk]
  exact ⟨rfl, rfl⟩
theorem ent_lead {c : CodeD} (hf : fineB c = true) {y : Int} (h : y ∈ entriesL c) : ∃ q : Nat, y = (q : Int) ∧ q < c.instrs.length ∧ (leadB c).getD q false = true := by
  have hr := entries_in hf y h
  obtain ⟨q, rfl⟩ : ∃ q : Nat, y = (q : Int) := ⟨y.toNat, by omega⟩
  exact ⟨q, rfl, by omega, (lead_iff c (by omega)).2 (.inr (.inl h))⟩
theorem nx_lead {c : CodeD} (hf : fineB c = true) {p : Nat} (hp : p < c.instrs.length) {y : Int} (h : y ∈ nextL c p) : ∃ q : Nat, y = (q : Int) ∧ q < c.instrs.length ∧ (q = p + 1 ∨ (leadB c).getD q false = true) := by
  have hr := next_in hf hp y h
  obtain ⟨q, rfl⟩ : ∃ q : Nat, y = (q : Int) := ⟨y.toNat, by omega⟩
  refine ⟨q, rfl, by omega, ?_⟩
  by_cases e : q = p + 1
  · exact .inl e
  · exact .inr ((lead_iff c (by omega)).2 (.inr (.inr (.inl ⟨p, hp, h, by omega⟩))))
theorem nx_plain {c : CodeD} {p : Nat} (hp : p + 1 < c.instrs.length) (h : (leadB c).getD (p + 1) false = false) : nextL c p = [(p : Int) + 1] := by
  apply Classical.byContradiction
  intro hne
  have := (lead_iff c hp).2 (.inr (.inr (.inr ⟨p, rfl, fun e => hne (by rw [e]; simp)⟩)))
  rw [h] at this
  cases this
theorem nextL_len (c : CodeD) (p : Nat) : (nextL c p).length ≤ 2 := by
  unfold nextL nextQ next1
  split
  · simp
  · split
    · simp
    · refine Nat.le_trans (Go.Lib.compact_length_le _) ?_
      rw [isort_length, List.length_append]
      split <;> split <;> simp
end Go.Proofs.Ytififjlgjmgikaa
