/- graph.Around. -/
import Derived.Test.YtififjlgjmgikaaGreatDomW
import Derived.Test.YtififjlgjmgikaaGreatTop
namespace Go.Proofs.YtififjlgjmgikaaGreat
set_option linter.all false
open Go.RowKit

theorem flow_nx {c : CodeD} (hf : fineB c = true) : ∀ b ∈ (theFlow c).blocks, (∀ y ∈ b.next, 0 ≤ y ∧ y < (theFlow c).blocks.length) ∧ b.next.length ≤ 20000 := by
  have hn := (fine_bounds hf).i0
  intro b hb
  obtain ⟨i, hi⟩ := List.getElem?_of_mem hb
  have hil := (List.getElem?_eq_some_iff.1 hi).1
  obtain ⟨s, t, hB⟩ := blk_at c hil
  rw [hB.blk] at hi
  injection hi with hi
  subst hi
  have hlt := hB.lt
  have hle := hB.le
  refine ⟨fun y hy => ?_, by simp only [List.length_map]; exact Nat.le_trans (nextL_len c _) (by omega)⟩
  obtain ⟨z, hz, rfl⟩ := List.mem_map.1 hy
  have h1 := next_in hf (show t - 1 < c.instrs.length by omega) z hz
  obtain ⟨p, rfl⟩ : ∃ p : Nat, z = (p : Int) := ⟨z.toNat, by omega⟩
  rw [flow_len]
  exact ofI_range (lead_zero c hn) (by omega)
theorem flow_le {c : CodeD} (hf : fineB c = true) : (theFlow c).blocks.length ≤ 20000 := by
  have h1 := flow_len c
  have h2 := cnt_le (leadB c) c.instrs.length
  have h3 := (fine_bounds hf).i1
  omega
theorem checked_fine {c : CodeD} (h : checkedE c = 0) : fineB c = true := by
  cases hf : fineB c
  · simp [checkedE, hf] at h
  · rfl
noncomputable def arndE (c : CodeD) (a b : Int) : Int := if checkedE c = 0 then (if bothB (theFlow c) a b = true then (if dcd (AroundR (theFlow c) a b) = true then 0 else 4) else 5) else checkedE c
def ArRes (H : PH) (w w' : World) (c : CodeD) (a b : Int) (e : Ending) : Prop :=
  ∃ v, e = .returned (.tuple #[v, .int .i64 (arndE c a b)]) ∧ ((arndE c a b ≠ 0 ∧ v = .slice none 0 0) ∨ (arndE c a b = 0 ∧ ∃ p, SlV rInt (extH H w w') v p ∧ PathTo (theFlow c).blocks.length (entriesB (theFlow c) a) (avoidNx (theFlow c) a) p b))
end Go.Proofs.YtififjlgjmgikaaGreat
