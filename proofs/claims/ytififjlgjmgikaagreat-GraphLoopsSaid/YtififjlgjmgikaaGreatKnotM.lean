/- Knots in plain Lean (no program). -/
import Derived.Test.YtififjlgjmgikaaGreatKnotA
import Derived.Test.YtififjlgjmgikaaGreatLoopB
namespace Go.Proofs.YtififjlgjmgikaaGreat
set_option linter.all false
open Go.RowKit

section
variable {c : CodeD} (hf : fineB c = true)
include hf
theorem tail_iff {h t : Int} : t ∈ tailsR (theFlow c) h ↔ (0 ≤ t ∧ t < (theFlow c).blocks.length) ∧ h ∈ nxB (theFlow c) t ∧ DomP (theFlow c) h t := by
  refine ⟨tail_spec hf, fun ⟨h1, h2, h3⟩ => ?_⟩
  obtain ⟨⟨k, rfl, hk⟩, ⟨m, rfl, hm⟩⟩ := dom_in hf h3
  refine headsR_mem.2 ⟨edgesR_mem.2 ⟨h1, (reached_dom hf h1).2 h3.1, h2⟩, ?_⟩
  exact (domB_iff hf hk hm).2 h3
theorem knotNx_mem {v y : Int} : y ∈ knotNx (theFlow c) v ↔ y ∈ nxB (theFlow c) v ∧ v ∉ tailsR (theFlow c) y := by
  unfold knotNx
  simp [List.mem_filter]
/-- A knot has two blocks. -/
theorem knot_two {b : Nat} {p : List Int} (hb : b < (theFlow c).blocks.length) (hr : (theFlow c).reached.getD b false = true) (hp : PathTo (theFlow c).blocks.length (knotNx (theFlow c) b) (knotNx (theFlow c)) p b) : 2 ≤ p.length := by
  apply Classical.byContradiction
  intro hn
  obtain ⟨y, hy, hyb⟩ := hp.first
  have h0 := (List.getElem?_eq_some_iff.1 hy).1
  have hl := hp.last
  rw [List.getLast?_eq_getElem?, show p.length - 1 = 0 by omega, hy] at hl
  injection hl with hl
  subst hl
  obtain ⟨h1, h2⟩ := (knotNx_mem hf).1 hyb
  exact h2 ((tail_iff hf).2 ⟨by omega, h1, DomP.refl ((reached_iff hf hb).1 hr)⟩)
end
end Go.Proofs.YtififjlgjmgikaaGreat
