/- Immediate dominators, in plain Lean (no program). -/
import Derived.Test.YtififjlgjmgikaaGreatDomM
namespace Go.Proofs.YtififjlgjmgikaaGreat
set_option linter.all false
open Go.RowKit

section
variable {c : CodeD} (hf : fineB c = true)
include hf
theorem domB_iff {a b : Nat} (ha : a < (theFlow c).blocks.length) (hb : b < (theFlow c).blocks.length) : domB (theFlow c) a b = true ↔ DomP (theFlow c) a b := by
  unfold domB
  rw [Bool.and_eq_true, Bool.and_eq_true, reached_iff hf ha, reached_iff hf hb, Bool.not_eq_true', decide_eq_false_iff_not, around_iff]
  constructor
  · rintro ⟨_, h1, h2⟩; exact ⟨h1, h2⟩
  · intro h; exact ⟨h.reached, h.1, h.2⟩
theorem reach_in {b : Int} (h : RA (theFlow c) (fun _ => False) b) : ∃ k : Nat, b = (k : Int) ∧ k < (theFlow c).blocks.length := by
  obtain ⟨i, s, t, h1, h2, _⟩ := reach_of_blocks hf h
  exact ⟨i, h1, h2⟩
theorem dom_in {a b : Int} (h : DomP (theFlow c) a b) : (∃ k : Nat, a = (k : Int) ∧ k < (theFlow c).blocks.length) ∧ ∃ k : Nat, b = (k : Int) ∧ k < (theFlow c).blocks.length := ⟨reach_in hf h.reached, reach_in hf h.1⟩
end
/-- a is the immediate dominator of b. -/
def IdomP (f : FlowD) (a b : Int) : Prop := a ≠ b ∧ DomP f a b ∧ ∀ x, x ≠ b → DomP f x b → DomP f x a
theorem best_spec {c : CodeD} (hf : fineB c = true) {b : Nat} (hb : b < (theFlow c).blocks.length) : ∀ k, k ≤ (theFlow c).blocks.length →
    (bestK (theFlow c) b k = -1 ∧ ∀ x : Nat, x < k → x ≠ b → ¬ DomP (theFlow c) x b) ∨
    ∃ m : Nat, bestK (theFlow c) b k = (m : Int) ∧ m < k ∧ m ≠ b ∧ DomP (theFlow c) m b ∧ ∀ x : Nat, x < k → x ≠ b → DomP (theFlow c) x b → DomP (theFlow c) x m := by
  intro k
  induction k with
  | zero => intro _; exact .inl ⟨rfl, fun x hx => by omega⟩
  | succ k ih =>
    intro hk
    have hkb := domB_iff hf (show k < (theFlow c).blocks.length by omega) hb
    unfold bestK
    rcases ih (by omega) with ⟨h1, h2⟩ | ⟨m, h1, h2, h3, h4, h5⟩
    · rw [h1]
      by_cases hd : k ≠ b ∧ domB (theFlow c) k b = true
      · rw [if_pos ⟨hd.1, hd.2, .inl (by decide)⟩]
        refine .inr ⟨k, rfl, by omega, hd.1, hkb.1 hd.2, fun x hx hxb hxd => ?_⟩
        by_cases e : x = k
        · subst e; exact DomP.refl hxd.reached
        · exact absurd hxd (h2 x (by omega) hxb)
      · rw [if_neg (fun h => hd ⟨h.1, h.2.1⟩)]
        refine .inl ⟨rfl, fun x hx hxb hxd => ?_⟩
        by_cases e : x = k
        · subst e; exact hd ⟨hxb, hkb.2 hxd⟩
        · exact h2 x (by omega) hxb hxd
    · rw [h1]
      have hmk := domB_iff hf (a := m) (b := k) (by omega) (by omega)
      by_cases hd : k ≠ b ∧ domB (theFlow c) k b = true
      · have hkd := hkb.1 hd.2
        by_cases hm : domB (theFlow c) m k = true
        · rw [if_pos ⟨hd.1, hd.2, .inr (by rw [Int.toNat_natCast]; exact hm)⟩]
          refine .inr ⟨k, rfl, by omega, hd.1, hkd, fun x hx hxb hxd => ?_⟩
          by_cases e : x = k
          · subst e; exact DomP.refl hxd.reached
          · exact (h5 x (by omega) hxb hxd).trans (hmk.1 hm)
        · have hno : ¬ (k ≠ b ∧ domB (theFlow c) k b = true ∧ ((m : Int) < 0 ∨ domB (theFlow c) ((m : Int).toNat) k = true)) := by
            rintro ⟨_, _, h | h⟩
            · omega
            · rw [Int.toNat_natCast] at h; exact hm h
          rw [if_neg hno]
          refine .inr ⟨m, rfl, by omega, h3, h4, fun x hx hxb hxd => ?_⟩
          by_cases e : x = k
          · subst e
            rcases hxd.chain h4 with h | h
            · exact h
            · exact absurd (hmk.2 h) hm
          · exact h5 x (by omega) hxb hxd
      · rw [if_neg (fun h => hd ⟨h.1, h.2.1⟩)]
        refine .inr ⟨m, rfl, by omega, h3, h4, fun x hx hxb hxd => ?_⟩
        by_cases e : x = k
        · subst e; exact absurd ⟨hxb, hkb.2 hxd⟩ hd
        · exact h5 x (by omega) hxb hxd
/-- What the list of immediate dominators says of a block. -/
theorem idom_spec {c : CodeD} (hf : fineB c = true) {b : Nat} (hb : b < (theFlow c).blocks.length) :
    ((theFlow c).reached.getD b false = false ∧ idomB (theFlow c) b = -2) ∨
    ((theFlow c).reached.getD b false = true ∧ idomB (theFlow c) b = -1 ∧ ∀ x : Int, x ≠ b → ¬ DomP (theFlow c) x b) ∨
    ((theFlow c).reached.getD b false = true ∧ ∃ m : Nat, idomB (theFlow c) b = (m : Int) ∧ m < (theFlow c).blocks.length ∧ IdomP (theFlow c) m b) := by
  unfold idomB
  cases hr : (theFlow c).reached.getD b false
  · exact .inl ⟨rfl, by simp⟩
  · simp only [if_true]
    rcases best_spec hf hb _ (Nat.le_refl _) with ⟨h1, h2⟩ | ⟨m, h1, h2, h3, h4, h5⟩
    · refine .inr (.inl ⟨by trivial, h1, fun x hx hd => ?_⟩)
      obtain ⟨⟨k, rfl, hk⟩, _⟩ := dom_in hf hd
      exact h2 k hk (by omega) hd
    · refine .inr (.inr ⟨by trivial, m, h1, h2, by omega, h4, fun x hx hd => ?_⟩)
      obtain ⟨⟨k, rfl, hk⟩, _⟩ := dom_in hf hd
      exact h5 k hk (by omega) hd
end Go.Proofs.YtififjlgjmgikaaGreat
