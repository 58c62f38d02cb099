/- The document's example: its blocks and immediate dominators (no program). -/
import Derived.Test.YtififjlgjmgikaaGreatFlowJ
import Derived.Test.YtififjlgjmgikaaGreatIdom
namespace Go.Proofs.YtififjlgjmgikaaGreat
set_option linter.all false
open Go.RowKit

def sampleD : CodeD := { instrs := [⟨4, 1, 0, 0⟩, ⟨48, 4, 0, 0⟩, ⟨2, 5, 0, 0⟩, ⟨47, 5, 0, 0⟩, ⟨2, 6, 0, 0⟩, ⟨51, 1, 0, 0⟩, ⟨47, 0, 0, 0⟩, ⟨1, 0, 0, 0⟩], procs := [], thunks := [], switches := [], strings := [], reals := [], owns := [] }
theorem sample_fine : fineB sampleD = true := by kernel_rfl
theorem cs_lit {xs ys : List Int} (hx : xs.Pairwise (· < ·)) (h : ∀ a, a ∈ ys ↔ a ∈ xs) : Go.Lib.compact (isort ys) = xs := sorted_ext (cs_sorted ys) hx fun a => mem_cs.trans (h a)
def snx : Nat → List Int
  | 0 => [1]
  | 1 => [2, 4]
  | 2 => [3]
  | 3 => [5]
  | 4 => [5]
  | 5 => [6]
  | 6 => [0]
  | _ => []
theorem sample_next {i : Nat} (h : i < 8) : nextL sampleD i = snx i := by
  obtain rfl | rfl | rfl | rfl | rfl | rfl | rfl | rfl : i = 0 ∨ i = 1 ∨ i = 2 ∨ i = 3 ∨ i = 4 ∨ i = 5 ∨ i = 6 ∨ i = 7 := by omega
  · show Go.Lib.compact (isort [((0 : Nat) : Int) + 1]) = [1]
    exact cs_lit (by decide) (fun a => by simp)
  · show Go.Lib.compact (isort [4, ((1 : Nat) : Int) + 1]) = [2, 4]
    exact cs_lit (by decide) (fun a => by simp; omega)
  · show Go.Lib.compact (isort [((2 : Nat) : Int) + 1]) = [3]
    exact cs_lit (by decide) (fun a => by simp)
  · rfl
  · show Go.Lib.compact (isort [((4 : Nat) : Int) + 1]) = [5]
    exact cs_lit (by decide) (fun a => by simp)
  · show Go.Lib.compact (isort [((5 : Nat) : Int) + 1]) = [6]
    exact cs_lit (by decide) (fun a => by simp)
  · rfl
  · rfl
theorem sample_entries : entriesL sampleD = [0] := cs_lit (by decide) (fun a => by simp [entries0, sampleD])
def slead : List Bool := [true, false, true, false, true, true, false, true]
theorem slead_dec : ∀ p, p < 8 → (slead.getD p false = true ↔ (p = 0 ∨ (p : Int) ∈ ([0] : List Int) ∨ (∃ i, i < 8 ∧ (p : Int) ∈ snx i ∧ (i : Int) ≠ (p : Int) - 1) ∨ (∃ i, i < 8 ∧ (i + 1 = p ∧ snx i ≠ [(p : Int)])))) := by decide
theorem sample_lead : leadB sampleD = slead := by
  refine (lead_marks sampleD).eq ⟨rfl, fun p hp => ?_⟩
  have hp8 : p < 8 := hp
  rw [slead_dec p hp8]
  unfold IsLeader
  rw [sample_entries]
  constructor
  · rintro (h | h | ⟨i, h1, h2⟩ | ⟨i, h1, h2, h3⟩)
    · exact .inl h
    · exact .inr (.inl h)
    · exact .inr (.inr (.inl ⟨i, h1, by rw [sample_next h1]; exact h2⟩))
    · exact .inr (.inr (.inr ⟨i, h2, by rw [sample_next h1]; exact h3⟩))
  · rintro (h | h | ⟨i, h1, h2⟩ | ⟨i, h2, h3⟩)
    · exact .inl h
    · exact .inr (.inl h)
    · have h1' : i < 8 := h1
      exact .inr (.inr (.inl ⟨i, h1', by rw [← sample_next h1']; exact h2⟩))
    · have h1' : i < 8 := by omega
      exact .inr (.inr (.inr ⟨i, h1', h2, by rw [← sample_next h1']; exact h3⟩))
theorem sample_blocks : (theFlow sampleD).blocks = [⟨0, 2, [1, 2]⟩, ⟨2, 4, [3]⟩, ⟨4, 5, [3]⟩, ⟨5, 7, [0]⟩, ⟨7, 8, []⟩] := by
  show blocksF sampleD (leadB sampleD) = _
  rw [sample_lead]
  have h1 := sample_next (i := 1) (by omega)
  have h3 := sample_next (i := 3) (by omega)
  have h4 := sample_next (i := 4) (by omega)
  have h6 := sample_next (i := 6) (by omega)
  have h7 := sample_next (i := 7) (by omega)
  have e : blocksF sampleD slead = [⟨0, 2, (nextL sampleD 1).map (ofI slead)⟩, ⟨2, 4, (nextL sampleD 3).map (ofI slead)⟩, ⟨4, 5, (nextL sampleD 4).map (ofI slead)⟩, ⟨5, 7, (nextL sampleD 6).map (ofI slead)⟩, ⟨7, 8, (nextL sampleD 7).map (ofI slead)⟩] := rfl
  rw [e, h1, h3, h4, h6, h7]
  rfl
theorem sample_entry : (theFlow sampleD).entry = [true, false, false, false, false] := by
  obtain ⟨bs, h1, _, _, _, h5, _⟩ := theFlow_is sampleD
  obtain rfl := h1.eq (lead_marks sampleD)
  rw [sample_lead] at h5
  refine h5.eq ⟨rfl, fun j hj => ?_⟩
  have hj5 : j < 5 := hj
  rw [sample_entries]
  simp only [List.mem_singleton, exists_eq_left]
  obtain rfl | rfl | rfl | rfl | rfl : j = 0 ∨ j = 1 ∨ j = 2 ∨ j = 3 ∨ j = 4 := by omega
  all_goals decide
theorem sample_reach (x : Int) (h : ReachC sampleD x) : 0 ≤ x ∧ x ≤ 6 := by
  have h' : Reach (· ∈ entriesL sampleD) (fun a b => b ∈ nextL sampleD a.toNat) x := h
  clear h
  induction h' with
  | start h1 => rw [sample_entries] at h1; simp at h1; omega
  | step h1 h2 ih =>
    have h3 := ih
    rename_i a b
    obtain ⟨n, rfl⟩ : ∃ n : Nat, a = (n : Int) := ⟨a.toNat, by omega⟩
    rw [Int.toNat_natCast, sample_next (by omega)] at h2
    obtain rfl | rfl | rfl | rfl | rfl | rfl | rfl : n = 0 ∨ n = 1 ∨ n = 2 ∨ n = 3 ∨ n = 4 ∨ n = 5 ∨ n = 6 := by omega
    all_goals (simp [snx] at h2; omega)
theorem sample_reached : (theFlow sampleD).reached = [true, true, true, true, false] := by
  obtain ⟨bs, h1, _, _, _, _, h6⟩ := theFlow_is sampleD
  obtain rfl := h1.eq (lead_marks sampleD)
  rw [sample_lead] at h6
  have r0 : Reach (· ∈ entriesL sampleD) (fun a b => b ∈ nextL sampleD a.toNat) (0 : Int) := .start (by rw [sample_entries]; simp)
  have r1 : Reach (· ∈ entriesL sampleD) (fun a b => b ∈ nextL sampleD a.toNat) (1 : Int) := .step r0 (by rw [show ((0 : Int)).toNat = 0 from rfl, sample_next (by omega)]; simp [snx])
  have r2 : Reach (· ∈ entriesL sampleD) (fun a b => b ∈ nextL sampleD a.toNat) (2 : Int) := .step r1 (by rw [show ((1 : Int)).toNat = 1 from rfl, sample_next (by omega)]; simp [snx])
  have r4 : Reach (· ∈ entriesL sampleD) (fun a b => b ∈ nextL sampleD a.toNat) (4 : Int) := .step r1 (by rw [show ((1 : Int)).toNat = 1 from rfl, sample_next (by omega)]; simp [snx])
  have r5 : Reach (· ∈ entriesL sampleD) (fun a b => b ∈ nextL sampleD a.toNat) (5 : Int) := .step r4 (by rw [show ((4 : Int)).toNat = 4 from rfl, sample_next (by omega)]; simp [snx])
  refine h6.eq ⟨rfl, fun j hj => ?_⟩
  have hj5 : j < 5 := hj
  obtain rfl | rfl | rfl | rfl | rfl : j = 0 ∨ j = 1 ∨ j = 2 ∨ j = 3 ∨ j = 4 := by omega
  · exact ⟨fun _ => r0, fun _ => rfl⟩
  · exact ⟨fun _ => r2, fun _ => rfl⟩
  · exact ⟨fun _ => r4, fun _ => rfl⟩
  · exact ⟨fun _ => r5, fun _ => rfl⟩
  · refine ⟨(fun h => by cases h), fun h => ?_⟩
    have h7 : ReachC sampleD 7 := h
    have := sample_reach 7 h7
    omega
theorem entriesB_mem {f : FlowD} {a x : Int} : x ∈ entriesB f a ↔ (0 ≤ x ∧ x < f.blocks.length) ∧ f.entry.getD x.toNat false = true ∧ x ≠ a := by
  unfold entriesB
  simp only [List.mem_map, List.mem_filter, List.mem_range, Bool.and_eq_true, decide_eq_true_eq]
  constructor
  · rintro ⟨i, ⟨h1, h2, h3⟩, rfl⟩
    exact ⟨by omega, by simpa using h2, h3⟩
  · rintro ⟨h1, h2, h3⟩
    exact ⟨x.toNat, ⟨by omega, h2, by omega⟩, by omega⟩
theorem domB_false_around {f : FlowD} {a b : Nat} (h : AroundR f a b) : domB f a b = false := by
  unfold domB
  have : (@decide (AroundR f a b) (Classical.propDecidable _)) = true := @decide_eq_true _ (Classical.propDecidable _) h
  rw [this]; simp
theorem domB_true {f : FlowD} {a b : Nat} (ha : f.reached.getD a false = true) (hb : f.reached.getD b false = true) (h : ¬ AroundR f a b) : domB f a b = true := by
  unfold domB
  have : (@decide (AroundR f a b) (Classical.propDecidable _)) = false := @decide_eq_false _ (Classical.propDecidable _) h
  rw [ha, hb, this]; rfl
theorem sample_idoms : (idomL (theFlow sampleD)).length = 5 ∧ (idomL (theFlow sampleD)).getD 0 0 = -1 ∧ (idomL (theFlow sampleD)).getD 3 0 = 0 ∧ (idomL (theFlow sampleD)).getD 4 0 = -2 := by
  have hb := sample_blocks
  have he := sample_entry
  have hr := sample_reached
  have hl : (theFlow sampleD).blocks.length = 5 := by rw [hb]; rfl
  have e0 : ∀ a : Nat, a ≠ 0 → AroundR (theFlow sampleD) a 0 := fun a ha => .start (entriesB_mem.2 ⟨by rw [hl]; omega, by rw [he]; rfl, by omega⟩)
  have nx : ∀ (a x : Nat) (y : Int), y ≠ a → y ∈ ((theFlow sampleD).blocks.getD x default).next → y ∈ avoidNx (theFlow sampleD) a x := fun a x y h1 h2 => by
    unfold avoidNx
    rw [Int.toNat_natCast]
    exact List.mem_filter.2 ⟨h2, by simpa using h1⟩
  have d00 : domB (theFlow sampleD) 0 3 = true := by
    refine domB_true (by rw [hr]; rfl) (by rw [hr]; rfl) fun h => ?_
    have key : ∀ x, AroundR (theFlow sampleD) (0 : Nat) x → False := by
      intro x hx
      unfold AroundR at hx
      induction hx with
      | start h1 =>
        obtain ⟨h2, h3, h4⟩ := entriesB_mem.1 h1
        rename_i x
        rw [he] at h3
        rw [hl] at h2
        obtain ⟨n, rfl⟩ : ∃ n : Nat, x = (n : Int) := ⟨x.toNat, by omega⟩
        rw [Int.toNat_natCast] at h3
        obtain rfl | rfl | rfl | rfl | rfl : n = 0 ∨ n = 1 ∨ n = 2 ∨ n = 3 ∨ n = 4 := by omega
        all_goals first | (exact h4 rfl) | (cases h3)
      | step _ _ ih => exact ih
    exact key _ h
  have d13 : domB (theFlow sampleD) 1 3 = false := by
    refine domB_false_around (.step (.step (e0 1 (by omega)) (y := ((2 : Nat) : Int)) (nx 1 0 _ (by omega) (by rw [hb]; simp))) (nx 1 2 _ (by omega) (by rw [hb]; simp)))
  have d23 : domB (theFlow sampleD) 2 3 = false := by
    refine domB_false_around (.step (.step (e0 2 (by omega)) (y := ((1 : Nat) : Int)) (nx 2 0 _ (by omega) (by rw [hb]; simp))) (nx 2 1 _ (by omega) (by rw [hb]; simp)))
  have d43 : domB (theFlow sampleD) 4 3 = false := by unfold domB; rw [hr]; rfl
  have d0 : ∀ a : Nat, a ≠ 0 → domB (theFlow sampleD) a 0 = false := fun a ha => domB_false_around (e0 a ha)
  have hL : idomL (theFlow sampleD) = (List.range 5).map (idomB (theFlow sampleD)) := by unfold idomL; rw [hl]
  rw [hL]
  refine ⟨rfl, ?_, ?_, ?_⟩
  · show idomB (theFlow sampleD) 0 = -1
    unfold idomB
    rw [hr, hl, if_pos (by rfl)]
    simp [bestK, d0]
  · show idomB (theFlow sampleD) 3 = 0
    unfold idomB
    rw [hr, hl, if_pos (by rfl)]
    simp [bestK, d00, d13, d23, d43]
  · show idomB (theFlow sampleD) 4 = -2
    unfold idomB
    rw [hr]
    rfl
end Go.Proofs.YtififjlgjmgikaaGreat
