/- What sorting and compacting come to: the elements, ascending, each once. -/
import Derived.Test.YtififjlgjmgikaaNext
namespace Go.Proofs.Ytififjlgjmgikaa
set_option linter.all false
open Go.Lib

theorem mem_isort {x : Int} {xs : List Int} : x ∈ isort xs ↔ x ∈ xs := by simp [isort]
theorem isort_sorted (xs : List Int) : (isort xs).Pairwise (· ≤ ·) := by
  have := List.pairwise_mergeSort (le := fun x y : Int => decide (x ≤ y)) (by intro a b c; simp; omega) (by intro a b; simp; omega) xs
  exact this.imp (by intro a b h; simpa using h)
theorem upTo_facts (zs : List Int) (hs : zs.Pairwise (· ≤ ·)) (m : Nat) (hm : m ≤ zs.length) : (∀ x, x ∈ compactUpTo zs.toArray m ↔ x ∈ zs.take m) ∧ (compactUpTo zs.toArray m).Pairwise (· < ·) := by
  induction m with
  | zero => simp [compactUpTo]
  | succ m ih =>
    obtain ⟨h1, h2⟩ := ih (by omega)
    have hm' : m < zs.length := by omega
    have hz : zs.toArray[m]! = zs[m] := by simp [hm']
    have ht : zs.take (m + 1) = zs.take m ++ [zs[m]] := by rw [List.take_add_one, List.getElem?_eq_getElem hm']; rfl
    rw [compactUpTo_succ, hz, ht]
    by_cases hk : keeps zs.toArray m = true
    · rw [if_pos hk]
      refine ⟨fun x => by rw [List.mem_append, List.mem_append, h1 x], ?_⟩
      rw [List.pairwise_append]
      refine ⟨h2, by simp, ?_⟩
      intro a ha b hb
      simp at hb
      subst hb
      have ha' := (h1 a).1 ha
      simp only [keeps, decide_eq_true_eq] at hk
      rcases hk with rfl | hk
      · simp at ha'
      · have hm0 : m - 1 < zs.length := by omega
        have hz' : zs.toArray[m - 1]! = zs[m - 1] := by simp [hm0]
        rw [hz, hz'] at hk
        obtain ⟨i, hi⟩ := List.getElem?_of_mem ha'
        have hi' := (List.getElem?_eq_some_iff.1 hi).1
        rw [List.length_take] at hi'
        rw [List.getElem?_take, if_pos (by omega), List.getElem?_eq_getElem (by omega)] at hi
        have hi2 : zs[i] = a := by simpa using hi
        have hp := List.pairwise_iff_getElem.1 hs
        have e1 : zs[i] ≤ zs[m - 1] := by
          by_cases e : i = m - 1
          · subst e; exact Int.le_refl _
          · exact hp i (m - 1) (by omega) hm0 (by omega)
        have e2 : zs[m - 1] ≤ zs[m] := hp (m - 1) m hm0 hm' (by omega)
        omega
    · rw [if_neg hk, List.append_nil]
      refine ⟨fun x => ?_, h2⟩
      rw [h1 x]
      simp only [keeps, decide_eq_true_eq, not_or, Decidable.not_not] at hk
      have hm0 : m - 1 < zs.length := by omega
      have hz' : zs.toArray[m - 1]! = zs[m - 1] := by simp [hm0]
      rw [hz, hz'] at hk
      simp only [List.mem_append, List.mem_singleton]
      constructor
      · exact fun h => .inl h
      · rintro (h | rfl)
        · exact h
        · rw [hk.2]
          exact List.mem_take_iff_getElem.2 ⟨m - 1, by omega, rfl⟩
theorem mem_compact_sorted {zs : List Int} (hs : zs.Pairwise (· ≤ ·)) (x : Int) : x ∈ compact zs ↔ x ∈ zs := by
  have := (upTo_facts zs hs zs.length (Nat.le_refl _)).1 x
  rw [List.take_length] at this
  exact this
theorem compact_sorted {zs : List Int} (hs : zs.Pairwise (· ≤ ·)) : (compact zs).Pairwise (· < ·) := (upTo_facts zs hs zs.length (Nat.le_refl _)).2
theorem mem_cs {x : Int} {xs : List Int} : x ∈ compact (isort xs) ↔ x ∈ xs := (mem_compact_sorted (isort_sorted xs) x).trans mem_isort
theorem cs_sorted (xs : List Int) : (compact (isort xs)).Pairwise (· < ·) := compact_sorted (isort_sorted xs)
/-- Two strictly ascending lists with the same elements are one. -/
theorem sorted_ext {xs ys : List Int} (hx : xs.Pairwise (· < ·)) (hy : ys.Pairwise (· < ·)) (h : ∀ a, a ∈ xs ↔ a ∈ ys) : xs = ys := by
  induction xs generalizing ys with
  | nil =>
    cases ys with
    | nil => rfl
    | cons y ys => exact absurd ((h y).2 (by simp)) (by simp)
  | cons x xs ih =>
    cases ys with
    | nil => exact absurd ((h x).1 (by simp)) (by simp)
    | cons y ys =>
      rw [List.pairwise_cons] at hx hy
      have e : x = y := by
        have h1 := (h x).1 (by simp)
        have h2 := (h y).2 (by simp)
        simp at h1 h2
        rcases h1 with h1 | h1
        · exact h1
        · rcases h2 with h2 | h2
          · exact h2.symm
          · have := hx.1 y h2; have := hy.1 x h1; omega
      subst e
      congr 1
      refine ih hx.2 hy.2 fun a => ?_
      constructor
      · intro ha
        have := (h a).1 (by simp [ha])
        simp at this
        rcases this with rfl | h1
        · have := hx.1 a ha; omega
        · exact h1
      · intro ha
        have := (h a).2 (by simp [ha])
        simp at this
        rcases this with rfl | h1
        · have := hy.1 a ha; omega
        · exact h1

/-- Places of a well-formed code. -/
theorem fine_instr {c : CodeD} (h : fineB c = true) {p : Nat} (hp : p < c.instrs.length) : instrOk c (c.instrs.getD p default) = true := by
  simp only [fineB, Bool.and_eq_true, List.all_eq_true] at h
  refine h.2 _ ?_
  rw [List.getD_eq_getElem?_getD, List.getElem?_eq_getElem hp]
  exact List.getElem_mem hp
theorem fmt_places : ∀ p ∈ fmtTab, (p.1 = 47 ∨ p.1 = 48 ∨ p.1 = 20) → p.2.k0 = 16 := by decide
theorem fine_target {c : CodeD} (h : fineB c = true) {p : Nat} (hp : p < c.instrs.length) (ho : (c.instrs.getD p default).op = 47 ∨ (c.instrs.getD p default).op = 48 ∨ (c.instrs.getD p default).op = 20) :
    0 ≤ (c.instrs.getD p default).a ∧ (c.instrs.getD p default).a < c.instrs.length := by
  have := fine_instr h hp
  unfold instrOk at this
  cases e : fmtOf (c.instrs.getD p default).op with
  | none => rw [e] at this; cases this
  | some f =>
    rw [e] at this
    have hk : f.k0 = 16 := by
      unfold fmtOf at e
      cases e2 : fmtTab.find? fun q => (c.instrs.getD p default).op == q.1 with
      | none => rw [e2] at e; cases e
      | some q =>
        rw [e2] at e
        cases e
        have h1 := List.find?_some e2
        simp at h1
        exact fmt_places q (List.mem_of_find?_eq_some e2) (by rw [← h1]; exact ho)
    simp only [opsOk, Bool.and_eq_true] at this
    have h0 := this.1.1
    rw [hk] at h0
    exact lenB_lt (by simpa [ruleB] using h0)
theorem next_in {c : CodeD} (h : fineB c = true) {p : Nat} (hp : p < c.instrs.length) : ∀ y ∈ nextL c p, 0 ≤ y ∧ y < c.instrs.length := by
  intro y hy
  unfold nextL nextQ at hy
  split at hy
  · simp at hy
  · split at hy
    · rename_i e
      simp at hy
      subst hy
      exact fine_target h hp (.inl e)
    · rw [mem_cs] at hy
      unfold next1 at hy
      simp only [List.mem_append] at hy
      rcases hy with hy | hy
      · split at hy
        · rename_i e
          simp at hy
          subst hy
          exact fine_target h hp (.inr (.inl e))
        · simp at hy
      · split at hy
        · simp at hy
          omega
        · simp at hy
theorem next_len (c : CodeD) (p : Nat) : (nextL c p).length ≤ 2 := by
  unfold nextL nextQ
  split
  · simp
  · split
    · simp
    · refine Nat.le_trans (compact_length_le _) ?_
      rw [isort_length]
      unfold next1
      simp only [List.length_append]
      split <;> split <;> simp
theorem entries_in {c : CodeD} (h : fineB c = true) : ∀ y ∈ entriesL c, 0 ≤ y ∧ y < c.instrs.length := by
  intro y hy
  have hb := fine_bounds h
  unfold entriesL at hy
  rw [mem_cs] at hy
  have h' := h
  simp only [fineB, Bool.and_eq_true, Bool.not_eq_true', tablesB, List.all_eq_true] at h
  obtain ⟨⟨_, ht⟩, _⟩ := h
  simp only [entries0, List.mem_append, List.mem_map, List.mem_flatMap, List.mem_filter, List.mem_singleton, id] at hy
  rcases hy with (((rfl | ⟨p, hp, rfl⟩) | ⟨t, ht', hy⟩) | ⟨l, hl, hy⟩) | ⟨x, ⟨hx, ho⟩, rfl⟩
  · have := hb.i0; omega
  · have := ht.1.1.1.1.1 p hp
    simp only [procB, placeB, withinB, Bool.and_eq_true, decide_eq_true_eq] at this
    omega
  · have := ht.1.1.1.1.2 t ht'
    simp only [thunkB, placeB, withinB, Bool.and_eq_true, Bool.or_eq_true, beq_iff_eq, decide_eq_true_eq] at this
    simp only [thunkPlaces, List.mem_filter, List.mem_cons, List.not_mem_nil, or_false, decide_eq_true_eq] at hy
    obtain ⟨rfl | rfl | rfl, h0⟩ := hy <;> omega
  · have := ht.1.1.1.2 l hl
    simp only [switchB, placeB, withinB, Bool.and_eq_true, Bool.not_eq_true', List.any_eq_false, decide_eq_true_eq] at this
    have := this.2 y hy
    simp at this
    omega
  · obtain ⟨p, hp⟩ := List.getElem?_of_mem hx
    obtain ⟨hl, rfl⟩ := List.getElem?_eq_some_iff.1 hp
    have := fine_target (p := p) h' hl (by simp only [List.getD_eq_getElem?_getD, List.getElem?_eq_getElem hl, Option.getD_some]; exact .inr (.inr (by simpa using ho)))
    simpa [hl] using this
end Go.Proofs.Ytififjlgjmgikaa
