/- The repeated removal of blocks that no edge enters leaves nothing if and only if there is no knot (no program). -/
import Derived.Test.YtififjlgjmgikaaGreatKnotM
namespace Go.Proofs.YtififjlgjmgikaaGreat
set_option linter.all false
open Go.RowKit

def EntP (f : FlowD) (ls : List Bool) (b : Nat) : Prop := ∃ v : Nat, v < f.blocks.length ∧ ls.getD v false = true ∧ (b : Int) ∈ nxB f v ∧ domB f b v = false
noncomputable def entB (f : FlowD) (ls : List Bool) (b : Nat) : Bool := dcd (EntP f ls b)
noncomputable def stepL (f : FlowD) (ls : List Bool) (b : Nat) : List Bool := if ls.getD b false = true ∧ entB f ls b = false then ls.set b false else ls
noncomputable def roundL (f : FlowD) (ls : List Bool) (k : Nat) : List Bool := (List.range k).foldl (stepL f) ls
noncomputable def iterL (f : FlowD) (ls : List Bool) : Nat → List Bool
  | 0 => ls
  | k + 1 => roundL f (iterL f ls k) f.blocks.length
theorem roundL_succ (f : FlowD) (ls : List Bool) (k : Nat) : roundL f ls (k + 1) = stepL f (roundL f ls k) k := by
  unfold roundL
  rw [List.range_succ, List.foldl_append]
  rfl
theorem stepL_len (f : FlowD) (ls : List Bool) (b : Nat) : (stepL f ls b).length = ls.length := by
  unfold stepL
  split
  · simp
  · rfl
theorem roundL_len (f : FlowD) (ls : List Bool) (k : Nat) : (roundL f ls k).length = ls.length := by
  induction k with
  | zero => rfl
  | succ k ih => rw [roundL_succ, stepL_len, ih]
theorem iterL_len (f : FlowD) (ls : List Bool) (k : Nat) : (iterL f ls k).length = ls.length := by
  induction k with
  | zero => rfl
  | succ k ih => rw [iterL, roundL_len, ih]
/-- What stays under a step stays. -/
theorem iterL_keep {f : FlowD} {I : List Bool → Prop} (h : ∀ ls b, b < f.blocks.length → I ls → I (stepL f ls b)) {ls : List Bool} (h0 : I ls) (k : Nat) : I (iterL f ls k) := by
  have key : ∀ ls, I ls → ∀ k, k ≤ f.blocks.length → I (roundL f ls k) := by
    intro ls h0 k
    induction k with
    | zero => intro _; exact h0
    | succ k ih => intro hk; rw [roundL_succ]; exact h _ k (by omega) (ih (by omega))
  induction k with
  | zero => exact h0
  | succ k ih => exact key _ ih _ (Nat.le_refl _)
theorem getD_set_off (ls : List Bool) (b j : Nat) (hb : ls.getD b false = true) : (ls.set b false).getD j false = if j = b then false else ls.getD j false := by
  rw [List.getD_eq_getElem?_getD, List.getD_eq_getElem?_getD, List.getElem?_set]
  by_cases e : b = j
  · subst e
    have hl : b < ls.length := by
      apply Classical.byContradiction
      intro hn
      rw [List.getD_eq_getElem?_getD, List.getElem?_eq_none (by omega)] at hb
      cases hb
    simp [hl]
  · rw [if_neg e, if_neg (fun k => e k.symm)]
theorem stepL_at (f : FlowD) (ls : List Bool) (b j : Nat) : (stepL f ls b).getD j false = if j = b ∧ ls.getD b false = true ∧ entB f ls b = false then false else ls.getD j false := by
  unfold stepL
  by_cases h : ls.getD b false = true ∧ entB f ls b = false
  · rw [if_pos h, getD_set_off _ _ _ h.1]
    by_cases e : j = b
    · rw [if_pos e, if_pos ⟨e, h⟩]
    · rw [if_neg e, if_neg (fun k => e k.1)]
  · rw [if_neg h, if_neg (fun k => h k.2)]
def cntL (ls : List Bool) : Nat := (ls.filter id).length
theorem cntL_set : ∀ (ls : List Bool) (b : Nat), ls.getD b false = true → cntL (ls.set b false) + 1 = cntL ls := by
  intro ls
  induction ls with
  | nil => intro b h; cases b <;> simp at h
  | cons a l ih =>
    intro b h
    cases b with
    | zero =>
      obtain rfl : a = true := by simpa using h
      simp [cntL]
    | succ b =>
      have h1 := ih b (by simpa using h)
      unfold cntL at h1 ⊢
      cases a
      · simpa using h1
      · simp only [List.set_cons_succ, List.filter_cons, id, if_true, List.length_cons]
        omega
theorem stepL_cnt (f : FlowD) (ls : List Bool) (b : Nat) : cntL (stepL f ls b) ≤ cntL ls ∧ (cntL (stepL f ls b) = cntL ls → stepL f ls b = ls ∧ (ls.getD b false = true → entB f ls b = true)) := by
  unfold stepL
  by_cases h : ls.getD b false = true ∧ entB f ls b = false
  · rw [if_pos h]
    have := cntL_set ls b h.1
    exact ⟨by omega, fun k => by omega⟩
  · rw [if_neg h]
    refine ⟨Nat.le_refl _, fun _ => ⟨rfl, fun k => ?_⟩⟩
    cases e : entB f ls b
    · exact absurd ⟨k, e⟩ h
    · rfl
theorem roundL_cnt (f : FlowD) (ls : List Bool) : ∀ k, cntL (roundL f ls k) ≤ cntL ls ∧ (cntL (roundL f ls k) = cntL ls → roundL f ls k = ls ∧ ∀ b, b < k → ls.getD b false = true → entB f ls b = true) := by
  intro k
  induction k with
  | zero => exact ⟨Nat.le_refl _, fun _ => ⟨rfl, fun b h => by omega⟩⟩
  | succ k ih =>
    rw [roundL_succ]
    obtain ⟨h1, h2⟩ := stepL_cnt f (roundL f ls k) k
    refine ⟨by omega, fun e => ?_⟩
    obtain ⟨h3, h4⟩ := ih.2 (by omega)
    obtain ⟨h5, h6⟩ := h2 (by omega)
    rw [h3] at h5 h6 ⊢
    refine ⟨h5, fun b hb hl => ?_⟩
    by_cases e : b = k
    · subst e; exact h6 hl
    · exact h4 b (by omega) hl
/-- Behind enough rounds one more makes no difference. -/
theorem iterL_stable (f : FlowD) (ls : List Bool) : ∀ k, (∀ b, b < f.blocks.length → (iterL f ls k).getD b false = true → entB f (iterL f ls k) b = true) ∨ cntL (iterL f ls k) + k ≤ cntL ls := by
  intro k
  induction k with
  | zero => exact .inr (Nat.le_refl _)
  | succ k ih =>
    obtain ⟨h1, h2⟩ := roundL_cnt f (iterL f ls k) f.blocks.length
    by_cases e : cntL (roundL f (iterL f ls k) f.blocks.length) = cntL (iterL f ls k)
    · obtain ⟨h3, h4⟩ := h2 e
      refine .inl ?_
      show ∀ b, b < f.blocks.length → (roundL f (iterL f ls k) f.blocks.length).getD b false = true → entB f (roundL f (iterL f ls k) f.blocks.length) b = true
      rw [h3]
      exact h4
    · rcases ih with ih | ih
      · exfalso
        apply e
        have key : ∀ j, j ≤ f.blocks.length → roundL f (iterL f ls k) j = iterL f ls k := by
          intro j
          induction j with
          | zero => intro _; rfl
          | succ j ihj =>
            intro hj
            rw [roundL_succ, ihj (by omega)]
            unfold stepL
            rw [if_neg]
            rintro ⟨h5, h6⟩
            rw [ih j (by omega) h5] at h6
            cases h6
        rw [key _ (Nat.le_refl _)]
      · refine .inr ?_
        show cntL (roundL f (iterL f ls k) f.blocks.length) + (k + 1) ≤ cntL ls
        omega
section
variable {c : CodeD} (hf : fineB c = true)
include hf
theorem knot_edge {v y : Nat} (hv : v < (theFlow c).blocks.length) (hr : RA (theFlow c) (fun _ => False) v) (hy : y < (theFlow c).blocks.length) : (y : Int) ∈ knotNx (theFlow c) v ↔ (y : Int) ∈ nxB (theFlow c) v ∧ domB (theFlow c) y v = false := by
  rw [knotNx_mem hf, tail_iff hf]
  have hd := domB_iff hf hy hv
  constructor
  · rintro ⟨h1, h2⟩
    refine ⟨h1, ?_⟩
    cases e : domB (theFlow c) y v
    · rfl
    · exact absurd ⟨by omega, h1, hd.1 e⟩ h2
  · rintro ⟨h1, h2⟩
    refine ⟨h1, fun k => ?_⟩
    rw [hd.2 k.2.2] at h2
    cases h2
theorem left_none (hE : (theFlow c).reached.length = (theFlow c).blocks.length) : (∀ b, b < (theFlow c).blocks.length → (iterL (theFlow c) (theFlow c).reached ((theFlow c).blocks.length + 1)).getD b false = false) ↔ NoCyc (theFlow c) := by
  constructor
  · intro hno b hb hr hcy
    have hbr := (reached_iff hf hb).1 hr
    have hC : ∀ x, Reach (· ∈ knotNx (theFlow c) b) (fun a y => y ∈ knotNx (theFlow c) a) x → RA (theFlow c) (fun _ => False) x := by
      intro x hx
      induction hx with
      | start h => exact hbr.more ((knotNx_mem hf).1 h).1 (fun k => k)
      | step _ h ih => exact ih.more ((knotNx_mem hf).1 h).1 (fun k => k)
    have hkeep := iterL_keep (f := theFlow c) (I := fun ls => ∀ x, Reach (· ∈ knotNx (theFlow c) b) (fun a y => y ∈ knotNx (theFlow c) a) x → ls.getD x.toNat false = true) (fun ls j hj hI x hx => by
      rw [stepL_at]
      rw [if_neg]
      · exact hI x hx
      · rintro ⟨e, h1, h2⟩
        obtain ⟨y, rfl, hy⟩ := reach_in hf (hC x hx)
        rw [Int.toNat_natCast] at e
        subst e
        have h3 : ∃ v : Nat, v < (theFlow c).blocks.length ∧ ls.getD v false = true ∧ RA (theFlow c) (fun _ => False) v ∧ (y : Int) ∈ knotNx (theFlow c) v := by
          cases hx with
          | start h => exact ⟨b, hb, by have := hI b hcy; simpa using this, hbr, h⟩
          | step h0 h =>
            obtain ⟨v, rfl, hv⟩ := reach_in hf (hC _ h0)
            exact ⟨v, hv, by have := hI _ h0; simpa using this, hC _ h0, h⟩
        obtain ⟨v, hv, hl, hvr, hk⟩ := h3
        obtain ⟨k1, k2⟩ := (knot_edge hf hv hvr hy).1 hk
        have : entB (theFlow c) ls y = true := dcd_iff.2 ⟨v, hv, hl, k1, k2⟩
        rw [this] at h2
        cases h2) (ls := (theFlow c).reached) (fun x hx => by
          obtain ⟨y, rfl, hy⟩ := reach_in hf (hC x hx)
          rw [Int.toNat_natCast]
          exact (reached_iff hf hy).2 (hC _ hx)) ((theFlow c).blocks.length + 1)
    have h1 := hkeep b hcy
    rw [Int.toNat_natCast, hno b hb] at h1
    cases h1
  · intro hnc b hb
    cases hl : (iterL (theFlow c) (theFlow c).reached ((theFlow c).blocks.length + 1)).getD b false
    · rfl
    · exfalso
      rcases iterL_stable (theFlow c) (theFlow c).reached ((theFlow c).blocks.length + 1) with hst | hst
      · have hsub := iterL_keep (f := theFlow c) (I := fun ls => ∀ j, ls.getD j false = true → (theFlow c).reached.getD j false = true) (fun ls j hj hI i hi => by
          rw [stepL_at] at hi
          split at hi
          · cases hi
          · exact hI i hi) (ls := (theFlow c).reached) (fun _ h => h) ((theFlow c).blocks.length + 1)
        generalize iterL (theFlow c) (theFlow c).reached ((theFlow c).blocks.length + 1) = ls at *
        have hpre : ∀ x : { j : Nat // j < (theFlow c).blocks.length ∧ ls.getD j false = true }, ∃ y : { j : Nat // j < (theFlow c).blocks.length ∧ ls.getD j false = true }, (x.1 : Int) ∈ knotNx (theFlow c) y.1 := by
          rintro ⟨x, hx, hxl⟩
          obtain ⟨v, hv, hvl, h1, h2⟩ := dcd_iff.1 (hst x hx hxl)
          exact ⟨⟨v, hv, hvl⟩, (knot_edge hf hv ((reached_iff hf hv).1 (hsub v hvl)) hx).2 ⟨h1, h2⟩⟩
        obtain ⟨pre, hpre⟩ := Classical.axiomOfChoice hpre
        let g : Nat → { j : Nat // j < (theFlow c).blocks.length ∧ ls.getD j false = true } := fun n => Nat.rec ⟨b, hb, hl⟩ (fun _ x => pre x) n
        have hg : ∀ n, ((g n).1 : Int) ∈ knotNx (theFlow c) (g (n + 1)).1 := fun n => hpre (g n)
        by_cases hinj : ∀ i j, i < j → (g i).1 ≠ (g j).1
        · have hn : ((List.range ((theFlow c).blocks.length + 1)).map fun i => ((g i).1 : Int)).Nodup := by
            refine List.Pairwise.map _ (fun i j h => ?_) List.pairwise_lt_range
            have := hinj i j h
            omega
          have := nodup_len (ys := (List.range (theFlow c).blocks.length).map fun (i : Nat) => (i : Int)) hn (fun x hx => by
            obtain ⟨i, _, rfl⟩ := List.mem_map.1 hx
            exact List.mem_map.2 ⟨(g i).1, List.mem_range.2 (g i).2.1, rfl⟩)
          simp at this
          omega
        · obtain ⟨i, j, hij, he⟩ : ∃ i j, i < j ∧ (g i).1 = (g j).1 := by
            apply Classical.byContradiction
            intro hn
            exact hinj fun i j h e => hn ⟨i, j, h, e⟩
          refine hnc (g j).1 (g j).2.1 (hsub _ (g j).2.2) ?_
          have key : ∀ d, d < j → Reach (· ∈ knotNx (theFlow c) (g j).1) (fun a y => y ∈ knotNx (theFlow c) a) ((g (j - 1 - d)).1 : Int) := by
            intro d
            induction d with
            | zero =>
              intro hd
              refine .start ?_
              have := hg (j - 1)
              rw [show j - 1 + 1 = j by omega] at this
              exact this
            | succ d ih =>
              intro hd
              refine .step (ih (by omega)) ?_
              have := hg (j - 1 - (d + 1))
              rw [show j - 1 - (d + 1) + 1 = j - 1 - d by omega] at this
              exact this
          have h1 := key (j - 1 - i) (by omega)
          rw [show j - 1 - (j - 1 - i) = i by omega, he] at h1
          exact h1
      · have : cntL (theFlow c).reached ≤ (theFlow c).reached.length := List.length_filter_le _ _
        omega
theorem knot_none {l : List Int} (hm : ∀ x ∈ l, RA (theFlow c) (fun _ => False) x) {x v : Int} (hx : x ∈ knotNx (theFlow c) v) (hv : v ∈ l) : ¬ DomP (theFlow c) x v := by
  intro hd
  obtain ⟨k, rfl, hk⟩ := reach_in hf (hm v hv)
  obtain ⟨⟨m, rfl, hm2⟩, _⟩ := dom_in hf hd
  have h1 := (knot_edge hf hk (hm _ hv) hm2).1 hx
  rw [(domB_iff hf hm2 hk).2 hd] at h1
  exact absurd h1.2 (by simp)
end
end Go.Proofs.YtififjlgjmgikaaGreat
