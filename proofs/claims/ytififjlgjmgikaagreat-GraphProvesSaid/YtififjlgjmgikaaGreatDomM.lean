/- Dominance (no program). What the laws on leaders need (no program). -/
import Derived.Test.YtififjlgjmgikaaGreatFlowJ
import Derived.Test.YtififjlgjmgikaaGreatIdom
import Derived.Test.YtififjlgjmgikaaGreatSample
namespace Go.Proofs.YtififjlgjmgikaaGreat
set_option linter.all false
open Go.RowKit

def IsE (f : FlowD) (x : Int) : Prop := (0 ≤ x ∧ x < f.blocks.length) ∧ f.entry.getD x.toNat false = true
def nxB (f : FlowD) (x : Int) : List Int := (f.blocks.getD x.toNat default).next
/-- A block to which an initial path outside S leads. -/
def RA (f : FlowD) (S : Int → Prop) (b : Int) : Prop := Reach (fun e => IsE f e ∧ ¬ S e) (fun x y => y ∈ nxB f x ∧ ¬ S y) b
theorem reach_mono {E E' : Int → Prop} {N N' : Int → Int → Prop} (hE : ∀ x, E x → E' x) (hN : ∀ x y, N x y → N' x y) {b : Int} (h : Reach E N b) : Reach E' N' b := by
  induction h with
  | start h => exact .start (hE _ h)
  | step _ h ih => exact .step ih (hN _ _ h)
theorem around_iff {f : FlowD} {a b : Int} : AroundR f a b ↔ RA f (· = a) b := by
  unfold AroundR RA
  constructor
  · intro h
    refine reach_mono (fun x hx => ?_) (fun x y hy => ?_) h
    · obtain ⟨h1, h2, h3⟩ := entriesB_mem.1 hx
      exact ⟨⟨h1, h2⟩, h3⟩
    · unfold avoidNx at hy
      obtain ⟨h1, h2⟩ := List.mem_filter.1 hy
      exact ⟨h1, by simpa using h2⟩
  · intro h
    refine reach_mono (fun x hx => ?_) (fun x y hy => ?_) h
    · exact entriesB_mem.2 ⟨hx.1.1, hx.1.2, hx.2⟩
    · unfold avoidNx
      exact List.mem_filter.2 ⟨hy.1, by simpa using hy.2⟩
variable {f : FlowD} {S T : Int → Prop} {x y z b : Int}
theorem RA.mono (h : RA f S b) (hST : ∀ x, T x → S x) : RA f T b := reach_mono (fun _ h => ⟨h.1, fun k => h.2 (hST _ k)⟩) (fun _ _ h => ⟨h.1, fun k => h.2 (hST _ k)⟩) h
theorem RA.out (h : RA f S b) : ¬ S b := by
  unfold RA at h
  cases h with
  | start h => exact h.2
  | step _ h => exact h.2
theorem RA.more (h : RA f S x) (hy : y ∈ nxB f x) (hs : ¬ S y) : RA f S y := Reach.step h ⟨hy, hs⟩
theorem RA.first (h : RA f (fun _ => False) b) (hxy : x ≠ y) : RA f (fun z => z = x ∨ z = y) b ∨ RA f (· = y) x ∨ RA f (· = x) y := by
  unfold RA at h
  induction h with
  | start h =>
    rename_i e
    by_cases e1 : e = x
    · subst e1; exact .inr (.inl (.start ⟨h.1, hxy⟩))
    · by_cases e2 : e = y
      · subst e2; exact .inr (.inr (.start ⟨h.1, fun k => e1 k⟩))
      · exact .inl (.start ⟨h.1, fun k => k.elim e1 e2⟩)
  | step _ h ih =>
    rename_i a t _
    rcases ih with ih | ih
    · by_cases e1 : t = x
      · subst e1; exact .inr (.inl ((ih.mono (T := (· = y)) fun _ k => .inr k).more h.1 hxy))
      · by_cases e2 : t = y
        · subst e2; exact .inr (.inr ((ih.mono (T := (· = x)) fun _ k => .inl k).more h.1 (fun k => e1 k)))
        · exact .inl (ih.more h.1 (fun k => k.elim e1 e2))
    · exact .inr ih
/-- A path without x goes over y, or it does not. -/
theorem RA.over (h : RA f S b) : RA f (fun z => S z ∨ z = y) b ∨ RA f S y := by
  unfold RA at h
  induction h with
  | start h =>
    rename_i e
    by_cases e2 : e = y
    · subst e2; exact .inr (.start h)
    · exact .inl (.start ⟨h.1, fun k => k.elim h.2 e2⟩)
  | step h0 h ih =>
    rename_i a t
    by_cases e2 : t = y
    · subst e2; exact .inr (.step h0 h)
    · rcases ih with ih | ih
      · exact .inl (ih.more h.1 (fun k => k.elim h.2 e2))
      · exact .inr ih
theorem RA.last (h : RA f (fun _ => False) b) (h1 : RA f (· = x) y) (h2 : RA f (· = y) x) : RA f (fun z => z = x ∨ z = y) b ∨ RA f (· = x) b ∨ RA f (· = y) b := by
  unfold RA at h
  induction h with
  | start h =>
    rename_i e
    by_cases e1 : e = x
    · subst e1; exact .inr (.inr h2)
    · by_cases e2 : e = y
      · subst e2; exact .inr (.inl h1)
      · exact .inl (.start ⟨h.1, fun k => k.elim e1 e2⟩)
  | step _ h ih =>
    rename_i a t _
    by_cases e1 : t = x
    · subst e1; exact .inr (.inr h2)
    · by_cases e2 : t = y
      · subst e2; exact .inr (.inl h1)
      · rcases ih with ih | ih | ih
        · exact .inl (ih.more h.1 (fun k => k.elim e1 e2))
        · exact .inr (.inl (ih.more h.1 e1))
        · exact .inr (.inr (ih.more h.1 e2))
/-- x dominates b, both blocks; b is reached. -/
def DomP (f : FlowD) (x b : Int) : Prop := RA f (fun _ => False) b ∧ ¬ RA f (· = x) b
theorem DomP.antisym (h1 : DomP f x y) (h2 : DomP f y x) : x = y := by
  apply Classical.byContradiction
  intro hn
  rcases h2.1.first hn with h | h | h
  · exact h.out (.inl rfl)
  · exact h2.2 h
  · exact h1.2 h
theorem DomP.trans (h1 : DomP f x y) (h2 : DomP f y z) : DomP f x z := by
  refine ⟨h2.1, fun h => ?_⟩
  rcases h.over (y := y) with k | k
  · exact h2.2 (k.mono fun _ e => .inr e)
  · exact h1.2 k
theorem DomP.reached (h : DomP f x z) : RA f (fun _ => False) x := by
  rcases h.1.over (y := x) with k | k
  · exact absurd (k.mono fun _ e => .inr e) h.2
  · exact k
theorem DomP.refl (h : RA f (fun _ => False) x) : DomP f x x := ⟨h, fun k => k.out rfl⟩
theorem DomP.chain (h1 : DomP f x z) (h2 : DomP f y z) : DomP f x y ∨ DomP f y x := by
  apply Classical.byContradiction
  intro hn
  have a : RA f (· = x) y := Classical.byContradiction fun k => hn (.inl ⟨h2.reached, k⟩)
  have b : RA f (· = y) x := Classical.byContradiction fun k => hn (.inr ⟨h1.reached, k⟩)
  rcases h1.1.last a b with k | k | k
  · exact h1.2 (k.mono fun _ e => .inl e)
  · exact h1.2 k
  · exact h2.2 k
/-- What is known of block i of a code. -/
structure BlkAt (c : CodeD) (i s t : Nat) : Prop extends RowAt (leadB c) c.instrs.length i s t where
  blk : (theFlow c).blocks[i]? = some ⟨s, t, (nextL c (t - 1)).map (ofI (leadB c))⟩
theorem flow_len (c : CodeD) : (theFlow c).blocks.length = cnt (leadB c) c.instrs.length := by show (blocksF c (leadB c)).length = _; simp [blocksF]
theorem blk_at (c : CodeD) {i : Nat} (hi : i < (theFlow c).blocks.length) : ∃ s t, BlkAt c i s t := by
  rw [flow_len] at hi
  obtain ⟨s, t, h1, h2⟩ := rows_spec (leadB c) c.instrs.length i hi
  refine ⟨s, t, h2, ?_⟩
  show (blocksF c (leadB c))[i]? = _
  unfold blocksF
  rw [List.getElem?_map, List.getElem?_range hi]
  unfold nxF
  simp only [Option.map_some, List.getD_eq_getElem?_getD, h1, Option.getD_some]
  have := h2.lt
  rw [show ((t : Int) - 1).toNat = t - 1 by omega]
theorem BlkAt.nx {c : CodeD} {i s t : Nat} (h : BlkAt c i s t) : nxB (theFlow c) i = (nextL c (t - 1)).map (ofI (leadB c)) := by
  unfold nxB
  rw [Int.toNat_natCast, List.getD_eq_getElem?_getD, h.blk]
  rfl
theorem lead_iff (c : CodeD) {p : Nat} (hp : p < c.instrs.length) : (leadB c).getD p false = true ↔ IsLeader c p := (lead_marks c).iff_ p hp
theorem lead_zero (c : CodeD) (h : 0 < c.instrs.length) : (leadB c).getD 0 false = true := (lead_iff c h).2 (.inl rfl)
theorem of_blk {c : CodeD} (hn : 0 < c.instrs.length) {p : Nat} (hp : p < c.instrs.length) : ∃ i s t, BlkAt c i s t ∧ ofI (leadB c) p = (i : Int) ∧ s ≤ p ∧ p < t ∧ i < (theFlow c).blocks.length := by
  have h1 := ofI_range (lead_zero c hn) hp
  obtain ⟨i, hi⟩ : ∃ i : Nat, ofI (leadB c) p = (i : Int) := ⟨(ofI (leadB c) p).toNat, by omega⟩
  have hil : i < (theFlow c).blocks.length := by rw [flow_len]; omega
  obtain ⟨s, t, h⟩ := blk_at c hil
  obtain ⟨h2, h3⟩ := (row_of h.toRowAt hp).2 hi
  exact ⟨i, s, t, h, hi, h2, h3, hil⟩
/-- A leader begins its block. -/
theorem lead_from {c : CodeD} {i s t p : Nat} (h : BlkAt c i s t) (hp : (leadB c).getD p false = true) (h1 : s ≤ p) (h2 : p < t) : p = s := by
  apply Classical.byContradiction
  intro hn
  have := h.mid p (by omega) h2
  rw [this] at hp
  cases hp
theorem entry_iff (c : CodeD) {i : Nat} (hi : i < (theFlow c).blocks.length) : (theFlow c).entry.getD i false = true ↔ ∃ p ∈ entriesL c, ofI (leadB c) p = (i : Int) := by
  rw [flow_len] at hi
  exact (marks_map (n := cnt (leadB c) c.instrs.length) fun i => ∃ p ∈ entriesL c, ofI (leadB c) p = (i : Int)).iff_ i hi
theorem reached_iff0 (c : CodeD) {i s t : Nat} (h : BlkAt c i s t) (hi : i < (theFlow c).blocks.length) : (theFlow c).reached.getD i false = true ↔ ReachC c s := by
  have hi2 := hi
  rw [flow_len] at hi2
  obtain ⟨s', t', h1, h2⟩ := rows_spec (leadB c) c.instrs.length i hi2
  have h3 := (marks_map (n := cnt (leadB c) c.instrs.length) fun i => ReachC c ((rowsK (leadB c) c.instrs.length).getD i (0, 0)).1).iff_ i hi2
  have e : (rowsK (leadB c) c.instrs.length).getD i (0, 0) = ((s' : Int), (t' : Int)) := by rw [List.getD_eq_getElem?_getD, h1]; rfl
  simp only [e] at h3
  have hs : s' = s := by
    have a := (row_of h.toRowAt (p := s') (by have := h2.lt; have := h2.le; omega)).2 ((row_of h2 (by have := h2.lt; have := h2.le; omega)).1 ⟨Nat.le_refl _, h2.lt⟩)
    exact lead_from h h2.lead a.1 a.2
  rw [hs] at h3
  exact h3
theorem reach_to_blocks {c : CodeD} (hf : fineB c = true) {x : Int} (h : ReachC c x) : (0 ≤ x ∧ x < c.instrs.length) ∧ RA (theFlow c) (fun _ => False) (ofI (leadB c) x) := by
  have h' : Reach (· ∈ entriesL c) (fun a b => b ∈ nextL c a.toNat) x := h
  have hn := (fine_bounds hf).i0
  clear h
  induction h' with
  | start h =>
    have hr := entries_in hf _ h
    rename_i x
    obtain ⟨p, rfl⟩ : ∃ p : Nat, x = (p : Int) := ⟨x.toNat, by omega⟩
    obtain ⟨i, s, t, hb, hi, h1, h2, hil⟩ := of_blk hn (show p < c.instrs.length by omega)
    refine ⟨hr, ?_⟩
    rw [hi]
    exact .start ⟨⟨by omega, by rw [Int.toNat_natCast]; exact (entry_iff c hil).2 ⟨_, h, hi⟩⟩, fun k => k⟩
  | step _ hy ih =>
    rename_i x y _
    obtain ⟨hx, ih⟩ := ih
    obtain ⟨p, rfl⟩ : ∃ p : Nat, x = (p : Int) := ⟨x.toNat, by omega⟩
    rw [Int.toNat_natCast] at hy
    have hpn : p < c.instrs.length := by omega
    have hyr := next_in hf hpn y hy
    refine ⟨hyr, ?_⟩
    obtain ⟨i, s, t, hb, hi, h1, h2, hil⟩ := of_blk hn hpn
    have hle := hb.le
    rw [hi] at ih
    obtain ⟨q, rfl⟩ : ∃ q : Nat, y = (q : Int) := ⟨y.toNat, by omega⟩
    by_cases hq : q = p + 1 ∧ q < t
    · have := (row_of hb.toRowAt (p := q) (by omega)).1 ⟨by omega, hq.2⟩
      rw [this]
      exact ih
    · have hpt : p + 1 = t := by
        apply Classical.byContradiction
        intro hne
        have hq1 : q ≠ p + 1 := fun e => hq ⟨e, by omega⟩
        have hl : IsLeader c (p + 1) := .inr (.inr (.inr ⟨p, rfl, fun e => by
          rw [e] at hy
          simp at hy
          omega⟩))
        have h3 := (lead_iff c (show p + 1 < c.instrs.length by omega)).2 hl
        have h4 := hb.mid (p + 1) (by omega) (by omega)
        rw [h4] at h3
        cases h3
      refine ih.more ?_ (fun k => k)
      rw [hb.nx, show t - 1 = p by omega]
      exact List.mem_map_of_mem hy
theorem row_reach {c : CodeD} {i s t : Nat} (hb : BlkAt c i s t) (h : ReachC c s) {p : Nat} (h1 : s ≤ p) (h2 : p < t) : ReachC c p := by
  induction p with
  | zero =>
    obtain rfl : s = 0 := by omega
    exact h
  | succ p ih =>
    by_cases e : s = p + 1
    · rw [← e]; exact h
    · have h3 : ReachC c p := ih (by omega) (by omega)
      have hle := hb.le
      have h4 := hb.mid (p + 1) (by omega) h2
      have h5 : nextL c p = [((p + 1 : Nat) : Int)] := by
        apply Classical.byContradiction
        intro hne
        have := (lead_iff c (show p + 1 < c.instrs.length by omega)).2 (.inr (.inr (.inr ⟨p, rfl, hne⟩)))
        rw [h4] at this
        cases this
      exact Reach.step h3 (by show _ ∈ nextL c ((p : Int)).toNat; rw [Int.toNat_natCast, h5]; simp)
theorem reach_of_blocks {c : CodeD} (hf : fineB c = true) {x : Int} (h : RA (theFlow c) (fun _ => False) x) : ∃ i s t : Nat, x = (i : Int) ∧ i < (theFlow c).blocks.length ∧ BlkAt c i s t ∧ ReachC c s := by
  have hn := (fine_bounds hf).i0
  unfold RA at h
  induction h with
  | start h =>
    rename_i x
    obtain ⟨⟨⟨h1, h2⟩, h3⟩, _⟩ := h
    obtain ⟨i, rfl⟩ : ∃ i : Nat, x = (i : Int) := ⟨x.toNat, by omega⟩
    rw [Int.toNat_natCast] at h3
    have hil : i < (theFlow c).blocks.length := by omega
    obtain ⟨p, hp, hpi⟩ := (entry_iff c hil).1 h3
    have hr := entries_in hf p hp
    obtain ⟨q, rfl⟩ : ∃ q : Nat, p = (q : Int) := ⟨p.toNat, by omega⟩
    have hqn : q < c.instrs.length := by omega
    obtain ⟨s, t, hb⟩ := blk_at c hil
    obtain ⟨h4, h5⟩ := (row_of hb.toRowAt hqn).2 hpi
    have h6 := lead_from hb ((lead_iff c hqn).2 (.inr (.inl hp))) h4 h5
    subst h6
    exact ⟨i, q, t, rfl, hil, hb, .start hp⟩
  | step _ hy ih =>
    rename_i x y _
    obtain ⟨i, s, t, rfl, hil, hb, hr⟩ := ih
    obtain ⟨hy, _⟩ := hy
    rw [hb.nx] at hy
    obtain ⟨p, hp, rfl⟩ := List.mem_map.1 hy
    have h1 := hb.lt
    have h2 := hb.le
    have hpr := next_in hf (show t - 1 < c.instrs.length by omega) p hp
    obtain ⟨q, rfl⟩ : ∃ q : Nat, p = (q : Int) := ⟨p.toNat, by omega⟩
    have hqn : q < c.instrs.length := by omega
    have ht := row_reach hb hr (p := t - 1) (by omega) (by omega)
    have hq : ReachC c q := Reach.step ht (by show _ ∈ nextL c (((t - 1 : Nat) : Int)).toNat; rw [Int.toNat_natCast]; exact hp)
    obtain ⟨j, s', t', hb', hj, h4, h5, hjl⟩ := of_blk hn hqn
    have hlead : (leadB c).getD q false = true := by
      by_cases e : q = t
      · rcases hb.edge with k | k
        · omega
        · rw [e]; exact k
      · exact (lead_iff c hqn).2 (.inr (.inr (.inl ⟨t - 1, by omega, hp, by omega⟩)))
    have h6 := lead_from hb' hlead h4 h5
    subst h6
    exact ⟨j, q, t', hj, hjl, hb', hq⟩
/-- A block is reached if a path of blocks leads to it. -/
theorem reached_iff {c : CodeD} (hf : fineB c = true) {i : Nat} (hi : i < (theFlow c).blocks.length) : (theFlow c).reached.getD i false = true ↔ RA (theFlow c) (fun _ => False) i := by
  obtain ⟨s, t, hb⟩ := blk_at c hi
  rw [reached_iff0 c hb hi]
  constructor
  · intro h
    have h1 := (reach_to_blocks hf h).2
    have h2 := (row_of hb.toRowAt (p := s) (by have := hb.lt; have := hb.le; omega)).1 ⟨Nat.le_refl _, hb.lt⟩
    rw [h2] at h1
    exact h1
  · intro h
    obtain ⟨i', s', t', e, _, hb', hr⟩ := reach_of_blocks hf h
    have e2 : i' = i := by omega
    subst e2
    have h2 := (row_of hb'.toRowAt (p := s) (by have := hb.lt; have := hb.le; omega)).2 ((row_of hb.toRowAt (p := s) (by have := hb.lt; have := hb.le; omega)).1 ⟨Nat.le_refl _, hb.lt⟩)
    have h3 := lead_from hb' hb.lead h2.1 h2.2
    rw [h3]; exact hr
end Go.Proofs.YtififjlgjmgikaaGreat
namespace Go.Proofs.YtififjlgjmgikaaGreat
set_option linter.all false
open Go.RowKit

theorem ent_lead {c : CodeD} (hf : fineB c = true) {y : Int} (h : y ∈ entriesL c) : ∃ q : Nat, y = (q : Int) ∧ q < c.instrs.length ∧ (leadB c).getD q false = true := by
  have hr := entries_in hf y h
  obtain ⟨q, rfl⟩ : ∃ q : Nat, y = (q : Int) := ⟨y.toNat, by omega⟩
  exact ⟨q, rfl, by omega, (lead_iff c (by omega)).2 (.inr (.inl h))⟩
theorem nextL_len (c : CodeD) (p : Nat) : (nextL c p).length ≤ 2 := by
  unfold nextL nextQ next1
  split
  · simp
  · split
    · simp
    · refine Nat.le_trans (Go.Lib.compact_length_le _) ?_
      rw [isort_length, List.length_append]
      split <;> split <;> simp
end Go.Proofs.YtififjlgjmgikaaGreat
