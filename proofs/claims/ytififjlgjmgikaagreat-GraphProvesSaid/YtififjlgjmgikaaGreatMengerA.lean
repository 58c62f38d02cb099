/- Flows of paths in a net, in plain Lean (no program): augmenting, cuts, taking out. The net of a proof, in plain Lean (no program): two paths can be led to a block, apart but for its immediate dominator. Two paths that are taken out of a net, in plain Lean (no program). The proofs of immediate dominators that the program makes are right, in plain Lean (no program). All proofs that the program makes together, in plain Lean (no program). What graph.walk keeps true, at any type of nodes, and the path that is read back, in plain Lean (no program). -/
import Derived.Test.YtififjlgjmgikaaGreatLoopB
import Derived.Test.YtififjlgjmgikaaGreatProofA
namespace Go.Proofs.YtififjlgjmgikaaGreat
set_option linter.all false

section
variable {V : Type} [DecidableEq V]
open Classical in
/-- Whether a node is of a set, as a number. -/
noncomputable def chi (S : V → Prop) (v : V) : Int := if S v then 1 else 0
noncomputable def NS (S : V → Prop) (U : List (V × V)) : Int := (U.map fun e => chi S e.1 - chi S e.2).sum
/-- k paths' worth of edges, from s to t. -/
def FlowK (s t : V) (k : Int) (U : List (V × V)) : Prop := ∀ S : V → Prop, NS S U = k * (chi S s - chi S t)
theorem NS_nil (S : V → Prop) : NS S [] = 0 := rfl
theorem NS_app (S : V → Prop) (U W : List (V × V)) : NS S (U ++ W) = NS S U + NS S W := by
  unfold NS
  rw [List.map_append, List.sum_append]
theorem NS_one (S : V → Prop) (e : V × V) : NS S [e] = chi S e.1 - chi S e.2 := by simp [NS]
theorem NS_erase (S : V → Prop) {U : List (V × V)} {e : V × V} (h : e ∈ U) : NS S (U.erase e) = NS S U - (chi S e.1 - chi S e.2) := by
  induction U with
  | nil => cases h
  | cons a U ih =>
    by_cases e1 : a = e
    · subst e1
      rw [List.erase_cons_head]
      simp [NS]
      omega
    · rw [List.erase_cons_tail (by simpa using e1)]
      have hm : e ∈ U := by
        rcases List.mem_cons.1 h with h | h
        · exact absurd h.symm e1
        · exact h
      have := ih hm
      simp only [NS, List.map_cons, List.sum_cons] at this ⊢
      omega
theorem FlowK.zero (s t : V) : FlowK s t 0 ([] : List (V × V)) := fun S => by rw [NS_nil]; simp
theorem chi_le (S : V → Prop) (v : V) : 0 ≤ chi S v ∧ chi S v ≤ 1 := by
  unfold chi
  split <;> omega
theorem chi_pos {S : V → Prop} {v : V} (h : S v) : chi S v = 1 := by unfold chi; rw [if_pos h]
theorem chi_neg {S : V → Prop} {v : V} (h : ¬ S v) : chi S v = 0 := by unfold chi; rw [if_neg h]
/-- Where more goes out than comes in, an edge goes out. -/
theorem NS_out {S : V → Prop} {U : List (V × V)} (h : 0 < NS S U) : ∃ e ∈ U, S e.1 ∧ ¬ S e.2 := by
  induction U with
  | nil => simp [NS] at h
  | cons a U ih =>
    by_cases ha : S a.1 ∧ ¬ S a.2
    · exact ⟨a, List.mem_cons_self, ha⟩
    · have h1 : chi S a.1 - chi S a.2 ≤ 0 := by
        by_cases h1 : S a.1
        · by_cases h2 : S a.2
          · rw [chi_pos h1, chi_pos h2]; omega
          · exact absurd ⟨h1, h2⟩ ha
        · rw [chi_neg h1]; have := (chi_le S a.2).1; omega
      have h2 : 0 < NS S U := by
        simp only [NS, List.map_cons, List.sum_cons] at h ⊢
        omega
      obtain ⟨e, he, k⟩ := ih h2
      exact ⟨e, List.mem_cons_of_mem _ he, k⟩
/-- Where nothing comes in, and one edge goes out in all, no two do. -/
theorem NS_two {S : V → Prop} {U : List (V × V)} (hn : ∀ e ∈ U, S e.2 → S e.1) {e1 e2 : V × V} (h1 : e1 ∈ U) (h2 : e2 ∈ U) (hne : e1 ≠ e2) (k1 : S e1.1 ∧ ¬ S e1.2) (k2 : S e2.1 ∧ ¬ S e2.2) : 2 ≤ NS S U := by
  have hpos : ∀ W : List (V × V), (∀ e ∈ W, S e.2 → S e.1) → 0 ≤ NS S W := by
    intro W
    induction W with
    | nil => intro _; simp [NS]
    | cons a W ih =>
      intro hW
      have := ih fun e he => hW e (List.mem_cons_of_mem _ he)
      have ha := hW a List.mem_cons_self
      have h3 : 0 ≤ chi S a.1 - chi S a.2 := by
        by_cases h4 : S a.2
        · rw [chi_pos h4, chi_pos (ha h4)]; omega
        · rw [chi_neg h4]; have := (chi_le S a.1).1; omega
      simp only [NS, List.map_cons, List.sum_cons] at this ⊢
      omega
  have e3 := NS_erase S h1
  have h2' : e2 ∈ U.erase e1 := (List.mem_erase_of_ne (fun h => hne h.symm)).2 h2
  have e4 := NS_erase S h2'
  have := hpos ((U.erase e1).erase e2) fun e he => hn e (List.mem_of_mem_erase (List.mem_of_mem_erase he))
  rw [chi_pos k1.1, chi_neg k1.2] at e3
  rw [chi_pos k2.1, chi_neg k2.2] at e4
  omega
/-- Where one more path can be led. -/
def Resid (G : V → V → Prop) (U : List (V × V)) (y x : V) : Prop := (G y x ∧ (y, x) ∉ U) ∨ (x, y) ∈ U
inductive From (R : V → V → Prop) (s : V) : V → Prop
  | start : From R s s
  | step {x y : V} : From R s x → R x y → From R s y
/-- If no more path can be led, then none can by any edges, or all go over one edge. -/
theorem cut {G : V → V → Prop} {U : List (V × V)} {s t : V} {k : Int} (hU : FlowK s t k U) (hG : ∀ e ∈ U, G e.1 e.2) (hno : ¬ From (Resid G U) s t) :
    (∀ x y, From (Resid G U) s x → G x y → ¬ From (Resid G U) s y → (x, y) ∈ U) ∧ NS (From (Resid G U) s) U = k ∧ ∀ e ∈ U, From (Resid G U) s e.2 → From (Resid G U) s e.1 := by
  refine ⟨fun x y hx hxy hy => ?_, ?_, fun e he h => .step h (.inr he)⟩
  · apply Classical.byContradiction
    intro hn
    exact hy (.step hx (.inl ⟨hxy, hn⟩))
  · rw [hU, chi_pos .start, chi_neg hno]
    omega
/-- No path at all, if there is no flow. -/
theorem cut_zero {G : V → V → Prop} {s t : V} (hr : From G s t) : From (Resid G ([] : List (V × V))) s t := by
  induction hr with
  | start => exact .start
  | step _ h ih => exact .step ih (.inl ⟨h, by simp⟩)
/-- Behind one path all paths go over one edge, if no more can be led. -/
theorem cut_one {G : V → V → Prop} {U : List (V × V)} {s t : V} (hU : FlowK s t 1 U) (hG : ∀ e ∈ U, G e.1 e.2) (hno : ¬ From (Resid G U) s t) :
    ∃ u v, (u, v) ∈ U ∧ From (Resid G U) s u ∧ ¬ From (Resid G U) s v ∧ ∀ x y, From (Resid G U) s x → G x y → ¬ From (Resid G U) s y → x = u ∧ y = v := by
  obtain ⟨h1, h2, h3⟩ := cut hU hG hno
  obtain ⟨e, he, k1, k2⟩ := NS_out (S := From (Resid G U) s) (U := U) (by rw [h2]; decide)
  refine ⟨e.1, e.2, he, k1, k2, fun x y hx hxy hy => ?_⟩
  have hm := h1 x y hx hxy hy
  apply Classical.byContradiction
  intro hne
  have hne2 : e ≠ (x, y) := fun h => hne ⟨by rw [h], by rw [h]⟩
  have := NS_two (S := From (Resid G U) s) h3 he hm hne2 ⟨k1, k2⟩ ⟨hx, hy⟩
  rw [h2] at this
  omega
/-- One step of a path that is led through the net. -/
def augS (U : List (V × V)) (y x : V) : List (V × V) := if (x, y) ∈ U then U.erase (x, y) else U ++ [(y, x)]
theorem augS_NS (S : V → Prop) (U : List (V × V)) (y x : V) : NS S (augS U y x) = NS S U + (chi S y - chi S x) := by
  unfold augS
  split
  · rename_i h
    rw [NS_erase S h]
    simp only
    omega
  · rw [NS_app, NS_one]
theorem augS_other {U : List (V × V)} (hn : U.Nodup) {y x : V} {e : V × V} (h1 : e ≠ (x, y)) (h2 : e ≠ (y, x)) : e ∈ augS U y x ↔ e ∈ U := by
  unfold augS
  split
  · exact List.mem_erase_of_ne h1
  · simp [h2]
theorem augS_ok {G : V → V → Prop} {U : List (V × V)} (hn : U.Nodup) (hG : ∀ e ∈ U, G e.1 e.2) {y x : V} (h : Resid G U y x) : (augS U y x).Nodup ∧ ∀ e ∈ augS U y x, G e.1 e.2 := by
  unfold augS
  split
  · exact ⟨hn.erase _, fun e he => hG e (List.mem_of_mem_erase he)⟩
  · rename_i hx
    rcases h with ⟨h1, h2⟩ | h
    · refine ⟨List.nodup_append.2 ⟨hn, by simp, fun a ha b hb => ?_⟩, fun e he => ?_⟩
      · simp at hb; subst hb; rintro rfl; exact h2 ha
      · rcases List.mem_append.1 he with k | k
        · exact hG e k
        · simp at k; subst k; exact h1
    · exact absurd h hx
/-- A whole path, led from its end on. -/
def augL : List (V × V) → List V → List (V × V)
  | U, [] => U
  | U, [_] => U
  | U, y :: x :: q => augS (augL U (x :: q)) y x
/-- Leading a path through the net: one path's worth more. -/
theorem augL_ok {G : V → V → Prop} {U : List (V × V)} {t : V} (hn : U.Nodup) (hG : ∀ e ∈ U, G e.1 e.2) : ∀ (q : List V) (y : V), (y :: q).Nodup → (y :: q).getLast? = some t → (∀ i a b, (y :: q)[i]? = some a → (y :: q)[i + 1]? = some b → Resid G U a b) →
    (augL U (y :: q)).Nodup ∧ (∀ e ∈ augL U (y :: q), G e.1 e.2) ∧ (∀ S : V → Prop, NS S (augL U (y :: q)) = NS S U + (chi S y - chi S t)) ∧ ∀ a b, (a ∉ y :: q ∨ b ∉ y :: q) → ((a, b) ∈ augL U (y :: q) ↔ (a, b) ∈ U) := by
  intro q
  induction q with
  | nil =>
    intro y _ hl _
    obtain rfl : y = t := by simpa using hl
    exact ⟨hn, hG, fun S => by simp [augL], fun a b _ => Iff.rfl⟩
  | cons x q ih =>
    intro y hnd hl hst
    rw [List.nodup_cons] at hnd
    obtain ⟨h1, h2, h3, h4⟩ := ih x hnd.2 (by rw [List.getLast?_cons_cons] at hl; exact hl) (fun i a b ha hb => hst (i + 1) a b (by simpa using ha) (by simpa using hb))
    have hr := hst 0 y x rfl rfl
    have m1 := h4 y x (.inl hnd.1)
    have m2 := h4 x y (.inr hnd.1)
    have hr2 : Resid G (augL U (x :: q)) y x := by
      rcases hr with ⟨k1, k2⟩ | k
      · exact .inl ⟨k1, fun h => k2 (m1.1 h)⟩
      · exact .inr (m2.2 k)
    obtain ⟨h5, h6⟩ := augS_ok h1 h2 hr2
    refine ⟨h5, h6, fun S => ?_, fun a b hab => ?_⟩
    · show NS S (augS (augL U (x :: q)) y x) = _
      rw [augS_NS, h3]
      omega
    · show (a, b) ∈ augS (augL U (x :: q)) y x ↔ _
      rw [augS_other h1]
      · refine h4 a b ?_
        rcases hab with h | h
        · exact .inl fun k => h (List.mem_cons_of_mem _ k)
        · exact .inr fun k => h (List.mem_cons_of_mem _ k)
      · rintro e
        injection e with e1 e2
        subst e1; subst e2
        rcases hab with h | h
        · exact h (by simp)
        · exact h (by simp)
      · rintro e
        injection e with e1 e2
        subst e1; subst e2
        rcases hab with h | h
        · exact h (by simp)
        · exact h (by simp)
theorem aug_flow {G : V → V → Prop} {U : List (V × V)} {s t : V} {k : Int} (hU : FlowK s t k U) (hn : U.Nodup) (hG : ∀ e ∈ U, G e.1 e.2) {q : List V} (hq : (s :: q).Nodup) (hl : (s :: q).getLast? = some t)
    (hst : ∀ i a b, (s :: q)[i]? = some a → (s :: q)[i + 1]? = some b → Resid G U a b) : FlowK s t (k + 1) (augL U (s :: q)) ∧ (augL U (s :: q)).Nodup ∧ ∀ e ∈ augL U (s :: q), G e.1 e.2 := by
  obtain ⟨h1, h2, h3, _⟩ := augL_ok hn hG q s hq hl hst
  refine ⟨fun S => ?_, h1, h2⟩
  rw [h3, hU, Int.add_mul]
  omega
/-- While a path is taken out, there is a next edge. -/
theorem take_next {U : List (V × V)} {s t x : V} {k : Int} (hk : 1 ≤ k) (hU : ∀ S : V → Prop, NS S U = k * (chi S s - chi S t) - (chi S s - chi S x)) (hx : x ≠ t) : ∃ y, (x, y) ∈ U := by
  have h := hU (· = x)
  have h1 : chi (· = x) x = 1 := chi_pos rfl
  have h2 : chi (· = x) t = 0 := chi_neg (fun e => hx e.symm)
  rw [h1, h2] at h
  have h3 : 0 < NS (· = x) U := by
    rw [h]
    by_cases e : s = x
    · rw [chi_pos (S := (· = x)) e]; omega
    · rw [chi_neg (S := (· = x)) e]; omega
  obtain ⟨e, he, k1, _⟩ := NS_out h3
  exact ⟨e.2, by rw [← k1]; exact he⟩
theorem take_step {U : List (V × V)} {s t x y : V} {k : Int} (hU : ∀ S : V → Prop, NS S U = k * (chi S s - chi S t) - (chi S s - chi S x)) (hy : (x, y) ∈ U) : ∀ S : V → Prop, NS S (U.erase (x, y)) = k * (chi S s - chi S t) - (chi S s - chi S y) := by
  intro S
  rw [NS_erase S hy, hU]
  simp only
  omega
end
end Go.Proofs.YtififjlgjmgikaaGreat
namespace Go.Proofs.YtififjlgjmgikaaGreat
set_option linter.all false

abbrev Nd := Int × Bool
/-- Where paths can go on to. -/
def linksL (f : FlowD) (i : Int) (x : Nd) : List Nd :=
  if x.1 < 0 then (entriesB f (-1)).map fun y => (y, false) else if x.2 = false then [(x.1, true)] else ((nxB f x.1).filter fun y => decide (y ≠ i)).map fun y => (y, false)
def NetG (f : FlowD) (i : Int) (x y : Nd) : Prop := y ∈ linksL f i x ∧ (0 ≤ x.1 ∨ x.1 = i) ∧ x ≠ (i, false)
/-- Blocks to which paths lead from i (or from the entries) without i and z. -/
def RB (f : FlowD) (i : Int) (z : Int → Prop) (x : Int) : Prop := Reach (fun x => (if i < 0 then IsE f x else x ∈ nxB f i) ∧ x ≠ i ∧ ¬ z x) (fun x y => y ∈ nxB f x ∧ y ≠ i ∧ ¬ z y) x
/-- When a proof wants a net. -/
structure NetP (f : FlowD) (i b : Int) : Prop where
  b0 : 0 ≤ b
  hr : RA f (fun _ => False) b
  dom : (i = -1 ∧ ∀ x, x ≠ b → ¬ DomP f x b) ∨ (0 ≤ i ∧ IdomP f i b)
  far : if i < 0 then ¬ IsE f b else b ∉ nxB f i
  pos : ∀ x, RA f (fun _ => False) x → 0 ≤ x
theorem NetP.ne {f : FlowD} {i b : Int} (h : NetP f i b) : i ≠ b := by
  rcases h.dom with ⟨h1, _⟩ | ⟨_, h1⟩
  · have := h.b0; omega
  · exact h1.1
theorem entries_isE {f : FlowD} {x : Int} : x ∈ entriesB f (-1) ↔ IsE f x := by
  rw [entriesB_mem]
  constructor
  · rintro ⟨h1, h2, _⟩; exact ⟨h1, h2⟩
  · rintro ⟨h1, h2⟩; exact ⟨h1, h2, by omega⟩
theorem ra_isE {f : FlowD} {i x : Int} (hi : i = -1) (h : RA f (fun _ => False) x) (z : Int → Prop) (hz : RA f z x) (hp : ∀ x, RA f (fun _ => False) x → 0 ≤ x) : RB f i z x := by
  unfold RA at hz
  induction hz with
  | start h1 =>
    rename_i e
    exact .start ⟨by rw [if_pos (by omega)]; exact h1.1, by have := hp e (.start ⟨h1.1, fun k => k⟩); omega, h1.2⟩
  | step h0 h1 ih =>
    rename_i a y
    have ha : RA f (fun _ => False) a := RA.mono (S := z) h0 fun _ k => k.elim
    have hy : RA f (fun _ => False) y := ha.more h1.1 (fun k => k)
    exact .step (ih ha) ⟨h1.1, by have := hp y hy; omega, h1.2⟩
/-- No single block but the immediate dominator lies on all paths. -/
theorem rb_all {f : FlowD} {i b : Int} (h : NetP f i b) {z : Int} (hzb : z ≠ b) (hzi : z ≠ i) : RB f i (· = z) b := by
  rcases h.dom with ⟨h1, h2⟩ | ⟨h1, h2⟩
  · refine ra_isE h1 h.hr _ ?_ h.pos
    exact Classical.byContradiction fun k => h2 z hzb ⟨h.hr, k⟩
  · have hin : ¬ i < 0 := by omega
    apply Classical.byContradiction
    intro hno
    -- z dominates b
    have key : ∀ x, RA f (· = z) x → RA f (· = i) x ∨ x = i ∨ RB f i (· = z) x := by
      intro x hx
      unfold RA at hx
      induction hx with
      | start h3 =>
        rename_i e
        by_cases e1 : e = i
        · exact .inr (.inl e1)
        · exact .inl (.start ⟨h3.1, e1⟩)
      | step h0 h3 ih =>
        rename_i a y
        by_cases e1 : y = i
        · exact .inr (.inl e1)
        · rcases ih with k | k | k
          · exact .inl (k.more h3.1 e1)
          · subst k
            exact .inr (.inr (.start ⟨by rw [if_neg hin]; exact h3.1, e1, h3.2⟩))
          · exact .inr (.inr (.step k ⟨h3.1, e1, h3.2⟩))
    have hzd : DomP f z b := by
      refine ⟨h.hr, fun k => ?_⟩
      rcases key b k with k | k | k
      · exact h2.2.1.2 k
      · exact h2.1 k.symm
      · exact hno k
    have hzi2 := h2.2.2 z hzb hzd
    have hiz : RA f (· = i) z := by
      apply Classical.byContradiction
      intro k
      exact hzi (hzi2.antisym ⟨hzd.reached, k⟩)
    have key2 : ∀ x, RA f (fun _ => False) x → RA f (· = i) x ∨ x = i ∨ RB f i (· = z) x := by
      intro x hx
      unfold RA at hx
      induction hx with
      | start h3 =>
        rename_i e
        by_cases e1 : e = i
        · exact .inr (.inl e1)
        · exact .inl (.start ⟨h3.1, e1⟩)
      | step h0 h3 ih =>
        rename_i a y
        by_cases e1 : y = i
        · exact .inr (.inl e1)
        · by_cases e2 : y = z
          · subst e2; exact .inl hiz
          · rcases ih with k | k | k
            · exact .inl (k.more h3.1 e1)
            · subst k
              exact .inr (.inr (.start ⟨by rw [if_neg hin]; exact h3.1, e1, e2⟩))
            · exact .inr (.inr (.step k ⟨h3.1, e1, e2⟩))
    rcases key2 b h.hr with k | k | k
    · exact h2.2.1.2 k
    · exact h2.1 k.symm
    · exact hno k
theorem links_src {f : FlowD} {i x : Int} (hi : i = -1 ∨ 0 ≤ i) (hx : (if i < 0 then IsE f x else x ∈ nxB f i) ∧ x ≠ i) : NetG f i (i, true) (x, false) := by
  refine ⟨?_, .inr rfl, by simp⟩
  unfold linksL
  rcases hi with hi | hi
  · rw [if_pos (by simp only; omega)]
    rw [if_pos (by omega)] at hx
    exact List.mem_map.2 ⟨x, entries_isE.2 hx.1, rfl⟩
  · rw [if_neg (by simp only; omega), if_neg (by simp)]
    rw [if_neg (by omega)] at hx
    exact List.mem_map.2 ⟨x, List.mem_filter.2 ⟨hx.1, by simpa using hx.2⟩, rfl⟩
theorem links_in {f : FlowD} {i x : Int} (hx : 0 ≤ x) (hxi : x ≠ i) : NetG f i (x, false) (x, true) := by
  refine ⟨?_, .inl hx, fun e => ?_⟩
  · unfold linksL
    rw [if_neg (by simp only; omega), if_pos rfl]
    simp
  · injection e with e1 _
    exact hxi e1
theorem links_out {f : FlowD} {i x y : Int} (hx : 0 ≤ x) (hy : y ∈ nxB f x) (hyi : y ≠ i) : NetG f i (x, true) (y, false) := by
  refine ⟨?_, .inl hx, by simp⟩
  unfold linksL
  rw [if_neg (by simp only; omega), if_neg (by simp)]
  exact List.mem_map.2 ⟨y, List.mem_filter.2 ⟨hy, by simpa using hyi⟩, rfl⟩
theorem rb_nei {f : FlowD} {i x : Int} {z : Int → Prop} (h : RB f i z x) : x ≠ i := by
  unfold RB at h
  cases h with
  | start h => exact h.2.1
  | step _ h => exact h.2.1
theorem rb_reached {f : FlowD} {i b : Int} (h : NetP f i b) {z : Int → Prop} {x : Int} (hx : RB f i z x) : RA f (fun _ => False) x := by
  unfold RB at hx
  induction hx with
  | start h1 =>
    rename_i e
    obtain ⟨h1, _⟩ := h1
    rcases h.dom with ⟨h2, _⟩ | ⟨h2, h3⟩
    · rw [if_pos (by omega)] at h1
      exact .start ⟨h1, fun k => k⟩
    · rw [if_neg (by omega)] at h1
      exact h3.2.1.reached.more h1 (fun k => k)
  | step _ h1 ih => exact ih.more h1.1 (fun k => k)
theorem NetP.i_ok {f : FlowD} {i b : Int} (h : NetP f i b) : i = -1 ∨ 0 ≤ i := by
  rcases h.dom with ⟨h1, _⟩ | ⟨h1, _⟩
  · exact .inl h1
  · exact .inr h1
/-- The first path. -/
theorem net_first {f : FlowD} {i b : Int} (h : NetP f i b) : From (NetG f i) (i, true) (b, false) := by
  have hi := h.i_ok
  -- any z that is neither: take one that is no block
  have hrb : RB f i (· = -2) b := rb_all h (by have := h.b0; omega) (by rcases hi with hi | hi <;> omega)
  have key : ∀ x, RB f i (· = -2) x → From (NetG f i) (i, true) (x, false) := by
    intro x hx
    have hx0 := hx
    unfold RB at hx
    induction hx with
    | start h1 => exact .step .start (links_src hi ⟨h1.1, h1.2.1⟩)
    | step h0 h1 ih =>
      rename_i a y
      have ha : RB f i (· = -2) a := h0
      have hp := h.pos a (rb_reached h ha)
      exact .step (.step (ih ha) (links_in hp (rb_nei ha))) (links_out hp h1.1 h1.2.1)
  exact key b hrb
theorem rb_ne {f : FlowD} {i z x : Int} (h : RB f i (· = z) x) : x ≠ z := by
  unfold RB at h
  cases h with
  | start h => exact h.2.2
  | step _ h => exact h.2.2
/-- The second path. -/
theorem net_more {f : FlowD} {i b : Int} (h : NetP f i b) {U : List (Nd × Nd)} (hU : FlowK ((i, true) : Nd) (b, false) 1 U) (hG : ∀ e ∈ U, NetG f i e.1 e.2) : From (Resid (NetG f i) U) ((i, true) : Nd) (b, false) := by
  have hi := h.i_ok
  apply Classical.byContradiction
  intro hno
  obtain ⟨u, v, huv, hu, hv, honly⟩ := cut_one hU hG hno
  have hg := hG _ huv
  have main : ∀ z : Int, z ≠ b → z ≠ i → (∀ x, x ≠ z → x ≠ i → (if i < 0 then IsE f x else x ∈ nxB f i) → ¬ (((i, true) : Nd) = u ∧ ((x, false) : Nd) = v)) → (∀ x : Int, x ≠ z → ¬ (((x, false) : Nd) = u ∧ ((x, true) : Nd) = v)) →
      (∀ x y : Int, x ≠ z → y ≠ z → From (Resid (NetG f i) U) ((i, true) : Nd) (x, false) → ¬ (((x, true) : Nd) = u ∧ ((y, false) : Nd) = v)) → False := by
    intro z hzb hzi h1 h2 h3
    have key : ∀ x, RB f i (· = z) x → From (Resid (NetG f i) U) ((i, true) : Nd) (x, false) := by
      intro x hx
      unfold RB at hx
      induction hx with
      | start k =>
        rename_i e
        apply Classical.byContradiction
        intro hn
        exact h1 e k.2.2 k.2.1 k.1 (honly _ _ .start (links_src hi ⟨k.1, k.2.1⟩) hn)
      | step h0 k ih =>
        rename_i a y
        have ha : RB f i (· = z) a := h0
        have hne := rb_ne ha
        have hp := h.pos a (rb_reached h ha)
        have hat : From (Resid (NetG f i) U) ((i, true) : Nd) (a, true) := by
          apply Classical.byContradiction
          intro hn
          exact h2 a hne (honly _ _ ih (links_in hp (rb_nei ha)) hn)
        apply Classical.byContradiction
        intro hn
        exact h3 a y hne k.2.2 ih (honly _ _ hat (links_out hp k.1 k.2.1) hn)
    exact hno (key b (rb_all h hzb hzi))
  obtain ⟨u1, u2⟩ := u
  obtain ⟨v1, v2⟩ := v
  have hib := h.ne
  by_cases hvb : v1 = b ∧ v2 = false
  · obtain ⟨rfl, rfl⟩ := hvb
    by_cases hub : u1 = v1
    · subst hub
      refine main (-2) (by have := h.b0; omega) (by rcases hi with hi | hi <;> omega) (fun x _ _ _ e => ?_) (fun x _ e => ?_) (fun x y _ _ hx e => ?_)
      · injection e.1 with e1 e2
        exact hib e1
      · injection e.2 with e1 e2
        cases e2
      · injection e.1 with e1 e2
        subst e1
        exact hno hx
    · by_cases hui : u1 = i
      · -- the source is not followed by the block
        subst hui
        exfalso
        replace hg := hg.1
        unfold linksL at hg
        simp only at hg
        have hfar := h.far
        by_cases h1 : u1 < 0
        · rw [if_pos h1] at hg hfar
          obtain ⟨y, hy, e⟩ := List.mem_map.1 hg
          injection e with e1 e2
          subst e1
          exact hfar (entries_isE.1 hy)
        · rw [if_neg h1] at hg hfar
          cases u2
          · rw [if_pos rfl] at hg
            simp at hg
          · rw [if_neg (by simp)] at hg
            obtain ⟨y, hy, e⟩ := List.mem_map.1 hg
            injection e with e1 e2
            subst e1
            exact hfar (List.mem_filter.1 hy).1
      · refine main u1 hub hui (fun x _ _ _ e => ?_) (fun x _ e => ?_) (fun x y hx _ _ e => ?_)
        · injection e.1 with e1 e2
          exact hui e1.symm
        · injection e.2 with e1 e2
          cases e2
        · injection e.1 with e1 e2
          exact hx e1
  · -- the edge leads to another block
    have hv1 : v1 ≠ b ∧ v1 ≠ i := by
      obtain ⟨hg, hg2, hg3⟩ := hg
      unfold linksL at hg
      simp only at hg hg2
      by_cases h1 : u1 < 0
      · rw [if_pos h1] at hg
        obtain ⟨y, hy, e⟩ := List.mem_map.1 hg
        injection e with e1 e2
        subst e1; subst e2
        have hE := entries_isE.1 hy
        refine ⟨fun e => hvb ⟨e, rfl⟩, fun e => ?_⟩
        subst e
        rcases h.dom with ⟨k, _⟩ | ⟨_, k⟩
        · have := hE.1.1; omega
        · have := hE.1.1; omega
      · rw [if_neg h1] at hg
        by_cases h2 : u2 = false
        · rw [if_pos h2] at hg
          simp at hg
          obtain ⟨e1, e2⟩ := hg
          subst e1; subst e2; subst h2
          refine ⟨fun e => ?_, fun e => ?_⟩
          · subst e; exact hno hu
          · subst e
            exact hg3 rfl
        · rw [if_neg h2] at hg
          obtain ⟨y, hy, e⟩ := List.mem_map.1 hg
          injection e with e1 e2
          subst e1; subst e2
          exact ⟨fun e => hvb ⟨e, rfl⟩, by simpa using (List.mem_filter.1 hy).2⟩
    refine main v1 hv1.1 hv1.2 (fun x hx _ _ e => ?_) (fun x hx e => ?_) (fun x y _ hy _ e => ?_)
    · injection e.2 with e1 e2
      exact hx e1
    · injection e.2 with e1 e2
      exact hx e1
    · injection e.2 with e1 e2
      exact hy e1
end Go.Proofs.YtififjlgjmgikaaGreat
namespace Go.Proofs.YtififjlgjmgikaaGreat
set_option linter.all false

section
variable {V : Type} [DecidableEq V]
/-- A path to t that is taken out of a net, edge by edge. -/
inductive Takes (t : V) : List (V × V) → V → List V → List (V × V) → Prop
  | stop {U : List (V × V)} : Takes t U t [t] U
  | step {U : List (V × V)} {x y : V} {q : List V} {W : List (V × V)} : x ≠ t → (x, y) ∈ U → Takes t (U.erase (x, y)) y q W → Takes t U x (x :: q) W
theorem of_erase {U : List (V × V)} {a e : V × V} (h : e ∈ U.erase a) : e ∈ U := List.mem_of_mem_erase h
variable {t x : V} {U W : List (V × V)} {q : List V}
theorem Takes.left (h : Takes t U x q W) {s : V} {k : Int} (hU : ∀ S : V → Prop, NS S U = k * (chi S s - chi S t) - (chi S s - chi S x)) : ∀ S : V → Prop, NS S W = k * (chi S s - chi S t) - (chi S s - chi S t) := by
  induction h with
  | stop => exact hU
  | step _ hy _ ih => exact ih (take_step hU hy)
theorem Takes.sub (h : Takes t U x q W) : ∀ e ∈ W, e ∈ U := by
  induction h with
  | stop => exact fun e he => he
  | step _ _ _ ih => exact fun e he => List.mem_of_mem_erase (ih e he)
theorem Takes.nodup (h : Takes t U x q W) (hn : U.Nodup) : W.Nodup := by
  induction h with
  | stop => exact hn
  | step _ _ _ ih => exact ih (hn.erase _)
theorem Takes.head (h : Takes t U x q W) : q.head? = some x := by
  cases h <;> rfl
/-- Each step is an edge of the net, and is gone behind. -/
theorem Takes.edge (h : Takes t U x q W) (hn : U.Nodup) : ∀ i a b, q[i]? = some a → q[i + 1]? = some b → (a, b) ∈ U ∧ (a, b) ∉ W := by
  induction h with
  | stop => intro i a b _ hb; simp at hb
  | @step U x y q W _ hy h ih =>
    have hh := h.head
    intro i a b ha hb
    cases i with
    | zero =>
      simp at ha
      subst ha
      cases q with
      | nil => simp at hh
      | cons c l =>
        simp at hh hb
        subst hh; subst hb
        refine ⟨hy, fun k => ?_⟩
        have := h.sub _ k
        exact (List.Nodup.not_mem_erase hn) this
    | succ i =>
      obtain ⟨k1, k2⟩ := ih (hn.erase _) i a b (by simpa using ha) (by simpa using hb)
      exact ⟨List.mem_of_mem_erase k1, k2⟩
/-- A node with one edge out at most has no two edges in, where as many come in as go out. -/
theorem one_in {v w : V} (hn : U.Nodup) (h0 : NS (· = v) U = 0) (hout : ∀ e ∈ U, e.1 = v → e = (v, w)) {a b : V} (ha : (a, v) ∈ U) (hb : (b, v) ∈ U) (hav : a ≠ v) (hbv : b ≠ v) : a = b := by
  apply Classical.byContradiction
  intro hab
  have e1 := NS_erase (· = v) ha
  have hne : (b, v) ≠ (a, v) := fun e => by injection e with e _; exact hab e.symm
  have hb' : (b, v) ∈ U.erase (a, v) := (List.mem_erase_of_ne hne).2 hb
  have e2 := NS_erase (· = v) hb'
  have c1 : chi (· = v) a = 0 := chi_neg hav
  have c2 : chi (· = v) b = 0 := chi_neg hbv
  have c3 : chi (· = v) v = 1 := chi_pos rfl
  simp only [c1, c2, c3] at e1 e2
  have hle : ∀ Z : List (V × V), Z.Nodup → (∀ e ∈ Z, e.1 = v → e = (v, w)) → NS (· = v) Z ≤ 1 := by
    have hz : ∀ Z : List (V × V), (∀ e ∈ Z, e.1 ≠ v) → NS (· = v) Z ≤ 0 := by
      intro Z
      induction Z with
      | nil => intro _; simp [NS]
      | cons a Z ih =>
        intro hZ
        have h1 := ih fun e he => hZ e (List.mem_cons_of_mem _ he)
        have h2 : chi (· = v) a.1 = 0 := chi_neg (hZ a List.mem_cons_self)
        have h3 := (chi_le (· = v) a.2).1
        simp only [NS, List.map_cons, List.sum_cons] at h1 ⊢
        omega
    intro Z hZn hZ
    by_cases hm : (v, w) ∈ Z
    · have e3 := NS_erase (· = v) hm
      have h4 := hz (Z.erase (v, w)) fun e he hev => by
        have := hZ e (List.mem_of_mem_erase he) hev
        subst this
        exact (List.Nodup.not_mem_erase hZn) he
      have h5 := (chi_le (· = v) w).1
      simp only [c3] at e3
      omega
    · have h4 := hz Z fun e he hev => hm (by rw [← hZ e he hev]; exact he)
      omega
  have h5 := hle ((U.erase (a, v)).erase (b, v)) ((hn.erase _).erase _) fun e he => hout e (List.mem_of_mem_erase (List.mem_of_mem_erase he))
  omega
end
/-- The blocks of a path's nodes, as they come in. -/
def outL (q : List Nd) : List Int := (q.filter fun y => !y.2).map (·.1)
/-- What can follow a block, or the source. -/
def NxI (f : FlowD) (i x y : Int) : Prop := (if x = i ∧ i < 0 then IsE f y else y ∈ nxB f x) ∧ (x = i ∧ i < 0 ∨ y ≠ i)
inductive BPath (f : FlowD) (i b : Int) : Int → List Int → Prop
  | last {x : Int} : NxI f i x b → BPath f i b x [b]
  | cons {x y : Int} {l : List Int} : NxI f i x y → y ≠ b → BPath f i b y l → BPath f i b x (y :: l)
theorem netG_out {f : FlowD} {i x : Int} {y : Nd} (h : NetG f i (x, true) y) : y.2 = false ∧ NxI f i x y.1 := by
  obtain ⟨h1, h2, _⟩ := h
  unfold linksL at h1
  simp only at h1 h2
  unfold NxI
  by_cases hx : x < 0
  · rw [if_pos hx] at h1
    have hxi : x = i := by omega
    obtain ⟨z, hz, rfl⟩ := List.mem_map.1 h1
    refine ⟨rfl, ?_, .inl ⟨hxi, by omega⟩⟩
    rw [if_pos ⟨hxi, by omega⟩]
    exact entries_isE.1 hz
  · rw [if_neg hx, if_neg (by simp)] at h1
    obtain ⟨z, hz, rfl⟩ := List.mem_map.1 h1
    obtain ⟨k1, k2⟩ := List.mem_filter.1 hz
    have k2 : z ≠ i := by simpa using k2
    refine ⟨rfl, ?_, .inr k2⟩
    rw [if_neg (by omega)]
    exact k1
theorem netG_in {f : FlowD} {i x : Int} {y : Nd} (h : NetG f i (x, false) y) : y = (x, true) ∧ 0 ≤ x := by
  obtain ⟨h1, h2, h3⟩ := h
  unfold linksL at h1
  simp only at h1 h2
  have hx : 0 ≤ x := by
    rcases h2 with h2 | h2
    · exact h2
    · subst h2; exact absurd rfl h3
  rw [if_neg (by omega), if_pos trivial] at h1
  exact ⟨by simpa using h1, hx⟩
theorem takes_path {f : FlowD} {i b : Int} : ∀ (n : Nat) (q : List Nd), q.length ≤ n → ∀ (U : List (Nd × Nd)) (x : Int) (W : List (Nd × Nd)), Takes ((b, false) : Nd) U (x, true) q W → (∀ e ∈ U, NetG f i e.1 e.2) → BPath f i b x (outL q.tail) := by
  intro n
  induction n with
  | zero =>
    intro q hq U x W h _
    cases h
    simp at hq
  | succ n ih =>
    intro q hq U x W h hG
    cases h with
    | step hx hy h =>
      rename_i y q
      obtain ⟨y1, y2⟩ := y
      obtain ⟨hy2, hnx⟩ := netG_out (hG _ hy)
      simp only at hy2 hnx
      subst hy2
      cases h with
      | stop =>
        show BPath f i b x [b]
        exact .last hnx
      | step hne hz h =>
        rename_i z q
        obtain ⟨rfl, hp⟩ := netG_in (hG _ (of_erase hz))
        have hb : y1 ≠ b := fun e => hne (by rw [e])
        have hl : q.length ≤ n := by simp at hq; omega
        have := ih q hl _ y1 _ h fun e he => hG e (of_erase (of_erase he))
        have hh := h.head
        cases q with
        | nil => simp at hh
        | cons c l =>
          simp at hh
          subst hh
          show BPath f i b x (y1 :: outL l)
          exact .cons hnx hb this
theorem BPath.last_ {f : FlowD} {i b x : Int} {l : List Int} (h : BPath f i b x l) : l.getLast? = some b ∧ b ∉ l.dropLast ∧ l ≠ [] := by
  induction h with
  | last => simp
  | @cons x y l _ hy h ih =>
    obtain ⟨h1, h2, h3⟩ := ih
    cases l with
    | nil => exact absurd rfl h3
    | cons a l =>
      refine ⟨by rw [List.getLast?_cons_cons]; exact h1, ?_, by simp⟩
      rw [List.dropLast_cons₂]
      rintro hm
      rcases List.mem_cons.1 hm with k | k
      · exact hy k.symm
      · exact h2 k
theorem BPath.step {f : FlowD} {i b x : Int} {l : List Int} (h : BPath f i b x l) (hn : ∀ y ∈ l, 0 ≤ y) (hi : i = -1 ∨ 0 ≤ i) (hni : 0 ≤ i → ∀ y ∈ l, y ≠ i) : ∀ j c d, l[j]? = some c → l[j + 1]? = some d → d ∈ nxB f c := by
  induction h with
  | last => intro j c d _ hd; simp at hd
  | @cons x y l hxy hy h ih =>
    intro j c d hc hd
    cases j with
    | zero =>
      simp at hc
      subst hc
      have hy0 := hn y (by simp)
      cases h with
      | last k =>
        simp at hd
        subst hd
        have := k.1
        rwa [if_neg (by omega)] at this
      | cons k _ _ =>
        simp at hd
        subst hd
        have := k.1
        rwa [if_neg (by omega)] at this
    | succ j => exact ih (fun z hz => hn z (List.mem_cons_of_mem _ hz)) (fun h0 z hz => hni h0 z (List.mem_cons_of_mem _ hz)) j c d (by simpa using hc) (by simpa using hd)
theorem BPath.nei {f : FlowD} {i b x : Int} {l : List Int} (h : BPath f i b x l) (hi : 0 ≤ i) : ∀ y ∈ l, y ≠ i := by
  induction h with
  | last k =>
    intro y hy
    simp at hy
    subst hy
    rcases k.2 with h | h
    · omega
    · exact h
  | cons k _ _ ih =>
    intro y hy
    rcases List.mem_cons.1 hy with rfl | hy
    · rcases k.2 with h | h
      · omega
      · exact h
    · exact ih y hy
end Go.Proofs.YtififjlgjmgikaaGreat
namespace Go.Proofs.YtififjlgjmgikaaGreat
set_option linter.all false

/-- The blocks of a path that is taken out. -/
def pathOf (i : Int) (q : List Nd) : List Int := (if 0 ≤ i then [i] else []) ++ outL q.tail
theorem BPath.reach {f : FlowD} {i b x : Int} {l : List Int} (h : BPath f i b x l) : (x = i ∧ (i = -1 ∨ 0 ≤ i ∧ RA f (fun _ => False) i) ∨ 0 ≤ x ∧ RA f (fun _ => False) x) → (∀ y, RA f (fun _ => False) y → 0 ≤ y) → ∀ y ∈ l, RA f (fun _ => False) y := by
  have one : ∀ x y, NxI f i x y → (x = i ∧ (i = -1 ∨ 0 ≤ i ∧ RA f (fun _ => False) i) ∨ 0 ≤ x ∧ RA f (fun _ => False) x) → RA f (fun _ => False) y := by
    intro x y k hx
    have k := k.1
    by_cases e : x = i ∧ i < 0
    · rw [if_pos e] at k
      exact .start ⟨k, fun k => k⟩
    · rw [if_neg e] at k
      have : RA f (fun _ => False) x := by
        rcases hx with ⟨rfl, h1 | h1⟩ | h1
        · exact absurd ⟨rfl, by omega⟩ e
        · exact h1.2
        · exact h1.2
      exact this.more k (fun k => k)
  induction h with
  | last k =>
    intro hx _ y hy
    simp at hy
    subst hy
    exact one _ _ k hx
  | cons k _ h ih =>
    intro hx hp y hy
    have h1 := one _ _ k hx
    rcases List.mem_cons.1 hy with rfl | hy
    · exact h1
    · exact ih (.inr ⟨hp _ h1, h1⟩) hp y hy
theorem BPath.head {f : FlowD} {i b x : Int} {l : List Int} (h : BPath f i b x l) : ∃ y k, l = y :: k ∧ NxI f i x y := by
  cases h with
  | last k => exact ⟨_, _, rfl, k⟩
  | cons k _ _ => exact ⟨_, _, rfl, k⟩
section
variable {c : CodeD} (hf : fineB c = true)
include hf
theorem ra_pos {x : Int} (h : RA (theFlow c) (fun _ => False) x) : 0 ≤ x ∧ x < (theFlow c).blocks.length := by
  obtain ⟨k, rfl, hk⟩ := reach_in hf h
  omega
theorem bpath_leads {i b : Int} {l : List Int} (h : NetP (theFlow c) i b) (hl : BPath (theFlow c) i b i l) {d : DominD} (hdb : d.block = b) (hdi : d.idom = i) : LeadsP (theFlow c) d ((if 0 ≤ i then [i] else []) ++ l) := by
  have hi := h.i_ok
  have hib := h.ne
  have hir : i = -1 ∨ 0 ≤ i ∧ RA (theFlow c) (fun _ => False) i := by
    rcases h.dom with ⟨h1, _⟩ | ⟨h1, h2⟩
    · exact .inl h1
    · exact .inr ⟨h1, h2.2.1.reached⟩
  have hre := hl.reach (.inl ⟨rfl, hir⟩) (fun y hy => (ra_pos hf hy).1)
  obtain ⟨h1, h2, h3⟩ := hl.last_
  obtain ⟨y, k, rfl, hy⟩ := hl.head
  have hstep := hl.step (fun z hz => (ra_pos hf (hre z hz)).1) hi (fun h0 z hz => hl.nei h0 z hz)
  subst hdb; subst hdi
  rcases hir with e | ⟨e, hr⟩
  · rw [if_neg (by omega), List.nil_append]
    refine ⟨by simp, fun z hz => ra_pos hf (hre z hz), h1, h2, hstep, ?_⟩
    rw [if_pos e]
    have := hy.1
    rw [if_pos ⟨rfl, by omega⟩] at this
    exact this.2
  · rw [if_pos e, List.singleton_append]
    refine ⟨by simp, fun z hz => ?_, by rw [List.getLast?_cons_cons]; exact h1, ?_, fun j a b' ha hb => ?_, ?_⟩
    · rcases List.mem_cons.1 hz with rfl | hz
      · exact ra_pos hf hr
      · exact ra_pos hf (hre z hz)
    · rw [List.dropLast_cons₂]
      rintro hm
      rcases List.mem_cons.1 hm with k | k
      · exact hib k.symm
      · exact h2 k
    · cases j with
      | zero =>
        simp at ha hb
        subst ha; subst hb
        have := hy.1
        rwa [if_neg (by omega)] at this
      | succ j => exact hstep j a b' (by simpa using ha) (by simpa using hb)
    · rw [if_neg (by omega)]
      exact ⟨rfl, fun hm => hl.nei e _ hm rfl⟩
omit hf in
/-- A block on a path stands behind another node of the path. -/
theorem out_mem {V : Type} {q : List (V × Bool)} {x : V} (h : x ∈ (q.tail.filter fun y => !y.2).map (·.1)) : ∃ j a, q[j]? = some a ∧ q[j + 1]? = some (x, false) := by
  obtain ⟨⟨z, o⟩, hz, rfl⟩ := List.mem_map.1 h
  obtain ⟨h1, h2⟩ := List.mem_filter.1 hz
  have : o = false := by simpa using h2
  subst this
  obtain ⟨j, hj⟩ := List.mem_iff_getElem?.1 h1
  rw [List.getElem?_tail] at hj
  have hl := (List.getElem?_eq_some_iff.1 hj).1
  exact ⟨j, q[j], List.getElem?_eq_getElem (by omega), hj⟩
/-- Two paths out of a net of two make a proof. -/
theorem net_proof {i b : Int} (h : NetP (theFlow c) i b) {U W W' : List (Nd × Nd)} {p p' : List Nd} (hU : FlowK ((i, true) : Nd) (b, false) 2 U) (hn : U.Nodup) (hG : ∀ e ∈ U, NetG (theFlow c) i e.1 e.2)
    (hp : Takes ((b, false) : Nd) U (i, true) p W) (hp' : Takes ((b, false) : Nd) W (i, true) p' W') : ProvesP (theFlow c) ⟨b, i, pathOf i p, pathOf i p'⟩ := by
  have hib := h.ne
  have hGW : ∀ e ∈ W, NetG (theFlow c) i e.1 e.2 := fun e he => hG e (hp.sub e he)
  have b1 := takes_path _ p (Nat.le_refl _) U i W hp hG
  have b2 := takes_path _ p' (Nat.le_refl _) W i W' hp' hGW
  refine ⟨fun he => ?_, fun hi => ?_, bpath_leads hf h b1 rfl rfl, bpath_leads hf h b2 rfl rfl, fun x hx hxb hxi hx2 => ?_⟩
  · simp only at he ⊢
    rcases h.dom with ⟨h1, _⟩ | ⟨h1, h2⟩
    · exact h1
    · exact absurd (RA.mono (S := (· = i)) (T := (· = i)) (.start ⟨⟨ra_pos hf h.hr, he⟩, fun e => hib e.symm⟩) fun _ k => k) h2.2.1.2
  · simp only at hi ⊢
    rcases h.dom with ⟨h1, _⟩ | ⟨h1, h2⟩
    · exact absurd h1 hi
    · have hr := h2.2.1.reached
      exact ⟨ra_pos hf hr, (reached_dom hf (ra_pos hf hr)).2 hr, hib⟩
  · simp only at hx hxb hxi hx2
    have own : ∀ {q : List Nd}, x ∈ pathOf i q → x ∈ outL q.tail := by
      intro q hq
      unfold pathOf at hq
      rcases List.mem_append.1 hq with k | k
      · by_cases e : 0 ≤ i
        · rw [if_pos e] at k; simp at k; exact absurd k hxi
        · rw [if_neg e] at k; simp at k
      · exact k
    obtain ⟨j1, a1, ha1, hx1⟩ := out_mem (own hx)
    obtain ⟨j2, a2, ha2, hx3⟩ := out_mem (own hx2)
    obtain ⟨k1, k2⟩ := hp.edge hn _ _ _ ha1 hx1
    obtain ⟨k3, k4⟩ := hp'.edge (hp.nodup hn) _ _ _ ha2 hx3
    have self : ∀ a : Nd, (a, ((x, false) : Nd)) ∈ U → a ≠ (x, false) := by
      intro a ha e
      subst e
      have := (netG_in (hG _ ha)).1
      injection this with _ e2
      cases e2
    have h0 : NS (· = ((x, false) : Nd)) U = 0 := by
      rw [hU, chi_neg, chi_neg]
      · rfl
      · intro e; injection e with e1 _; exact hxb e1.symm
      · intro e; injection e with _ e1; cases e1
    have := one_in (v := ((x, false) : Nd)) (w := (x, true)) hn h0 (fun e he hev => ?_) k1 (hp.sub _ k3) (self _ k1) (self _ (hp.sub _ k3))
    · rw [this] at k2
      exact k2 k3
    · obtain ⟨e1, e2⟩ := e
      simp only at hev
      subst hev
      have e3 := (netG_in (hG _ he)).1
      simp only at e3
      rw [e3]
end
end Go.Proofs.YtififjlgjmgikaaGreat
namespace Go.Proofs.YtififjlgjmgikaaGreat
set_option linter.all false

/-- What the program makes as a proof. -/
def MadeP (f : FlowD) (d : DominD) : Prop :=
  (d.idom < 0 ∧ f.entry.getD d.block.toNat false = true ∧ d.one = [d.block] ∧ d.two = [d.block]) ∨
  (0 ≤ d.idom ∧ d.block ∈ nxB f d.idom ∧ d.one = [d.idom, d.block] ∧ d.two = [d.idom, d.block]) ∨
  ((if d.idom < 0 then ¬ f.entry.getD d.block.toNat false = true else d.block ∉ nxB f d.idom) ∧ ∃ U W W' p p', FlowK ((d.idom, true) : Nd) (d.block, false) 2 U ∧ U.Nodup ∧ (∀ e ∈ U, NetG f d.idom e.1 e.2) ∧
    Takes ((d.block, false) : Nd) U (d.idom, true) p W ∧ Takes ((d.block, false) : Nd) W (d.idom, true) p' W' ∧ d.one = pathOf d.idom p ∧ d.two = pathOf d.idom p')
section
variable {c : CodeD} (hf : fineB c = true)
include hf
theorem net_of {b : Nat} (hb : b < (theFlow c).blocks.length) (hr : (theFlow c).reached.getD b false = true) (hfar : if idomB (theFlow c) b < 0 then ¬ (theFlow c).entry.getD b false = true else (b : Int) ∉ nxB (theFlow c) (idomB (theFlow c) b)) : NetP (theFlow c) (idomB (theFlow c) b) b := by
  refine ⟨by omega, (reached_iff hf hb).1 hr, ?_, ?_, fun x hx => (ra_pos hf hx).1⟩
  · rcases idom_spec hf hb with ⟨h1, _⟩ | ⟨_, h2, h3⟩ | ⟨_, m, h2, h3, h4⟩
    · rw [h1] at hr; cases hr
    · exact .inl ⟨h2, h3⟩
    · rw [h2]; exact .inr ⟨by omega, h4⟩
  · by_cases e : idomB (theFlow c) b < 0
    · rw [if_pos e] at hfar ⊢
      intro h
      exact hfar (by simpa using h.2)
    · rw [if_neg e] at hfar ⊢
      exact hfar
theorem made_ok {d : DominD} {b : Nat} (hb : b < (theFlow c).blocks.length) (hr : (theFlow c).reached.getD b false = true) (h1 : d.block = (b : Int)) (h2 : d.idom = idomB (theFlow c) b) (h : MadeP (theFlow c) d) : ProvesP (theFlow c) d := by
  obtain ⟨x, i, p, q⟩ := d
  simp only at h1 h2
  subst h1
  have hbr := (reached_iff hf hb).1 hr
  have hsp := idom_spec hf hb
  unfold MadeP at h
  simp only [Int.toNat_natCast] at h
  rcases h with ⟨k1, k2, k3, k4⟩ | ⟨k1, k2, k3, k4⟩ | ⟨k0, U, W, W', r, r', k1, k2, k3, k4, k5, k6, k7⟩
  · have hi : i = -1 := by
      rcases hsp with ⟨e, _⟩ | ⟨_, e, _⟩ | ⟨_, m, e, _⟩
      · rw [e] at hr; cases hr
      · omega
      · omega
    subst hi; subst k3; subst k4
    have hl : LeadsP (theFlow c) ⟨b, -1, [(b : Int)], [(b : Int)]⟩ [(b : Int)] := by
      refine ⟨by simp, fun y hy => ?_, rfl, by simp, fun j a b' _ hb' => by simp at hb', ?_⟩
      · simp at hy; subst hy; omega
      · rw [if_pos rfl]; simpa using k2
    refine ⟨fun _ => rfl, fun e => absurd rfl e, hl, hl, fun y hy hyb => ?_⟩
    simp at hy
    exact absurd hy hyb
  · obtain ⟨hib, hid⟩ : i ≠ (b : Int) ∧ DomP (theFlow c) i b := by
      rcases hsp with ⟨e, _⟩ | ⟨_, e, _⟩ | ⟨_, m, e, _, hm⟩
      · rw [e] at hr; cases hr
      · omega
      · rw [h2, e]; exact ⟨hm.1, hm.2.1⟩
    have hir := ra_pos hf hid.reached
    subst k3; subst k4
    have hl : LeadsP (theFlow c) ⟨b, i, [i, (b : Int)], [i, (b : Int)]⟩ [i, (b : Int)] := by
      refine ⟨by simp, fun y hy => ?_, rfl, ?_, fun j a b' ha hb' => ?_, ?_⟩
      · simp at hy
        rcases hy with rfl | rfl
        · exact hir
        · omega
      · simp; exact fun e => hib e.symm
      · cases j with
        | zero => simp at ha hb'; subst ha; subst hb'; exact k2
        | succ j => simp at hb'
      · simp only
        rw [if_neg (by omega)]
        refine ⟨rfl, ?_⟩
        simpa using hib
    refine ⟨fun he => ?_, fun _ => ⟨hir, (reached_dom hf hir).2 hid.reached, hib⟩, hl, hl, fun y hy hyb hyi => ?_⟩
    · exfalso
      exact hid.2 (.start ⟨⟨by omega, he⟩, fun e => hib e.symm⟩)
    · simp at hy
      rcases hy with e | e
      · exact absurd e hyi
      · exact absurd e hyb
  · subst k6; subst k7
    rw [h2] at k0 k1 k3 k4 k5 ⊢
    exact net_proof hf (net_of hf hb hr k0) k1 k2 k3 k4 k5
variable {l : List DominD} (hw : l.map (·.block) = wantL (theFlow c)) (hi : ∀ d ∈ l, d.idom = idomB (theFlow c) d.block.toNat)
include hw hi
theorem idom_at {b : Nat} (hb : b < (theFlow c).blocks.length) (hr : (theFlow c).reached.getD b false = true) : idomAt l b = idomB (theFlow c) b := by
  have h1 : (b : Int) ∈ l.map (·.block) := by
    rw [hw]
    exact wantL_mem.2 ⟨by omega, by simpa [rchB] using hr⟩
  obtain ⟨d, hd, e⟩ := List.mem_map.1 h1
  have := idomAt_of (by rw [hw]; exact wantL_nodup _) hd
  rw [e, hi d hd, e, Int.toNat_natCast] at this
  exact this
theorem met_all : ∀ (n b : Nat), b < (theFlow c).blocks.length → (theFlow c).reached.getD b false = true → domN (theFlow c) b ≤ n → metP l b (-1) ∧ ∀ a : Int, DomP (theFlow c) a b → metP l b a := by
  intro n
  induction n with
  | zero =>
    intro b hb hr hn
    have h1 := DomP.refl ((reached_iff hf hb).1 hr)
    have h2 : 0 < domN (theFlow c) b := by
      unfold domN
      exact List.length_pos_of_mem (List.mem_filter.2 ⟨List.mem_range.2 hb, by simpa using h1⟩)
    omega
  | succ n ih =>
    intro b hb hr hn
    have hs : stepI l b = idomB (theFlow c) b := by
      unfold stepI
      rw [if_neg (by omega)]
      exact idom_at hf hw hi hb hr
    rcases idom_spec hf hb with ⟨h1, _⟩ | ⟨_, h2, h3⟩ | ⟨_, m, h2, h3, h4⟩
    · rw [h1] at hr; cases hr
    · refine ⟨⟨1, by rw [itI, hs, h2]; rfl⟩, fun a ha => ⟨0, ?_⟩⟩
      exact Classical.byContradiction fun k => h3 a (fun e => k (by rw [e]; rfl)) ha
    · have hmr := (reached_iff hf h3).2 h4.2.1.reached
      have hlt : domN (theFlow c) m < domN (theFlow c) b := by
        unfold domN
        refine filter_lt (y := b) (fun x hx hp => ?_) (List.mem_range.2 hb) (by simpa using DomP.refl ((reached_iff hf hb).1 hr)) ?_
        · simp only [decide_eq_true_eq] at hp ⊢
          exact hp.trans h4.2.1
        · simp only [decide_eq_false_iff_not]
          intro hbm
          exact h4.1 (h4.2.1.antisym hbm)
      obtain ⟨k1, k2⟩ := ih m h3 hmr (by omega)
      have up : ∀ a : Int, metP l m a → metP l b a := by
        rintro a ⟨k, hk⟩
        exact ⟨k + 1, by rw [itI, hs, h2]; exact hk⟩
      refine ⟨up _ k1, fun a ha => ?_⟩
      by_cases e : a = b
      · subst e; exact ⟨0, rfl⟩
      · exact up _ (k2 a (h4.2.2 a e ha))
/-- The proofs that the program makes are right. -/
theorem prf_all (ha : ∀ d ∈ l, MadeP (theFlow c) d) : PrfP (theFlow c) l := by
  have hblk : ∀ d ∈ l, ∃ b : Nat, d.block = (b : Int) ∧ b < (theFlow c).blocks.length ∧ (theFlow c).reached.getD b false = true := by
    intro d hd
    have h1 : d.block ∈ wantL (theFlow c) := by rw [← hw]; exact List.mem_map_of_mem hd
    obtain ⟨h2, h3⟩ := wantL_mem.1 h1
    exact ⟨d.block.toNat, by omega, by omega, by simpa [rchB] using h3⟩
  refine ⟨hw, fun d hd => ?_, fun d hd => ?_, fun e he hne => ?_⟩
  · obtain ⟨b, h1, h2, h3⟩ := hblk d hd
    exact made_ok hf h2 h3 h1 (by rw [hi d hd, h1, Int.toNat_natCast]) (ha d hd)
  · obtain ⟨b, h1, h2, h3⟩ := hblk d hd
    rw [h1]
    exact (met_all hf hw hi _ b h2 h3 (Nat.le_refl _)).1
  · obtain ⟨x, y⟩ := e
    obtain ⟨h1, h2, h3⟩ := edgesR_mem.1 he
    simp only at h1 h2 h3 hne ⊢
    obtain ⟨v, rfl⟩ : ∃ v : Nat, x = (v : Int) := ⟨x.toNat, by omega⟩
    rw [Int.toNat_natCast] at h2
    have hv : v < (theFlow c).blocks.length := by omega
    have hvr := (reached_iff hf hv).1 h2
    have hyr := hvr.more h3 (fun k => k)
    obtain ⟨w, rfl, hwl⟩ := reach_in hf hyr
    have hwr := (reached_iff hf hwl).2 hyr
    rw [idom_at hf hw hi hwl hwr] at hne ⊢
    refine (met_all hf hw hi _ v hv h2 (Nat.le_refl _)).2 _ ?_
    rcases idom_spec hf hwl with ⟨k, _⟩ | ⟨_, k, _⟩ | ⟨_, m, k, hm, hd⟩
    · rw [k] at hwr; cases hwr
    · exact absurd k hne
    · rw [k]
      exact ⟨hvr, fun k2 => hd.2.1.2 (k2.more h3 fun e => hd.1 e.symm)⟩
end
end Go.Proofs.YtififjlgjmgikaaGreat
namespace Go.Proofs.YtififjlgjmgikaaGreat
set_option linter.all false

section
variable {V : Type} [DecidableEq V]
def hasQ (l : List (V × Value)) (x : V) : Prop := (mget l x).isSome = true
theorem hasQ_put {l : List (V × Value)} {k x : V} {v : Value} : hasQ (mput l k v) x ↔ x = k ∨ hasQ l x := by
  unfold hasQ
  rw [mget_put]
  by_cases h : x = k <;> simp [h]
structure WkB (enc : V → Value) (D : V → Prop) (fr : List V) (R : V → V → Prop) (l : List (V × Value)) (ρ : V → Nat) (N : Nat) : Prop where
  vals : ∀ x v, mget l x = some v → D x ∧ ρ x < N ∧ ∃ p : V, v = enc p ∧ ((p = x ∧ x ∈ fr) ∨ (p ≠ x ∧ R p x ∧ hasQ l p ∧ ρ p < ρ x))
structure WkI (enc : V → Value) (D : V → Prop) (fr : List V) (R : V → V → Prop) (l : List (V × Value)) (ρ : V → Nat) (N : Nat) (q : List V) : Prop extends WkB enc D fr R l ρ N where
  start : ∀ x ∈ fr, hasQ l x
  queue : ∀ x ∈ q, hasQ l x
  step : ∀ x, hasQ l x → x ∈ q ∨ ∀ y, R x y → hasQ l y
structure WkJ (enc : V → Value) (D : V → Prop) (fr : List V) (R : V → V → Prop) (l : List (V × Value)) (ρ : V → Nat) (N : Nat) (q : List V) (x : V) (ys : List V) (j : Nat) : Prop extends WkB enc D fr R l ρ N where
  start : ∀ x ∈ fr, hasQ l x
  queue : ∀ x ∈ q, hasQ l x
  has : hasQ l x
  pre : ∀ y ∈ ys.take j, hasQ l y
  step : ∀ z, hasQ l z → z ∈ q ∨ z = x ∨ ∀ y, R z y → hasQ l y
variable {enc : V → Value} {D : V → Prop} {fr : List V} {R : V → V → Prop} {l : List (V × Value)} {ρ : V → Nat} {N : Nat} {q : List V} {x : V} {ys : List V} {j : Nat}
theorem WkB.lay (hinj : ∀ a b, enc a = enc b → a = b) (h : WkB enc D fr R l ρ N) (hx : x ∈ fr) (hr : D x) (hf : ∀ y v, mget l y = some v → v = enc y) : WkB enc D fr R (mput l x (enc x)) (fun _ => 0) 1 ∧ ∀ y v, mget (mput l x (enc x)) y = some v → v = enc y := by
  refine ⟨⟨fun y v hy => ?_⟩, fun y v hy => ?_⟩
  · rw [mget_put] at hy
    split at hy
    · rename_i e; subst e; cases hy; exact ⟨hr, by omega, y, rfl, .inl ⟨rfl, hx⟩⟩
    · obtain ⟨h1, _, p, h3, h4⟩ := h.vals y v hy
      refine ⟨h1, by omega, y, hf y v hy, .inl ⟨rfl, ?_⟩⟩
      rcases h4 with ⟨_, h4⟩ | ⟨h5, _⟩
      · exact h4
      · have := hf y v hy
        rw [h3] at this
        exact absurd (hinj _ _ this) h5
  · rw [mget_put] at hy
    split at hy
    · rename_i e; subst e; cases hy; rfl
    · exact hf y v hy
theorem WkB.nil : WkB enc D fr R [] (fun _ => 0) 1 := ⟨fun x v h => by cases h⟩
theorem WkI.pop (h : WkI enc D fr R l ρ N (x :: q)) (ys : List V) : WkJ enc D fr R l ρ N q x ys 0 :=
  ⟨h.toWkB, h.start, fun y hy => h.queue y (by simp [hy]), h.queue x (by simp), fun y hy => by simp at hy, fun z hz => by
    rcases h.step z hz with h1 | h1
    · simp at h1
      rcases h1 with h1 | h1
      · exact .inr (.inl h1)
      · exact .inl h1
    · exact .inr (.inr h1)⟩
theorem WkJ.skip {y : V} (h : WkJ enc D fr R l ρ N q x ys j) (hy : ys[j]? = some y) (hk : hasQ l y) : WkJ enc D fr R l ρ N q x ys (j + 1) :=
  ⟨h.toWkB, h.start, h.queue, h.has, fun z hz => by
    rw [List.take_add_one, hy] at hz
    simp at hz
    rcases hz with hz | rfl
    · exact h.pre z hz
    · exact hk, h.step⟩
theorem WkJ.add {y : V} (h : WkJ enc D fr R l ρ N q x ys j) (hy : ys[j]? = some y) (hk : ¬ hasQ l y) (hr : D y) (hR : R x y) :
    WkJ enc D fr R (mput l y (enc x)) (fun z => if z = y then N else ρ z) (N + 1) (q ++ [y]) x ys (j + 1) := by
  have hxy : x ≠ y := fun e => hk (e ▸ h.has)
  refine ⟨⟨fun z v hz => ?_⟩, fun z hz => hasQ_put.2 (.inr (h.start z hz)), fun z hz => ?_, hasQ_put.2 (.inr h.has), fun z hz => ?_, fun z hz => ?_⟩
  · rw [mget_put] at hz
    split at hz
    · rename_i e
      subst e
      cases hz
      obtain ⟨v, hv⟩ := Option.isSome_iff_exists.1 h.has
      have := (h.vals x v hv).2.1
      refine ⟨hr, by simp, x, rfl, .inr ⟨hxy, hR, hasQ_put.2 (.inr h.has), ?_⟩⟩
      simp [hxy]
      exact this
    · rename_i e
      obtain ⟨h1, h2, p, h3, h4⟩ := h.vals z v hz
      refine ⟨h1, by simp [e]; omega, p, h3, ?_⟩
      rcases h4 with h4 | ⟨h5, h6, h7, h8⟩
      · exact .inl h4
      · have hp : p ≠ y := fun e' => hk (e' ▸ h7)
        exact .inr ⟨h5, h6, hasQ_put.2 (.inr h7), by simp [e, hp]; exact h8⟩
  · simp at hz
    rcases hz with hz | rfl
    · exact hasQ_put.2 (.inr (h.queue z hz))
    · exact hasQ_put.2 (.inl rfl)
  · rw [List.take_add_one, hy] at hz
    simp at hz
    rcases hz with hz | rfl
    · exact hasQ_put.2 (.inr (h.pre z hz))
    · exact hasQ_put.2 (.inl rfl)
  · rcases hasQ_put.1 hz with rfl | hz
    · exact .inl (by simp)
    · rcases h.step z hz with h1 | h1 | h1
      · exact .inl (by simp [h1])
      · exact .inr (.inl h1)
      · exact .inr (.inr fun y' hy' => hasQ_put.2 (.inr (h1 y' hy')))
theorem WkJ.finish (h : WkJ enc D fr R l ρ N q x ys j) (hys : ∀ y, R x y → y ∈ ys) (hj : ys.length ≤ j) : WkI enc D fr R l ρ N q :=
  ⟨h.toWkB, h.start, h.queue, fun z hz => by
    rcases h.step z hz with h1 | rfl | h1
    · exact .inl h1
    · exact .inr fun y hy => h.pre y (by rw [List.take_of_length_le hj]; exact hys y hy)
    · exact .inr h1⟩
/-- All that can be reached has a place in the map. -/
theorem WkI.reach {s : V} (h : WkI enc D [s] R l ρ N []) {y : V} (hr : From R s y) : hasQ l y := by
  induction hr with
  | start => exact h.start _ (by simp)
  | step _ h1 ih => exact ((h.step _ ih).resolve_left (by simp)) _ h1
/-- Reading a path back: how far it is read, and what the net has become. -/
structure BackI (R : V → V → Prop) (ρ : V → Nat) (U : List (V × V)) (t x : V) (p : List V) (W : List (V × V)) : Prop where
  last : (x :: p).getLast? = some t
  steps : ∀ i a b, (x :: p)[i]? = some a → (x :: p)[i + 1]? = some b → R a b
  up : (x :: p).Pairwise fun a b => ρ a < ρ b
  net : W = augL U (x :: p)
theorem BackI.init {U : List (V × V)} {t : V} : BackI R ρ U t t [] U := ⟨rfl, fun i a b _ h => by simp at h, by simp, rfl⟩
theorem BackI.more {U W : List (V × V)} {t x y : V} {p : List V} (h : BackI R ρ U t x p W) (hR : R y x) (hρ : ρ y < ρ x) : BackI R ρ U t y (x :: p) (augS W y x) := by
  refine ⟨by rw [List.getLast?_cons_cons]; exact h.last, fun i a b ha hb => ?_, ?_, by rw [h.net]; rfl⟩
  · cases i with
    | zero => simp at ha hb; subst ha; subst hb; exact hR
    | succ i => exact h.steps i a b (by simpa using ha) (by simpa using hb)
  · have hu := h.up
    rw [List.pairwise_cons] at hu ⊢
    refine ⟨fun b hb => ?_, h.up⟩
    rcases List.mem_cons.1 hb with rfl | hb
    · exact hρ
    · exact Nat.lt_trans hρ (hu.1 b hb)
/-- The net with one more path. -/
theorem BackI.fin {G : V → V → Prop} {U W : List (V × V)} {s t : V} {k : Int} {p : List V} (h : BackI R ρ U t s p W) (hR : ∀ a b, R a b → Resid G U a b) (hU : FlowK s t k U) (hn : U.Nodup) (hG : ∀ e ∈ U, G e.1 e.2) : FlowK s t (k + 1) W ∧ W.Nodup ∧ ∀ e ∈ W, G e.1 e.2 := by
  rw [h.net]
  refine aug_flow hU hn hG (h.up.imp fun hab e => ?_) h.last fun i a b ha hb => hR _ _ (h.steps i a b ha hb)
  subst e
  exact Nat.lt_irrefl _ hab
/-- The next node read back. -/
theorem WkI.back {s x : V} (h : WkI enc D [s] R l ρ N []) (hx : hasQ l x) (hxs : x ≠ s) : ∃ y, mget l x = some (enc y) ∧ hasQ l y ∧ R y x ∧ ρ y < ρ x := by
  obtain ⟨v, hv⟩ := Option.isSome_iff_exists.1 hx
  obtain ⟨_, _, p, rfl, h4⟩ := h.vals x v hv
  rcases h4 with ⟨_, h4⟩ | ⟨_, h6, h7, h8⟩
  · simp at h4; exact absurd h4 hxs
  · exact ⟨p, hv, h7, h6, h8⟩
end
end Go.Proofs.YtififjlgjmgikaaGreat
