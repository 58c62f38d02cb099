/- A region that draws its order, walked by a plan: what reads is taken when it may come up, whatever else comes up alone (no program). A region that draws its order and ends in a store: behind the store nothing has to hold. The same inside a fence that lets every function by (a round of a loop over an iterator): walked by a plan; it may end in a store (no program). -/
import Derived.Test.YtififjlgjmgikaaGreatBase
import Derived.Deep.RegionHeld3
import Derived.OrdersIn
import Derived.TacticsIn
namespace Go.Proofs.YtififjlgjmgikaaGreat
set_option linter.all false

section
variable {P : Program} {l : List Oper} {Q : Exit → Act → World → Prop} {S : World → Prop}
def planB (ops : Array Oper) : List (Nat × Bool) → Array Bool → Bool
  | [], listed => (Region.ready .any ops listed).isEmpty
  | (i, true) :: r, listed => Region.free .any ops listed i && (Region.ready .any ops listed).contains i && (ops[i]?).isSome && planB ops r (listed.setIfInBounds i true)
  | (i, false) :: r, listed => (Region.ready .any ops listed == [i]) && (ops[i]?).isSome && planB ops r (listed.setIfInBounds i true)
def wpPlan (P : Program) (l : List Oper) (Q : Exit → Act → World → Prop) (S : World → Prop) : List (Nat × Bool) → Act → World → Prop
  | [], a, w => Q .normal a w
  | (i, true) :: r, a, w => ∃ o v, l[i]? = some o ∧ YieldsIf P l.toArray S o v a ∧ wpPlan P l Q S r (a.put o.dst v) w
  | (i, false) :: r, a, w => ∃ o, l[i]? = some o ∧ ∀ K : Act → World → Prop, Shut (∀ a' w', S w' → wpPlan P l Q S r a' w' → K a' w') → if Region.wanted o (yielded l.toArray a.tmps) = true then Oper.wp P o a w K Q else K (a.put o.dst undef) w
theorem plan_read {i : Nat} {r : List (Nat × Bool)} {a : Act} {w : World} {o : Oper} {v : Value} (ho : l[i]? = some o) (hw : Region.wanted o (yielded l.toArray a.tmps) = true)
    (hy : ∀ w', S w' → (execOp a.eval o).run P w' = .ok (.value v) w') (h : wpPlan P l Q S r (a.put o.dst v) w) : wpPlan P l Q S ((i, true) :: r) a w := ⟨o, v, ho, .inl ⟨hw, hy⟩, h⟩
theorem plan_skip {i : Nat} {r : List (Nat × Bool)} {a : Act} {w : World} {o : Oper} (ho : l[i]? = some o) (hw : Region.wanted o (yielded l.toArray a.tmps) = false)
    (h : wpPlan P l Q S r (a.put o.dst undef) w) : wpPlan P l Q S ((i, true) :: r) a w := ⟨o, undef, ho, .inr ⟨hw, rfl⟩, h⟩
theorem plan_step {i : Nat} {r : List (Nat × Bool)} {a : Act} {w : World} {o : Oper} (ho : l[i]? = some o) (hw : Region.wanted o (yielded l.toArray a.tmps) = true)
    (h : ∀ K : Act → World → Prop, Shut (∀ a' w', S w' → wpPlan P l Q S r a' w' → K a' w') → Oper.wp P o a w K Q) : wpPlan P l Q S ((i, false) :: r) a w := ⟨o, ho, fun K hK => by rw [if_pos hw]; exact h K hK⟩
theorem plan_pass {i : Nat} {r : List (Nat × Bool)} {a : Act} {w : World} {o : Oper} (ho : l[i]? = some o) (hw : Region.wanted o (yielded l.toArray a.tmps) = false) (hS : S w)
    (h : wpPlan P l Q S r (a.put o.dst undef) w) : wpPlan P l Q S ((i, false) :: r) a w := ⟨o, ho, fun K hK => by rw [if_neg (by rw [hw]; simp)]; exact hK.out _ _ hS h⟩
theorem plan_nil {a : Act} {w : World} (h : Q .normal a w) : wpPlan P l Q S [] a w := h
theorem plan_any (hs : Region.noSelect l.toArray = true) (hQ : ∀ c d v a w, Q (.panic c) (a.put d v) w → Q (.panic c) a w) : ∀ (plan : List (Nat × Bool)) (listed : Array Bool) (a : Act) (w : World),
    planB l.toArray plan listed = true → S w → wpPlan P l Q S plan a w → wpAnyH P .any l.toArray Q S plan.length listed a w
  | [], listed, a, w, hb, _, h => ⟨by simpa [planB] using hb, h⟩
  | (i, true) :: r, listed, a, w, hb, hS, h => by
    simp only [planB, Bool.and_eq_true] at hb
    obtain ⟨o, v, ho, hy, h⟩ := h
    exact wpAnyH_take (by rw [List.getElem?_toArray]; exact ho) hs hb.1.1.1 hb.1.1.2 (fun c a w => hQ c o.dst v a w) hy hS (plan_any hs hQ r _ _ _ hb.2 hS h)
  | (i, false) :: r, listed, a, w, hb, hS, h => by
    simp only [planB, Bool.and_eq_true, beq_iff_eq] at hb
    obtain ⟨o, ho, h⟩ := h
    refine wpAnyH_ready (rs := [i]) hb.1.1 (by simp) (AllReadyH.cons (by rw [List.getElem?_toArray]; exact ho) (fun K hK => ?_) AllReadyH.nil)
    exact h K fun a' w' hS' hp => hK.out a' w' hS' fun _ => plan_any hs hQ r _ _ _ hb.2 hS' hp
theorem wp_region_plan (S : World → Prop) (plan : List (Nat × Bool)) {id : Nat} {a : Act} {w : World} (hm : P.follows .mixedOrders = true) (hs : Region.noSelect l.toArray = true)
    (hb : (planB l.toArray plan (Array.replicate l.length false) && plan.length == l.length) = true) (hS : S w.drew) (h : wpPlan P l (NoPanic Q) S plan a w.drew) : (Code.region id l.toArray true).wp P Q a w := by
  refine wp_region_noPanic (wp_region_held (S := S) hm ?_)
  simp only [Bool.and_eq_true, beq_iff_eq] at hb
  have h1 := plan_any (Q := NoPanic Q) hs (fun c d v a w h => h.elim) plan _ a _ hb.1 hS h
  rw [hb.2] at h1
  rw [List.size_toArray]
  exact h1
end
end Go.Proofs.YtififjlgjmgikaaGreat
namespace Go.Proofs.YtififjlgjmgikaaGreat
set_option linter.all false

section
variable {P : Program} {md : Region.Mode} {ops : Array Oper} {Q : Exit → Act → World → Prop} {S : World → Prop} {last : Nat}
def wpAnyF (P : Program) (md : Region.Mode) (ops : Array Oper) (Q : Exit → Act → World → Prop) (S : World → Prop) (last : Nat) : Nat → Array Bool → Act → World → Prop
  | 0, listed, a, w => Region.ready md ops listed = [] ∧ Q .normal a w
  | fuel + 1, listed, a, w =>
    (Region.ready md ops listed = [] → Q .normal a w) ∧
    ∀ i ∈ Region.ready md ops listed, wpOp P ops Q i (fun a' w' => (i = last ∨ S w') ∧ wpAnyF P md ops Q S last fuel (listed.setIfInBounds i true) a' w') a w
theorem wpAny_of_F : ∀ (fuel : Nat) (listed : Array Bool) (a : Act) (w : World), wpAnyF P md ops Q S last fuel listed a w → wpAny P md ops Q fuel listed a w
  | 0, _, _, _, h => h
  | fuel + 1, _, _, _, h => ⟨h.1, fun i hi => wpOp_mono (fun a' w' h' => wpAny_of_F fuel _ a' w' h'.2) (h.2 i hi)⟩
theorem wpAnyF_first {i : Nat} {oi : Oper} {v : Value} (hi : ops[i]? = some oi) (hsel : ∀ (j : Nat) (o : Oper) cs b, ops[j]? = some o → o.op ≠ .select cs b)
    (hQ : ∀ c a w, Q (.panic c) (a.put oi.dst v) w → Q (.panic c) a w) (hlast : ∀ ol, ops[last]? = some ol → ∃ e ∈ ol.after, Region.binds md e = true ∧ e.on = i) :
    ∀ (fuel : Nat) (listed : Array Bool) (a : Act) (w : World),
      (∀ j oj, ops[j]? = some oj → j ≠ i → listed.getD j true = false → (∀ e ∈ oj.after, Region.binds md e = true → e.on ≠ i) → oi.apart ops oj = true) →
      i ∈ Region.ready md ops listed → YieldsIf P ops S oi v a → S w →
      wpAnyF P md ops Q S last fuel (listed.setIfInBounds i true) (a.put oi.dst v) w → wpAnyF P md ops Q S last (fuel + 1) listed a w := by
  intro fuel
  induction fuel with
  | zero =>
    intro listed a w _ hr hy hS H
    refine ⟨fun h => (by rw [h] at hr; cases hr), fun j hj => ?_⟩
    by_cases hji : j = i
    · subst hji; exact hy.wpOp hi hS ⟨.inr hS, H⟩
    · have := ready_mono hj hji
      rw [H.1] at this
      cases this
  | succ fuel ih =>
    intro listed a w hfree hr hy hS H
    refine ⟨fun h => (by rw [h] at hr; cases hr), fun j hj => ?_⟩
    by_cases hji : j = i
    · subst hji; exact hy.wpOp hi hS ⟨.inr hS, H⟩
    · have h1 := H.2 j (ready_mono hj hji)
      obtain ⟨hjun, oj, hoj, hall⟩ := mem_ready.1 hj
      have hnot : ∀ e ∈ oj.after, Region.binds md e = true → e.on ≠ i := fun e he hb heq => by
        have h1 := hall e he hb
        have h0 := (mem_ready.1 hr).1
        rw [heq] at h1
        rcases Nat.lt_or_ge i listed.size with h' | h'
        · simp [h'] at h0 h1; rw [h0] at h1; cases h1
        · simp [Array.getElem?_eq_none h'] at h1
      have hjl : j ≠ last := fun e => by
        subst e
        obtain ⟨e, he, hb, hon⟩ := hlast _ hoj
        exact hnot e he hb hon
      have h2 := wpOp_putIf hoj (hfree j oj hoj hji hjun hnot) (fun cs b => hsel i oi cs b hi) (fun cs b => hsel j oj cs b hoj) hQ hy h1
      have hfree' : ∀ k ok, ops[k]? = some ok → k ≠ i → (listed.setIfInBounds j true).getD k true = false →
          (∀ e ∈ ok.after, Region.binds md e = true → e.on ≠ i) → oi.apart ops ok = true := fun k ok hk hki hun hno => by
        refine hfree k ok hk hki ?_ hno
        by_cases hjk : j = k
        · subst hjk; exact hjun
        · rw [getD_set_ne true hjk] at hun; exact hun
      refine wpOp_mono (fun a' w' h3 => ⟨h3.2.1, ih (listed.setIfInBounds j true) a' w' hfree' (ready_mono hr (Ne.symm hji)) h3.1 (h3.2.1.resolve_left hjl) ?_⟩) h2
      rw [Array.setIfInBounds_comm _ _ hji]
      exact h3.2.2
def planFB (ops : Array Oper) (last : Nat) : List (Nat × Bool) → Array Bool → Bool
  | [], listed => (Region.ready .any ops listed).isEmpty
  | (i, true) :: r, listed => Region.free .any ops listed i && (Region.ready .any ops listed).contains i && (ops[i]?).isSome && (match ops[last]? with | some ol => ol.after.any (fun e => Region.binds .any e && e.on == i) | none => true) && planFB ops last r (listed.setIfInBounds i true)
  | (i, false) :: r, listed => (Region.ready .any ops listed == [i]) && (ops[i]?).isSome && (i != last || r.isEmpty) && planFB ops last r (listed.setIfInBounds i true)
end
section
variable {P : Program} {l : List Oper} {Q : Exit → Act → World → Prop} {S : World → Prop} {last : Nat}
/-- As wpPlan, but a step numbered 'last' need not keep S. -/
def wpPlanF (P : Program) (l : List Oper) (Q : Exit → Act → World → Prop) (S : World → Prop) (last : Nat) : List (Nat × Bool) → Act → World → Prop
  | [], a, w => Q .normal a w
  | (i, true) :: r, a, w => ∃ o v, l[i]? = some o ∧ YieldsIf P l.toArray S o v a ∧ wpPlanF P l Q S last r (a.put o.dst v) w
  | (i, false) :: r, a, w => ∃ o, l[i]? = some o ∧ ∀ K : Act → World → Prop, Shut (∀ a' w', (i = last ∨ S w') → wpPlanF P l Q S last r a' w' → K a' w') → if Region.wanted o (yielded l.toArray a.tmps) = true then Oper.wp P o a w K Q else K (a.put o.dst undef) w
theorem planF_read {i : Nat} {r : List (Nat × Bool)} {a : Act} {w : World} {o : Oper} {v : Value} (ho : l[i]? = some o) (hw : Region.wanted o (yielded l.toArray a.tmps) = true)
    (hy : ∀ w', S w' → (execOp a.eval o).run P w' = .ok (.value v) w') (h : wpPlanF P l Q S last r (a.put o.dst v) w) : wpPlanF P l Q S last ((i, true) :: r) a w := ⟨o, v, ho, .inl ⟨hw, hy⟩, h⟩
theorem planF_skip {i : Nat} {r : List (Nat × Bool)} {a : Act} {w : World} {o : Oper} (ho : l[i]? = some o) (hw : Region.wanted o (yielded l.toArray a.tmps) = false)
    (h : wpPlanF P l Q S last r (a.put o.dst undef) w) : wpPlanF P l Q S last ((i, true) :: r) a w := ⟨o, undef, ho, .inr ⟨hw, rfl⟩, h⟩
theorem planF_step {i : Nat} {r : List (Nat × Bool)} {a : Act} {w : World} {o : Oper} (ho : l[i]? = some o) (hw : Region.wanted o (yielded l.toArray a.tmps) = true)
    (h : ∀ K : Act → World → Prop, Shut (∀ a' w', (i = last ∨ S w') → wpPlanF P l Q S last r a' w' → K a' w') → Oper.wp P o a w K Q) : wpPlanF P l Q S last ((i, false) :: r) a w := ⟨o, ho, fun K hK => by rw [if_pos hw]; exact h K hK⟩
theorem planF_nil {a : Act} {w : World} (h : Q .normal a w) : wpPlanF P l Q S last [] a w := h
theorem planF_any (hs : Region.noSelect l.toArray = true) (hQ : ∀ c d v a w, Q (.panic c) (a.put d v) w → Q (.panic c) a w) : ∀ (plan : List (Nat × Bool)) (listed : Array Bool) (a : Act) (w : World),
    planFB l.toArray last plan listed = true → (plan = [] ∨ S w) → wpPlanF P l Q S last plan a w → wpAnyF P .any l.toArray Q S last plan.length listed a w
  | [], listed, a, w, hb, _, h => ⟨by simpa [planFB] using hb, h⟩
  | (i, true) :: r, listed, a, w, hb, hS, h => by
    simp only [planFB, Bool.and_eq_true] at hb
    have hS : S w := hS.resolve_left (by simp)
    obtain ⟨o, v, ho, hy, h⟩ := h
    have ho' : l.toArray[i]? = some o := by rw [List.getElem?_toArray]; exact ho
    refine wpAnyF_first ho' (Region.noSelect_spec hs) (fun c a w => hQ c o.dst v a w) (fun ol hl => ?_) _ listed a w (Region.free_spec ho' hb.1.1.1.1) (by simpa using hb.1.1.1.2) hy hS (planF_any hs hQ r _ _ _ hb.2 (.inr hS) h)
    have h1 := hb.1.2
    rw [hl] at h1
    obtain ⟨e, he, h2⟩ := Array.any_eq_true'.1 h1
    simp only [Bool.and_eq_true, beq_iff_eq] at h2
    exact ⟨e, he, h2.1, h2.2⟩
  | (i, false) :: r, listed, a, w, hb, hS, h => by
    simp only [planFB, Bool.and_eq_true, beq_iff_eq, Bool.or_eq_true] at hb
    obtain ⟨o, ho, h⟩ := h
    have ho' : l.toArray[i]? = some o := by rw [List.getElem?_toArray]; exact ho
    have hready : Region.ready .any l.toArray listed = [i] := hb.1.1.1
    show wpAnyF P .any l.toArray Q S last (r.length + 1) listed a w
    refine And.intro (fun h0 => absurd (hready.symm.trans h0) (by simp)) (fun j hj => ?_)
    rw [hready] at hj
    obtain rfl : j = i := by simpa using hj
    refine wpOp_step ho' (fun K' hK => h K' (fun a' w' hS' hp => hK a' w' ⟨hS', planF_any hs hQ r _ _ _ hb.2 ?_ hp⟩))
    rcases hS' with e | hS'
    · rcases hb.1.2 with h3 | h3
      · exact absurd e (by simpa using h3)
      · exact .inl (by simpa using h3)
    · exact .inr hS'
theorem wp_region_planF (S : World → Prop) (last : Nat) (plan : List (Nat × Bool)) {id : Nat} {a : Act} {w : World} (hm : P.follows .mixedOrders = true) (hs : Region.noSelect l.toArray = true)
    (hb : (planFB l.toArray last plan (Array.replicate l.length false) && plan.length == l.length) = true) (hS : S w.drew) (h : wpPlanF P l (NoPanic Q) S last plan a w.drew) : (Code.region id l.toArray true).wp P Q a w := by
  refine wp_region_noPanic (wp_region_any hm (wpAny_of_F (S := S) (last := last) _ _ _ _ ?_))
  simp only [Bool.and_eq_true, beq_iff_eq] at hb
  have h1 := planF_any (Q := NoPanic Q) hs (fun c d v a w h => h.elim) plan _ a _ hb.1 (.inr hS) h
  rw [hb.2] at h1
  rw [List.size_toArray]
  exact h1
end

section
variable {F : Fence} {n : Nat} {P : Program} {md : Region.Mode} {ops : Array Oper} {Q : Exit → Act → World → Prop} {S : World → Prop} {last : Nat}
def NoDefer (ops : Array Oper) : Prop := ∀ (j : Nat) (o : Oper) c, ops[j]? = some o → o.op ≠ .defer c
def wpAnyFI (F : Fence) (n : Nat) (P : Program) (md : Region.Mode) (ops : Array Oper) (Q : Exit → Act → World → Prop) (S : World → Prop) (last : Nat) : Nat → Array Bool → Act → World → Prop
  | 0, listed, a, w => Region.ready md ops listed = [] ∧ Q .normal a w
  | fuel + 1, listed, a, w =>
    (Region.ready md ops listed = [] → Q .normal a w) ∧
    ∀ i ∈ Region.ready md ops listed, wpOpIn F n P ops Q i (fun a' w' => (i = last ∨ S w') ∧ wpAnyFI F n P md ops Q S last fuel (listed.setIfInBounds i true) a' w') a w
end
section
variable {F : Fence} {n : Nat} {P : Program} {l : List Oper} {Q : Exit → Act → World → Prop} {S : World → Prop} {last : Nat}
/-- As wpPlanF, inside a fence. -/
def wpPlanI (F : Fence) (n : Nat) (P : Program) (l : List Oper) (Q : Exit → Act → World → Prop) (S : World → Prop) (last : Nat) : List (Nat × Bool) → Act → World → Prop
  | [], a, w => Q .normal a w
  | (i, true) :: r, a, w => ∃ o v, l[i]? = some o ∧ YieldsIf P l.toArray S o v a ∧ wpPlanI F n P l Q S last r (a.put o.dst v) w
  | (i, false) :: r, a, w => ∃ o, l[i]? = some o ∧ ∀ K : Act → World → Prop, Shut (∀ a' w', (i = last ∨ S w') → wpPlanI F n P l Q S last r a' w' → K a' w') → if Region.wanted o (yielded l.toArray a.tmps) = true then Oper.wpIn F n P o a w K Q else (∀ f, o.about P w a.eval = some f → F.fn f) ∧ K (a.put o.dst undef) w
def noDeferB (l : List Oper) : Bool := l.all fun o => match o.op with | .defer _ => false | _ => true
end
end Go.Proofs.YtififjlgjmgikaaGreat
