/- A region that draws its order, walked by a plan: what reads is taken when it may come up, whatever else comes up alone (no program). -/
import Derived.Test.YtififjlgjmgikaaBase
import Derived.Deep.RegionHeld3
namespace Go.Proofs.Ytififjlgjmgikaa
set_option linter.all false

section
variable {P : Program} {l : List Oper} {Q : Exit → Act → World → Prop} {S : World → Prop}
def planB (ops : Array Oper) : List (Nat × Bool) → Array Bool → Bool
  | [], listed => (Region.ready .any ops listed).isEmpty
  | (i, true) :: r, listed => Region.free .any ops listed i && (Region.ready .any ops listed).contains i && (ops[i]?).isSome && planB ops r (listed.setIfInBounds i true)
  | (i, false) :: r, listed => (Region.ready .any ops listed == [i]) && (ops[i]?).isSome && planB ops r (listed.setIfInBounds i true)
def wpPlan (P : Program) (l : List Oper) (Q : Exit → Act → World → Prop) (S : World → Prop) : List (Nat × Bool) → Act → World → Prop
  | [], a, w => Q .normal a w
  | (i, true) :: r, a, w => ∃ o v, l[i]? = some o ∧ YieldsIf P l.toArray S o v a ∧ wpPlan P l Q S r (a.put o.dst v) w
  | (i, false) :: r, a, w => ∃ o, l[i]? = some o ∧ ∀ K : Act → World → Prop, Shut (∀ a' w', S w' → wpPlan P l Q S r a' w' → K a' w') → if Region.wanted o (yielded l.toArray a.tmps) = true then Oper.wp P o a w K Q else K (a.put o.dst undef) w
theorem plan_read {i : Nat} {r : List (Nat × Bool)} {a : Act} {w : World} {o : Oper} {v : Value} (ho : l[i]? = some o) (hw : Region.wanted o (yielded l.toArray a.tmps) = true)
    (hy : ∀ w', S w' → (execOp a.eval o).run P w' = .ok (.value v) w') (h : wpPlan P l Q S r (a.put o.dst v) w) : wpPlan P l Q S ((i, true) :: r) a w := ⟨o, v, ho, .inl ⟨hw, hy⟩, h⟩
theorem plan_skip {i : Nat} {r : List (Nat × Bool)} {a : Act} {w : World} {o : Oper} (ho : l[i]? = some o) (hw : Region.wanted o (yielded l.toArray a.tmps) = false)
    (h : wpPlan P l Q S r (a.put o.dst undef) w) : wpPlan P l Q S ((i, true) :: r) a w := ⟨o, undef, ho, .inr ⟨hw, rfl⟩, h⟩
theorem plan_step {i : Nat} {r : List (Nat × Bool)} {a : Act} {w : World} {o : Oper} (ho : l[i]? = some o) (hw : Region.wanted o (yielded l.toArray a.tmps) = true)
    (h : ∀ K : Act → World → Prop, Shut (∀ a' w', S w' → wpPlan P l Q S r a' w' → K a' w') → Oper.wp P o a w K Q) : wpPlan P l Q S ((i, false) :: r) a w := ⟨o, ho, fun K hK => by rw [if_pos hw]; exact h K hK⟩
theorem plan_pass {i : Nat} {r : List (Nat × Bool)} {a : Act} {w : World} {o : Oper} (ho : l[i]? = some o) (hw : Region.wanted o (yielded l.toArray a.tmps) = false) (hS : S w)
    (h : wpPlan P l Q S r (a.put o.dst undef) w) : wpPlan P l Q S ((i, false) :: r) a w := ⟨o, ho, fun K hK => by rw [if_neg (by rw [hw]; simp)]; exact hK.out _ _ hS h⟩
theorem plan_nil {a : Act} {w : World} (h : Q .normal a w) : wpPlan P l Q S [] a w := h
theorem plan_any (hs : Region.noSelect l.toArray = true) (hQ : ∀ c d v a w, Q (.panic c) (a.put d v) w → Q (.panic c) a w) : ∀ (plan : List (Nat × Bool)) (listed : Array Bool) (a : Act) (w : World),
    planB l.toArray plan listed = true → S w → wpPlan P l Q S plan a w → wpAnyH P .any l.toArray Q S plan.length listed a w
  | [], listed, a, w, hb, _, h => ⟨by simpa [planB] using hb, h⟩
  | (i, true) :: r, listed, a, w, hb, hS, h => by
    simp only [planB, Bool.and_eq_true] at hb
    obtain ⟨o, v, ho, hy, h⟩ := h
    exact wpAnyH_take (by rw [List.getElem?_toArray]; exact ho) hs hb.1.1.1 hb.1.1.2 (fun c a w => hQ c o.dst v a w) hy hS (plan_any hs hQ r _ _ _ hb.2 hS h)
  | (i, false) :: r, listed, a, w, hb, hS, h => by
    simp only [planB, Bool.and_eq_true, beq_iff_eq] at hb
    obtain ⟨o, ho, h⟩ := h
    refine wpAnyH_ready (rs := [i]) hb.1.1 (by simp) (AllReadyH.cons (by rw [List.getElem?_toArray]; exact ho) (fun K hK => ?_) AllReadyH.nil)
    exact h K fun a' w' hS' hp => hK.out a' w' hS' fun _ => plan_any hs hQ r _ _ _ hb.2 hS' hp
theorem wp_region_plan (S : World → Prop) (plan : List (Nat × Bool)) {id : Nat} {a : Act} {w : World} (hm : P.follows .mixedOrders = true) (hs : Region.noSelect l.toArray = true)
    (hb : (planB l.toArray plan (Array.replicate l.length false) && plan.length == l.length) = true) (hS : S w.drew) (h : wpPlan P l (NoPanic Q) S plan a w.drew) : (Code.region id l.toArray true).wp P Q a w := by
  refine wp_region_noPanic (wp_region_held (S := S) hm ?_)
  simp only [Bool.and_eq_true, beq_iff_eq] at hb
  have h1 := plan_any (Q := NoPanic Q) hs (fun c d v a w h => h.elim) plan _ a _ hb.1 hS h
  rw [hb.2] at h1
  rw [List.size_toArray]
  exact h1
end
end Go.Proofs.Ytififjlgjmgikaa
