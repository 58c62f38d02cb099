/- The map of rules. -/
import Derived.Test.YtififjlgjmgikaaRules
import Derived.Laws.EntriesVeiled
namespace Go.Proofs.Ytififjlgjmgikaa
set_option linter.all false
open Go.RowKit

/-- A function value that tells whether an operand is valid. -/
def RuleV (H : PH) (fv : Value) (p : CodeD → Int → Bool) : Prop :=
  ∃ K cap, fv = .func (.func K) #[] cap ∧ Enters K ∧ ∀ (w' : World) (H' : PH) (v : Value) (c : CodeD) (n : Int), PH.le H H' → Sees w' H' → CodeV H' v c →
    Calls Try.prog K (#[v, .int .i64 n] ++ cap) w' fun e w'' => e = .returned (.bool (p c n)) ∧ Below w'.heap.size w' w''
theorem RuleV.mono {H H' : PH} (h : PH.le H H') {fv : Value} {p : CodeD → Int → Bool} (k : RuleV H fv p) : RuleV H' fv p := by
  obtain ⟨K, cap, e, hE, k⟩ := k
  exact ⟨K, cap, e, hE, fun w' H2 v c n hl => k w' H2 v c n (PH.le_trans h hl)⟩
/-- What is new from block B on, but for block b. -/
def newPH (B b : Nat) (w : World) : PH := fun i => if i < B ∨ i = b then none else w.heap[i]?
theorem newPH.sees (B b : Nat) (w : World) : Sees w (newPH B b w) := by
  intro i o h
  unfold newPH at h
  split at h
  · cases h
  · exact h
theorem newPH.grown {B b : Nat} {w w1 : World} (h : w.grownBy w1 (some b)) : PH.le (newPH B b w) (newPH B b w1) := by
  intro i o e
  have hs := newPH.sees B b w i o e
  have hi : i < w.heap.size := (Array.getElem?_eq_some_iff.1 hs).1
  unfold newPH at e ⊢
  split at e
  · cases e
  · rename_i hn
    rw [if_neg hn, h.block i hi (fun k => hn (Or.inr (by injection k)))]
    exact e
theorem newPH.below {B b : Nat} {w w1 : World} (h : Below w.heap.size w w1) : PH.le (newPH B b w) (newPH B b w1) := by
  intro i o e
  have hs := newPH.sees B b w i o e
  have hi : i < w.heap.size := (Array.getElem?_eq_some_iff.1 hs).1
  unfold newPH at e ⊢
  split at e
  · cases e
  · rename_i hn
    rw [if_neg hn, h.block i hi]
    exact e
structure RulesAt (B b : Nat) (w : World) (l : List (Int × Value)) : Prop where
  map : MapL (fun x : Int => Value.int .i64 x) w b l
  ok : ∀ k v, mget l k = some v → ∃ fv, v = .agg #[fv] ∧ RuleV (newPH B b w) fv (ruleB k)
theorem RulesAt.below {B b : Nat} {w w1 : World} {l : List (Int × Value)} (h : RulesAt B b w l) (hb : Below w.heap.size w w1) : RulesAt B b w1 l :=
  ⟨h.map.of_block (hb.block b h.map.lt), fun k v e => by
    obtain ⟨fv, e1, e2⟩ := h.ok k v e
    exact ⟨fv, e1, e2.mono (newPH.below hb)⟩⟩
theorem wpL_rule {ops : Array Oper} {rest : List Oper} {o : Oper} {a : Act} {Q : Exit → Act → World → Prop} {w : World} {B b : Nat} {l : List (Int × Value)}
    (hgd : o.guard = none) (m x v : Operand) (hop : o.op = Op.insert 121 m x v) (hR : RulesAt B b w l) (hm : a.eval m = .map (some b)) (k : Int) (fv : Value) (hx : a.eval x = .int .i64 k) (hv : a.eval v = .agg #[fv])
    (hr : RuleV (newPH B b w) fv (ruleB k))
    (h : ∀ w', RulesAt B b w' (mput l k (.agg #[fv])) → w.grownBy w' (some b) → wpList Try.prog ops Q rest (a.put o.dst undef) w') : wpList Try.prog ops Q (o :: rest) a w := by
  refine wpL_insert hgd m x v _ hop Try.underlying121 (fun x : Int => Value.int .i64 x) (keyInt Try.underlying3) (int_inj _) b l hm hR.map k _ hx hv fun w' hM hg => h w' ⟨hM, fun k' v' e => ?_⟩ hg
  rw [mget_put] at e
  split at e
  · rename_i hk
    subst hk
    cases e
    exact ⟨fv, rfl, hr.mono (newPH.grown hg)⟩
  · obtain ⟨fv', e1, e2⟩ := hR.ok k' v' e
    exact ⟨fv', e1, e2.mono (newPH.grown hg)⟩

theorem ruleV2 (H : PH) : RuleV H (.func (.func 100) #[] #[]) (ruleB 2) := ⟨_, _, rfl, enters_mk Try.func100 (by kernel_rfl) rfl, fun w' H' v c n _ hs hc => code_rule2 H' v c n w' hs hc⟩
theorem ruleV4 (H : PH) : RuleV H (.func (.func 101) #[] #[]) (ruleB 4) := ⟨_, _, rfl, enters_mk Try.func101 (by kernel_rfl) rfl, fun w' H' v c n _ hs hc => code_rule4 H' v c n w' hs hc⟩
theorem ruleV9 (H : PH) : RuleV H (.func (.func 102) #[] #[]) (ruleB 9) := ⟨_, _, rfl, enters_mk Try.func102 (by kernel_rfl) rfl, fun w' H' v c n _ hs hc => code_rule9 H' v c n w' hs hc⟩
theorem ruleV10 (H : PH) : RuleV H (.func (.func 103) #[] #[]) (ruleB 10) := ⟨_, _, rfl, enters_mk Try.func103 (by kernel_rfl) rfl, fun w' H' v c n _ hs hc => code_rule10 H' v c n w' hs hc⟩
theorem ruleV11 (H : PH) : RuleV H (.func (.func 104) #[] #[]) (ruleB 11) := ⟨_, _, rfl, enters_mk Try.func104 (by kernel_rfl) rfl, fun w' H' v c n _ hs hc => code_rule11 H' v c n w' hs hc⟩
theorem ruleV12 (H : PH) : RuleV H (.func (.func 105) #[] #[]) (ruleB 12) := ⟨_, _, rfl, enters_mk Try.func105 (by kernel_rfl) rfl, fun w' H' v c n _ hs hc => code_rule12 H' v c n w' hs hc⟩
theorem ruleV13 (H : PH) : RuleV H (.func (.func 106) #[] #[]) (ruleB 13) := ⟨_, _, rfl, enters_mk Try.func106 (by kernel_rfl) rfl, fun w' H' v c n _ hs hc => code_rule13 H' v c n w' hs hc⟩
theorem ruleV14 (H : PH) : RuleV H (.func (.func 107) #[] #[]) (ruleB 14) := ⟨_, _, rfl, enters_mk Try.func107 (by kernel_rfl) rfl, fun w' H' v c n _ hs hc => code_rule14 H' v c n w' hs hc⟩
theorem ruleV15 (H : PH) : RuleV H (.func (.func 108) #[] #[]) (ruleB 15) := ⟨_, _, rfl, enters_mk Try.func108 (by kernel_rfl) rfl, fun w' H' v c n _ hs hc => code_rule15 H' v c n w' hs hc⟩
theorem ruleV16 (H : PH) : RuleV H (.func (.func 109) #[] #[]) (ruleB 16) := ⟨_, _, rfl, enters_mk Try.func109 (by kernel_rfl) rfl, fun w' H' v c n _ hs hc => code_rule16 H' v c n w' hs hc⟩
theorem ruleV17 (H : PH) : RuleV H (.func (.func 110) #[] #[]) (ruleB 17) := ⟨_, _, rfl, enters_mk Try.func110 (by kernel_rfl) rfl, fun w' H' v c n _ hs hc => code_rule17 H' v c n w' hs hc⟩
theorem ruleV21 (H : PH) : RuleV H (.func (.func 111) #[] #[]) (ruleB 21) := ⟨_, _, rfl, enters_mk Try.func111 (by kernel_rfl) rfl, fun w' H' v c n _ hs hc => code_rule21 H' v c n w' hs hc⟩
set_option maxHeartbeats 400000 in
theorem code_between (lo hi : Int) (w : World) : Calls Try.prog 99 #[.int .i64 lo, .int .i64 hi] w fun e w' =>
    ∃ fv, e = .returned (.agg #[fv]) ∧ (∀ B b, B ≤ w.heap.size → b < w.heap.size → RuleV (newPH B b w') fv fun _ n => withinB n lo hi) ∧ Below w.heap.size w w' := by
  go_enter Try.func99, Try.ntmps99
  go_wp2
  refine bodyPost_ret (v := .agg #[.func (.func 119) #[] #[.pointer (some ⟨w.heap.size, 0, none⟩), .pointer (some ⟨w.heap.size + 1, 0, none⟩)]]) (by simp [results, Try.results99, go_sem]) rfl ?_
  refine ⟨_, rfl, ?_, (((Below.refl _ _).alloc (Nat.le_refl _) _).alloc (by simp) _).alloc (by simp; omega) _⟩
  intro B b hB hb
  refine ⟨_, _, rfl, enters_mk Try.func119 (by kernel_rfl) rfl, fun w' H' v c n hl hs hc => code_between1 H' v c n lo hi _ _ w' hc ?_ ?_⟩
  · have := hs w.heap.size (.cells #[.int .i64 lo] 3 (0, 0)) (hl _ _ (by unfold newPH; rw [if_neg (by omega)]; simp only [get_alloc, World.size_alloc]; (repeat rw [if_neg (by omega)]); rw [if_pos trivial]))
    simp [World.cell?, this]
  · have := hs (w.heap.size + 1) (.cells #[.int .i64 hi] 3 (0, 0)) (hl _ _ (by unfold newPH; rw [if_neg (by omega)]; simp only [get_alloc, World.size_alloc]; (repeat rw [if_neg (by omega)]); rw [if_pos trivial]))
    simp [World.cell?, this]

set_option maxHeartbeats 4000000 in
set_option maxRecDepth 100000 in
theorem code_rules (w : World) : Calls Try.prog 78 #[] w fun e w' => ∃ b l, e = .returned (.map (some b)) ∧ w.heap.size ≤ b ∧ RulesAt w.heap.size b w' l ∧
    (∀ k, 0 ≤ k → k ≤ 24 → (mget l k).isSome = true) ∧ Below w.heap.size w w' := by
  have hmm := @run_makeMap Try.prog
  go_enter Try.func78, Try.ntmps78
  have hR : RulesAt w.heap.size w.heap.size (w.alloc (.map #[] 0)) [] := ⟨MapL.new _ w, fun k v h => by cases h⟩
  have hB : Below w.heap.size w (w.alloc (.map #[] 0)) := (Below.refl _ _).alloc (Nat.le_refl _) _
  have hs : w.heap.size + 1 ≤ (w.alloc (.map #[] 0)).heap.size := by simp
  repeat (first
    | (go_at_call 99; refine (code_between _ _ _).mono ?_; rintro e w1 ⟨fv, rfl, hv, hb⟩; replace hv := hv w.heap.size w.heap.size (by omega) (by omega); replace hR := hR.below hb; replace hB := hB.trans (hb.mono (by omega)); replace hs := Nat.le_trans hs hb.size; clear hb; dsimp only)
    | (refine wpL_rule rfl _ _ _ rfl hR (by rfl) _ _ (by rfl) (by rfl) ?_ ?_
       · first | exact hv | exact ruleV2 _ | exact ruleV4 _ | exact ruleV9 _ | exact ruleV10 _ | exact ruleV11 _ | exact ruleV12 _ | exact ruleV13 _ | exact ruleV14 _ | exact ruleV15 _ | exact ruleV16 _ | exact ruleV17 _ | exact ruleV21 _
       clear hR; intro w1 hR hg; replace hB := below_step hB (Nat.le_refl _) (by omega) hg; replace hs := Nat.le_trans hs hg.size; clear hg; try clear hv)
    | go_step)
  go_ret
  refine ⟨_, _, rfl, Nat.le_refl _, hR, ?_, hB⟩
  intro k h0 h1
  iterate 25 (rw [mget_put]; split; · rfl)
  exfalso; omega
end Go.Proofs.Ytififjlgjmgikaa
