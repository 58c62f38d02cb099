/- What graph.walk keeps true (no program). -/
import Derived.Test.YtififjlgjmgikaaQueue
namespace Go.Proofs.Ytififjlgjmgikaa
set_option linter.all false
open Go.RowKit

abbrev IntMap := List (Int × Value)
def hasK (l : IntMap) (x : Int) : Prop := (mget l x).isSome = true
theorem hasK_put {l : IntMap} {k x : Int} {v : Value} : hasK (mput l k v) x ↔ x = k ∨ hasK l x := by
  unfold hasK
  rw [mget_put]
  by_cases h : x = k <;> simp [h]
structure WalkB (n : Nat) (fr : List Int) (nx : Int → List Int) (l : IntMap) (ρ : Int → Nat) (N : Nat) : Prop where
  vals : ∀ x v, mget l x = some v → (0 ≤ x ∧ x < n) ∧ ρ x < N ∧ ∃ p : Int, v = .int .i64 p ∧ ((p = x ∧ x ∈ fr) ∨ (p ≠ x ∧ x ∈ nx p ∧ hasK l p ∧ ρ p < ρ x))
structure WalkI (n : Nat) (fr : List Int) (nx : Int → List Int) (l : IntMap) (ρ : Int → Nat) (N : Nat) (q : List Int) : Prop extends WalkB n fr nx l ρ N where
  start : ∀ x ∈ fr, hasK l x
  queue : ∀ x ∈ q, hasK l x
  step : ∀ x, hasK l x → x ∈ q ∨ ∀ y ∈ nx x, hasK l y
structure WalkJ (n : Nat) (fr : List Int) (nx : Int → List Int) (l : IntMap) (ρ : Int → Nat) (N : Nat) (q : List Int) (x : Int) (j : Nat) : Prop extends WalkB n fr nx l ρ N where
  start : ∀ x ∈ fr, hasK l x
  queue : ∀ x ∈ q, hasK l x
  has : hasK l x
  pre : ∀ y ∈ (nx x).take j, hasK l y
  step : ∀ z, hasK l z → z ∈ q ∨ z = x ∨ ∀ y ∈ nx z, hasK l y
variable {n : Nat} {fr : List Int} {nx : Int → List Int} {l : IntMap} {ρ : Int → Nat} {N : Nat} {q : List Int} {x : Int} {j : Nat}
/-- The first loop: x itself is laid. -/
theorem WalkB.lay (h : WalkB n fr nx l ρ N) (hx : x ∈ fr) (hr : 0 ≤ x ∧ x < n) (hf : ∀ y v, mget l y = some v → v = .int .i64 y) : WalkB n fr nx (mput l x (.int .i64 x)) (fun _ => 0) 1 ∧ ∀ y v, mget (mput l x (.int .i64 x)) y = some v → v = .int .i64 y := by
  refine ⟨⟨fun y v hy => ?_⟩, fun y v hy => ?_⟩
  · rw [mget_put] at hy
    split at hy
    · rename_i e; subst e; cases hy; exact ⟨hr, by omega, y, rfl, .inl ⟨rfl, hx⟩⟩
    · obtain ⟨h1, _, p, h3, h4⟩ := h.vals y v hy
      refine ⟨h1, by omega, y, hf y v hy, .inl ⟨rfl, ?_⟩⟩
      rcases h4 with ⟨_, h4⟩ | ⟨h5, _⟩
      · exact h4
      · have := hf y v hy
        rw [h3] at this
        injection this with _ e
        exact absurd e h5
  · rw [mget_put] at hy
    split at hy
    · rename_i e; subst e; cases hy; rfl
    · exact hf y v hy
theorem WalkB.nil : WalkB n fr nx [] (fun _ => 0) 1 := ⟨fun x v h => by cases h⟩
theorem WalkI.pop (h : WalkI n fr nx l ρ N (x :: q)) : WalkJ n fr nx l ρ N q x 0 :=
  ⟨h.toWalkB, h.start, fun y hy => h.queue y (by simp [hy]), h.queue x (by simp), fun y hy => by simp at hy, fun z hz => by
    rcases h.step z hz with h1 | h1
    · simp at h1
      rcases h1 with h1 | h1
      · exact .inr (.inl h1)
      · exact .inl h1
    · exact .inr (.inr h1)⟩
theorem WalkJ.skip {y : Int} (h : WalkJ n fr nx l ρ N q x j) (hy : (nx x)[j]? = some y) (hk : hasK l y) : WalkJ n fr nx l ρ N q x (j + 1) :=
  ⟨h.toWalkB, h.start, h.queue, h.has, fun z hz => by
    rw [List.take_add_one, hy] at hz
    simp at hz
    rcases hz with hz | rfl
    · exact h.pre z hz
    · exact hk, h.step⟩
theorem WalkJ.add {y : Int} (h : WalkJ n fr nx l ρ N q x j) (hy : (nx x)[j]? = some y) (hk : ¬ hasK l y) (hr : 0 ≤ y ∧ y < n) :
    WalkJ n fr nx (mput l y (.int .i64 x)) (fun z => if z = y then N else ρ z) (N + 1) (q ++ [y]) x (j + 1) := by
  have hxy : x ≠ y := fun e => hk (e ▸ h.has)
  refine ⟨⟨fun z v hz => ?_⟩, fun z hz => hasK_put.2 (.inr (h.start z hz)), fun z hz => ?_, hasK_put.2 (.inr h.has), fun z hz => ?_, fun z hz => ?_⟩
  · rw [mget_put] at hz
    split at hz
    · rename_i e
      subst e
      cases hz
      obtain ⟨v, hv⟩ := Option.isSome_iff_exists.1 h.has
      have := (h.vals x v hv).2.1
      refine ⟨hr, by simp, x, rfl, .inr ⟨hxy, List.mem_of_getElem? hy, hasK_put.2 (.inr h.has), ?_⟩⟩
      simp [hxy]
      exact this
    · rename_i e
      obtain ⟨h1, h2, p, h3, h4⟩ := h.vals z v hz
      refine ⟨h1, by simp [e]; omega, p, h3, ?_⟩
      rcases h4 with h4 | ⟨h5, h6, h7, h8⟩
      · exact .inl h4
      · have hp : p ≠ y := fun e' => hk (e' ▸ h7)
        exact .inr ⟨h5, h6, hasK_put.2 (.inr h7), by simp [e, hp]; exact h8⟩
  · simp at hz
    rcases hz with hz | rfl
    · exact hasK_put.2 (.inr (h.queue z hz))
    · exact hasK_put.2 (.inl rfl)
  · rw [List.take_add_one, hy] at hz
    simp at hz
    rcases hz with hz | rfl
    · exact hasK_put.2 (.inr (h.pre z hz))
    · exact hasK_put.2 (.inl rfl)
  · rcases hasK_put.1 hz with rfl | hz
    · exact .inl (by simp)
    · rcases h.step z hz with h1 | h1 | h1
      · exact .inl (by simp [h1])
      · exact .inr (.inl h1)
      · exact .inr (.inr fun y' hy' => hasK_put.2 (.inr (h1 y' hy')))
theorem WalkJ.finish (h : WalkJ n fr nx l ρ N q x j) (hj : (nx x).length ≤ j) : WalkI n fr nx l ρ N q :=
  ⟨h.toWalkB, h.start, h.queue, fun z hz => by
    rcases h.step z hz with h1 | rfl | h1
    · exact .inl h1
    · exact .inr fun y hy => h.pre y (by rw [List.take_of_length_le hj]; exact hy)
    · exact .inr h1⟩
/-- What a walk has come to. -/
theorem WalkI.reach (h : WalkI n fr nx l ρ N []) (y : Int) : hasK l y ↔ Reach (· ∈ fr) (fun a b => b ∈ nx a) y := by
  constructor
  · intro hy
    have key : ∀ m, ∀ y, ρ y < m → hasK l y → Reach (· ∈ fr) (fun a b => b ∈ nx a) y := by
      intro m
      induction m with
      | zero => intro y h0; omega
      | succ m ih =>
        intro y hm hy
        obtain ⟨v, hv⟩ := Option.isSome_iff_exists.1 hy
        obtain ⟨_, _, p, _, h4⟩ := h.vals y v hv
        rcases h4 with ⟨_, h4⟩ | ⟨_, h6, h7, h8⟩
        · exact .start h4
        · exact .step (ih p (by omega) h7) h6
    exact key _ y (Nat.lt_succ_self _) hy
  · intro hr
    induction hr with
    | start h1 => exact h.start _ h1
    | step _ h1 ih => exact ((h.step _ ih).resolve_left (by simp)) _ h1
end Go.Proofs.Ytififjlgjmgikaa
