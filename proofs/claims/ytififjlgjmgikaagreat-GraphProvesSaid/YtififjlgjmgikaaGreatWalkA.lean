/- A queue of ints: a slice that the walk owns, cut at its head, appended to at its end. What graph.walk keeps true (no program). slices.Clone in my words; graph.walk at ints. slices.Reverse in my words; graph.back at ints. -/
import Derived.Test.YtififjlgjmgikaaGreatLeaders
import Derived.ArgAppend
import Derived.WalkMore
namespace Go.Proofs.YtififjlgjmgikaaGreat
set_option linter.all false
open Go.RowKit

def QueI (w : World) (base : Nat) (v : Value) (xs : List Int) : Prop :=
  (v = .slice none 0 0 ∧ xs = []) ∨ ∃ g off cap cur, v = .slice (some ⟨g, off, none⟩) xs.length cap ∧ base ≤ g ∧ w.heap[g]? = some (.cells cur 3 (0, 0)) ∧ xs.length ≤ cap ∧ cap ≤ maxLen ∧
    (cap = 0 ∨ cur.size = off + cap) ∧ ∀ j x, xs[j]? = some x → cur[off + j]? = some (.int .i64 x)
theorem OwnI.que {w : World} {base : Nat} {v : Value} {xs : List Int} (h : OwnI w base v xs) : QueI w base v xs := by
  rcases h.2 with ⟨e, h0⟩ | ⟨g, cap, cur, rfl, h2, h3, h4, h5, h6, h7⟩
  · exact .inl ⟨e, List.eq_nil_of_length_eq_zero h0⟩
  · refine .inr ⟨g, 0, cap, cur, rfl, h2, h3, h4, h5, .inr (by omega), fun j x hj => ?_⟩
    have hjl := (List.getElem?_eq_some_iff.1 hj).1
    have e : (cur.toList.take (xs.length * 1))[j]? = (ints xs)[j]? := by rw [h7]
    rw [List.getElem?_take, if_pos (by omega)] at e
    rw [Nat.zero_add, ← Array.getElem?_toList, e]
    simp [ints, hj]
theorem QueI.lt {w : World} {base : Nat} {v : Value} {xs : List Int} (h : QueI w base v xs) {k : Nat} (hk : v.ownBlock = some k) : base ≤ k ∧ k < w.heap.size := by
  rcases h with ⟨rfl, _⟩ | ⟨g, off, cap, cur, rfl, h2, h3, _⟩
  · cases hk
  · cases hk; exact ⟨h2, (Array.getElem?_eq_some_iff.1 h3).1⟩
theorem QueI.of_block {w w1 : World} {base : Nat} {v : Value} {xs : List Int} (h : QueI w base v xs) (hb : ∀ k, v.ownBlock = some k → w1.heap[k]? = w.heap[k]?) : QueI w1 base v xs := by
  rcases h with h | ⟨g, off, cap, cur, rfl, h2, h3, h4⟩
  · exact .inl h
  · exact .inr ⟨g, off, cap, cur, rfl, h2, (hb g rfl).trans h3, h4⟩
theorem QueI.below {w w1 : World} {base : Nat} {v : Value} {xs : List Int} (h : QueI w base v xs) (hb : Below w.heap.size w w1) : QueI w1 base v xs := h.of_block fun k hk => hb.block k (h.lt hk).2
theorem QueI.len_form {w : World} {base : Nat} {v : Value} {xs : List Int} (h : QueI w base v xs) : ∃ A cap, v = .slice A xs.length cap := by
  rcases h with ⟨e, rfl⟩ | ⟨g, off, cap, cur, rfl, _⟩
  · exact ⟨none, 0, e⟩
  · exact ⟨_, _, rfl⟩
/-- The head, and what is left behind it. -/
theorem QueI.pop {w : World} {base : Nat} {v : Value} {x : Int} {xs : List Int} (h : QueI w base v (x :: xs)) :
    ∃ g off cap, v = .slice (some ⟨g, off, none⟩) (xs.length + 1) cap ∧ xs.length + 1 ≤ cap ∧ g < w.heap.size ∧ w.cell? ⟨g, off, none⟩ = some (.int .i64 x) ∧
      QueI w base (.slice (some ⟨g, if cap = 1 then off else off + 1, none⟩) xs.length (cap - 1)) xs := by
  rcases h with ⟨_, e⟩ | ⟨g, off, cap, cur, rfl, h2, h3, h4, h5, h6, h7⟩
  · cases e
  · simp only [List.length_cons] at h4 ⊢
    refine ⟨g, off, cap, rfl, h4, (Array.getElem?_eq_some_iff.1 h3).1, ?_, .inr ⟨g, _, cap - 1, cur, rfl, h2, h3, by omega, by omega, ?_, fun j y hj => ?_⟩⟩
    · rw [cell_blk h3]
      have := h7 0 x rfl
      simpa using this
    · by_cases e : cap = 1
      · exact .inl (by omega)
      · rw [if_neg e]
        exact .inr (by omega)
    · have hjl := (List.getElem?_eq_some_iff.1 hj).1
      rw [if_neg (by omega)]
      have := h7 (j + 1) y (by simpa using hj)
      rw [show off + 1 + j = off + (j + 1) by omega]
      exact this
theorem wpL_queApp {ops : Array Oper} {rest : List Oper} {o : Oper} {a : Act} {Q : Exit → Act → World → Prop} {w : World} (hgd : o.guard = none) (s x : Operand)
    (ho : o.op = .call { callee := .builtin .append, args := #[s, x], argTypes := #[28, 28] }) (base : Nat) (v : Value) (xs : List Int) (y : Int) (hs : a.eval s = v) (hq : QueI w base v xs)
    (n : Nat) (c : Nat) (hx : a.eval x = .slice (some ⟨n, 0, none⟩) 1 c) (hy : w.cell? ⟨n, 0, none⟩ = some (.int .i64 y)) (hn : xs.length + 1 ≤ 17592186044416) (hbase : base ≤ w.heap.size)
    (h : ∀ v' w', QueI w' base v' (xs ++ [y]) → w.grownBy w' v.ownBlock → (∀ k, v'.ownBlock = some k → v.ownBlock = some k ∨ w.heap.size ≤ k) → wpList Tryz.prog ops Q rest (a.put o.dst v') w') :
    wpList Tryz.prog ops Q (o :: rest) a w := by
  have hone : ∀ j z, ([y] : List Int)[j]? = some z → w.cell? ((⟨n, 0, none⟩ : Addr).add j) = some (.int .i64 z) := by
    intro j z hj
    have hjl := (List.getElem?_eq_some_iff.1 hj).1
    obtain rfl : j = 0 := by simpa using hjl
    cases hj
    rw [Addr.add_lit]
    exact hy
  rcases hq with ⟨rfl, rfl⟩ | ⟨g, off, cap, cur, rfl, h2, h3, h4, h5, h6, h7⟩
  · refine wpL_appI hgd s x ho base _ [] [y] hs (OwnI.nil _ _) ⟨n, 0, none⟩ 1 c hx rfl hone (by simp) hbase fun v' w' h1 h2 h3 => h v' w' h1.que h2 fun k hk => ?_
    rcases h3 with h3 | h3
    · rw [h3] at hk; exact .inl hk
    · rw [h3] at hk; injection hk with hk; right; omega
  · obtain ⟨i0, hi, hz0, hz1, hz2⟩ := info_parts infoInt
    have hgl := (Array.getElem?_eq_some_iff.1 h3).1
    refine wpList_append_arg w hgd s x 28 ho 3 i0 (.int .i64 0) 1 8 Tryz.underlying28 hi hz0 hz1 hz2 rfl (by decide) g off xs.length cap (ints xs) hs (by simp [ints]) ?_ ⟨n, 0, none⟩ 1 c (ints [y]) hx rfl ?_ ?_ ?_ (by unfold maxLen; omega) (by omega) ?_ ?_
    · intro j u hj
      simp only [ints, List.getElem?_map, Option.map_eq_some_iff] at hj
      obtain ⟨z, hz, rfl⟩ := hj
      rw [cell_blk h3]
      exact h7 j z hz
    · intro j u hj
      simp only [ints, List.getElem?_map, Option.map_eq_some_iff] at hj
      obtain ⟨z, hz, rfl⟩ := hj
      exact hone j z hz
    · intro u hu
      obtain ⟨z, _, rfl⟩ := List.mem_map.1 hu
      rfl
    · intro hr j hj
      simp [ints] at hj
      subst hj
      have hc : cur.size = off + cap := h6.resolve_left (by omega)
      refine ⟨?_, by simp [World.frozen?, h3]⟩
      rw [cell_blk h3]
      simp
      omega
    · intro hr
      have hc : cur.size = off + cap := h6.resolve_left (by omega)
      have e : w.setCells g (off + xs.length * 1) (ints [y]) = w.setCell ⟨g, off + xs.length, none⟩ (.int .i64 y) := by simp [World.setCells, ints]
      rw [e]
      refine h _ _ (.inr ⟨g, off, cap, cur.setIfInBounds (off + xs.length) (.int .i64 y), by simp, h2, ?_, by simp; omega, h5, .inr (by simpa using hc), fun j z hj => ?_⟩) (grown_set (grown_refl _ _)) (fun k hk => .inl hk)
      · unfold World.setCell
        simp [Array.getElem?_modify, h3]
      · by_cases ej : j < xs.length
        · rw [List.getElem?_append_left ej] at hj
          rw [Array.getElem?_setIfInBounds, if_neg (by omega)]
          exact h7 j z hj
        · have hjl := (List.getElem?_eq_some_iff.1 hj).1
          simp at hjl
          obtain rfl : j = xs.length := by omega
          simp at hj
          subst hj
          rw [Array.getElem?_setIfInBounds]
          simp
          omega
    · intro hr v' w' hown hg
      have hown' : OwnI w' w.heap.size v' (xs ++ [y]) := by
        unfold OwnI
        rw [List.length_append, ints, List.map_append]
        exact hown
      refine h v' w' (hown'.lower hbase).que ⟨hg.os, hg.tape, hg.output, hg.size, fun k hk _ => hg.block k hk (by simp)⟩ ?_
      exact fun k hk => .inr (hown'.lt hk).1
end Go.Proofs.YtififjlgjmgikaaGreat
namespace Go.Proofs.YtififjlgjmgikaaGreat
set_option linter.all false
open Go.RowKit

abbrev IntMap := List (Int × Value)
def hasK (l : IntMap) (x : Int) : Prop := (mget l x).isSome = true
theorem hasK_put {l : IntMap} {k x : Int} {v : Value} : hasK (mput l k v) x ↔ x = k ∨ hasK l x := by
  unfold hasK
  rw [mget_put]
  by_cases h : x = k <;> simp [h]
structure WalkB (n : Nat) (fr : List Int) (nx : Int → List Int) (l : IntMap) (ρ : Int → Nat) (N : Nat) : Prop where
  vals : ∀ x v, mget l x = some v → (0 ≤ x ∧ x < n) ∧ ρ x < N ∧ ∃ p : Int, v = .int .i64 p ∧ ((p = x ∧ x ∈ fr) ∨ (p ≠ x ∧ x ∈ nx p ∧ hasK l p ∧ ρ p < ρ x))
structure WalkI (n : Nat) (fr : List Int) (nx : Int → List Int) (l : IntMap) (ρ : Int → Nat) (N : Nat) (q : List Int) : Prop extends WalkB n fr nx l ρ N where
  start : ∀ x ∈ fr, hasK l x
  queue : ∀ x ∈ q, hasK l x
  step : ∀ x, hasK l x → x ∈ q ∨ ∀ y ∈ nx x, hasK l y
structure WalkJ (n : Nat) (fr : List Int) (nx : Int → List Int) (l : IntMap) (ρ : Int → Nat) (N : Nat) (q : List Int) (x : Int) (j : Nat) : Prop extends WalkB n fr nx l ρ N where
  start : ∀ x ∈ fr, hasK l x
  queue : ∀ x ∈ q, hasK l x
  has : hasK l x
  pre : ∀ y ∈ (nx x).take j, hasK l y
  step : ∀ z, hasK l z → z ∈ q ∨ z = x ∨ ∀ y ∈ nx z, hasK l y
variable {n : Nat} {fr : List Int} {nx : Int → List Int} {l : IntMap} {ρ : Int → Nat} {N : Nat} {q : List Int} {x : Int} {j : Nat}
/-- The first loop: x itself is laid. -/
theorem WalkB.lay (h : WalkB n fr nx l ρ N) (hx : x ∈ fr) (hr : 0 ≤ x ∧ x < n) (hf : ∀ y v, mget l y = some v → v = .int .i64 y) : WalkB n fr nx (mput l x (.int .i64 x)) (fun _ => 0) 1 ∧ ∀ y v, mget (mput l x (.int .i64 x)) y = some v → v = .int .i64 y := by
  refine ⟨⟨fun y v hy => ?_⟩, fun y v hy => ?_⟩
  · rw [mget_put] at hy
    split at hy
    · rename_i e; subst e; cases hy; exact ⟨hr, by omega, y, rfl, .inl ⟨rfl, hx⟩⟩
    · obtain ⟨h1, _, p, h3, h4⟩ := h.vals y v hy
      refine ⟨h1, by omega, y, hf y v hy, .inl ⟨rfl, ?_⟩⟩
      rcases h4 with ⟨_, h4⟩ | ⟨h5, _⟩
      · exact h4
      · have := hf y v hy
        rw [h3] at this
        injection this with _ e
        exact absurd e h5
  · rw [mget_put] at hy
    split at hy
    · rename_i e; subst e; cases hy; rfl
    · exact hf y v hy
theorem WalkB.nil : WalkB n fr nx [] (fun _ => 0) 1 := ⟨fun x v h => by cases h⟩
theorem WalkI.pop (h : WalkI n fr nx l ρ N (x :: q)) : WalkJ n fr nx l ρ N q x 0 :=
  ⟨h.toWalkB, h.start, fun y hy => h.queue y (by simp [hy]), h.queue x (by simp), fun y hy => by simp at hy, fun z hz => by
    rcases h.step z hz with h1 | h1
    · simp at h1
      rcases h1 with h1 | h1
      · exact .inr (.inl h1)
      · exact .inl h1
    · exact .inr (.inr h1)⟩
theorem WalkJ.skip {y : Int} (h : WalkJ n fr nx l ρ N q x j) (hy : (nx x)[j]? = some y) (hk : hasK l y) : WalkJ n fr nx l ρ N q x (j + 1) :=
  ⟨h.toWalkB, h.start, h.queue, h.has, fun z hz => by
    rw [List.take_add_one, hy] at hz
    simp at hz
    rcases hz with hz | rfl
    · exact h.pre z hz
    · exact hk, h.step⟩
theorem WalkJ.add {y : Int} (h : WalkJ n fr nx l ρ N q x j) (hy : (nx x)[j]? = some y) (hk : ¬ hasK l y) (hr : 0 ≤ y ∧ y < n) :
    WalkJ n fr nx (mput l y (.int .i64 x)) (fun z => if z = y then N else ρ z) (N + 1) (q ++ [y]) x (j + 1) := by
  have hxy : x ≠ y := fun e => hk (e ▸ h.has)
  refine ⟨⟨fun z v hz => ?_⟩, fun z hz => hasK_put.2 (.inr (h.start z hz)), fun z hz => ?_, hasK_put.2 (.inr h.has), fun z hz => ?_, fun z hz => ?_⟩
  · rw [mget_put] at hz
    split at hz
    · rename_i e
      subst e
      cases hz
      obtain ⟨v, hv⟩ := Option.isSome_iff_exists.1 h.has
      have := (h.vals x v hv).2.1
      refine ⟨hr, by simp, x, rfl, .inr ⟨hxy, List.mem_of_getElem? hy, hasK_put.2 (.inr h.has), ?_⟩⟩
      simp [hxy]
      exact this
    · rename_i e
      obtain ⟨h1, h2, p, h3, h4⟩ := h.vals z v hz
      refine ⟨h1, by simp [e]; omega, p, h3, ?_⟩
      rcases h4 with h4 | ⟨h5, h6, h7, h8⟩
      · exact .inl h4
      · have hp : p ≠ y := fun e' => hk (e' ▸ h7)
        exact .inr ⟨h5, h6, hasK_put.2 (.inr h7), by simp [e, hp]; exact h8⟩
  · simp at hz
    rcases hz with hz | rfl
    · exact hasK_put.2 (.inr (h.queue z hz))
    · exact hasK_put.2 (.inl rfl)
  · rw [List.take_add_one, hy] at hz
    simp at hz
    rcases hz with hz | rfl
    · exact hasK_put.2 (.inr (h.pre z hz))
    · exact hasK_put.2 (.inl rfl)
  · rcases hasK_put.1 hz with rfl | hz
    · exact .inl (by simp)
    · rcases h.step z hz with h1 | h1 | h1
      · exact .inl (by simp [h1])
      · exact .inr (.inl h1)
      · exact .inr (.inr fun y' hy' => hasK_put.2 (.inr (h1 y' hy')))
theorem WalkJ.finish (h : WalkJ n fr nx l ρ N q x j) (hj : (nx x).length ≤ j) : WalkI n fr nx l ρ N q :=
  ⟨h.toWalkB, h.start, h.queue, fun z hz => by
    rcases h.step z hz with h1 | rfl | h1
    · exact .inl h1
    · exact .inr fun y hy => h.pre y (by rw [List.take_of_length_le hj]; exact hy)
    · exact .inr h1⟩
/-- What a walk has come to. -/
theorem WalkI.reach (h : WalkI n fr nx l ρ N []) (y : Int) : hasK l y ↔ Reach (· ∈ fr) (fun a b => b ∈ nx a) y := by
  constructor
  · intro hy
    have key : ∀ m, ∀ y, ρ y < m → hasK l y → Reach (· ∈ fr) (fun a b => b ∈ nx a) y := by
      intro m
      induction m with
      | zero => intro y h0; omega
      | succ m ih =>
        intro y hm hy
        obtain ⟨v, hv⟩ := Option.isSome_iff_exists.1 hy
        obtain ⟨_, _, p, _, h4⟩ := h.vals y v hv
        rcases h4 with ⟨_, h4⟩ | ⟨_, h6, h7, h8⟩
        · exact .start h4
        · exact .step (ih p (by omega) h7) h6
    exact key _ y (Nat.lt_succ_self _) hy
  · intro hr
    induction hr with
    | start h1 => exact h.start _ h1
    | step _ h1 ih => exact ((h.step _ ih).resolve_left (by simp)) _ h1
end Go.Proofs.YtififjlgjmgikaaGreat
namespace Go.Proofs.YtififjlgjmgikaaGreat
set_option linter.all false
open Go.RowKit

theorem clone_sl {H : PH} {v : Value} {xs : List Int} {w : World} (hw : Sees w H) (h : SlV rInt H v xs) (hl : xs.length ≤ 17592186044416) :
    Calls Tryz.prog 62 #[v] w fun e w' => (∃ v', e = .returned v' ∧ OwnI w' w.heap.size v' xs) ∧ Below w.heap.size w w' := by
  by_cases hx : 0 < xs.length
  · obtain ⟨b, off, c, rfl, _, _, hc, _⟩ := h.ints hx
    refine (Tryz.slices_Clone_int b off xs.length c xs w (Nat.le_refl _) (by omega) (hc w hw)).mono ?_
    rintro e w' ⟨v', rfl, h1, _, h2⟩
    rw [List.take_length] at h1
    exact ⟨⟨v', rfl, h1⟩, h2⟩
  · have e : xs = [] := List.eq_nil_of_length_eq_zero (by omega)
    subst e
    obtain ⟨A, c, rfl, _, _⟩ := h.open_
    cases A with
    | none =>
      refine (Tryz.slices_Clone_int_nil 0 c w).mono ?_
      rintro e w' ⟨rfl, rfl⟩
      exact ⟨⟨_, rfl, OwnI.nil _ _⟩, Below.refl _ _⟩
    | some a =>
      refine (Tryz.slices_Clone_int_zero a c w).mono ?_
      rintro e w' ⟨v', rfl, h1, _, h2⟩
      exact ⟨⟨v', rfl, h1⟩, h2⟩
theorem nodup_range {ks : List Int} {n : Nat} (hk : ks.Nodup) (hr : ∀ x ∈ ks, 0 ≤ x ∧ x < n) : ks.length ≤ n := by
  induction n generalizing ks with
  | zero =>
    cases ks with
    | nil => simp
    | cons x ks => have := hr x (by simp); omega
  | succ n ih =>
    have h1 := ih (ks := ks.erase (n : Int)) (hk.erase _) (fun x hx => by
      have h2 := (hk.mem_erase_iff).1 hx
      have h3 := hr x h2.2
      have := h2.1
      omega)
    have h2 := List.length_erase (a := (n : Int)) (l := ks)
    split at h2 <;> omega
theorem hasK_mem {l : IntMap} {p : Int × Value} (h : p ∈ l) : hasK l p.1 := by
  unfold hasK mget
  cases e : findL l p.1 0 with
  | some q => rfl
  | none => exact absurd rfl (findL_none.1 e p h)
theorem WalkB.len_le {n : Nat} {fr : List Int} {nx : Int → List Int} {l : IntMap} {ρ : Int → Nat} {N : Nat} {w : World} {b : Nat} (h : WalkB n fr nx l ρ N) (hM : MapL (fun x : Int => Value.int .i64 x) w b l) : l.length ≤ n := by
  obtain ⟨_, _, _, _, hnd, _⟩ := hM
  have := nodup_range hnd (fun x hx => by
    obtain ⟨p, hp, rfl⟩ := List.mem_map.1 hx
    obtain ⟨v, hv⟩ := Option.isSome_iff_exists.1 (hasK_mem hp)
    exact (h.vals _ v hv).1)
  simpa using this
theorem mput_len {l : IntMap} {k : Int} {v : Value} (h : ¬ hasK l k) : (mput l k v).length = l.length + 1 := by
  unfold mput
  unfold hasK mget at h
  cases e : findL l k 0 with
  | none => simp
  | some q => rw [e] at h; simp at h

theorem Sees.grownR {w w1 : World} {H : PH} {row : Option Nat} (h : Sees w H) (hg : w.grownBy w1 row) (hH : ∀ k, row = some k → H k = none) : Sees w1 H := fun i o e =>
  (hg.block i (h.lt e) (fun k => by rw [hH i k.symm] at e; cases e)).trans (h i o e)
def SlRes (H' : PH) (w' w'' : World) (xs : List Int) (e : Ending) : Prop := ∃ u, e = .returned u ∧ SlV rInt (extH H' w' w'') u xs
/-- A function value that tells the nodes behind a node. -/
def NextV (H : PH) (fv : Value) (n : Nat) (nx : Int → List Int) : Prop :=
  ∃ K cap, fv = .func (.func K) #[] cap ∧ Enters K ∧ ∀ (w' : World) (H' : PH) (x : Int), PH.le H H' → Sees w' H' → 0 ≤ x ∧ x < n →
    Calls Tryz.prog K (#[.int .i64 x] ++ cap) w' fun e w'' => SlRes H' w' w'' (nx x) e ∧ Below w'.heap.size w' w''
def WalkRes (B n : Nat) (fr : List Int) (nx : Int → List Int) (w' : World) (e : Ending) : Prop :=
  ∃ b l ρ N, e = .returned (.map (some b)) ∧ B ≤ b ∧ MapL (fun x : Int => Value.int .i64 x) w' b l ∧ WalkI n fr nx l ρ N []

set_option maxHeartbeats 2000000 in
set_option maxRecDepth 100000 in
theorem graph_walk (H : PH) (vf fv : Value) (fr : List Int) (n : Nat) (nx : Int → List Int) (w : World) (hw : Sees w H) (hfr : SlV rInt H vf fr) (hn : n ≤ 20000) (hl : fr.length ≤ 100000000) (hin : ∀ x ∈ fr, 0 ≤ x ∧ x < n)
    (hnx : ∀ x : Int, 0 ≤ x ∧ x < n → ∀ y ∈ nx x, 0 ≤ y ∧ y < n) (hf : NextV H fv n nx) :
    Calls Tryz.prog 67 #[vf, fv] w fun e w' => WalkRes w.heap.size n fr nx w' e ∧ Below w.heap.size w w' := by
  obtain ⟨K, cap, rfl, hE, hf⟩ := hf
  unfold Enters at hE
  have hK : KeyK Tryz.prog 3 (fun x : Int => Value.int .i64 x) := keyInt Tryz.underlying3
  have hmm := @run_makeMap Tryz.prog
  have hfh := Lib.hid hf
  have hinh := Lib.hid hin
  have hnxh := Lib.hid hnx
  clear hf hin hnx
  have hfr' := hfr
  obtain ⟨Af, cf, rfl, -, -⟩ := hfr'
  have hM0 := MapL.new (fun x : Int => Value.int .i64 x) w
  have hB0 : Below w.heap.size w (w.alloc (.map #[] 0)) := (Below.refl _ _).alloc (Nat.le_refl _) _
  have hC := clone_sl (hw.below hB0) hfr (by omega)
  go_enter Tryz.func67, Tryz.ntmps67
  go_wp2
  go_step3
  go_wp2_with (go_at_call 62; refine hC.mono ?_; rintro e w1 ⟨⟨vq, rfl, hown⟩, hB1⟩)
  rw [World.size_alloc] at hown
  have hM1 := hM0.of_block (hB1.block w.heap.size (by simp))
  have hz1 : w.heap.size + 1 ≤ w1.heap.size := by have := hB1.size; simpa using this
  have hB2 := bstep hB0 hB1
  clear hB0 hB1 hM0 hC
  have hHm : H w.heap.size = none := hw.fresh (Nat.le_refl _)
  go_loopw [19] (fun i wr => ∃ (k : Nat) (l : IntMap), k ≤ fr.length ∧ i = .int .i64 k ∧ MapL (fun x : Int => Value.int .i64 x) wr w.heap.size l ∧
    Aside (WalkB n fr nx l (fun _ => 0) 1 ∧ (∀ y v, mget l y = some v → v = .int .i64 y) ∧ (∀ x ∈ fr.take k, hasK l x)) ∧ w1.grownBy wr (some w.heap.size)) (fun i _ => fr.length - (intOf i).toNat)
  case atStart => exact ⟨0, [], Nat.zero_le _, rfl, hM1, ⟨WalkB.nil, (fun y v h => by cases h), (fun x hx => by simp at hx)⟩, grown_refl _ _⟩
  clear hM1
  case round =>
    obtain ⟨k, l, hk, rfl, hM, hI, hg⟩ := hrel
    have hsee : Sees wr H := (hw.below hB2).grown hg hHm
    by_cases hlt : k < fr.length
    · obtain ⟨b, off, c', hve, -, hb, hcell, -⟩ := hfr.ints (by omega)
      cases hve
      have hcl := hcell wr hsee k hlt
      have hbl := hsee.lt' hb
      have hx : fr[k]? = some (fr.getD k 0) := by simp [hlt]
      generalize fr.getD k 0 = x at *
      have hxh := Lib.hid hx
      clear hcell hx
      go_wp2_with (at_mapUpdate; refine wpL_mapUpdate rfl _ _ _ 90 rfl Tryz.underlying90 (fun x : Int => Value.int .i64 x) hK (int_inj _) _ _ rfl hM x _ (by rfl) rfl ?_; intro w2 hM2 hg2)
      go_roundw
      case rel =>
        have hmem := List.mem_of_getElem? hxh.out
        obtain ⟨h1, h2, h3⟩ := hI
        obtain ⟨h4, h5⟩ := h1.lay hmem (hinh.out x hmem) h2
        refine ⟨k + 1, _, by omega, by go_num, hM2, ⟨h4, h5, fun y hy => ?_⟩, hg.trans hg2⟩
        rw [take_succ_getD hxh.out, List.mem_append, List.mem_singleton] at hy
        rcases hy with hy | rfl
        · exact hasK_put.2 (.inr (h3 y hy))
        · exact hasK_put.2 (.inl rfl)
      case measure => simp [intOf]; omega
    · obtain rfl : k = fr.length := by omega
      have hlt' : ¬ (fr.length : Int) < fr.length := by omega
      have hI0 : WalkI n fr nx l (fun _ => 0) 1 fr := ⟨hI.1, fun x hx => hI.2.2 x (by simpa using hx), fun x hx => hI.2.2 x (by simpa using hx), fun x hx => by
        obtain ⟨v, hv⟩ := Option.isSome_iff_exists.1 hx
        obtain ⟨_, _, p, h3, h4⟩ := hI.1.vals x v hv
        rcases h4 with ⟨_, h4⟩ | ⟨h5, _⟩
        · exact .inl h4
        · have := hI.2.1 x v hv
          rw [h3] at this
          injection this with _ e
          exact absurd e h5⟩
      have hI0h := Lib.hid hI0
      have hq0 : QueI wr (w.heap.size + 1) vq fr := (hown.of_block (w1 := wr) (fun j hj => hg.block j (hown.lt hj).2 (fun e => by injection e with e; have := (hown.lt hj).1; omega))).que
      have hBr : Below w.heap.size w wr := hB2.grown hg hB2.size (fun j hj => by injection hj with hj; omega)
      have hzr := hg.size
      clear hI hI0 hlt hown hg hsee
      go_wp2
      go_step3
      go_wp2
      clear hlt'
      refine wp_name fun w3 hw3 => ?_
      obtain rfl := hw3
      go_loopg [6] (2 * n + fr.length) (fun gk o wr => ∃ (q : List Int) (l : IntMap) (ρ : Int → Nat) (N : Nat), QueI wr (w.heap.size + 1) o q ∧ MapL (fun x : Int => Value.int .i64 x) wr w.heap.size l ∧
        Aside (WalkI n fr nx l ρ N q ∧ 2 * (n - l.length) + q.length ≤ gk ∧ gk ≤ 2 * n + fr.length) ∧ Below w.heap.size w wr ∧ w.heap.size + 1 ≤ wr.heap.size)
      case atStart => exact ⟨fr, l, _, _, hq0, hM, ⟨hI0h.out, by omega, by omega⟩, hBr, by omega⟩
      clear hq0 hM hI0h hBr hzr
      case round =>
        obtain ⟨q, l, ρ, N, hq, hM, hI, hB, hz⟩ := hrel
        have hsee := hw.below hB
        cases q with
        | nil =>
          obtain ⟨A, c, rfl⟩ := hq.len_form
          have hIh := Lib.hid hI.1
          clear hI
          go_wp2
          try rw [Exit.noGoto_ret]
          go_ret
          exact ⟨⟨_, l, ρ, N, rfl, Nat.le_refl _, hM, hIh.out⟩, hB⟩
        | cons x q =>
          obtain ⟨g, off, cap2, rfl, hcap, hgl, hcx, hpop⟩ := hq.pop
          have hxr : 0 ≤ x ∧ x < n := by
            obtain ⟨v, hv⟩ := Option.isSome_iff_exists.1 (hI.1.queue x (by simp))
            exact (hI.1.vals x v hv).1
          have hIh := Lib.hid hI
          have hnx := hfh.out wr H x (PH.le_refl H) hsee hxr
          have hH0 : ∀ k, w.heap.size ≤ k → H k = none := fun k hk => hw.fresh hk
          have hH0h := Lib.hid hH0
          have hlx := Lib.hid (WalkB.len_le hI.1.toWalkB hM)
          clear hI hH0
          have hgB := (hq.lt (k := g) rfl).1
          clear hq
          by_cases hc1 : cap2 = 1
          all_goals first
            | (subst hc1
               have hq0 : q = [] := List.eq_nil_of_length_eq_zero (by omega)
               subst hq0
               simp only [if_true, List.length_nil, Nat.sub_self] at hpop
               go_wp2_with fail
               generalize hvo : Value.slice (some ⟨g, off, none⟩) 0 0 = vo at *)
            | (simp only [if_neg hc1] at hpop
               go_wp2_with fail
               generalize hvo : Value.slice (some ⟨g, off + 1, none⟩) q.length (cap2 - 1) = vo at *)
          all_goals
            have hvk : ∀ k, vo.ownBlock = some k → k = g := by intro k hk; rw [← hvo] at hk; injection hk with hk; exact hk.symm
            clear hvo
            refine hnx.mono ?_
            rintro e w3 ⟨⟨u, rfl, hu⟩, hB3⟩
            dsimp only
            have hs3 : Sees w3 (extH H wr w3) := extH.sees hsee hB3
            have hKm : extH H wr w3 w.heap.size = none := by unfold extH; rw [if_pos (by omega)]; exact hH0h.out _ (Nat.le_refl _)
            have hKq : ∀ k, vo.ownBlock = some k → extH H wr w3 k = none := by intro k hk; rw [hvk k hk]; unfold extH; rw [if_pos hgl]; exact hH0h.out _ (by omega)
            have hq3 := hpop.below hB3
            have hM3 := hM.of_block (hB3.block _ hM.lt)
            have hB4 : Below w.heap.size w w3 := bstep hB hB3
            have hz4 : w.heap.size + 1 ≤ w3.heap.size := by have := hB3.size; omega
            have hul := hu.le
            have hu' := hu
            obtain ⟨Au, cu, rfl, -, -⟩ := hu'
            have hKh := Lib.hid (show ∀ k, w3.heap.size ≤ k → extH H wr w3 k = none from fun k hk => hs3.fresh hk)
            have hw3z := Nat.le_refl w3.heap.size
            generalize extH H wr w3 = KK at *
            clear hnx hsee hpop hM hB hB3 hcx hgl hz hgB hvk
            go_wp2
            obtain ⟨wo, rfl⟩ : ∃ wo : World, wo = wr := ⟨_, rfl⟩
            have hs3' := hs3
            clear hs3
            first
              | rw [show ([] : List Int).length + 1 = 1 from rfl]
              | rw [show ((q.length : Int) + 1 == 0) = false by simp; omega]
              | fail "no such frame"
            go_loopw [6, 39] (fun o i wi => ∃ (j : Nat) (q : List Int) (l : IntMap) (ρ : Int → Nat) (N : Nat), j ≤ (nx x).length ∧ i = .int .i64 j ∧ QueI wi (w.heap.size + 1) o q ∧ MapL (fun x : Int => Value.int .i64 x) wi w.heap.size l ∧
              Aside (WalkJ n fr nx l ρ N q x j ∧ 2 * (n - l.length) + q.length + 1 ≤ gk ∧ gk ≤ 2 * n + fr.length) ∧ Below w.heap.size w wi ∧ Sees wi KK ∧ (∀ k, o.ownBlock = some k → KK k = none) ∧ w3.heap.size ≤ wi.heap.size) (fun _ i _ => (nx x).length - (intOf i).toNat)
            case atStart =>
              have h0 := hIh.out
              refine ⟨0, _, l, ρ, N, Nat.zero_le _, rfl, hq3, hM3, ⟨h0.1.pop, ?_, h0.2.2⟩, hB4, hs3', hKq, Nat.le_refl _⟩
              have := h0.2.1
              simp only [List.length_cons, List.length_nil] at this ⊢
              omega
            clear hq3 hM3 hIh hB4 hKq hs3'
            case round =>
              obtain ⟨j, q1, l1, ρ1, N1, hj, rfl, hq1, hM1, hJ, hB1, hs1, hKo, hz1⟩ := hrel
              by_cases hlt : j < (nx x).length
              · obtain ⟨b, off', c', hve, -, hb, hcell, -⟩ := hu.ints (by omega)
                cases hve
                have hcl := hcell wr hs1 j hlt
                have hbl := hs1.lt' hb
                have hyy : (nx x)[j]? = some ((nx x).getD j 0) := by simp [hlt]
                generalize (nx x).getD j 0 = y at *
                have hyh := Lib.hid hyy
                have hyr := hnxh.out x hxr y (List.mem_of_getElem? hyy)
                have hlk := hM1.lookup Tryz.underlying90 hK (z := .int .i64 0) (fun _ => by kernel_rfl) y true
                have hJh := Lib.hid hJ
                clear hcell hyy hJ
                by_cases hk : hasK l1 y
                · obtain ⟨v, hv⟩ := Option.isSome_iff_exists.1 hk
                  have hvh := Lib.hid hv
                  rw [hv] at hlk
                  simp only [if_true, Option.getD_some, Option.isSome_some] at hlk
                  clear hv
                  go_wp2
                  go_roundw
                  case rel =>
                    have h0 := hJh.out
                    exact ⟨j + 1, q1, l1, ρ1, N1, by omega, by go_num, hq1, hM1, ⟨h0.1.skip hyh.out hk, h0.2⟩, hB1, hs1, hKo, hz1⟩
                  case measure => simp [intOf]; omega
                · have hv : mget l1 y = none := by unfold hasK at hk; simpa using hk
                  rw [hv] at hlk
                  simp only [if_true, Option.getD_none, Option.isSome_none] at hlk
                  have hkh := Lib.hid hk
                  clear hv hk
                  go_wp2_with (first
                    | (at_mapUpdate; go_loud (refine wpL_mapUpdate rfl _ _ _ 90 rfl Tryz.underlying90 (fun x : Int => Value.int .i64 x) hK (int_inj _) _ _ rfl hM1 y (.int .i64 x) (by rfl) (by rfl) ?_); intro w5 hM5 hg5)
                    | (at_builtin
                       have hq5 : QueI (w5.alloc (.cells #[.int .i64 y] 3)) (w.heap.size + 1) u6 q1 := (hq1.of_block (w1 := w5) fun k hk => hg5.block k (hq1.lt hk).2 (fun e => by injection e with e; have := (hq1.lt hk).1; omega)).below ((Below.refl _ _).alloc (Nat.le_refl _) _)
                       go_loud (refine wpL_queApp rfl _ _ rfl (w.heap.size + 1) _ q1 y rfl hq5 w5.heap.size 1 rfl (one_new (w := w5) (by simp) 0 y rfl) ?hlen ?hsz ?_)
                       (case hlen => have := hJh.out.2; omega)
                       (case hsz => have := hg5.size; have := hB1.size; have := hM1.lt; simp; omega)
                       intro v6 w6 hq6 hg6 hv6))
                  go_roundw
                  case rel =>
                    have h0 := hJh.out
                    have hz5 := hg5.size
                    have hlt1 := hM1.lt
                    have hM6 := (hM5.of_block (w' := w5.alloc (.cells #[.int .i64 y] 3)) (((Below.refl _ _).alloc (Nat.le_refl _) _ : Below w5.heap.size w5 _).block _ (by omega))).of_block (hg6.block _ (by simp; omega) (fun e => by have := (hq1.lt e.symm).1; omega))
                    have hadd := h0.1.add hyh.out hkh.out hyr
                    refine ⟨j + 1, _, _, _, _, by omega, by go_num, hq6, hM6, ⟨hadd, ?_, h0.2.2⟩, ?_, ?_, ?_, ?_⟩
                    · have h1 := WalkB.len_le hadd.toWalkB hM6
                      have h2 := mput_len (v := .int .i64 x) hkh.out
                      have h3 := h0.2.1
                      rw [h2] at h1 ⊢
                      rw [List.length_append, List.length_singleton]
                      omega
                    · exact ((hB1.grown hg5 (by omega) (fun k hk => by injection hk with hk; omega)).alloc (by have := hB1.size; omega) _).grown hg6 (by have := hB1.size; simp; omega) (fun k hk => by have := (hq1.lt hk).1; omega)
                    · exact ((hs1.grownR hg5 (fun k hk => by injection hk with hk; rw [← hk]; exact hKm)).below ((Below.refl _ _).alloc (Nat.le_refl _) _)).grownR hg6 hKo
                    · intro k hk
                      rcases hv6 k hk with h1 | h1
                      · exact hKo k h1
                      · simp at h1; exact hKh.out k (by omega)
                    · have := hg6.size; simp at this; omega
                  case measure => simp [intOf]; omega
              · obtain rfl : j = (nx x).length := by omega
                have hlt' : ¬ ((nx x).length : Int) < (nx x).length := by omega
                have hJh := Lib.hid hJ
                clear hJ hlt
                go_wp2
                go_roundg (gk - 1)
                case measure =>
                  have h0 := hJh.out.2
                  omega
                case rel =>
                  have h0 := hJh.out
                  have := hM1.lt
                  have h1 := h0.2.1
                  have h2 := h0.2.2
                  exact ⟨q1, l1, ρ1, N1, hq1, hM1, ⟨h0.1.finish (Nat.le_refl _), by omega, by omega⟩, hB1, by omega⟩
end Go.Proofs.YtififjlgjmgikaaGreat
namespace Go.Proofs.YtififjlgjmgikaaGreat
set_option linter.all false
open Go.RowKit

/-- A path to x that begins with a node of fr; it has no node twice. -/
structure PathTo (n : Nat) (fr : List Int) (nx : Int → List Int) (p : List Int) (x : Int) : Prop where
  first : ∃ y, p[0]? = some y ∧ y ∈ fr
  last : p.getLast? = some x
  step : ∀ i a b, p[i]? = some a → p[i + 1]? = some b → b ∈ nx a
  nodup : p.Nodup
  range : ∀ y ∈ p, 0 ≤ y ∧ y < n
structure BackJ (n : Nat) (nx : Int → List Int) (l : IntMap) (ρ : Int → Nat) (xs : List Int) (x y : Int) : Prop where
  first : xs[0]? = some x
  last : xs.getLast? = some y
  step : ∀ i a b, xs[i]? = some a → xs[i + 1]? = some b → a ∈ nx b
  rank : xs.Pairwise fun a b => ρ b < ρ a
  range : ∀ y ∈ xs, 0 ≤ y ∧ y < n
  has : hasK l y
variable {n : Nat} {fr : List Int} {nx : Int → List Int} {l : IntMap} {ρ : Int → Nat} {N : Nat} {xs : List Int} {x y p : Int}
def BackRes (B n : Nat) (fr : List Int) (nx : Int → List Int) (x : Int) (w' : World) (e : Ending) : Prop := ∃ v p, e = .returned v ∧ OwnI w' B v p ∧ PathTo n fr nx p x
end Go.Proofs.YtififjlgjmgikaaGreat
