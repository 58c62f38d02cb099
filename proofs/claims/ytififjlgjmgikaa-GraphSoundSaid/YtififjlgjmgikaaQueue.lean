/- A queue of ints: a slice that the walk owns, cut at its head, appended to at its end. -/
import Derived.Test.YtififjlgjmgikaaLeaders
import Derived.ArgAppend
namespace Go.Proofs.Ytififjlgjmgikaa
set_option linter.all false
open Go.RowKit

def QueI (w : World) (base : Nat) (v : Value) (xs : List Int) : Prop :=
  (v = .slice none 0 0 ∧ xs = []) ∨ ∃ g off cap cur, v = .slice (some ⟨g, off, none⟩) xs.length cap ∧ base ≤ g ∧ w.heap[g]? = some (.cells cur 3 (0, 0)) ∧ xs.length ≤ cap ∧ cap ≤ maxLen ∧
    (cap = 0 ∨ cur.size = off + cap) ∧ ∀ j x, xs[j]? = some x → cur[off + j]? = some (.int .i64 x)
theorem OwnI.que {w : World} {base : Nat} {v : Value} {xs : List Int} (h : OwnI w base v xs) : QueI w base v xs := by
  rcases h.2 with ⟨e, h0⟩ | ⟨g, cap, cur, rfl, h2, h3, h4, h5, h6, h7⟩
  · exact .inl ⟨e, List.eq_nil_of_length_eq_zero h0⟩
  · refine .inr ⟨g, 0, cap, cur, rfl, h2, h3, h4, h5, .inr (by omega), fun j x hj => ?_⟩
    have hjl := (List.getElem?_eq_some_iff.1 hj).1
    have e : (cur.toList.take (xs.length * 1))[j]? = (ints xs)[j]? := by rw [h7]
    rw [List.getElem?_take, if_pos (by omega)] at e
    rw [Nat.zero_add, ← Array.getElem?_toList, e]
    simp [ints, hj]
theorem QueI.lt {w : World} {base : Nat} {v : Value} {xs : List Int} (h : QueI w base v xs) {k : Nat} (hk : v.ownBlock = some k) : base ≤ k ∧ k < w.heap.size := by
  rcases h with ⟨rfl, _⟩ | ⟨g, off, cap, cur, rfl, h2, h3, _⟩
  · cases hk
  · cases hk; exact ⟨h2, (Array.getElem?_eq_some_iff.1 h3).1⟩
theorem QueI.of_block {w w1 : World} {base : Nat} {v : Value} {xs : List Int} (h : QueI w base v xs) (hb : ∀ k, v.ownBlock = some k → w1.heap[k]? = w.heap[k]?) : QueI w1 base v xs := by
  rcases h with h | ⟨g, off, cap, cur, rfl, h2, h3, h4⟩
  · exact .inl h
  · exact .inr ⟨g, off, cap, cur, rfl, h2, (hb g rfl).trans h3, h4⟩
theorem QueI.below {w w1 : World} {base : Nat} {v : Value} {xs : List Int} (h : QueI w base v xs) (hb : Below w.heap.size w w1) : QueI w1 base v xs := h.of_block fun k hk => hb.block k (h.lt hk).2
theorem QueI.len_form {w : World} {base : Nat} {v : Value} {xs : List Int} (h : QueI w base v xs) : ∃ A cap, v = .slice A xs.length cap := by
  rcases h with ⟨e, rfl⟩ | ⟨g, off, cap, cur, rfl, _⟩
  · exact ⟨none, 0, e⟩
  · exact ⟨_, _, rfl⟩
/-- The head, and what is left behind it. -/
theorem QueI.pop {w : World} {base : Nat} {v : Value} {x : Int} {xs : List Int} (h : QueI w base v (x :: xs)) :
    ∃ g off cap, v = .slice (some ⟨g, off, none⟩) (xs.length + 1) cap ∧ xs.length + 1 ≤ cap ∧ g < w.heap.size ∧ w.cell? ⟨g, off, none⟩ = some (.int .i64 x) ∧
      QueI w base (.slice (some ⟨g, if cap = 1 then off else off + 1, none⟩) xs.length (cap - 1)) xs := by
  rcases h with ⟨_, e⟩ | ⟨g, off, cap, cur, rfl, h2, h3, h4, h5, h6, h7⟩
  · cases e
  · simp only [List.length_cons] at h4 ⊢
    refine ⟨g, off, cap, rfl, h4, (Array.getElem?_eq_some_iff.1 h3).1, ?_, .inr ⟨g, _, cap - 1, cur, rfl, h2, h3, by omega, by omega, ?_, fun j y hj => ?_⟩⟩
    · rw [cell_blk h3]
      have := h7 0 x rfl
      simpa using this
    · by_cases e : cap = 1
      · exact .inl (by omega)
      · rw [if_neg e]
        exact .inr (by omega)
    · have hjl := (List.getElem?_eq_some_iff.1 hj).1
      rw [if_neg (by omega)]
      have := h7 (j + 1) y (by simpa using hj)
      rw [show off + 1 + j = off + (j + 1) by omega]
      exact this
theorem wpL_queApp {ops : Array Oper} {rest : List Oper} {o : Oper} {a : Act} {Q : Exit → Act → World → Prop} {w : World} (hgd : o.guard = none) (s x : Operand)
    (ho : o.op = .call { callee := .builtin .append, args := #[s, x], argTypes := #[28, 28] }) (base : Nat) (v : Value) (xs : List Int) (y : Int) (hs : a.eval s = v) (hq : QueI w base v xs)
    (n : Nat) (c : Nat) (hx : a.eval x = .slice (some ⟨n, 0, none⟩) 1 c) (hy : w.cell? ⟨n, 0, none⟩ = some (.int .i64 y)) (hn : xs.length + 1 ≤ 17592186044416) (hbase : base ≤ w.heap.size)
    (h : ∀ v' w', QueI w' base v' (xs ++ [y]) → w.grownBy w' v.ownBlock → (∀ k, v'.ownBlock = some k → v.ownBlock = some k ∨ w.heap.size ≤ k) → wpList Try.prog ops Q rest (a.put o.dst v') w') :
    wpList Try.prog ops Q (o :: rest) a w := by
  have hone : ∀ j z, ([y] : List Int)[j]? = some z → w.cell? ((⟨n, 0, none⟩ : Addr).add j) = some (.int .i64 z) := by
    intro j z hj
    have hjl := (List.getElem?_eq_some_iff.1 hj).1
    obtain rfl : j = 0 := by simpa using hjl
    cases hj
    rw [Addr.add_lit]
    exact hy
  rcases hq with ⟨rfl, rfl⟩ | ⟨g, off, cap, cur, rfl, h2, h3, h4, h5, h6, h7⟩
  · refine wpL_appI hgd s x ho base _ [] [y] hs (OwnI.nil _ _) ⟨n, 0, none⟩ 1 c hx rfl hone (by simp) hbase fun v' w' h1 h2 h3 => h v' w' h1.que h2 fun k hk => ?_
    rcases h3 with h3 | h3
    · rw [h3] at hk; exact .inl hk
    · rw [h3] at hk; injection hk with hk; right; omega
  · obtain ⟨i0, hi, hz0, hz1, hz2⟩ := info_parts infoInt
    have hgl := (Array.getElem?_eq_some_iff.1 h3).1
    refine wpList_append_arg w hgd s x 28 ho 3 i0 (.int .i64 0) 1 8 Try.underlying28 hi hz0 hz1 hz2 rfl (by decide) g off xs.length cap (ints xs) hs (by simp [ints]) ?_ ⟨n, 0, none⟩ 1 c (ints [y]) hx rfl ?_ ?_ ?_ (by unfold maxLen; omega) (by omega) ?_ ?_
    · intro j u hj
      simp only [ints, List.getElem?_map, Option.map_eq_some_iff] at hj
      obtain ⟨z, hz, rfl⟩ := hj
      rw [cell_blk h3]
      exact h7 j z hz
    · intro j u hj
      simp only [ints, List.getElem?_map, Option.map_eq_some_iff] at hj
      obtain ⟨z, hz, rfl⟩ := hj
      exact hone j z hz
    · intro u hu
      obtain ⟨z, _, rfl⟩ := List.mem_map.1 hu
      rfl
    · intro hr j hj
      simp [ints] at hj
      subst hj
      have hc : cur.size = off + cap := h6.resolve_left (by omega)
      refine ⟨?_, by simp [World.frozen?, h3]⟩
      rw [cell_blk h3]
      simp
      omega
    · intro hr
      have hc : cur.size = off + cap := h6.resolve_left (by omega)
      have e : w.setCells g (off + xs.length * 1) (ints [y]) = w.setCell ⟨g, off + xs.length, none⟩ (.int .i64 y) := by simp [World.setCells, ints]
      rw [e]
      refine h _ _ (.inr ⟨g, off, cap, cur.setIfInBounds (off + xs.length) (.int .i64 y), by simp, h2, ?_, by simp; omega, h5, .inr (by simpa using hc), fun j z hj => ?_⟩) (grown_set (grown_refl _ _)) (fun k hk => .inl hk)
      · unfold World.setCell
        simp [Array.getElem?_modify, h3]
      · by_cases ej : j < xs.length
        · rw [List.getElem?_append_left ej] at hj
          rw [Array.getElem?_setIfInBounds, if_neg (by omega)]
          exact h7 j z hj
        · have hjl := (List.getElem?_eq_some_iff.1 hj).1
          simp at hjl
          obtain rfl : j = xs.length := by omega
          simp at hj
          subst hj
          rw [Array.getElem?_setIfInBounds]
          simp
          omega
    · intro hr v' w' hown hg
      have hown' : OwnI w' w.heap.size v' (xs ++ [y]) := by
        unfold OwnI
        rw [List.length_append, ints, List.map_append]
        exact hown
      refine h v' w' (hown'.lower hbase).que ⟨hg.os, hg.tape, hg.output, hg.size, fun k hk _ => hg.block k hk (by simp)⟩ ?_
      exact fun k hk => .inr (hown'.lt hk).1
end Go.Proofs.Ytififjlgjmgikaa
