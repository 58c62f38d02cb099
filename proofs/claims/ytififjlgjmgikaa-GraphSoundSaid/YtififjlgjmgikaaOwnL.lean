/- Slices that the walk owns whose elements lead on to what is no longer written. -/
import Derived.Test.YtififjlgjmgikaaReached
namespace Go.Proofs.Ytififjlgjmgikaa
set_option linter.all false
open Go.RowKit

/-- H, and what is new in wr but for v's own row. -/
def extX (H : PH) (w wr : World) (v : Value) : PH := fun i => if i < w.heap.size then H i else if v.ownBlock = some i then none else wr.heap[i]?
theorem extX.le_extH (H : PH) (w wr : World) (v : Value) : PH.le (extX H w wr v) (extH H w wr) := by
  intro i o e
  unfold extX at e
  unfold extH
  split at e
  · rename_i h; rw [if_pos h]; exact e
  · rename_i h
    split at e
    · cases e
    · rw [if_neg h]; exact e
theorem extX.sees {H : PH} {w wr : World} (hw : Sees w H) (hb : Below w.heap.size w wr) (v : Value) : Sees wr (extX H w wr v) := fun i o e => extH.sees hw hb i o (extX.le_extH H w wr v i o e)
theorem extX.le_H {H : PH} {w : World} (hw : Sees w H) (wr : World) (v : Value) : PH.le H (extX H w wr v) := by
  intro i o e
  unfold extX
  rw [if_pos (hw.lt e)]
  exact e
/-- A step that writes v's own row alone; the row may move. -/
theorem extX.grown {H : PH} {w wr w1 : World} {v v' : Value} (hg : wr.grownBy w1 v.ownBlock) (hv : v'.ownBlock = v.ownBlock ∨ v'.ownBlock = some wr.heap.size) : PH.le (extX H w wr v) (extX H w w1 v') := by
  intro i o e
  unfold extX at e ⊢
  split at e
  · rename_i h; rw [if_pos h]; exact e
  · rename_i h
    split at e
    · cases e
    · rename_i h2
      have hi : i < wr.heap.size := (Array.getElem?_eq_some_iff.1 e).1
      rw [if_neg h, if_neg, hg.block i hi (fun k => h2 k.symm)]
      · exact e
      · rcases hv with hv | hv
        · rw [hv]; exact h2
        · rw [hv]; intro k; injection k with k; omega
theorem extX.below {H : PH} {w wr w1 : World} {v : Value} (hb : Below wr.heap.size wr w1) : PH.le (extX H w wr v) (extX H w w1 v) := by
  intro i o e
  unfold extX at e ⊢
  split at e
  · rename_i h; rw [if_pos h]; exact e
  · rename_i h
    split at e
    · cases e
    · rename_i h2
      have hi : i < wr.heap.size := (Array.getElem?_eq_some_iff.1 e).1
      rw [if_neg h, if_neg h2, hb.block i hi]
      exact e
/-- What lies new in wr, but not in v's row, is known. -/
theorem extX.of_extH {H : PH} {w w1 wr : World} {v : Value} (hw : Sees w H) (hb : Below w.heap.size w w1) (hb2 : Below w1.heap.size w1 wr) (hv : ∀ k, v.ownBlock = some k → w1.heap[k]? = none ∨ False) : PH.le (extX H w w1 v) (extX H w wr v) := extX.below hb2

def OwnL {α : Type} (r : Rp α) (T : TypeId) (H : PH) (w wr : World) (v : Value) (xs : List α) : Prop :=
  ∃ cells, wr.ownsRow w.heap.size T r.sz v xs.length cells ∧ ∀ i x, xs[i]? = some x → r.R (extX H w wr v) ((cells.drop (i * r.sz)).take r.sz) x
theorem OwnL.nil {α : Type} (r : Rp α) (T : TypeId) (H : PH) (w wr : World) : OwnL r T H w wr (.slice none 0 0) [] := ⟨[], ⟨by simp, .inl ⟨rfl, rfl⟩⟩, fun i x h => by simp at h⟩
theorem OwnL.lt {α : Type} {r : Rp α} {T : TypeId} {H : PH} {w wr : World} {v : Value} {xs : List α} (h : OwnL r T H w wr v xs) {k : Nat} (hk : v.ownBlock = some k) : w.heap.size ≤ k ∧ k < wr.heap.size := by
  obtain ⟨cells, h, _⟩ := h
  rcases h.2 with ⟨rfl, _⟩ | ⟨g, cap, cur, rfl, h2, h3, _⟩
  · cases hk
  · cases hk; exact ⟨h2, (Array.getElem?_eq_some_iff.1 h3).1⟩
theorem OwnL.below {α : Type} {r : Rp α} {T : TypeId} {H : PH} {w wr w1 : World} {v : Value} {xs : List α} (h : OwnL r T H w wr v xs) (hb : Below wr.heap.size wr w1) : OwnL r T H w w1 v xs := by
  have hlt := fun k hk => (h.lt (k := k) hk).2
  obtain ⟨cells, ⟨h0, h1⟩, h2⟩ := h
  refine ⟨cells, ⟨h0, ?_⟩, fun i x hi => r.mono (extX.below hb) (h2 i x hi)⟩
  rcases h1 with h1 | ⟨g, cap, cur, rfl, h3, h4, h5⟩
  · exact .inl h1
  · exact .inr ⟨g, cap, cur, rfl, h3, (hb.block g (hlt g rfl)).trans h4, h5⟩
theorem OwnL.len_form {α : Type} {r : Rp α} {T : TypeId} {H : PH} {w wr : World} {v : Value} {xs : List α} (h : OwnL r T H w wr v xs) : ∃ A cap, v = .slice A xs.length cap ∧ xs.length ≤ cap := by
  obtain ⟨cells, h, _⟩ := h
  rcases h.2 with ⟨e, h0⟩ | ⟨g, cap, cur, rfl, h2, h3, h4, _⟩
  · exact ⟨none, 0, by rw [h0]; exact e, by omega⟩
  · exact ⟨_, cap, rfl, h4⟩
/-- What is owned can be read. -/
theorem OwnL.read {α : Type} {r : Rp α} {T : TypeId} {H : PH} {w wr : World} {v : Value} {xs : List α} (h : OwnL r T H w wr v xs) (hn : xs.length ≤ maxN) : SlV r (extH H w wr) v xs := by
  obtain ⟨cells, h, hR⟩ := h
  rcases h.2 with ⟨rfl, e⟩ | ⟨g, cap, cur, rfl, h2, h3, h4, h5, h6, h7⟩
  · have : xs = [] := List.eq_nil_of_length_eq_zero e
    subst this
    exact SlV.nil _ _
  · refine ⟨_, cap, rfl, h4, hn, fun i x hi => ⟨g, 0, (cells.drop (i * r.sz)).take r.sz, rfl, ⟨rfl, cur, _, _, extH.new h2 h3, ?_⟩, r.mono (extX.le_extH _ _ _ _) (hR i x hi)⟩⟩
    intro j u hj
    have hil := (List.getElem?_eq_some_iff.1 hi).1
    have hjl : j < r.sz := by
      have := (List.getElem?_eq_some_iff.1 hj).1
      rw [List.length_take] at this
      omega
    rw [List.getElem?_take, if_pos hjl, List.getElem?_drop, ← h7, List.getElem?_take] at hj
    have hb : i * r.sz + j < xs.length * r.sz := by
      have h1 : (i + 1) * r.sz ≤ xs.length * r.sz := Nat.mul_le_mul_right _ (by omega)
      rw [Nat.add_mul, Nat.one_mul] at h1
      omega
    rw [if_pos hb, Array.getElem?_toList] at hj
    simpa using hj
theorem wpL_appL {α : Type} (r : Rp α) (S T : TypeId) (z : Value) (bytes : Nat) (hS : Try.prog.underlying S = some (.slice T)) (hinfo : (Try.prog.info? T).map (fun i => (i.zero, i.size, i.bytes)) = some (some z, r.sz, bytes))
    (hz : z.cells.size = r.sz) (hsz : 0 < r.sz) (hby : bytes ≤ 64)
    {ops : Array Oper} {rest : List Oper} {o : Oper} {a : Act} {Q : Exit → Act → World → Prop} {H : PH} {w wr : World} (hgd : o.guard = none) (s x : Operand)
    (ho : o.op = .call { callee := .builtin .append, args := #[s, x], argTypes := #[S, S] }) (v : Value) (xs : List α) (hs : a.eval s = v) (hown : OwnL r T H w wr v xs)
    (n : Nat) (c : Nat) (cs : List Value) (hx : a.eval x = .slice (some ⟨n, 0, none⟩) 1 c) (hcs : ∀ j u, cs[j]? = some u → wr.cell? ⟨n, j, none⟩ = some u) (hone : ∀ u ∈ cs, u.oneCell' = true)
    (y : α) (hy : r.R (extX H w wr v) cs y) (hn : xs.length + 1 ≤ 1099511627776) (hbase : w.heap.size ≤ wr.heap.size)
    (h : ∀ v' w', OwnL r T H w w' v' (xs ++ [y]) → wr.grownBy w' v.ownBlock → (v'.ownBlock = v.ownBlock ∨ v'.ownBlock = some wr.heap.size) → wpList Try.prog ops Q rest (a.put o.dst v') w') :
    wpList Try.prog ops Q (o :: rest) a wr := by
  obtain ⟨i0, hi, hz0, hz1, hz2⟩ := info_parts hinfo
  obtain ⟨cells, hrow, hR⟩ := hown
  have hlen := r.len hy
  refine wpList_append_own_at wr hgd s x S ho w.heap.size T i0 z r.sz bytes hS hi hz0 hz1 hz2 hz hsz v xs.length cells hs hrow ⟨n, 0, none⟩ 1 c cs hx (by rw [hlen, Nat.one_mul]) ?_ hone (by unfold maxLen; omega) ?_ hbase ?_
  · intro j u hj
    rw [Addr.add_lit, Nat.zero_add]
    exact hcs j u hj
  · exact Nat.le_trans (Nat.mul_le_mul hn hby) (by omega)
  · intro v' w' h1 h2 _ h4
    refine h v' w' ⟨cells ++ cs, by rw [List.length_append]; exact h1, fun i x hi => ?_⟩ h2 h4
    have hm := extX.grown (H := H) (w := w) h2 h4
    have hcl := hrow.1
    by_cases e : i < xs.length
    · rw [List.getElem?_append_left e] at hi
      have := r.mono hm (hR i x hi)
      have hb : (i + 1) * r.sz ≤ xs.length * r.sz := Nat.mul_le_mul_right _ (by omega)
      rw [Nat.add_mul, Nat.one_mul] at hb
      rw [List.drop_append_of_le_length (by omega), List.take_append_of_le_length (by rw [List.length_drop]; omega)]
      exact this
    · have hi2 := (List.getElem?_eq_some_iff.1 hi).1
      simp at hi2
      obtain rfl : i = xs.length := by omega
      simp at hi
      subst hi
      rw [← hcl, List.drop_left, ← hlen, List.take_length]
      exact r.mono hm hy
end Go.Proofs.Ytififjlgjmgikaa
