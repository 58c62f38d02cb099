/- Slices of ints that the walk owns; the shelf's contracts in these words. append onto a slice of ints that the walk owns. -/
import Derived.Test.YtififjlgjmgikaaGreatData
import Derived.Test.YtififjlgjmgikaaGreatShelf
import Derived.Lib.OwnBridge
import Derived.Maps.AppendAt
import Derived.Laws.AppendOwnNone
namespace Go.Proofs.YtififjlgjmgikaaGreat
set_option linter.all false
open Go.RowKit

def ints (xs : List Int) : List Value := xs.map (Value.int .i64)
/-- v is a slice of ints of the walk's own, from block base on. -/
def OwnI (w : World) (base : Nat) (v : Value) (xs : List Int) : Prop := w.ownsRow base 3 1 v xs.length (ints xs)
def isort (xs : List Int) : List Int := xs.mergeSort fun x y => decide (x ≤ y)
theorem isort_length (xs : List Int) : (isort xs).length = xs.length := by simp [isort]
theorem OwnI.of_block {w w1 : World} {base : Nat} {v : Value} {xs : List Int} (h : OwnI w base v xs) (hb : ∀ k, v.ownBlock = some k → w1.heap[k]? = w.heap[k]?) : OwnI w1 base v xs := by
  refine ⟨h.1, ?_⟩
  rcases h.2 with h2 | ⟨g, cap, cur, rfl, h2, h3, h4⟩
  · exact .inl h2
  · exact .inr ⟨g, cap, cur, rfl, h2, (hb g rfl).trans h3, h4⟩
theorem OwnI.lt {w : World} {base : Nat} {v : Value} {xs : List Int} (h : OwnI w base v xs) {k : Nat} (hk : v.ownBlock = some k) : base ≤ k ∧ k < w.heap.size := by
  rcases h.2 with ⟨rfl, _⟩ | ⟨g, cap, cur, rfl, h2, h3, _⟩
  · cases hk
  · cases hk; exact ⟨h2, (Array.getElem?_eq_some_iff.1 h3).1⟩
theorem OwnI.below {w w1 : World} {base : Nat} {v : Value} {xs : List Int} (h : OwnI w base v xs) (hb : Below w.heap.size w w1) : OwnI w1 base v xs := h.of_block fun k hk => hb.block k (h.lt hk).2
theorem OwnI.lower {w : World} {base base' : Nat} {v : Value} {xs : List Int} (h : OwnI w base v xs) (hb : base' ≤ base) : OwnI w base' v xs := by
  refine ⟨h.1, ?_⟩
  rcases h.2 with h2 | ⟨g, cap, cur, rfl, h2, h3, h4⟩
  · exact .inl h2
  · exact .inr ⟨g, cap, cur, rfl, by omega, h3, h4⟩
theorem OwnI.nil (w : World) (base : Nat) : OwnI w base (.slice none 0 0) [] := ⟨by simp [ints], .inl ⟨rfl, rfl⟩⟩
/-- What is owned can be read. -/
theorem OwnI.read {w0 w : World} {H : PH} {v : Value} {xs : List Int} (h : OwnI w w0.heap.size v xs) (hx : ∀ x ∈ xs, I64 x) (hn : xs.length ≤ maxN) : SlV rInt (extH H w0 w) v xs := by
  rcases h.2 with ⟨rfl, e⟩ | ⟨g, cap, cur, rfl, h2, h3, h4, h5, h6, h7⟩
  · have : xs = [] := List.eq_nil_of_length_eq_zero e
    subst this
    exact SlV.nil _ _
  · refine ⟨_, cap, rfl, h4, hn, fun i x hi => ⟨g, 0, [.int .i64 x], rfl, ⟨rfl, cur, _, _, extH.new h2 h3, ?_⟩, rfl, hx x (List.mem_of_getElem? hi)⟩⟩
    intro j u hj
    have hj0 : j = 0 := by
      have := (List.getElem?_eq_some_iff.1 hj).1
      simp at this
      exact this
    subst hj0
    cases hj
    have hil := (List.getElem?_eq_some_iff.1 hi).1
    have e : (cur.toList.take (xs.length * 1))[i]? = some (Value.int .i64 x) := by rw [h7]; simp [ints, hi]
    rw [List.getElem?_take, if_pos (by omega)] at e
    simpa [rInt] using e
theorem grown_grow {w w1 : World} {row : Option Nat} (h : w.grownBy w1 row) (os : Array Obj) : w.grownBy (Go.Sort.grow w1 os) row :=
  ⟨h.os, h.tape, h.output, by simp [Go.Sort.grow]; have := h.size; omega, fun k hk hr => by
    have hs := h.size
    rw [← h.block k hk hr]
    simp only [Go.Sort.grow]
    rw [Array.getElem?_append_left (by omega)]⟩
theorem grown_putRow {w : World} {g q : Nat} {d : Array Int} : w.grownBy (Go.Sort.putRow (Value.int .i64) (Go.Sort.ahead w q) g 0 d) (some g) :=
  ⟨rfl, rfl, rfl, by simp [Go.Sort.putRow, Go.Sort.mapBlock, Go.Sort.ahead], fun k hk hr => by
    have : g ≠ k := fun e => hr (by rw [e])
    simp [Go.Sort.putRow, Go.Sort.mapBlock, Go.Sort.ahead, Array.getElem?_modify, this]⟩
theorem sort_own {w : World} {base : Nat} {v : Value} {xs : List Int} (h : OwnI w base v xs) (hl : xs.length < 4611686018427387904) :
    Calls Tryz.prog 80 #[v] w fun e w' => e = .returned (.tuple #[]) ∧ OwnI w' base v (isort xs) ∧ w.grownBy w' v.ownBlock := by
  by_cases hv : v = .slice none 0 0
  · subst hv
    have hx : xs = [] := by
      rcases h.2 with ⟨_, e⟩ | ⟨g, cap, cur, e, _⟩
      · exact List.eq_nil_of_length_eq_zero e
      · cases e
    subst hx
    refine (Tryz.slices_Sort_int_none none 0 w).mono ?_
    rintro e w' ⟨rfl, rfl⟩
    exact ⟨rfl, by simpa [isort] using h, ⟨rfl, rfl, rfl, Nat.le_refl _, fun _ _ _ => rfl⟩⟩
  · obtain ⟨g, cap, rfl, hg, hlt, hn, hm, _, hH⟩ := Go.Lib.holds_of_ownsRow h hv
    refine (Tryz.slices_Sort_int g 0 cap xs w hH hlt hl).mono ?_
    rintro e w' ⟨rfl, n, os, rfl⟩
    have hs := isort_length xs
    have h1 := Go.Lib.ownsRow_putRow (q := n) (k := xs.length) (ys := isort xs) h hs (Nat.le_refl _)
    have h2 : OwnI (Go.Sort.putRow (Value.int .i64) (Go.Sort.ahead w n) g 0 (isort xs).toArray) base (.slice (some ⟨g, 0, none⟩) xs.length cap) (isort xs) := by
      unfold OwnI ints
      rw [hs]
      have h3 : (isort xs).take xs.length = isort xs := by rw [← hs]; exact List.take_length
      rw [h3] at h1
      exact h1
    refine ⟨rfl, h2.of_block fun k hk => ?_, grown_grow grown_putRow os⟩
    have h5 := (h2.lt hk).2
    show ((Go.Sort.putRow (Value.int .i64) (Go.Sort.ahead w n) g 0 (isort xs).toArray).heap ++ os)[k]? = _
    exact Array.getElem?_append_left h5
theorem compact_own {w : World} {base : Nat} {v : Value} {xs : List Int} (h : OwnI w base v xs) (hl : xs.length ≤ 9223372036854775807) :
    Calls Tryz.prog 164 #[v] w fun e w' => ∃ v', e = .returned v' ∧ OwnI w' base v' (Go.Lib.compact xs) ∧ v'.ownBlock = v.ownBlock ∧ w.grownBy w' v.ownBlock := by
  by_cases hv : v = .slice none 0 0
  · subst hv
    have hx : xs = [] := by
      rcases h.2 with ⟨_, e⟩ | ⟨g, cap, cur, e, _⟩
      · exact List.eq_nil_of_length_eq_zero e
      · cases e
    subst hx
    refine (Tryz.slices_Compact_int_empty none 0 w).mono ?_
    rintro e w' ⟨rfl, rfl⟩
    exact ⟨_, rfl, by simpa [Go.Lib.compact, Go.Lib.compactUpTo] using h, rfl, ⟨rfl, rfl, rfl, Nat.le_refl _, fun _ _ _ => rfl⟩⟩
  · obtain ⟨g, cap, rfl, hg, hlt, hn, hm, _, hH⟩ := Go.Lib.holds_of_ownsRow h hv
    refine (Tryz.slices_Compact_int g 0 cap xs w hH hl hn).mono ?_
    rintro e w' ⟨rfl, q, rfl⟩
    have hc := Go.Lib.compact_length_le xs
    have h1 := Go.Lib.ownsRow_putRow (q := q) (k := (Go.Lib.compact xs).length) (ys := Go.Lib.compact xs ++ List.replicate (xs.length - (Go.Lib.compact xs).length) 0) h (by simp; omega) hc
    refine ⟨_, rfl, ?_, rfl, grown_putRow⟩
    unfold OwnI ints
    rw [List.take_left] at h1
    exact h1
end Go.Proofs.YtififjlgjmgikaaGreat
namespace Go.Proofs.YtififjlgjmgikaaGreat
set_option linter.all false
open Go.RowKit
theorem infoInt : (Tryz.prog.info? 3).map (fun i => (i.zero, i.size, i.bytes)) = some (some (.int .i64 0), 1, 8) := by kernel_rfl
theorem wpL_appI {ops : Array Oper} {rest : List Oper} {o : Oper} {a : Act} {Q : Exit → Act → World → Prop} {w : World} (hgd : o.guard = none) (s x : Operand)
    (ho : o.op = .call { callee := .builtin .append, args := #[s, x], argTypes := #[28, 28] }) (base : Nat) (v : Value) (xs ys : List Int) (hs : a.eval s = v) (hown : OwnI w base v xs)
    (ad : Addr) (m c : Nat) (hx : a.eval x = .slice (some ad) m c) (hm : ys.length = m) (hnews : ∀ j y, ys[j]? = some y → w.cell? (ad.add j) = some (.int .i64 y))
    (hn : xs.length + m ≤ 17592186044416) (hbase : base ≤ w.heap.size)
    (h : ∀ v' w', OwnI w' base v' (xs ++ ys) → w.grownBy w' v.ownBlock → (v'.ownBlock = v.ownBlock ∨ v'.ownBlock = some w.heap.size) → wpList Tryz.prog ops Q rest (a.put o.dst v') w') :
    wpList Tryz.prog ops Q (o :: rest) a w := by
  obtain ⟨i0, hi, hz0, hz1, hz2⟩ := info_parts infoInt
  refine wpList_append_own_at w hgd s x 28 ho base 3 i0 (.int .i64 0) 1 8 Tryz.underlying28 hi hz0 hz1 hz2 rfl (by decide) v xs.length (ints xs) hs hown ad m c (ints ys) hx (by simp [ints, hm]) ?_ ?_ (by unfold maxLen; omega) (by omega) hbase ?_
  · intro j u hj
    simp only [ints, List.getElem?_map, Option.map_eq_some_iff] at hj
    obtain ⟨y, hy, rfl⟩ := hj
    exact hnews j y hy
  · intro u hu
    obtain ⟨y, _, rfl⟩ := List.mem_map.1 hu
    rfl
  · intro v' w' h1 h2 _ h4
    refine h v' w' ?_ h2 h4
    unfold OwnI
    rw [List.length_append, hm, ints, List.map_append]
    exact h1
/-- append of nothing. -/
theorem wpL_appI_nil {ops : Array Oper} {rest : List Oper} {o : Oper} {a : Act} {Q : Exit → Act → World → Prop} {w : World} (hgd : o.guard = none) (s x : Operand)
    (ho : o.op = .call { callee := .builtin .append, args := #[s, x], argTypes := #[28, 28] }) (base : Nat) (v : Value) (xs : List Int) (hs : a.eval s = v) (hown : OwnI w base v xs)
    (hx : a.eval x = .slice none 0 0) (h : wpList Tryz.prog ops Q rest (a.put o.dst v) w) : wpList Tryz.prog ops Q (o :: rest) a w := by
  obtain ⟨i0, hi, hz0, hz1, hz2⟩ := info_parts infoInt
  exact wpList_append_own_none hgd s x 28 ho base 3 i0 1 Tryz.underlying28 hi v xs.length (ints xs) hs hown hx h
theorem OwnI.snoc_lit (w : World) (x : Int) : OwnI (w.alloc (.cells #[.int .i64 x] 3)) w.heap.size (.slice (some ⟨w.heap.size, 0, none⟩) 1 1) [x] :=
  ⟨rfl, .inr ⟨w.heap.size, 1, _, rfl, Nat.le_refl _, ga_new w _, Nat.le_refl _, by unfold maxLen; omega, rfl, rfl⟩⟩
end Go.Proofs.YtififjlgjmgikaaGreat
