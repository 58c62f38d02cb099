/- The blocks of a code, by its leaders (no program). A slice of blocks that the walk owns, their lists of next blocks not yet made. -/
import Derived.Test.YtififjlgjmgikaaGreatFlow
import Derived.Deep.RegionHeld3
import Derived.Deep.AppendLies
import Derived.Deep.DeepCutAuto
namespace Go.Proofs.YtififjlgjmgikaaGreat
set_option linter.all false
open Go.RowKit

/-- How many of the first k places are marked. -/
def cnt (bs : List Bool) : Nat → Nat
  | 0 => 0
  | k + 1 => cnt bs k + (bs.getD k false).toNat
/-- The end of the last row is k. -/
def endAt (r : List (Int × Int)) (k : Int) : List (Int × Int) := r.set (r.length - 1) ((r.getD (r.length - 1) (0, 0)).1, k)
/-- Begin and end of each block, behind k places. -/
def rowsK (bs : List Bool) : Nat → List (Int × Int)
  | 0 => []
  | k + 1 => endAt (if bs.getD k false then rowsK bs k ++ [((k : Int), 0)] else rowsK bs k) (k + 1)
def ofI (bs : List Bool) (p : Int) : Int := cnt bs (p.toNat + 1) - 1
def ofK (bs : List Bool) (k : Nat) : List Int := (List.range k).map fun (p : Nat) => ofI bs p
theorem endAt_len (r : List (Int × Int)) (k : Int) : (endAt r k).length = r.length := by simp [endAt]
theorem rowsK_len (bs : List Bool) (k : Nat) : (rowsK bs k).length = cnt bs k := by
  induction k with
  | zero => rfl
  | succ k ih =>
    simp only [rowsK, endAt_len, cnt]
    cases bs.getD k false <;> simp [ih]
theorem cnt_mono (bs : List Bool) {i j : Nat} (h : i ≤ j) : cnt bs i ≤ cnt bs j := by
  induction j with
  | zero => rw [Nat.le_zero.1 h]; exact Nat.le_refl _
  | succ j ih =>
    by_cases e : i = j + 1
    · subst e; exact Nat.le_refl _
    · have := ih (by omega)
      simp only [cnt]; omega
theorem cnt_le (bs : List Bool) (k : Nat) : cnt bs k ≤ k := by
  induction k with
  | zero => exact Nat.le_refl _
  | succ k ih => simp only [cnt]; cases bs.getD k false <;> simp <;> omega
theorem cnt_pos {bs : List Bool} (h : bs.getD 0 false = true) {k : Nat} (hk : 0 < k) : 0 < cnt bs k := by
  have := cnt_mono bs (show 1 ≤ k from hk)
  simp only [cnt, h] at this
  simp at this
  omega
theorem cnt_marked {bs : List Bool} {k : Nat} (h : bs.getD k false = true) : cnt bs (k + 1) = cnt bs k + 1 := by simp only [cnt, h, Bool.toNat_true]
theorem cnt_plain {bs : List Bool} {k : Nat} (h : bs.getD k false = false) : cnt bs (k + 1) = cnt bs k := by simp only [cnt, h, Bool.toNat_false, Nat.add_zero]
theorem ofK_len (bs : List Bool) (k : Nat) : (ofK bs k).length = k := by simp [ofK]
theorem ofK_succ (bs : List Bool) (k : Nat) : ofK bs (k + 1) = ofK bs k ++ [(cnt bs (k + 1) : Int) - 1] := by
  simp [ofK, List.range_succ, ofI]
theorem ofK_at (bs : List Bool) {n p : Nat} (h : p < n) : (ofK bs n).getD p 0 = ofI bs p := by
  unfold ofK
  rw [List.getD_eq_getElem?_getD, List.getElem?_map, List.getElem?_range h]
  rfl
theorem ofI_range {bs : List Bool} (h0 : bs.getD 0 false = true) {n p : Nat} (hp : p < n) : 0 ≤ ofI bs p ∧ ofI bs p < cnt bs n := by
  unfold ofI
  rw [Int.toNat_natCast]
  have h1 := cnt_pos h0 (show 0 < p + 1 by omega)
  have h2 := cnt_mono bs (show p + 1 ≤ n from hp)
  omega
/-- Block i extends from s to t. -/
structure RowAt (bs : List Bool) (k i s t : Nat) : Prop where
  lt : s < t
  le : t ≤ k
  lead : bs.getD s false = true
  cs : cnt bs s = i
  ct : cnt bs t = i + 1
  mid : ∀ p, s < p → p < t → bs.getD p false = false
  edge : t = k ∨ bs.getD t false = true
theorem rows_spec (bs : List Bool) (k : Nat) : ∀ i, i < cnt bs k → ∃ s t : Nat, (rowsK bs k)[i]? = some ((s : Int), (t : Int)) ∧ RowAt bs k i s t := by
  induction k with
  | zero => intro i hi; simp [cnt] at hi
  | succ k ih =>
    intro i hi
    have hl := rowsK_len bs k
    simp only [rowsK]
    cases hb : bs.getD k false
    · rw [cnt_plain hb] at hi
      obtain ⟨s, t, h1, h2⟩ := ih i hi
      simp only [Bool.false_eq_true, if_false]
      unfold endAt
      rw [List.getElem?_set, hl]
      by_cases e : i = cnt bs k - 1
      · have htk : t = k := by
          rcases h2.edge with h | h
          · exact h
          · have h3 := cnt_marked h
            have := h2.le
            have h4 := h2.ct
            apply Classical.byContradiction
            intro hne
            have := cnt_mono bs (show t + 1 ≤ k by omega)
            omega
        subst e
        refine ⟨s, k + 1, ?_, ⟨by have := h2.lt; omega, Nat.le_refl _, h2.lead, h2.cs, by rw [cnt_plain hb]; omega, fun p h3 h4 => ?_, .inl rfl⟩⟩
        · rw [if_pos rfl, if_pos (by omega), List.getD_eq_getElem?_getD, h1]
          rfl
        · by_cases e2 : p = k
          · rw [e2]; exact hb
          · exact h2.mid p h3 (by omega)
      · rw [if_neg (fun h => e h.symm), h1]
        refine ⟨s, t, rfl, ⟨h2.lt, by have := h2.le; omega, h2.lead, h2.cs, h2.ct, h2.mid, ?_⟩⟩
        rcases h2.edge with h | h
        · have := h2.ct
          rw [h] at this
          omega
        · exact .inr h
    · rw [cnt_marked hb] at hi
      simp only [if_true]
      unfold endAt
      rw [List.getElem?_set, List.length_append, hl, List.length_singleton, Nat.add_sub_cancel]
      by_cases e : i = cnt bs k
      · subst e
        refine ⟨k, k + 1, ?_, ⟨by omega, Nat.le_refl _, hb, rfl, cnt_marked hb, fun p h3 h4 => by omega, .inl rfl⟩⟩
        rw [if_pos rfl, if_pos (by omega), List.getD_eq_getElem?_getD, List.getElem?_append_right (by omega), hl, Nat.sub_self]
        rfl
      · obtain ⟨s, t, h1, h2⟩ := ih i (by omega)
        rw [if_neg (fun h => e h.symm), List.getElem?_append_left (by omega), h1]
        refine ⟨s, t, rfl, ⟨h2.lt, by have := h2.le; omega, h2.lead, h2.cs, h2.ct, h2.mid, ?_⟩⟩
        rcases h2.edge with h | h
        · rw [h]; exact .inr hb
        · exact .inr h
/-- A place lies in the block that ofI tells, and in no other one. -/
theorem row_of {bs : List Bool} {k i s t : Nat} (h : RowAt bs k i s t) {p : Nat} (hp : p < k) : (s ≤ p ∧ p < t) ↔ ofI bs p = i := by
  unfold ofI
  rw [Int.toNat_natCast]
  have hs := cnt_marked h.lead
  have h1 := h.cs
  have h2 := h.ct
  constructor
  · rintro ⟨a, b⟩
    have h3 := cnt_mono bs (show s + 1 ≤ p + 1 by omega)
    have h4 := cnt_mono bs (show p + 1 ≤ t by omega)
    omega
  · intro e
    constructor
    · apply Classical.byContradiction
      intro hn
      have := cnt_mono bs (show p + 1 ≤ s by omega)
      omega
    · apply Classical.byContradiction
      intro hn
      rcases h.edge with h3 | h3
      · omega
      · have h4 := cnt_marked h3
        have := cnt_mono bs (show t + 1 ≤ p + 1 by omega)
        omega
/-- The blocks that can follow block i. -/
def nxF (c : CodeD) (bs : List Bool) (i : Nat) : List Int := (nextL c (((rowsK bs c.instrs.length).getD i (0, 0)).2 - 1).toNat).map (ofI bs)
end Go.Proofs.YtififjlgjmgikaaGreat
namespace Go.Proofs.YtififjlgjmgikaaGreat
set_option linter.all false
open Go.RowKit

theorem infoBk : (Tryz.prog.info? 41).map (fun i => (i.zero, i.size, i.bytes)) = some (some (.agg #[.int .i64 0, .int .i64 0, .slice none 0 0]), 3, 40) := by kernel_rfl
def rowCells (rows : List (Int × Int)) : List Value := rows.flatMap fun r => [.int .i64 r.1, .int .i64 r.2, .slice none 0 0]
theorem rowCells_len (rows : List (Int × Int)) : (rowCells rows).length = rows.length * 3 := by
  unfold rowCells
  induction rows with
  | nil => rfl
  | cons r rows ih => rw [List.flatMap_cons, List.length_append, ih, List.length_cons]; simp; omega
theorem rowCells_cons (r : Int × Int) (rows : List (Int × Int)) : rowCells (r :: rows) = .int .i64 r.1 :: .int .i64 r.2 :: .slice none 0 0 :: rowCells rows := rfl
theorem rowCells_at {rows : List (Int × Int)} {i : Nat} {r : Int × Int} (h : rows[i]? = some r) :
    (rowCells rows)[i * 3]? = some (.int .i64 r.1) ∧ (rowCells rows)[i * 3 + 1]? = some (.int .i64 r.2) ∧ (rowCells rows)[i * 3 + 2]? = some (.slice none 0 0) := by
  induction rows generalizing i with
  | nil => simp at h
  | cons a rows ih =>
    rw [rowCells_cons]
    cases i with
    | zero => simp at h; subst h; exact ⟨rfl, rfl, rfl⟩
    | succ i =>
      have := ih (i := i) (by simpa using h)
      rw [show (i + 1) * 3 = i * 3 + 3 by omega]
      exact this
theorem rowCells_set {rows : List (Int × Int)} {i : Nat} (h : i < rows.length) (k : Int) : (rowCells rows).set (i * 3 + 1) (.int .i64 k) = rowCells (rows.set i ((rows.getD i (0, 0)).1, k)) := by
  induction rows generalizing i with
  | nil => simp at h
  | cons a rows ih =>
    cases i with
    | zero => rfl
    | succ i =>
      have := ih (i := i) (by simpa using h)
      rw [show (i + 1) * 3 + 1 = (i * 3 + 1) + 3 by omega, rowCells_cons]
      simp only [List.set_cons_succ, List.getD_cons_succ]
      rw [rowCells_cons, this]
def OwnB (w : World) (base : Nat) (v : Value) (rows : List (Int × Int)) : Prop := w.ownsRow base 41 3 v rows.length (rowCells rows)
theorem OwnB.nil (w : World) (base : Nat) : OwnB w base (.slice none 0 0) [] := ⟨by simp [rowCells], .inl ⟨rfl, rfl⟩⟩
theorem OwnB.lt {w : World} {base : Nat} {v : Value} {rows : List (Int × Int)} (h : OwnB w base v rows) {k : Nat} (hk : v.ownBlock = some k) : base ≤ k ∧ k < w.heap.size := by
  rcases h.2 with ⟨rfl, _⟩ | ⟨g, cap, cur, rfl, h2, h3, _⟩
  · cases hk
  · cases hk; exact ⟨h2, (Array.getElem?_eq_some_iff.1 h3).1⟩
theorem OwnB.of_block {w w1 : World} {base : Nat} {v : Value} {rows : List (Int × Int)} (h : OwnB w base v rows) (hb : ∀ k, v.ownBlock = some k → w1.heap[k]? = w.heap[k]?) : OwnB w1 base v rows := by
  refine ⟨h.1, ?_⟩
  rcases h.2 with h2 | ⟨g, cap, cur, rfl, h2, h3, h4⟩
  · exact .inl h2
  · exact .inr ⟨g, cap, cur, rfl, h2, (hb g rfl).trans h3, h4⟩
theorem OwnB.al {w : World} {base : Nat} {v : Value} {rows : List (Int × Int)} (h : OwnB w base v rows) (o : Obj) : OwnB (w.alloc o) base v rows :=
  h.of_block fun k hk => Below.heap_alloc w o k (h.lt hk).2
theorem OwnB.form {w : World} {base : Nat} {v : Value} {rows : List (Int × Int)} (h : OwnB w base v rows) (hn : 0 < rows.length) :
    ∃ g cap cur, v = .slice (some ⟨g, 0, none⟩) rows.length cap ∧ base ≤ g ∧ w.heap[g]? = some (.cells cur 41 (0, 0)) ∧ rows.length ≤ cap ∧ cur.toList.take (rows.length * 3) = rowCells rows := by
  rcases h.2 with ⟨_, h0⟩ | ⟨g, cap, cur, rfl, h2, h3, h4, _, _, h7⟩
  · omega
  · exact ⟨g, cap, cur, rfl, h2, h3, h4, h7⟩
theorem OwnB.cells {w : World} {base g n cap i : Nat} {rows : List (Int × Int)} {r : Int × Int} (h : OwnB w base (.slice (some ⟨g, 0, none⟩) n cap) rows) (hi : rows[i]? = some r) :
    w.cell? ⟨g, i * 3, none⟩ = some (.int .i64 r.1) ∧ w.cell? ⟨g, i * 3 + 1, none⟩ = some (.int .i64 r.2) ∧ w.cell? ⟨g, i * 3 + 2, none⟩ = some (.slice none 0 0) := by
  have hl := (List.getElem?_eq_some_iff.1 hi).1
  obtain ⟨g', cap', cur, e, _, h3, _, h7⟩ := h.form (by omega)
  cases e
  have key : ∀ j u, j < rows.length * 3 → (rowCells rows)[j]? = some u → w.cell? ⟨g, j, none⟩ = some u := by
    intro j u hj hu
    rw [cell_blk h3, ← hu, ← h7, List.getElem?_take, if_pos hj, Array.getElem?_toList]
  obtain ⟨a, b, c⟩ := rowCells_at hi
  exact ⟨key _ _ (by omega) a, key _ _ (by omega) b, key _ _ (by omega) c⟩
theorem OwnB.free {w : World} {base g n cap : Nat} {rows : List (Int × Int)} (h : OwnB w base (.slice (some ⟨g, 0, none⟩) n cap) rows) (j : Nat) : w.frozen? ⟨g, j, none⟩ = false := by
  rcases h.2 with ⟨e, _⟩ | ⟨g', cap', cur, e, h2, h3, _⟩
  · cases e
  · cases e
    simp [World.frozen?, h3]
theorem OwnB.setEnd {w : World} {base g n cap j : Nat} {rows : List (Int × Int)} (h : OwnB w base (.slice (some ⟨g, 0, none⟩) n cap) rows) (hj : rows.length = j + 1) (k : Int) :
    OwnB (w.setCell ⟨g, j * 3 + 1, none⟩ (.int .i64 k)) base (.slice (some ⟨g, 0, none⟩) n cap) (endAt rows k) := by
  rcases h.2 with ⟨e, _⟩ | ⟨g', cap', cur, e, h2, h3, h4, h5, h6, h7⟩
  · cases e
  · cases e
    unfold OwnB
    rw [endAt_len]
    refine ⟨by rw [rowCells_len, endAt_len], .inr ⟨g, cap, cur.setIfInBounds (j * 3 + 1) (.int .i64 k), rfl, h2, ?_, h4, h5, by simpa using h6, ?_⟩⟩
    · unfold World.setCell
      simp [Array.getElem?_modify, h3]
    · rw [Array.toList_setIfInBounds, List.take_set, h7, rowCells_set (by omega)]
      unfold endAt
      rw [hj, Nat.add_sub_cancel]
theorem wpL_appB {ops : Array Oper} {rest : List Oper} {o : Oper} {a : Act} {Q : Exit → Act → World → Prop} {w : World} (hgd : o.guard = none) (s x : Operand)
    (ho : o.op = .call { callee := .builtin .append, args := #[s, x], argTypes := #[37, 37] }) (base : Nat) (v : Value) (rows : List (Int × Int)) (hs : a.eval s = v) (hown : OwnB w base v rows)
    (n c : Nat) (k : Int) (hx : a.eval x = .slice (some ⟨n, 0, none⟩) 1 c) (hb : w.heap[n]? = some (.cells #[.int .i64 k, .int .i64 0, .slice none 0 0] 41 (0, 0)))
    (hn : rows.length ≤ 1000000) (hbase : base ≤ w.heap.size)
    (h : ∀ v' w', OwnB w' base v' (rows ++ [(k, 0)]) → w.grownBy w' v.ownBlock → (v'.ownBlock = v.ownBlock ∨ v'.ownBlock = some w.heap.size) → wpList Tryz.prog ops Q rest (a.put o.dst v') w') :
    wpList Tryz.prog ops Q (o :: rest) a w := by
  obtain ⟨i0, hi, hz0, hz1, hz2⟩ := info_parts infoBk
  refine wpList_append_own_at w hgd s x 37 ho base 41 i0 _ 3 40 Tryz.underlying37 hi hz0 hz1 hz2 rfl (by decide) v rows.length (rowCells rows) hs hown ⟨n, 0, none⟩ 1 c [.int .i64 k, .int .i64 0, .slice none 0 0] hx rfl (World.news_of_block hb) ?_ (by unfold maxLen; omega) (by omega) hbase ?_
  · intro u hu
    simp at hu
    rcases hu with rfl | rfl | rfl <;> rfl
  · intro v' w' h1 h2 _ h4
    refine h v' w' ?_ h2 h4
    unfold OwnB
    rw [List.length_append]
    unfold rowCells at h1 ⊢
    rw [List.flatMap_append]
    exact h1
/-- A block that is known whole, behind a store into it. -/
theorem set_blk {w : World} {b i : Nat} {arr : Array Value} {T : TypeId} {fz : Nat × Nat} (h : w.heap[b]? = some (.cells arr T fz)) (v : Value) : (w.setCell ⟨b, i, none⟩ v).heap[b]? = some (.cells (arr.setIfInBounds i v) T fz) := by
  unfold World.setCell
  simp [Array.getElem?_modify, h]
theorem free_blk {w : World} {b : Nat} {arr : Array Value} {T : TypeId} (h : w.heap[b]? = some (.cells arr T (0, 0))) (i : Nat) : w.frozen? ⟨b, i, none⟩ = false := by
  simp [World.frozen?, h]
/-- A step that writes a row of the walk's own, or the row that may be written. -/
theorem grow_step {w w1 w2 : World} {f r : Option Nat} (h : w.grownBy w1 f) (k : w1.grownBy w2 r) (hr : ∀ j, r = some j → w.heap.size ≤ j ∨ some j = f) : w.grownBy w2 f :=
  ⟨k.os.trans h.os, k.tape.trans h.tape, k.output.trans h.output, Nat.le_trans h.size k.size, fun i hi hne => (k.block i (Nat.lt_of_lt_of_le hi h.size) (fun e => by
    rcases hr i e.symm with h1 | h1
    · omega
    · exact hne h1)).trans (h.block i hi hne)⟩
theorem grow_set {w w1 : World} {f : Option Nat} {b i : Nat} {u : Value} (h : w.grownBy w1 f) (hr : w.heap.size ≤ b ∨ some b = f) : w.grownBy (w1.setCell ⟨b, i, none⟩ u) f :=
  grow_step h (grown_set (grown_refl _ _)) (fun j e => by injection e with e; subst e; exact hr)
theorem grow_al {w w1 : World} {f : Option Nat} (h : w.grownBy w1 f) (o : Obj) : w.grownBy (w1.alloc o) f :=
  grow_step h (grown_below ((Below.refl _ _).alloc (Nat.le_refl _) _) none) (fun j e => by cases e)
theorem grow_drew {w w1 : World} {f : Option Nat} (h : w.grownBy w1 f) : w.grownBy w1.drew f := ⟨h.os, h.tape, h.output, h.size, h.block⟩
theorem frz_al {w : World} {o : Obj} {a : Addr} (h : w.frozen? a = false) (hl : a.block < w.heap.size) : (w.alloc o).frozen? a = false := by
  rw [World.frozen?_alloc_old _ _ _ (by omega)]
  exact h
theorem frz_set {w : World} {a b : Addr} {u : Value} (h : w.frozen? b = false) : (w.setCell a u).frozen? b = false := by rw [World.frozen?_setCell]; exact h
theorem size_set {w : World} {a : Addr} {u : Value} : (w.setCell a u).heap.size = w.heap.size := by simp [World.setCell]
theorem set_off {w : World} {b i j : Nat} {u : Value} (h : i ≠ j) : (w.setCell ⟨b, i, none⟩ u).cell? ⟨b, j, none⟩ = w.cell? ⟨b, j, none⟩ :=
  World.cell?_setCell_other w ⟨b, i, none⟩ ⟨b, j, none⟩ u (by simp [h])
theorem set_other {w : World} {b b' i j : Nat} {u : Value} (h : b ≠ b') : (w.setCell ⟨b, i, none⟩ u).cell? ⟨b', j, none⟩ = w.cell? ⟨b', j, none⟩ :=
  World.cell?_setCell_other w ⟨b, i, none⟩ ⟨b', j, none⟩ u (by simp [h])
/-- append of one number, at a step of a region that draws its order. -/
theorem step_appI {ops : Array Oper} {o : Oper} {a : Act} {K : Act → World → Prop} {Q : Exit → Act → World → Prop} {E : Prop} {w : World} (hgd : o.guard = none) (s x : Operand)
    (ho : o.op = .call { callee := .builtin .append, args := #[s, x], argTypes := #[28, 28] }) (base : Nat) (v : Value) (xs : List Int) (hs : a.eval s = v) (hown : OwnI w base v xs)
    (n c : Nat) (y : Int) (hx : a.eval x = .slice (some ⟨n, 0, none⟩) 1 c) (hb : w.heap[n]? = some (.cells #[.int .i64 y] 3 (0, 0))) (hl : xs.length ≤ 1000000) (hbase : base ≤ w.heap.size)
    (h : ∀ g cap w', OwnI w' base (.slice (some ⟨g, 0, none⟩) (xs.length + 1) cap) (xs ++ [y]) → w.grownBy w' v.ownBlock → (v.ownBlock = some g ∨ g = w.heap.size) → g < w'.heap.size → K (a.put o.dst (.slice (some ⟨g, 0, none⟩) (xs.length + 1) cap)) w') :
    if Region.wanted o (yielded ops a.tmps) = true then Oper.wp Tryz.prog o a w K Q else E := by
  obtain ⟨i0, hi, hz0, hz1, hz2⟩ := info_parts infoInt
  refine step_append_lies w hgd s x 28 ho base 3 i0 (.int .i64 0) 1 8 Tryz.underlying28 hi hz0 hz1 hz2 rfl (by decide) v xs.length (ints xs) hs hown ⟨n, 0, none⟩ 1 c [.int .i64 y] hx rfl
    (World.news_of_block hb) (by simp [Value.oneCell']) (by decide) (by unfold maxLen; omega) (by omega) hbase w.heap.size rfl ?_
  intro g cap w' h1 h2 h3 h4
  refine h g cap w' ?_ h2 h3 h4
  unfold OwnI
  rw [List.length_append, ints, List.map_append]
  exact h1
abbrev falses (M : Nat) : Obj := .cells (Array.replicate M (.bool false)) 4
theorem falses_arr {w : World} {g M : Nat} (h : w.heap[g]? = some (falses M)) : ArrB w g (List.replicate M false) := by
  unfold ArrB
  rw [h]
  simp
theorem bools2 {wr : World} {M b : Nat} {v0 v1 v2 v3 v4 x y : Value} {T : TypeId} (hb : wr.heap[b]? = some (.cells #[v0, v1, v2, v3, v4] T (0, 0))) :
    ((((wr.alloc (falses M)).alloc (falses M)).setCell ⟨b, 2, none⟩ x).setCell ⟨b, 3, none⟩ y).heap[b]? = some (.cells #[v0, v1, x, y, v4] T (0, 0)) ∧
    ArrB ((((wr.alloc (falses M)).alloc (falses M)).setCell ⟨b, 2, none⟩ x).setCell ⟨b, 3, none⟩ y) wr.heap.size (List.replicate M false) ∧
    ArrB ((((wr.alloc (falses M)).alloc (falses M)).setCell ⟨b, 2, none⟩ x).setCell ⟨b, 3, none⟩ y) (wr.heap.size + 1) (List.replicate M false) ∧
    wr.grownBy ((((wr.alloc (falses M)).alloc (falses M)).setCell ⟨b, 2, none⟩ x).setCell ⟨b, 3, none⟩ y) (some b) := by
  have hl := (Array.getElem?_eq_some_iff.1 hb).1
  refine ⟨set_blk (set_blk (ga_old (ga_old hb)) x) y, falses_arr ?_, falses_arr ?_, grow_set (grow_set (grow_al (grow_al (grown_refl _ _) _) _) (.inr rfl)) (.inr rfl)⟩
  · rw [setCell_other (by omega), setCell_other (by omega)]
    exact ga_old (ga_new _ _)
  · rw [setCell_other (by omega), setCell_other (by omega)]
    have := ga_new (wr.alloc (falses M)) (falses M)
    rwa [World.size_alloc] at this
theorem bools2' {wr : World} {M b : Nat} {v0 v1 v2 v3 v4 x y : Value} {T : TypeId} (hb : wr.heap[b]? = some (.cells #[v0, v1, v2, v3, v4] T (0, 0))) :
    ((((wr.setCell ⟨b, 2, none⟩ x).alloc (falses M)).alloc (falses M)).setCell ⟨b, 3, none⟩ y).heap[b]? = some (.cells #[v0, v1, x, y, v4] T (0, 0)) ∧
    ArrB ((((wr.setCell ⟨b, 2, none⟩ x).alloc (falses M)).alloc (falses M)).setCell ⟨b, 3, none⟩ y) wr.heap.size (List.replicate M false) ∧
    ArrB ((((wr.setCell ⟨b, 2, none⟩ x).alloc (falses M)).alloc (falses M)).setCell ⟨b, 3, none⟩ y) (wr.heap.size + 1) (List.replicate M false) ∧
    wr.grownBy ((((wr.setCell ⟨b, 2, none⟩ x).alloc (falses M)).alloc (falses M)).setCell ⟨b, 3, none⟩ y) (some b) := by
  have hl := (Array.getElem?_eq_some_iff.1 hb).1
  refine ⟨set_blk (ga_old (ga_old (set_blk hb x))) y, falses_arr ?_, falses_arr ?_, grow_set (grow_al (grow_al (grow_set (grown_refl _ _) (.inr rfl)) _) _) (.inr rfl)⟩
  · rw [setCell_other (by omega)]
    have := ga_new (wr.setCell ⟨b, 2, none⟩ x) (falses M)
    rw [size_set] at this
    exact ga_old this
  · rw [setCell_other (by omega)]
    have := ga_new ((wr.setCell ⟨b, 2, none⟩ x).alloc (falses M)) (falses M)
    rwa [World.size_alloc, size_set] at this
end Go.Proofs.YtififjlgjmgikaaGreat
