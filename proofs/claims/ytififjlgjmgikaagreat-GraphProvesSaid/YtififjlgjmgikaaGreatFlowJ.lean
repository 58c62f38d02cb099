/- The state of the last loops of graph.flowOf (no program). What graph.flowOf makes, read as a flow (no program). The flow of a code is one (no program). -/
import Derived.Test.YtififjlgjmgikaaGreatFlowN
import Derived.Test.YtififjlgjmgikaaGreatLiveA
import Derived.Test.YtififjlgjmgikaaGreatDom
namespace Go.Proofs.YtififjlgjmgikaaGreat
set_option linter.all false
open Go.RowKit

abbrev encI : Int → Value := fun x => .int .i64 x
abbrev nilV : Value := .slice none 0 0
/-- The blocks' row, its third fields by themselves. -/
def BlkI (w : World) (g : Nat) (rows : List (Int × Int)) (vnx : Nat → Value) : Prop :=
  ∃ arr, w.heap[g]? = some (.cells arr 41 (0, 0)) ∧ ∀ i r, rows[i]? = some r → arr[i * 3]? = some (.int .i64 r.1) ∧ arr[i * 3 + 1]? = some (.int .i64 r.2) ∧ arr[i * 3 + 2]? = some (vnx i)
theorem BlkI.of_block {w w1 : World} {g : Nat} {rows : List (Int × Int)} {vnx : Nat → Value} (h : BlkI w g rows vnx) (hb : w1.heap[g]? = w.heap[g]?) : BlkI w1 g rows vnx := by
  obtain ⟨arr, h1, h2⟩ := h
  exact ⟨arr, hb.trans h1, h2⟩
theorem BlkI.lt {w : World} {g : Nat} {rows : List (Int × Int)} {vnx : Nat → Value} (h : BlkI w g rows vnx) : g < w.heap.size := by
  obtain ⟨arr, h1, h2⟩ := h
  exact (Array.getElem?_eq_some_iff.1 h1).1
theorem BlkI.cells {w : World} {g i : Nat} {rows : List (Int × Int)} {vnx : Nat → Value} {r : Int × Int} (h : BlkI w g rows vnx) (hi : rows[i]? = some r) :
    w.cell? ⟨g, i * 3, none⟩ = some (.int .i64 r.1) ∧ w.cell? ⟨g, i * 3 + 1, none⟩ = some (.int .i64 r.2) ∧ w.cell? ⟨g, i * 3 + 2, none⟩ = some (vnx i) := by
  obtain ⟨arr, h1, h2⟩ := h
  obtain ⟨a, b, c⟩ := h2 i r hi
  exact ⟨(cell_blk h1 _).trans a, (cell_blk h1 _).trans b, (cell_blk h1 _).trans c⟩
theorem BlkI.free {w : World} {g : Nat} {rows : List (Int × Int)} {vnx : Nat → Value} (h : BlkI w g rows vnx) (j : Nat) : w.frozen? ⟨g, j, none⟩ = false := by
  obtain ⟨arr, h1, h2⟩ := h
  exact free_blk h1 j
theorem BlkI.set {w : World} {g i : Nat} {rows : List (Int × Int)} {vnx : Nat → Value} (h : BlkI w g rows vnx) (v : Value) : BlkI (w.setCell ⟨g, i * 3 + 2, none⟩ v) g rows (fun k => if k = i then v else vnx k) := by
  obtain ⟨arr, h1, h2⟩ := h
  refine ⟨_, set_blk h1 v, fun k r hk => ?_⟩
  obtain ⟨a, b, c⟩ := h2 k r hk
  refine ⟨?_, ?_, ?_⟩
  · rw [Array.getElem?_setIfInBounds_ne (by omega)]; exact a
  · rw [Array.getElem?_setIfInBounds_ne (by omega)]; exact b
  · by_cases e : k = i
    · subst e
      dsimp only
      rw [if_pos rfl, Array.getElem?_setIfInBounds_self_of_lt]
      exact (Array.getElem?_eq_some_iff.1 c).1
    · dsimp only
      rw [if_neg e, Array.getElem?_setIfInBounds_ne (by omega)]; exact c
/-- Which blocks are ahead of block y, behind i blocks and j of the next one's. -/
def aheadIJ (nx : Nat → List Int) (i j : Nat) (y : Int) : List Int :=
  ((List.range i).flatMap fun k => ((nx k).filter (· == y)).map fun _ => (k : Int)) ++ (((nx i).take j).filter (· == y)).map fun _ => (i : Int)
theorem aheadIJ_zero (nx : Nat → List Int) (y : Int) : aheadIJ nx 0 0 y = [] := by simp [aheadIJ]
theorem aheadIJ_step {nx : Nat → List Int} {i j : Nat} {z : Int} (h : (nx i)[j]? = some z) (y : Int) : aheadIJ nx i (j + 1) y = aheadIJ nx i j y ++ (if y = z then [(i : Int)] else []) := by
  unfold aheadIJ
  rw [List.append_assoc]
  congr 1
  rw [List.take_add_one, h, List.filter_append, List.map_append]
  congr 1
  by_cases e : y = z
  · subst e; simp
  · have e2 : ¬ z = y := fun k => e k.symm
    simp [e, e2]
theorem aheadIJ_next (nx : Nat → List Int) (i : Nat) (y : Int) : aheadIJ nx i (nx i).length y = aheadIJ nx (i + 1) 0 y := by
  unfold aheadIJ
  rw [List.take_length, List.range_succ, List.flatMap_append]
  simp
theorem nxF_len (c : CodeD) (bs : List Bool) (i : Nat) : (nxF c bs i).length ≤ 2 := by unfold nxF; rw [List.length_map]; exact next_len _ _
theorem aheadIJ_len (nx : Nat → List Int) (i j : Nat) (y : Int) (h : ∀ k, k ≤ i → (nx k).length ≤ 2) : (aheadIJ nx i j y).length ≤ 2 * i + 2 := by
  unfold aheadIJ
  rw [List.length_append, List.length_map]
  have h1 : ∀ m, m ≤ i → ((List.range m).flatMap fun k => ((nx k).filter (· == y)).map fun _ => (k : Int)).length ≤ 2 * m := by
    intro m
    induction m with
    | zero => intro _; simp
    | succ m ih =>
      intro hm
      rw [List.range_succ, List.flatMap_append, List.length_append]
      have := ih (by omega)
      have h2 := List.length_filter_le (· == y) (nx m)
      have h3 := h m (by omega)
      rw [List.flatMap_cons, List.flatMap_nil, List.append_nil, List.length_map]
      omega
  have h4 := h1 i (Nat.le_refl _)
  have h5 := List.length_filter_le (· == y) ((nx i).take j)
  have h6 := h i (Nat.le_refl _)
  rw [List.length_take] at h5
  omega
structure FlowI (nx : Nat → List Int) (rs : List Bool) (w : World) (K0 : PH) (B g gr P : Nat) (rows : List (Int × Int)) (i j j2 m : Nat) (wr : World) (vnx : Nat → Value) (l : IntMap) (K : PH) (bsR : List Bool) : Prop where
  blk : BlkI wr g rows vnx
  arr : ArrB wr gr bsR
  map : MapL encI wr P l
  sees : Sees wr K
  le : PH.le K0 K
  done : ∀ k, k < i → SlV rInt K (vnx k) (nx k)
  todo : ∀ k, i < k → vnx k = nilV
  cur : OwnI wr B (vnx i) ((nx i).take j)
  curK : ∀ k, (vnx i).ownBlock = some k → K k = none
  ah : ∀ y, OwnI wr B ((mget l y).getD nilV) (aheadIJ nx i j2 y)
  ahK : ∀ y k, ((mget l y).getD nilV).ownBlock = some k → K k = none
  inj : ∀ y y' k, y ≠ y' → ((mget l y).getD nilV).ownBlock = some k → ((mget l y').getD nilV).ownBlock ≠ some k
  apart : ∀ y k, (vnx i).ownBlock = some k → ((mget l y).getD nilV).ownBlock ≠ some k
  liveG : K g = none
  liveR : K gr = none
  liveP : K P = none
  ltG : g < B
  ltR : gr < B
  ltP : P < B
  neGR : g ≠ gr
  neGP : g ≠ P
  neRP : gr ≠ P
  size : B ≤ wr.heap.size
  old : w.heap.size ≤ g ∧ w.heap.size ≤ gr ∧ w.heap.size ≤ P
  oldB : w.heap.size ≤ B
  below : Below w.heap.size w wr
  low : ∀ b, b < w.heap.size → K b = K0 b
  marks : Marks bsR rows.length fun k => k < m ∧ rs.getD (rows.getD k (0, 0)).1.toNat false = true
variable {nx : Nat → List Int} {rs : List Bool} {w wr : World} {K0 K : PH} {B g gr P i j j2 m : Nat} {rows : List (Int × Int)} {vnx : Nat → Value} {l : IntMap} {bsR : List Bool}
theorem extH.step {H : PH} {w w1 w2 : World} (hb : Below w1.heap.size w1 w2) : PH.le (extH H w w1) (extH H w w2) := by
  intro i o e
  unfold extH at e ⊢
  split at e
  · rename_i h; rw [if_pos h]; exact e
  · rename_i h
    rw [if_neg h, hb.block i (Array.getElem?_eq_some_iff.1 e).1]
    exact e
theorem ownI_keep {w w1 : World} {base : Nat} {v : Value} {xs : List Int} (h : OwnI w base v xs) (hb : ∀ k, v.ownBlock = some k → base ≤ k → k < w.heap.size → w1.heap[k]? = w.heap[k]?) : OwnI w1 base v xs :=
  h.of_block fun k hk => hb k hk (h.lt hk).1 (h.lt hk).2
/-- A new block. -/
theorem FlowI.al (h : FlowI nx rs w K0 B g gr P rows i j j2 m wr vnx l K bsR) (o : Obj) : FlowI nx rs w K0 B g gr P rows i j j2 m (wr.alloc o) vnx l K bsR := by
  have hB : Below wr.heap.size wr (wr.alloc o) := (Below.refl _ _).alloc (Nat.le_refl _) _
  exact { h with
    blk := h.blk.of_block (hB.block _ h.blk.lt)
    arr := h.arr.of_block (hB.block _ h.arr.lt)
    map := h.map.of_block (hB.block _ h.map.lt)
    sees := h.sees.below hB
    cur := h.cur.below hB
    ah := fun y => (h.ah y).below hB
    size := by rw [World.size_alloc]; have := h.size; omega
    below := h.below.alloc h.below.size o }
theorem FlowI.drew (h : FlowI nx rs w K0 B g gr P rows i j j2 m wr vnx l K bsR) : FlowI nx rs w K0 B g gr P rows i j j2 m wr.drew vnx l K bsR :=
  { h with blk := h.blk, arr := h.arr, map := h.map, sees := h.sees, cur := h.cur, ah := h.ah, size := h.size, below := ⟨h.below.os, h.below.tape, h.below.output, h.below.size, h.below.block⟩ }
/-- The store into the row of what is reached. -/
theorem FlowI.setR (h : FlowI nx rs w K0 B g gr P rows i j j2 i wr vnx l K bsR) (hi : i < rows.length) {b : Bool} (hb : b = rs.getD (rows.getD i (0, 0)).1.toNat false) :
    FlowI nx rs w K0 B g gr P rows i j j2 (i + 1) (wr.setCell ⟨gr, i, none⟩ (.bool b)) vnx l K (bsR.set i b) := by
  exact { h with
    blk := h.blk.of_block (setCell_other h.neGR)
    arr := h.arr.set i b
    map := h.map.of_block (setCell_other (fun e => h.neRP e.symm))
    sees := fun k o e => (setCell_other (fun e2 => by rw [e2, h.liveR] at e; cases e)).trans (h.sees k o e)
    cur := ownI_keep h.cur fun k _ h1 _ => setCell_other (by have := h.ltR; omega)
    ah := fun y => ownI_keep (h.ah y) fun k _ h1 _ => setCell_other (by have := h.ltR; omega)
    size := by rw [size_set]; exact h.size
    below := setCell_below h.below h.old.2.1
    marks := by
      refine ⟨by rw [List.length_set]; exact h.marks.len, fun k hk => ?_⟩
      have hl : i < bsR.length := by rw [h.marks.len]; exact hi
      have h1 := h.marks.iff_ k hk
      rw [List.getD_eq_getElem?_getD, List.getElem?_set]
      by_cases e : i = k
      · subst e
        rw [if_pos rfl, if_pos hl, Option.getD_some, hb]
        exact ⟨fun h => ⟨by omega, h⟩, fun h => h.2⟩
      · rw [if_neg e, ← List.getD_eq_getElem?_getD, h1]
        exact ⟨fun h => ⟨by omega, h.2⟩, fun h => ⟨by omega, h.2⟩⟩ }
/-- One more block that can follow block i. -/
theorem FlowI.addN (h : FlowI nx rs w K0 B g gr P rows i j j2 m wr vnx l K bsR) {z : Int} (hz : (nx i)[j]? = some z) {w6 : World} {g2 n cap : Nat}
    (h6 : OwnI w6 B (.slice (some ⟨g2, 0, none⟩) n cap) ((nx i).take j ++ [z])) (hg6 : wr.grownBy w6 (vnx i).ownBlock) (hat : (vnx i).ownBlock = some g2 ∨ g2 = wr.heap.size) :
    FlowI nx rs w K0 B g gr P rows i (j + 1) j2 m (w6.setCell ⟨g, i * 3 + 2, none⟩ (.slice (some ⟨g2, 0, none⟩) n cap)) (fun k => if k = i then .slice (some ⟨g2, 0, none⟩) n cap else vnx k) l K bsR := by
  have hcb : ∀ k, (vnx i).ownBlock = some k → B ≤ k := fun k hk => (h.cur.lt hk).1
  have hsz := h.size
  have hg2 : B ≤ g2 := (h6.lt (k := g2) rfl).1
  have hK2 : K g2 = none := by
    rcases hat with e | e
    · exact h.curK _ e
    · rw [e]; exact h.sees.fresh (Nat.le_refl _)
  have hne : ∀ b, b < B → some b ≠ (vnx i).ownBlock := fun b hb e => by have := hcb b e.symm; omega
  have hvi : (if i = i then Value.slice (some ⟨g2, 0, none⟩) n cap else vnx i) = .slice (some ⟨g2, 0, none⟩) n cap := if_pos rfl
  have hblk6 : ∀ b, b < B → w6.heap[b]? = wr.heap[b]? := fun b hb => hg6.block b (by omega) (hne b hb)
  refine { h with
    blk := (h.blk.of_block (hblk6 g h.ltG)).set _
    arr := h.arr.of_block ((setCell_other (fun e => h.neGR e.symm)).trans (hblk6 gr h.ltR))
    map := h.map.of_block ((setCell_other (fun e => h.neGP e.symm)).trans (hblk6 P h.ltP))
    sees := fun k o e => ?_
    done := fun k hk => ?_
    todo := fun k hk => ?_
    cur := ?_
    curK := fun k hk => ?_
    ah := fun y => ?_
    apart := fun y k hk => ?_
    size := ?_
    below := ?_ }
  · have h1 := h.sees.lt e
    have h2 : some k ≠ (vnx i).ownBlock := fun e2 => by rw [h.curK k e2.symm] at e; cases e
    have h3 : k ≠ g := fun e2 => by rw [e2, h.liveG] at e; cases e
    exact (setCell_other h3).trans ((hg6.block k h1 h2).trans (h.sees k o e))
  · rw [if_neg (by omega)]; exact h.done k hk
  · rw [if_neg (by omega)]; exact h.todo k hk
  · rw [hvi, List.take_add_one, hz]
    exact h6.of_block fun k hk => setCell_other (by have h1 : g2 = k := Option.some.inj hk; have := h.ltG; omega)
  · rw [hvi] at hk
    have h1 : g2 = k := Option.some.inj hk
    rw [← h1]; exact hK2
  · refine ownI_keep (h.ah y) fun k hk h1 h2 => ?_
    have h3 : some k ≠ (vnx i).ownBlock := fun e => h.apart y k e.symm hk
    exact (setCell_other (by have := h.ltG; omega)).trans (hg6.block k h2 h3)
  · rw [hvi] at hk
    have h1 : g2 = k := Option.some.inj hk
    subst h1
    intro e
    rcases hat with h2 | h2
    · exact h.apart y g2 h2 e
    · have := ((h.ah y).lt e).2
      omega
  · rw [size_set]; have := hg6.size; omega
  · exact setCell_below (h.below.grown hg6 h.below.size fun k hk => by have := hcb k hk; have := h.oldB; omega) h.old.1
/-- One more block ahead. -/
theorem FlowI.addA (h : FlowI nx rs w K0 B g gr P rows i j j2 m wr vnx l K bsR) {z : Int} (hz : (nx i)[j2]? = some z) {w6 w7 : World} {g2 n cap : Nat}
    (h6 : OwnI w6 B (.slice (some ⟨g2, 0, none⟩) n cap) (aheadIJ nx i j2 z ++ [(i : Int)])) (hg6 : wr.grownBy w6 ((mget l z).getD nilV).ownBlock) (hat : ((mget l z).getD nilV).ownBlock = some g2 ∨ g2 = wr.heap.size)
    (h7 : MapL encI w7 P (mput l z (.slice (some ⟨g2, 0, none⟩) n cap))) (hg7 : w6.grownBy w7 (some P)) :
    FlowI nx rs w K0 B g gr P rows i j (j2 + 1) m w7 vnx (mput l z (.slice (some ⟨g2, 0, none⟩) n cap)) K bsR := by
  have hcb : ∀ y k, ((mget l y).getD nilV).ownBlock = some k → B ≤ k := fun y k hk => ((h.ah y).lt hk).1
  have hsz := h.size
  have hg2 : B ≤ g2 := (h6.lt (k := g2) rfl).1
  have hg2s : g2 < w6.heap.size := (h6.lt (k := g2) rfl).2
  have hK2 : K g2 = none := by
    rcases hat with e | e
    · exact h.ahK z _ e
    · rw [e]; exact h.sees.fresh (Nat.le_refl _)
  have hne : ∀ b, b < B → some b ≠ ((mget l z).getD nilV).ownBlock := fun b hb e => by have := hcb z b e.symm; omega
  have hs6 := hg6.size
  have hblk : ∀ b, b < wr.heap.size → some b ≠ ((mget l z).getD nilV).ownBlock → b ≠ P → w7.heap[b]? = wr.heap[b]? := fun b h1 h2 h3 =>
    (hg7.block b (by omega) (fun e => h3 (Option.some.inj e))).trans (hg6.block b h1 h2)
  have hblkB : ∀ b, b < B → b ≠ P → w7.heap[b]? = wr.heap[b]? := fun b hb h3 => hblk b (by omega) (hne b hb) h3
  have hself : (mget (mput l z (.slice (some ⟨g2, 0, none⟩) n cap)) z).getD nilV = .slice (some ⟨g2, 0, none⟩) n cap := by rw [mget_put_same]; rfl
  have hoth : ∀ y, y ≠ z → (mget (mput l z (.slice (some ⟨g2, 0, none⟩) n cap)) y).getD nilV = (mget l y).getD nilV := fun y hy => by rw [mget_put_other _ _ _ _ hy]
  have hnoz : ∀ y k, y ≠ z → ((mget l y).getD nilV).ownBlock = some k → k ≠ g2 := fun y k hy hk e => by
    subst e
    rcases hat with h2 | h2
    · exact h.inj y z _ hy hk h2
    · have := ((h.ah y).lt hk).2; omega
  refine { h with
    blk := h.blk.of_block (hblkB g h.ltG h.neGP)
    arr := h.arr.of_block (hblkB gr h.ltR h.neRP)
    map := h7
    sees := fun k o e => ?_
    cur := ownI_keep h.cur fun k hk h1 h2 => hblk k h2 (fun e => h.apart z k hk e.symm) (by have := h.ltP; omega)
    ah := fun y => ?_
    ahK := fun y k hk => ?_
    inj := fun y y' k hy hk => ?_
    apart := fun y k hk => ?_
    size := ?_
    below := ?_ }
  · exact (hblk k (h.sees.lt e) (fun e2 => by rw [h.ahK z k e2.symm] at e; cases e) (fun e2 => by rw [e2, h.liveP] at e; cases e)).trans (h.sees k o e)
  · by_cases e : y = z
    · subst e
      rw [hself, aheadIJ_step hz, if_pos rfl]
      exact ownI_keep h6 fun k hk h1 h2 => hg7.block k h2 (fun e => by have := Option.some.inj e; have := h.ltP; omega)
    · rw [hoth y e, aheadIJ_step hz, if_neg e, List.append_nil]
      exact ownI_keep (h.ah y) fun k hk h1 h2 => hblk k h2 (fun e2 => h.inj y z k e hk e2.symm) (by have := h.ltP; omega)
  · by_cases e : y = z
    · subst e
      rw [hself] at hk
      rw [← Option.some.inj hk]; exact hK2
    · rw [hoth y e] at hk
      exact h.ahK y k hk
  · by_cases e : y = z
    · subst e
      rw [hself] at hk
      rw [hoth y' (fun e2 => hy e2.symm)]
      intro hk'
      exact hnoz y' k (fun e2 => hy e2.symm) hk' (Option.some.inj hk).symm
    · rw [hoth y e] at hk
      by_cases e' : y' = z
      · subst e'
        rw [hself]
        intro hk'
        exact hnoz y k e hk (Option.some.inj hk').symm
      · rw [hoth y' e']
        exact h.inj y y' k hy hk
  · by_cases e : y = z
    · subst e
      rw [hself]
      intro hk'
      have e2 : g2 = k := Option.some.inj hk'
      subst e2
      rcases hat with h2 | h2
      · exact h.apart y _ hk h2
      · have := (h.cur.lt hk).2; omega
    · rw [hoth y e]; exact h.apart y k hk
  · have := hg7.size; omega
  · have hb6 := h.below.grown hg6 h.below.size fun k hk => by have := hcb z k hk; have := h.oldB; omega
    exact hb6.grown hg7 hb6.size fun k hk => by have := Option.some.inj hk; have := h.old.2.2; omega
/-- Block i is done. -/
theorem FlowI.next (h : FlowI nx rs w K0 B g gr P rows i (nx i).length (nx i).length (i + 1) wr vnx l K bsR) (hx : ∀ x ∈ nx i, I64 x) (hn : (nx i).length ≤ maxN) :
    ∃ K', FlowI nx rs w K0 B g gr P rows (i + 1) 0 0 (i + 1) wr vnx l K' bsR := by
  have hcb : ∀ k, (vnx i).ownBlock = some k → B ≤ k := fun k hk => (h.cur.lt hk).1
  have hle : PH.le K (fun k => if (vnx i).ownBlock = some k then wr.heap[k]? else K k) := by
    intro k o e
    dsimp only
    split
    · rename_i e2; rw [h.curK k e2] at e; cases e
    · exact e
  have hne : ∀ b, b < B → (vnx i).ownBlock ≠ some b := fun b hb e => by have := hcb b e; omega
  refine ⟨fun k => if (vnx i).ownBlock = some k then wr.heap[k]? else K k, { h with
    sees := fun k o e => ?_
    le := PH.le_trans h.le hle
    done := fun k hk => ?_
    todo := fun k hk => h.todo k (by omega)
    cur := ?_
    curK := fun k hk => ?_
    ah := fun y => by rw [← aheadIJ_next]; exact h.ah y
    ahK := fun y k hk => ?_
    apart := fun y k hk => ?_
    liveG := ?_
    liveR := ?_
    liveP := ?_
    low := fun b hb => by rw [if_neg (hne b (by have := h.oldB; omega))]; exact h.low b hb }⟩
  · dsimp only at e
    split at e
    · exact e
    · exact h.sees k o e
  · by_cases e : k = i
    · subst e
      have h1 := h.cur
      rw [List.take_length] at h1
      exact h1.readK (fun b hb => by rw [if_pos hb]) hx hn
    · exact (h.done k (by omega)).mono hle
  · rw [h.todo (i + 1) (by omega), List.take_zero]; exact OwnI.nil _ _
  · rw [h.todo (i + 1) (by omega)] at hk; cases hk
  · rw [if_neg (fun e => h.apart y k e hk)]
    exact h.ahK y k hk
  · rw [h.todo (i + 1) (by omega)] at hk; cases hk
  · rw [if_neg (hne _ h.ltG)]; exact h.liveG
  · rw [if_neg (hne _ h.ltR)]; exact h.liveR
  · rw [if_neg (hne _ h.ltP)]; exact h.liveP
theorem FlowI.init (blk : BlkI wr g rows fun _ => nilV) (arr : ArrB wr gr (List.replicate rows.length false)) (map : MapL encI wr P []) (sees : Sees wr K0) (liveG : K0 g = none) (liveR : K0 gr = none) (liveP : K0 P = none)
    (neGR : g ≠ gr) (neGP : g ≠ P) (neRP : gr ≠ P) (old : w.heap.size ≤ g ∧ w.heap.size ≤ gr ∧ w.heap.size ≤ P) (below : Below w.heap.size w wr) :
    FlowI nx rs w K0 wr.heap.size g gr P rows 0 0 0 0 wr (fun _ => nilV) [] K0 (List.replicate rows.length false) where
  blk := blk
  arr := arr
  map := map
  sees := sees
  le := PH.le_refl _
  done := fun k hk => by omega
  todo := fun k hk => rfl
  cur := by rw [List.take_zero]; exact OwnI.nil _ _
  curK := fun k hk => by cases hk
  ah := fun y => by rw [aheadIJ_zero]; exact OwnI.nil _ _
  ahK := fun y k hk => by cases hk
  inj := fun y y' k _ hk => by cases hk
  apart := fun y k hk => by cases hk
  liveG := liveG
  liveR := liveR
  liveP := liveP
  ltG := blk.lt
  ltR := arr.lt
  ltP := map.lt
  neGR := neGR
  neGP := neGP
  neRP := neRP
  size := Nat.le_refl _
  old := old
  oldB := below.size
  below := below
  low := fun _ _ => rfl
  marks := (Marks.none_ _).congr fun j _ => ⟨fun h => h.elim, fun h => by omega⟩
end Go.Proofs.YtififjlgjmgikaaGreat
namespace Go.Proofs.YtififjlgjmgikaaGreat
set_option linter.all false
open Go.RowKit

def blocksF (c : CodeD) (bs : List Bool) : List BlockD := (List.range (cnt bs c.instrs.length)).map fun i => ⟨((rowsK bs c.instrs.length).getD i (0, 0)).1, ((rowsK bs c.instrs.length).getD i (0, 0)).2, nxF c bs i⟩
/-- The flow of a code. -/
def IsFlow (c : CodeD) (f : FlowD) : Prop :=
  ∃ bs, Marks bs c.instrs.length (IsLeader c) ∧ f.blocks = blocksF c bs ∧ f.of_ = ofK bs c.instrs.length ∧ f.ahead = aheadIJ (nxF c bs) (cnt bs c.instrs.length) 0 ∧
    Marks f.entry (cnt bs c.instrs.length) (fun i => ∃ p ∈ entriesL c, ofI bs p = (i : Int)) ∧ Marks f.reached (cnt bs c.instrs.length) (fun i => ReachC c ((rowsK bs c.instrs.length).getD i (0, 0)).1)
def FlowRes (H : PH) (w : World) (c : CodeD) (w' : World) (e : Ending) : Prop := ∃ v f, e = .returned v ∧ FlowV (extH H w w') v f ∧ IsFlow c f
variable {nx : Nat → List Int} {rs : List Bool} {w wr : World} {H K0 K : PH} {B g gr P M m cap : Nat} {rows : List (Int × Int)} {vnx : Nat → Value} {l : IntMap} {bsR : List Bool}
theorem FlowI.leE (h : FlowI nx rs w K0 B g gr P rows M 0 0 m wr vnx l K bsR) (hl : ∀ b, b < w.heap.size → K0 b = H b) : PH.le K (extH H w wr) := by
  intro b o e
  unfold extH
  split
  · rename_i hb; rw [← hl b hb, ← h.low b hb]; exact e
  · exact h.sees b o e
theorem extH.at_ {i : Nat} (h : w.heap.size ≤ i) : extH H w wr i = wr.heap[i]? := by unfold extH; rw [if_neg (by omega)]
theorem FlowI.blocksV (h : FlowI nx rs w K0 B g gr P rows M 0 0 m wr vnx l K bsR) (hM : rows.length = M) (hl : ∀ b, b < w.heap.size → K0 b = H b) (hr : ∀ r ∈ rows, I64 r.1 ∧ I64 r.2) (hc : M ≤ cap) (hn : M ≤ maxN) :
    SlV rBlock (extH H w wr) (.slice (some ⟨g, 0, none⟩) M cap) ((List.range M).map fun i => ⟨(rows.getD i (0, 0)).1, (rows.getD i (0, 0)).2, nx i⟩) := by
  have hle := h.leE hl
  refine ⟨some ⟨g, 0, none⟩, cap, by simp, by simpa using hc, by simpa using hn, fun i x hi => ?_⟩
  obtain ⟨hil, hx⟩ := List.getElem?_eq_some_iff.1 hi
  simp at hil
  rw [List.getElem?_map, List.getElem?_range hil] at hi
  simp only [Option.map_some, Option.some.injEq] at hi
  have hri : rows[i]? = some (rows.getD i (0, 0)) := by rw [List.getD_eq_getElem?_getD, List.getElem?_eq_getElem (by omega)]; rfl
  obtain ⟨arr, h1, h2⟩ := h.blk
  obtain ⟨a, b, d⟩ := h2 i _ hri
  have h64 := hr _ (List.mem_of_getElem? hri)
  refine ⟨g, 0, [.int .i64 (rows.getD i (0, 0)).1, .int .i64 (rows.getD i (0, 0)).2, vnx i], rfl, ⟨rfl, arr, _, _, (extH.at_ h.old.1).trans h1, fun j u hj => ?_⟩, ?_⟩
  · have hjl := (List.getElem?_eq_some_iff.1 hj).1
    simp at hjl
    show arr[0 + i * 3 + j]? = _
    rw [Nat.zero_add]
    obtain rfl | rfl | rfl : j = 0 ∨ j = 1 ∨ j = 2 := by omega
    · cases hj; exact a
    · cases hj; exact b
    · cases hj; exact d
  · subst hi
    exact ⟨vnx i, rfl, h64.1, h64.2, (h.done i hil).mono hle⟩
theorem FlowI.reachedV (h : FlowI nx rs w K0 B g gr P rows M 0 0 m wr vnx l K bsR) (hM : rows.length = M) (hn : M ≤ maxN) : SlV rBool (extH H w wr) (.slice (some ⟨gr, 0, none⟩) M M) bsR :=
  bools_read ((extH.at_ h.old.2.1).trans h.arr) (by rw [h.marks.len, hM]) hn
theorem FlowI.aheadV (h : FlowI nx rs w K0 B g gr P rows M 0 0 m wr vnx l K bsR) (hn : ∀ y, (aheadIJ nx M 0 y).length ≤ maxN) (hM : M ≤ 20000) : AheadV (extH H w wr) P M (aheadIJ nx M 0) := by
  refine ⟨l, fun w' hw' => h.map.of_block ?_, fun y _ => (h.ah y).readK (fun k hk => extH.at_ (by have := ((h.ah y).lt hk).1; have := h.oldB; omega)) (fun x hx => ?_) (hn y)⟩
  · have h1 := h.map.lt
    have h2 := extH.at_ (H := H) (wr := wr) h.old.2.2
    rw [Array.getElem?_eq_getElem h1] at h2 ⊢
    exact hw' _ _ h2
  · unfold aheadIJ at hx
    simp only [List.take_zero, List.filter_nil, List.map_nil, List.append_nil, List.mem_flatMap, List.mem_range, List.mem_map] at hx
    obtain ⟨k, hk, z, _, rfl⟩ := hx
    unfold I64
    omega
end Go.Proofs.YtififjlgjmgikaaGreat
namespace Go.Proofs.YtififjlgjmgikaaGreat
set_option linter.all false
open Go.RowKit

noncomputable def dcd (p : Prop) : Bool := @decide p (Classical.propDecidable p)
theorem dcd_iff {p : Prop} : dcd p = true ↔ p := @decide_eq_true_iff p (Classical.propDecidable p)
noncomputable def leadB (c : CodeD) : List Bool := (List.range c.instrs.length).map fun p => dcd (IsLeader c p)
noncomputable def theFlow (c : CodeD) : FlowD where
  blocks := blocksF c (leadB c)
  of_ := ofK (leadB c) c.instrs.length
  ahead := aheadIJ (nxF c (leadB c)) (cnt (leadB c) c.instrs.length) 0
  entry := (List.range (cnt (leadB c) c.instrs.length)).map fun (i : Nat) => dcd (∃ p ∈ entriesL c, ofI (leadB c) p = (i : Int))
  reached := (List.range (cnt (leadB c) c.instrs.length)).map fun (i : Nat) => dcd (ReachC c ((rowsK (leadB c) c.instrs.length).getD i (0, 0)).1)
theorem marks_map {n : Nat} (p : Nat → Prop) : Marks ((List.range n).map fun i => dcd (p i)) n p := by
  refine ⟨by simp, fun j hj => ?_⟩
  rw [List.getD_eq_getElem?_getD, List.getElem?_map, List.getElem?_range hj]
  exact dcd_iff
theorem Marks.eq {a b : List Bool} {n : Nat} {p : Nat → Prop} (h : Marks a n p) (k : Marks b n p) : a = b := by
  apply List.ext_getElem?
  intro j
  by_cases hj : j < n
  · have h1 := h.iff_ j hj
    have h2 := k.iff_ j hj
    have h3 : j < a.length := by rw [h.len]; exact hj
    have h4 : j < b.length := by rw [k.len]; exact hj
    rw [List.getD_eq_getElem?_getD, List.getElem?_eq_getElem h3, Option.getD_some] at h1
    rw [List.getD_eq_getElem?_getD, List.getElem?_eq_getElem h4, Option.getD_some] at h2
    rw [List.getElem?_eq_getElem h3, List.getElem?_eq_getElem h4, Bool.eq_iff_iff.2 (h1.trans h2.symm)]
  · rw [List.getElem?_eq_none (by rw [h.len]; omega), List.getElem?_eq_none (by rw [k.len]; omega)]
theorem lead_marks (c : CodeD) : Marks (leadB c) c.instrs.length (IsLeader c) := marks_map _
theorem theFlow_is (c : CodeD) : IsFlow c (theFlow c) := ⟨leadB c, lead_marks c, rfl, rfl, rfl, marks_map _, marks_map _⟩
theorem IsFlow.eq {c : CodeD} {f : FlowD} (h : IsFlow c f) : f = theFlow c := by
  obtain ⟨bs, h1, h2, h3, h4, h5, h6⟩ := h
  obtain ⟨bs', k1, k2, k3, k4, k5, k6⟩ := theFlow_is c
  obtain rfl := h1.eq k1
  cases f
  generalize theFlow c = g at *
  cases g
  simp only at h2 h3 h4 h5 h6 k2 k3 k4 k5 k6
  subst h2; subst h3; subst h4; subst k2; subst k3; subst k4
  obtain rfl := h5.eq k5
  obtain rfl := h6.eq k6
  rfl
end Go.Proofs.YtififjlgjmgikaaGreat
