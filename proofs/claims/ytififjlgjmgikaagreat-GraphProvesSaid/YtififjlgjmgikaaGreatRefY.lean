/- A region that draws its order and ends in a store: behind the store nothing has to hold (no program). The state of the reference's Of (no walk). The reference's Of (seat .Z). The reference's Small (seat .Z). -/
import Derived.Test.YtififjlgjmgikaaGreatPlanA
import Derived.Test.YtififjlgjmgikaaGreatRefX
import Derived.Laws.Tables
import Derived.Test.YtififjlgjmgikaaGreatTop
import Derived.Laws.ResultCell
namespace Go.Proofs.YtififjlgjmgikaaGreat
set_option linter.all false
open Go.RowKit

/-- v is a slice of bools of the walk's own, from block base on. -/
def OwnBl (w : World) (base : Nat) (v : Value) (bs : List Bool) : Prop := w.ownsRow base 4 1 v bs.length (bs.map Value.bool)
theorem OwnBl.nil (w : World) (base : Nat) : OwnBl w base (.slice none 0 0) [] := ⟨by simp, .inl ⟨rfl, rfl⟩⟩
theorem OwnBl.of_block {w w1 : World} {base : Nat} {v : Value} {xs : List Bool} (h : OwnBl w base v xs) (hb : ∀ k, v.ownBlock = some k → w1.heap[k]? = w.heap[k]?) : OwnBl w1 base v xs := by
  refine ⟨h.1, ?_⟩
  rcases h.2 with h2 | ⟨g, cap, cur, rfl, h2, h3, h4⟩
  · exact .inl h2
  · exact .inr ⟨g, cap, cur, rfl, h2, (hb g rfl).trans h3, h4⟩
theorem OwnBl.lt {w : World} {base : Nat} {v : Value} {xs : List Bool} (h : OwnBl w base v xs) {k : Nat} (hk : v.ownBlock = some k) : base ≤ k ∧ k < w.heap.size := by
  rcases h.2 with ⟨rfl, _⟩ | ⟨g, cap, cur, rfl, h2, h3, _⟩
  · cases hk
  · cases hk; exact ⟨h2, (Array.getElem?_eq_some_iff.1 h3).1⟩
theorem OwnBl.below {w w1 : World} {base : Nat} {v : Value} {xs : List Bool} (h : OwnBl w base v xs) (hb : Below w.heap.size w w1) : OwnBl w1 base v xs := h.of_block fun k hk => hb.block k (h.lt hk).2
theorem OwnBl.al {w : World} {base : Nat} {v : Value} {xs : List Bool} (h : OwnBl w base v xs) (o : Obj) : OwnBl (w.alloc o) base v xs := h.below ((Below.refl _ _).alloc (Nat.le_refl _) _)
theorem ownBl_keep {w w1 : World} {base : Nat} {v : Value} {xs : List Bool} (h : OwnBl w base v xs) (hb : ∀ k, v.ownBlock = some k → base ≤ k → k < w.heap.size → w1.heap[k]? = w.heap[k]?) : OwnBl w1 base v xs :=
  h.of_block fun k hk => hb k hk (h.lt hk).1 (h.lt hk).2
theorem OwnBl.readK {w : World} {K : PH} {base : Nat} {v : Value} {xs : List Bool} (h : OwnBl w base v xs) (hK : ∀ k, v.ownBlock = some k → K k = w.heap[k]?) (hn : xs.length ≤ maxN) : SlV rBool K v xs := by
  rcases h.2 with ⟨rfl, e⟩ | ⟨g, cap, cur, rfl, h2, h3, h4, h5, h6, h7⟩
  · have : xs = [] := List.eq_nil_of_length_eq_zero e
    subst this
    exact SlV.nil _ _
  · refine ⟨_, cap, rfl, h4, hn, fun i x hi => ⟨g, 0, [.bool x], rfl, ⟨rfl, cur, _, _, (hK g rfl).trans h3, ?_⟩, rfl⟩⟩
    intro j u hj
    have hj0 : j = 0 := by
      have := (List.getElem?_eq_some_iff.1 hj).1
      simp at this
      exact this
    subst hj0
    cases hj
    have hil := (List.getElem?_eq_some_iff.1 hi).1
    have e : (cur.toList.take (xs.length * 1))[i]? = some (Value.bool x) := by rw [h7]; simp [hi]
    rw [List.getElem?_take, if_pos (by omega)] at e
    simpa [rBool, Rp.plain] using e
/-- append of one bool, at a step of a region that draws its order. -/
theorem step_appBl {o : Oper} {a : Act} {K : Act → World → Prop} {Q : Exit → Act → World → Prop} {w : World} (s x : Operand)
    (ho : o.op = .call { callee := .builtin .append, args := #[s, x], argTypes := #[63, 63] }) (hgd : o.guard = none) (base : Nat) (v : Value) (xs : List Bool) (hs : a.eval s = v) (hown : OwnBl w base v xs)
    (n c : Nat) (y : Bool) (hx : a.eval x = .slice (some ⟨n, 0, none⟩) 1 c) (hb : w.heap[n]? = some (.cells #[.bool y] 4 (0, 0))) (hl : xs.length ≤ 1000000) (hbase : base ≤ w.heap.size)
    (h : ∀ g cap w', OwnBl w' base (.slice (some ⟨g, 0, none⟩) (xs.length + 1) cap) (xs ++ [y]) → w.grownBy w' v.ownBlock → (v.ownBlock = some g ∨ g = w.heap.size) → g < w'.heap.size → K (a.put o.dst (.slice (some ⟨g, 0, none⟩) (xs.length + 1) cap)) w') :
    Oper.wp Tryz.prog o a w K Q := by
  obtain ⟨i0, hi, hz0, hz1, hz2⟩ := info_parts infoBool
  have hstep := step_append_lies (E := True) (ops := #[]) (K := K) (Q := Q) w hgd s x 63 ho base 4 i0 (.bool false) 1 1 Tryz.underlying63 hi hz0 hz1 hz2 rfl (by decide) v xs.length (xs.map Value.bool) hs hown ⟨n, 0, none⟩ 1 c [.bool y] hx rfl
    (World.news_of_block hb) (by simp [Value.oneCell']) (by decide) (by unfold maxLen; omega) (by omega) hbase w.heap.size rfl (fun g cap w' h1 h2 h3 h4 => h g cap w' (by unfold OwnBl; rw [List.length_append, List.map_append]; exact h1) h2 h3 h4)
  rwa [if_pos (by unfold Region.wanted; rw [hgd])] at hstep
abbrev zeroG : Array Value := #[.slice none 0 0, .slice none 0 0, .slice none 0 0, .slice none 0 0, .slice none 0 0, .slice none 0 0, .slice none 0 0, .slice none 0 0, .slice none 0 0, .slice none 0 0]
/-- What holds behind i rounds of Of's last loop. -/
structure OfI (nx : Nat → List Int) (w : World) (H : PH) (B G g cap : Nat) (s0 s1 s2 s3 s4 s5 s6 : Value) (rows : List (Int × Int)) (i : Nat) (wr : World) (vnx : Nat → Value) (Ev Rv : Value) (es rs : List Bool) (K : PH) : Prop where
  box : wr.heap[G]? = some (.cells #[s0, s1, s2, s3, s4, s5, s6, .slice (some ⟨g, 0, none⟩) rows.length cap, Ev, Rv] 65 (0, 0))
  blk : BlkI wr g rows vnx
  sees : Sees wr K
  le : PH.le H K
  low : ∀ b, b < w.heap.size → K b = H b
  done : ∀ k, k < i → SlV rInt K (vnx k) (nx k)
  ent : OwnBl wr B Ev es
  rch : OwnBl wr B Rv rs
  entK : ∀ k, Ev.ownBlock = some k → K k = none
  rchK : ∀ k, Rv.ownBlock = some k → K k = none
  apart : ∀ k, Ev.ownBlock = some k → Rv.ownBlock ≠ some k
  liveG : K G = none
  liveg : K g = none
  ltG : G < B
  ltg : g < B
  ne : G ≠ g
  size : B ≤ wr.heap.size
  old : w.heap.size ≤ G ∧ w.heap.size ≤ g
  oldB : w.heap.size ≤ B
  below : Below w.heap.size w wr
  rb : wr.heap[w.heap.size + 1]? = some (.cells zeroG 65 (0, 0))
  rbG : w.heap.size + 1 ≠ G
  rbg : w.heap.size + 1 ≠ g
  ltRb : w.heap.size + 1 < B
  liveRb : K (w.heap.size + 1) = none
section
variable {nx : Nat → List Int} {w wr : World} {H K : PH} {B G g cap i : Nat} {s0 s1 s2 s3 s4 s5 s6 Ev Rv : Value} {rows : List (Int × Int)} {vnx : Nat → Value} {es rs : List Bool}
/-- A call that leaves all that lay. -/
theorem OfI.call (h : OfI nx w H B G g cap s0 s1 s2 s3 s4 s5 s6 rows i wr vnx Ev Rv es rs K) {w1 : World} (hB : Below wr.heap.size wr w1) : OfI nx w H B G g cap s0 s1 s2 s3 s4 s5 s6 rows i w1 vnx Ev Rv es rs K :=
  { h with
    box := blk_keep hB h.box
    blk := h.blk.of_block (hB.block _ h.blk.lt)
    sees := h.sees.below hB
    ent := h.ent.below hB
    rch := h.rch.below hB
    size := Nat.le_trans h.size hB.size
    below := bstep h.below hB
    rb := blk_keep hB h.rb }
theorem OfI.drew (h : OfI nx w H B G g cap s0 s1 s2 s3 s4 s5 s6 rows i wr vnx Ev Rv es rs K) : OfI nx w H B G g cap s0 s1 s2 s3 s4 s5 s6 rows i wr.drew vnx Ev Rv es rs K :=
  { h with box := h.box, blk := h.blk, sees := h.sees, ent := h.ent, rch := h.rch, size := h.size, below := ⟨h.below.os, h.below.tape, h.below.output, h.below.size, h.below.block⟩, rb := h.rb }
/-- A step that leaves all that lay, and what it has laid is known from now on. -/
theorem OfI.know (h : OfI nx w H B G g cap s0 s1 s2 s3 s4 s5 s6 rows i wr vnx Ev Rv es rs K) {w1 : World} (hB : Below wr.heap.size wr w1) : OfI nx w H B G g cap s0 s1 s2 s3 s4 s5 s6 rows i w1 vnx Ev Rv es rs (extH K wr w1) := by
  have hle := extH.le h.sees w1
  have hz := h.size
  have h0 := h.oldB
  have hlow : ∀ k, k < wr.heap.size → extH K wr w1 k = K k := fun k hk => by unfold extH; rw [if_pos hk]
  exact { h.call hB with
    sees := extH.sees h.sees hB
    le := PH.le_trans h.le hle
    low := fun b hb => (hlow b (by omega)).trans (h.low b hb)
    done := fun k hk => (h.done k hk).mono hle
    entK := fun k hk => (hlow k (h.ent.lt hk).2).trans (h.entK k hk)
    rchK := fun k hk => (hlow k (h.rch.lt hk).2).trans (h.rchK k hk)
    liveG := (hlow G (by have := h.ltG; omega)).trans h.liveG
    liveg := (hlow g (by have := h.ltg; omega)).trans h.liveg
    liveRb := (hlow _ (by have := h.ltRb; omega)).trans h.liveRb }
/-- The store of what can follow block i. -/
theorem OfI.setN (h : OfI nx w H B G g cap s0 s1 s2 s3 s4 s5 s6 rows i wr vnx Ev Rv es rs K) {v : Value} (hv : SlV rInt K v (nx i)) :
    OfI nx w H B G g cap s0 s1 s2 s3 s4 s5 s6 rows (i + 1) (wr.setCell ⟨g, i * 3 + 2, none⟩ v) (fun k => if k = i then v else vnx k) Ev Rv es rs K :=
  { h with
    box := (setCell_other h.ne).trans h.box
    blk := h.blk.set v
    sees := fun k o e => (setCell_other (fun e2 => by rw [e2, h.liveg] at e; cases e)).trans (h.sees k o e)
    done := fun k hk => by
      by_cases e : k = i
      · subst e; simp only [if_true]; exact hv
      · rw [if_neg e]; exact h.done k (by omega)
    ent := ownBl_keep h.ent fun k _ h1 _ => setCell_other (by have := h.ltg; omega)
    rch := ownBl_keep h.rch fun k _ h1 _ => setCell_other (by have := h.ltg; omega)
    size := by rw [size_set]; exact h.size
    below := setCell_below h.below h.old.2
    rb := (setCell_other h.rbg).trans h.rb }
/-- One more entry mark. -/
theorem OfI.addE (h : OfI nx w H B G g cap s0 s1 s2 s3 s4 s5 s6 rows i wr vnx Ev Rv es rs K) {w6 : World} {g2 n cap2 : Nat} {b : Bool} (h6 : OwnBl w6 B (.slice (some ⟨g2, 0, none⟩) n cap2) (es ++ [b])) (hg6 : wr.grownBy w6 Ev.ownBlock) (hat : Ev.ownBlock = some g2 ∨ g2 = wr.heap.size) :
    OfI nx w H B G g cap s0 s1 s2 s3 s4 s5 s6 rows i (w6.setCell ⟨G, 8, none⟩ (.slice (some ⟨g2, 0, none⟩) n cap2)) vnx (.slice (some ⟨g2, 0, none⟩) n cap2) Rv (es ++ [b]) rs K := by
  have hz := h.size
  have hgG := h.ltG
  have hgg := h.ltg
  have hg2 : B ≤ g2 := (h6.lt (k := g2) rfl).1
  have hK2 : K g2 = none := by
    rcases hat with e | e
    · exact h.entK _ e
    · rw [e]; exact h.sees.fresh (Nat.le_refl _)
  have hne : ∀ k, k < B → some k ≠ Ev.ownBlock := fun k hk e => by have := (h.ent.lt e.symm).1; omega
  have hblk6 : ∀ k, k < B → w6.heap[k]? = wr.heap[k]? := fun k hk => hg6.block k (by omega) (hne k hk)
  exact { h with
    box := set_blk ((hblk6 G hgG).trans h.box) _
    blk := h.blk.of_block ((setCell_other (fun e => h.ne e.symm)).trans (hblk6 g hgg))
    sees := fun k o e => (setCell_other (fun e2 => by rw [e2, h.liveG] at e; cases e)).trans ((hg6.block k (h.sees.lt e) (fun e2 => by rw [h.entK k e2.symm] at e; cases e)).trans (h.sees k o e))
    ent := h6.of_block fun k hk => setCell_other (by have h1 : g2 = k := Option.some.inj hk; omega)
    rch := ownBl_keep h.rch fun k hk h1 h2 => (setCell_other (by omega)).trans (hg6.block k h2 (fun e => h.apart k e.symm hk))
    entK := fun k hk => by have h1 : g2 = k := Option.some.inj hk; rw [← h1]; exact hK2
    apart := fun k hk => by
      have h1 : g2 = k := Option.some.inj hk
      subst h1
      rcases hat with e | e
      · exact h.apart _ e
      · intro e2; have := (h.rch.lt e2).2; omega
    size := by rw [size_set]; have := hg6.size; omega
    below := setCell_below (h.below.grown hg6 h.below.size fun k hk => by have := (h.ent.lt hk).1; have := h.oldB; omega) h.old.1
    rb := (setCell_other h.rbG).trans ((hblk6 _ h.ltRb).trans h.rb) }
/-- One more mark of what is reached. -/
theorem OfI.addR (h : OfI nx w H B G g cap s0 s1 s2 s3 s4 s5 s6 rows i wr vnx Ev Rv es rs K) {w6 : World} {g2 n cap2 : Nat} {b : Bool} (h6 : OwnBl w6 B (.slice (some ⟨g2, 0, none⟩) n cap2) (rs ++ [b])) (hg6 : wr.grownBy w6 Rv.ownBlock) (hat : Rv.ownBlock = some g2 ∨ g2 = wr.heap.size) :
    OfI nx w H B G g cap s0 s1 s2 s3 s4 s5 s6 rows i (w6.setCell ⟨G, 9, none⟩ (.slice (some ⟨g2, 0, none⟩) n cap2)) vnx Ev (.slice (some ⟨g2, 0, none⟩) n cap2) es (rs ++ [b]) K := by
  have hz := h.size
  have hgG := h.ltG
  have hgg := h.ltg
  have hg2 : B ≤ g2 := (h6.lt (k := g2) rfl).1
  have hK2 : K g2 = none := by
    rcases hat with e | e
    · exact h.rchK _ e
    · rw [e]; exact h.sees.fresh (Nat.le_refl _)
  have hne : ∀ k, k < B → some k ≠ Rv.ownBlock := fun k hk e => by have := (h.rch.lt e.symm).1; omega
  have hblk6 : ∀ k, k < B → w6.heap[k]? = wr.heap[k]? := fun k hk => hg6.block k (by omega) (hne k hk)
  exact { h with
    box := set_blk ((hblk6 G hgG).trans h.box) _
    blk := h.blk.of_block ((setCell_other (fun e => h.ne e.symm)).trans (hblk6 g hgg))
    sees := fun k o e => (setCell_other (fun e2 => by rw [e2, h.liveG] at e; cases e)).trans ((hg6.block k (h.sees.lt e) (fun e2 => by rw [h.rchK k e2.symm] at e; cases e)).trans (h.sees k o e))
    rch := h6.of_block fun k hk => setCell_other (by have h1 : g2 = k := Option.some.inj hk; omega)
    ent := ownBl_keep h.ent fun k hk h1 h2 => (setCell_other (by omega)).trans (hg6.block k h2 (fun e => h.apart k hk e.symm))
    rchK := fun k hk => by have h1 : g2 = k := Option.some.inj hk; rw [← h1]; exact hK2
    apart := fun k hk e2 => by
      have h1 : g2 = k := Option.some.inj e2
      subst h1
      rcases hat with e | e
      · exact h.apart _ hk e
      · have := (h.ent.lt hk).2; omega
    size := by rw [size_set]; have := hg6.size; omega
    below := setCell_below (h.below.grown hg6 h.below.size fun k hk => by have := (h.rch.lt hk).1; have := h.oldB; omega) h.old.1
    rb := (setCell_other h.rbG).trans ((hblk6 _ h.ltRb).trans h.rb) }
theorem OfI.blocksV (h : OfI nx w H B G g cap s0 s1 s2 s3 s4 s5 s6 rows i wr vnx Ev Rv es rs K) {K' : PH} (hle : PH.le K K') (hg : K' g = wr.heap[g]?) (hM : rows.length = i) (hr : ∀ r ∈ rows, I64 r.1 ∧ I64 r.2) (hc : i ≤ cap) (hn : i ≤ maxN) :
    SlV rBlock K' (.slice (some ⟨g, 0, none⟩) rows.length cap) ((List.range i).map fun k => ⟨(rows.getD k (0, 0)).1, (rows.getD k (0, 0)).2, nx k⟩) := by
  refine ⟨some ⟨g, 0, none⟩, cap, by simp [hM], by simpa using hc, by simpa using hn, fun k x hi => ?_⟩
  obtain ⟨hil, hx⟩ := List.getElem?_eq_some_iff.1 hi
  simp at hil
  rw [List.getElem?_map, List.getElem?_range hil] at hi
  simp only [Option.map_some, Option.some.injEq] at hi
  have hri : rows[k]? = some (rows.getD k (0, 0)) := by rw [List.getD_eq_getElem?_getD, List.getElem?_eq_getElem (by omega)]; rfl
  obtain ⟨arr, h1, h2⟩ := h.blk
  obtain ⟨a, b, d⟩ := h2 k _ hri
  have h64 := hr _ (List.mem_of_getElem? hri)
  refine ⟨g, 0, [.int .i64 (rows.getD k (0, 0)).1, .int .i64 (rows.getD k (0, 0)).2, vnx k], rfl, ⟨rfl, arr, _, _, hg.trans h1, fun j u hj => ?_⟩, ?_⟩
  · have hjl := (List.getElem?_eq_some_iff.1 hj).1
    simp at hjl
    show arr[0 + k * 3 + j]? = _
    rw [Nat.zero_add]
    obtain rfl | rfl | rfl : j = 0 ∨ j = 1 ∨ j = 2 := by omega
    · cases hj; exact a
    · cases hj; exact b
    · cases hj; exact d
  · subst hi
    exact ⟨vnx k, rfl, h64.1, h64.2, (h.done k hil).mono hle⟩
end
/-- A value that is a graph. -/
def GrV (K : PH) (vg : Value) (f : FlowD) : Prop := ∃ s0 s1 s2 s3 s4 s5 s6 L E R, vg = .agg #[s0, s1, s2, s3, s4, s5, s6, L, E, R] ∧ (s0.oneCell' = true ∧ s1.oneCell' = true ∧ s2.oneCell' = true ∧ s3.oneCell' = true ∧ s4.oneCell' = true ∧ s5.oneCell' = true ∧ s6.oneCell' = true) ∧
  SlV rBlock K L f.blocks ∧ SlV rBool K E f.entry ∧ SlV rBool K R f.reached
def GrRes (H : PH) (w w' : World) (f : FlowD) (e : Ending) : Prop := ∃ vg, e = .returned vg ∧ GrV (extH H w w') vg f
end Go.Proofs.YtififjlgjmgikaaGreat
namespace Go.Proofs.YtififjlgjmgikaaGreat
set_option linter.all false
open Go.RowKit

theorem infoGr : (Tryz.prog.info? 65).map (·.size) = some 10 := by kernel_rfl
/-- A whole graph into its box. -/
theorem wpL_storeG {ops : Array Oper} {rest : List Oper} {o : Oper} {a : Act} {Q : Exit → Act → World → Prop} {w : World} (hgd : o.guard = none) (x y : Operand) (ho : o.op = .store 65 x y)
    (g : Nat) (s0 s1 s2 s3 s4 s5 s6 s7 s8 s9 : Value) (old : Array Value) (hx : a.eval x = .pointer (some ⟨g, 0, none⟩)) (hy : a.eval y = .agg #[s0, s1, s2, s3, s4, s5, s6, s7, s8, s9]) (hg : w.heap[g]? = some (.cells old 65 (0, 0))) (hold : old.size = 10)
    (h1 : s0.oneCell' = true ∧ s1.oneCell' = true ∧ s2.oneCell' = true ∧ s3.oneCell' = true ∧ s4.oneCell' = true ∧ s5.oneCell' = true ∧ s6.oneCell' = true) (h7 : s7.oneCell' = true ∧ s8.oneCell' = true ∧ s9.oneCell' = true)
    (h : ∀ w1, w1.heap[g]? = some (.cells #[s0, s1, s2, s3, s4, s5, s6, s7, s8, s9] 65 (0, 0)) → w.grownBy w1 (some g) → w1.heap.size = w.heap.size → wpList Tryz.prog ops Q rest (a.put o.dst undef) w1) : wpList Tryz.prog ops Q (o :: rest) a w := by
  refine wpList_plain hgd fun K hK => wp_store_row 65 x y ho g #[s0, s1, s2, s3, s4, s5, s6, s7, s8, s9] hx hy 65 old hg infoGr (by rw [hold]; rfl) ?_ (hK _ _ (h _ ?_ ?_ ?_))
  · obtain ⟨a0, a1, a2, a3, a4, a5, a6⟩ := h1
    obtain ⟨a7, a8, a9⟩ := h7
    simp [*]
  · simp [World.setRow, Array.getElem?_modify, hg]
  · refine ⟨rfl, rfl, rfl, by simp [World.setRow], fun k hk hne => ?_⟩
    have : g ≠ k := fun e => hne (by rw [e])
    simp [World.setRow, Array.getElem?_modify, this]
  · simp [World.setRow]
theorem CodeC.one {H : PH} {s0 s1 s2 s3 s4 s5 s6 : Value} {c : CodeD} (h : CodeC H s0 s1 s2 s3 s4 s5 s6 c) : s0.oneCell' = true ∧ s1.oneCell' = true ∧ s2.oneCell' = true ∧ s3.oneCell' = true ∧ s4.oneCell' = true ∧ s5.oneCell' = true ∧ s6.oneCell' = true := by
  obtain ⟨_, _, rfl, -⟩ := h.instrs.open_
  obtain ⟨_, _, rfl, -⟩ := h.procs.open_
  obtain ⟨_, _, rfl, -⟩ := h.thunks.open_
  obtain ⟨_, _, rfl, -⟩ := h.switches.open_
  obtain ⟨_, _, rfl, -⟩ := h.strings.open_
  obtain ⟨_, _, rfl, -⟩ := h.reals.open_
  obtain ⟨_, _, rfl, -⟩ := h.owns.open_
  exact ⟨rfl, rfl, rfl, rfl, rfl, rfl, rfl⟩
theorem OwnB.blkI {w : World} {base g n cap : Nat} {rows : List (Int × Int)} (h : OwnB w base (.slice (some ⟨g, 0, none⟩) n cap) rows) (hn : 0 < rows.length) : BlkI w g rows (fun _ => nilV) := by
  obtain ⟨g', cap', cur, e, _, h3, _, h7⟩ := h.form hn
  cases e
  have key : ∀ j u, j < rows.length * 3 → (rowCells rows)[j]? = some u → cur[j]? = some u := by
    intro j u hj hu
    rw [← hu, ← h7, List.getElem?_take, if_pos hj, Array.getElem?_toList]
  refine ⟨cur, h3, fun i r hi => ?_⟩
  have hl := (List.getElem?_eq_some_iff.1 hi).1
  obtain ⟨a, b, c⟩ := rowCells_at hi
  exact ⟨key _ _ (by omega) a, key _ _ (by omega) b, key _ _ (by omega) c⟩
theorem of_entry {c : CodeD} (hf : fineB c = true) {bs es : List Bool} {rows : List (Int × Int)} (hm : Marks bs c.instrs.length (IsLeader c)) (hr : rowsK bs c.instrs.length = rows) (hl : es.length = rows.length)
    (hv : ∀ j, j < rows.length → es.getD j false = inB (rows.getD j (0, 0)).1 (entriesL c)) : es = (theFlow c).entry := by
  have hbs := hm.eq (lead_marks c)
  subst hbs
  have hc : rows.length = cnt (leadB c) c.instrs.length := by rw [← hr, rowsK_len]
  refine Marks.eq (n := cnt (leadB c) c.instrs.length) (p := fun i => ∃ p ∈ entriesL c, ofI (leadB c) p = (i : Int)) ⟨by rw [hl, hc], fun j hj => ?_⟩ (marks_map _)
  obtain ⟨s, t, h1, h2⟩ := rows_spec (leadB c) c.instrs.length j hj
  rw [hr] at h1
  have hs := h2.lt
  have ht := h2.le
  rw [hv j (by omega), List.getD_eq_getElem?_getD, h1]
  simp only [Option.getD_some, inB, decide_eq_true_eq]
  constructor
  · intro h
    exact ⟨_, h, (row_of h2 (by omega)).1 ⟨Nat.le_refl _, hs⟩⟩
  · rintro ⟨p, hp, hpj⟩
    obtain ⟨q, rfl, hq, hql⟩ := ent_lead hf hp
    have h3 := (row_of h2 hq).2 hpj
    by_cases e : q = s
    · rw [← e]; exact hp
    · have := h2.mid q (by omega) h3.2
      rw [hql] at this; cases this
theorem of_reached {c : CodeD} {bs rs bsr : List Bool} {rows : List (Int × Int)} (hm : Marks bs c.instrs.length (IsLeader c)) (hr : rowsK bs c.instrs.length = rows) (hR : Marks bsr c.instrs.length (fun j => ReachC c j)) (hl : rs.length = rows.length)
    (hv : ∀ j, j < rows.length → rs.getD j false = bsr.getD (rows.getD j (0, 0)).1.toNat false) : rs = (theFlow c).reached := by
  have hbs := hm.eq (lead_marks c)
  subst hbs
  have hc : rows.length = cnt (leadB c) c.instrs.length := by rw [← hr, rowsK_len]
  refine Marks.eq (n := cnt (leadB c) c.instrs.length) (p := fun i => ReachC c ((rowsK (leadB c) c.instrs.length).getD i (0, 0)).1) ⟨by rw [hl, hc], fun j hj => ?_⟩ (marks_map _)
  obtain ⟨s, t, h1, h2⟩ := rows_spec (leadB c) c.instrs.length j hj
  rw [hr] at h1 ⊢
  have hs := h2.lt
  have ht := h2.le
  have e : rows.getD j (0, 0) = ((s : Int), (t : Int)) := by rw [List.getD_eq_getElem?_getD, h1]; rfl
  rw [hv j (by omega), e, Int.toNat_natCast]
  exact hR.iff_ s (by omega)
theorem of_blocks {c : CodeD} {bs : List Bool} {rows : List (Int × Int)} (hm : Marks bs c.instrs.length (IsLeader c)) (hr : rowsK bs c.instrs.length = rows) :
    (List.range rows.length).map (fun k => (⟨(rows.getD k (0, 0)).1, (rows.getD k (0, 0)).2, nxF c bs k⟩ : BlockD)) = (theFlow c).blocks := by
  have hbs := hm.eq (lead_marks c)
  subst hbs
  have hc : rows.length = cnt (leadB c) c.instrs.length := by rw [← hr, rowsK_len]
  rw [hc, ← hr]
  rfl
theorem rows_i64 {bs : List Bool} {n : Nat} (hn : n ≤ 20000) : ∀ r ∈ rowsK bs n, I64 r.1 ∧ I64 r.2 := by
  intro r hr
  obtain ⟨i, hi⟩ := List.getElem?_of_mem hr
  have hil := (List.getElem?_eq_some_iff.1 hi).1
  rw [rowsK_len] at hil
  obtain ⟨s, t, h1, h2⟩ := rows_spec bs n i hil
  rw [hi] at h1
  injection h1 with h1
  subst h1
  have := h2.lt
  have := h2.le
  show I64 (s : Int) ∧ I64 (t : Int)
  unfold I64
  omega
theorem cell_same {w w' : World} {b i : Nat} (h : w'.heap[b]? = w.heap[b]?) : w'.cell? ⟨b, i, none⟩ = w.cell? ⟨b, i, none⟩ := by simp [World.cell?, h]
theorem lt_same {w w' : World} {b : Nat} (h : w'.heap[b]? = w.heap[b]?) (hb : b < w.heap.size) : b < w'.heap.size := by
  rw [Array.getElem?_eq_getElem hb] at h
  exact (Array.getElem?_eq_some_iff.1 h).1
theorem alsize {w : World} {o : Obj} : w.heap.size < (w.alloc o).drew.heap.size := by show _ < (w.alloc o).heap.size; rw [World.size_alloc]; omega
theorem heap_al {w : World} {o : Obj} {b : Nat} (hb : b < w.heap.size) : (w.alloc o).heap[b]? = w.heap[b]? := by rw [get_alloc, if_neg (by omega)]
/-- What is known ahead of Of's last loop: all but the graph's box and its row of blocks. -/
def exG (H : PH) (w : World) (G g : Nat) (w6 : World) : PH := fun b => if b < w.heap.size then H b else if b = G ∨ b = g ∨ b = w.heap.size + 1 then none else w6.heap[b]?
theorem exG.sees {H : PH} {w w6 : World} {G g : Nat} (hs : Sees w6 H) : Sees w6 (exG H w G g w6) := by
  intro i o e
  unfold exG at e
  split at e
  · exact hs i o e
  · split at e
    · cases e
    · exact e
theorem exG.le {H : PH} {w w6 : World} {G g : Nat} (hw : Sees w H) : PH.le H (exG H w G g w6) := by
  intro i o e
  unfold exG
  rw [if_pos (hw.lt e)]
  exact e
theorem exG.at_ {H : PH} {w w6 : World} {G g b : Nat} (h0 : w.heap.size ≤ b) (h1 : b ≠ G) (h2 : b ≠ g) (h3 : b ≠ w.heap.size + 1) : exG H w G g w6 b = w6.heap[b]? := by
  unfold exG
  rw [if_neg (by omega), if_neg (by simp [h1, h2, h3])]
theorem exG.ext {H : PH} {w wr w5 w6 : World} {G g : Nat} (hw : Sees w H) (hz : w.heap.size + 1 < wr.heap.size) (hG : G < wr.heap.size) (hg : g < wr.heap.size) (hB : Below w5.heap.size w5 w6) : PH.le (extH H wr w5) (exG H w G g w6) := by
  intro i o e
  unfold extH at e
  split at e
  · exact exG.le hw i o e
  · rename_i h
    rw [exG.at_ (by omega) (by omega) (by omega) (by omega)]
    exact (hB.block i (Array.getElem?_eq_some_iff.1 e).1).trans e
set_option maxHeartbeats 8000000 in
set_option maxRecDepth 100000 in
theorem r19_Of (H : PH) (v : Value) (c : CodeD) (w : World) (hw : Sees w H) (hc : CodeV H v c) (hf : fineB c = true) :
    Calls Tryz.prog 49 #[v] w fun e w' => GrRes H w w' (theFlow c) e ∧ Below w.heap.size w w' := by
  have hfb := fine_bounds hf
  have n0 := hfb.i1
  have n1 := hfb.i0
  have hc0 := hc
  obtain ⟨s0, s1, s2, s3, s4, s5, s6, rfl, hc⟩ := hc
  have hone := hc.one
  have hLd := Lib.hid (fun (w1 : World) (hs : Sees w1 H) => r19_leaders H _ c w1 hs hc0 hf)
  have hE := Lib.hid (fun (w1 : World) (hs : Sees w1 H) => r14_Entries H _ c w1 hs hc0 hf)
  have hRd := Lib.hid (fun (w1 : World) (hs : Sees w1 H) => r14_Reached H _ c w1 hs hc0 hf)
  have hN := Lib.hid (fun (w1 : World) (hs : Sees w1 H) (p : Nat) (hp : p < c.instrs.length) => r14_Next H _ c w1 hs hc0 hf p hp)
  have hNin := Lib.hid (fun (j : Nat) (hj : j < c.instrs.length) => next_in hf hj)
  have hEin := Lib.hid (entries_in hf)
  have hfine := Lib.hid hf
  have hx0 := ga_new w (.cells #[s0, s1, s2, s3, s4, s5, s6] 30)
  have hB0 : Below w.heap.size w (w.alloc (.cells #[s0, s1, s2, s3, s4, s5, s6] 30)) := (Below.refl _ _).alloc (Nat.le_refl _) _
  clear hc0 hc hf
  go_enter Tryz.func49, Tryz.ntmps49
  go_upto_region 1 with fail
  refine wp_name fun W2 hW2 => ?_
  have hx2 : W2.heap[w.heap.size]? = some (.cells #[s0, s1, s2, s3, s4, s5, s6] 30 (0, 0)) := by rw [hW2]; exact ga_old hx0
  have hr2 : W2.heap[w.heap.size + 1]? = some (.cells zeroG 65 (0, 0)) := by rw [hW2]; exact blk1 _ _ _
  have hz2 : W2.heap.size = w.heap.size + 2 := by rw [hW2]; simp
  have hB2 : Below w.heap.size w W2 := by rw [hW2]; exact hB0.alloc hB0.size _
  clear hW2 hx0 hB0
  have q := box7 hx2
  have l0 := (Array.getElem?_eq_some_iff.1 hx2).1
  have hga : (W2.alloc (.cells zeroG 65)).heap[w.heap.size + 2]? = some (.cells zeroG 65 (0, 0)) := by rw [← hz2]; exact ga_new W2 _
  go_upto_region 2 with (with_reducible refine wpL_storeG rfl _ _ rfl (w.heap.size + 2) s0 s1 s2 s3 s4 s5 s6 (.slice none 0 0) (.slice none 0 0) (.slice none 0 0) _ rfl rfl hga rfl hone ⟨rfl, rfl, rfl⟩ ?_; intro w3 hb3 hg3 hz3)
  rw [World.size_alloc, hz2] at hz3
  have hB3 : Below w.heap.size w w3 := (hB2.alloc hB2.size _).grown hg3 (by rw [World.size_alloc]; omega) fun k hk => by injection hk with hk; omega
  have hx3 : w3.heap[w.heap.size]? = some (.cells #[s0, s1, s2, s3, s4, s5, s6] 30 (0, 0)) := (hg3.block _ (by rw [World.size_alloc]; omega) (fun e => by injection e with e; omega)).trans (ga_old hx2)
  have hr3 : w3.heap[w.heap.size + 1]? = some (.cells zeroG 65 (0, 0)) := (hg3.block _ (by rw [World.size_alloc]; omega) (fun e => by injection e with e; omega)).trans (ga_old hr2)
  clear q l0 hga hg3 hx2 hr2 hB2 hz2
  have q := box7 hx3
  have l0 := (Array.getElem?_eq_some_iff.1 hx3).1
  go_upto_region 3 with (go_at_call 93; refine (hLd.out _ (hw.below hB3)).mono ?_; rintro e w4 ⟨⟨gl, bs, rfl, hgl, hA, hMk⟩, hB4⟩; dsimp only)
  clear q l0 hLd
  have hb4 := blk_keep hB4 hb3
  have hx4 := blk_keep hB4 hx3
  have hr4 := blk_keep hB4 hr3
  have hBw4 := bstep hB3 hB4
  have hz4 := hB4.size
  have hs4 := hw.below hBw4
  have hbl := Lib.hid hMk.len
  have hb0 : bs.getD 0 false = true := (hMk.iff_ 0 n1).2 (.inl rfl)
  have hb0h := Lib.hid hb0
  have hMkh := Lib.hid hMk
  have hAl := hA.lt
  have hz34 : w.heap.size + 3 ≤ w4.heap.size := by omega
  have hgl3 : w.heap.size + 3 ≤ gl := by omega
  clear hb3 hx3 hr3 hB3 hB4 hz3 hb0 hMk hz4 hgl
  go_wp2_with fail
  go_loopw [5] (fun i wr => ∃ (k : Nat) (vb : Value), k ≤ c.instrs.length ∧ i = .int .i64 k ∧ wr.heap[w.heap.size + 2]? = some (.cells #[s0, s1, s2, s3, s4, s5, s6, vb, .slice none 0 0, .slice none 0 0] 65 (0, 0)) ∧
    OwnB wr w4.heap.size vb (rowsK bs k) ∧ w4.grownBy wr (some (w.heap.size + 2))) (fun i _ => c.instrs.length - (intOf i).toNat)
  case atStart => exact ⟨0, _, Nat.zero_le _, rfl, hb4, OwnB.nil _ _, grown_refl _ _⟩
  case round =>
    obtain ⟨k, vb, hk, rfl, hbx, hvb, hg⟩ := hrel
    have hAr : ArrB wr gl bs := hA.of_block (hg.block gl hAl (by simp; omega))
    have hgs := hg.size
    by_cases hlt : k < c.instrs.length
    · have hlt' : (k : Int) < c.instrs.length := by omega
      have hac := hAr.cell (j := k) (by rw [hbl.out]; exact hlt)
      have hall := hAr.lt
      have q7 := (box10 hbx).2.2.2.2.2.2.2.1
      have hfl := (Array.getElem?_eq_some_iff.1 hbx).1
      have hcl := rowsK_len bs k
      have hcle := cnt_le bs k
      have hrs0 : rowsK bs (k + 1) = endAt (if bs.getD k false then rowsK bs k ++ [((k : Int), 0)] else rowsK bs k) (k + 1) := rfl
      have hcn0 : cnt bs (k + 1) = cnt bs k + (bs.getD k false).toNat := rfl
      have hvbh := Lib.hid hvb
      clear hvb
      cases hb : bs.getD k false
      case' false =>
        rw [hb] at hac hrs0 hcn0
        simp only [Bool.false_eq_true, if_false, Bool.toNat_false, Nat.add_zero] at hrs0 hcn0
        have hk0 : 0 < k := by
          apply Classical.byContradiction
          intro hn
          obtain rfl : k = 0 := by omega
          rw [hb0h.out] at hb
          cases hb
        have hcp := cnt_pos hb0h.out hk0
        obtain ⟨g, cap, cur, rfl, hgP, hblkg, hcap, -⟩ := hvbh.out.form (by omega)
        obtain ⟨j, hj⟩ : ∃ j, (rowsK bs k).length = j + 1 := ⟨(rowsK bs k).length - 1, by omega⟩
        obtain ⟨rows', hrows⟩ : ∃ r, r = rowsK bs k := ⟨_, rfl⟩
        rw [← hrows] at hrs0 hvbh hj hcl hbx q7
        rw [hj] at hbx q7 hvbh
        have hrsh := Lib.hid hrs0
        have hjh := Lib.hid hj
        have hjb : j < 20000 := by omega
        clear hb hrs0 hcn0 hrows hj hcp hblkg hcap hgP
        go_upto_region 8 with fail
        refine wp_name fun w5 hw5 => ?_
        have hbx5 : w5.heap[w.heap.size + 2]? = some (.cells #[s0, s1, s2, s3, s4, s5, s6, .slice (some ⟨g, 0, none⟩) (j + 1) cap, .slice none 0 0, .slice none 0 0] 65 (0, 0)) := by rw [hw5]; exact hbx
        have hvb5 : OwnB w5 w4.heap.size (.slice (some ⟨g, 0, none⟩) (j + 1) cap) rows' := by rw [hw5]; exact hvbh.out
        have hg5 : w4.grownBy w5 (some (w.heap.size + 2)) := by rw [hw5]; exact hg
        clear hw5
      case' true =>
        rw [hb] at hac hrs0 hcn0
        simp only [if_true, Bool.toNat_true] at hrs0 hcn0
        obtain ⟨rows', hrows⟩ : ∃ r, r = rowsK bs k ++ [((k : Int), 0)] := ⟨_, rfl⟩
        obtain ⟨j, hj⟩ : ∃ j, rows'.length = j + 1 := ⟨(rowsK bs k).length, by rw [hrows]; simp⟩
        rw [← hrows] at hrs0
        have hrsh := Lib.hid hrs0
        have hjh := Lib.hid hj
        have hjb : j < 20000 := by rw [hrows] at hj; simp at hj; omega
        have hrowsh := Lib.hid hrows
        clear hb hrs0 hcn0 hrows hj
        go_upto_region 8 with (at_builtin; go_loud (refine wpL_appB rfl _ _ rfl w4.heap.size vb (rowsK bs k) rfl (hvbh.out.al _) wr.heap.size 1 (k : Int) (by rfl) (ga_new _ _) ?h1 ?h2 ?_); go_loud (case h1 => omega); go_loud (case h2 => simp; omega); intro vb2 w6 hvb2 hg6 hk6; rw [← hrowsh.out] at hvb2; obtain ⟨g, cap, cur, rfl, hgP, hblkg, hcap, -⟩ := hvb2.form (by rw [hjh.out]; omega); rw [hjh.out] at hvb2 ⊢; have hbx6 := (hg6.block (w.heap.size + 2) (by simp; omega) (fun e => by have := (hvbh.out.lt e.symm).1; omega)).trans (ga_old hbx); clear q7; have q := box10 hbx6; have hfr := free_blk hbx6 7; have hfl6 := (Array.getElem?_eq_some_iff.1 hbx6).1)
        refine wp_name fun w5 hw5 => ?_
        have hbx5 : w5.heap[w.heap.size + 2]? = some (.cells #[s0, s1, s2, s3, s4, s5, s6, .slice (some ⟨g, 0, none⟩) (j + 1) cap, .slice none 0 0, .slice none 0 0] 65 (0, 0)) := by rw [hw5]; exact set_blk hbx6 _
        have hvb5 : OwnB w5 w4.heap.size (.slice (some ⟨g, 0, none⟩) (j + 1) cap) rows' := by rw [hw5]; exact hvb2.of_block fun i hi => setCell_other (by have := (hvb2.lt hi).1; omega)
        have hg5 : w4.grownBy w5 (some (w.heap.size + 2)) := by
          rw [hw5]
          exact grow_set (grow_step (grow_al hg _) hg6 (fun i hi => .inl (by have := (hvbh.out.lt hi).1; omega))) (.inr rfl)
        clear hw5 hblkg hcap hgP q hfr hfl6 hbx6 hg6 hk6 hvb2
      all_goals
        (try clear q7)
        (try clear hfl)
        (try clear hac)
        (try clear hall)
        have q7 := (box10 hbx5).2.2.2.2.2.2.2.1
        have hfl := (Array.getElem?_eq_some_iff.1 hbx5).1
        obtain ⟨r, hr⟩ : ∃ r, rows'[j]? = some r := ⟨_, List.getElem?_eq_getElem (by rw [hjh.out]; omega)⟩
        have hcr := (hvb5.cells hr).2.1
        have hfr := hvb5.free (j * 3 + 1)
        have hglw := (hvb5.lt (k := g) rfl)
        have hwj : IntKind.i64.wrap (j : Int) = (j : Int) := IntWalk.i64_in _ (by omega)
        have hwk : IntKind.i64.wrap ((k : Int) + 1) = (k : Int) + 1 := IntWalk.i64_in _ (by omega)
        have hj0 : (0 : Int) ≤ (j : Int) := Int.natCast_nonneg _
        have hj1 : (j : Int) < (j : Int) + 1 := by omega
        have hj2 : (j : Int) < ((j + 1 : Nat) : Int) := by omega
        have hj3 : IntKind.i64.wrap ((j : Int) + 1 - 1) = (j : Int) := by rw [Int.add_sub_cancel]; exact hwj
        clear hr
        go_upto_region 5 with fail
        clear hwj hwk hj0 hj1 hj2 hj3
        go_wp2_with fail
        go_roundw
        case rel =>
          refine ⟨k + 1, _, by omega, by go_num, (show _ from (setCell_other (w := w5) (by omega)).trans hbx5), ?_, ?_⟩
          · rw [hrsh.out]
            exact hvb5.setEnd hjh.out ((k : Int) + 1)
          · exact grow_set hg5 (.inl (by omega))
        case measure => simp [intOf]; omega
    · obtain rfl : k = c.instrs.length := by omega
      have hltn : ¬ (c.instrs.length : Int) < c.instrs.length := by omega
      have hcl := rowsK_len bs c.instrs.length
      have hcp := cnt_pos hb0h.out (show 0 < c.instrs.length by omega)
      have hcle := cnt_le bs c.instrs.length
      obtain ⟨g, cap, cur, rfl, hgP, hblkg, hcap, -⟩ := hvb.form (by omega)
      have hblk := hvb.blkI (by omega)
      have hBr : Below w.heap.size w wr := hBw4.grown hg (by omega) fun j hj => by injection hj with hj; omega
      have hxr := (hg.block w.heap.size (by omega) (fun e => by injection e with e; omega)).trans hx4
      have hrr := (hg.block (w.heap.size + 1) (by omega) (fun e => by injection e with e; omega)).trans hr4
      have hsr := hw.below hBr
      have hgl2 := hblk.lt
      have hGl := (Array.getElem?_eq_some_iff.1 hbx).1
      have hzr : w.heap.size + 3 ≤ wr.heap.size := by omega
      have hEl := entries_len hfine.out
      have q := box7 hxr
      have l0 := (Array.getElem?_eq_some_iff.1 hxr).1
      have q10 := (box10 hbx).2.2.2.2.2.2.2.1
      clear hA hvb hblkg hAr hg hx4 hr4 hb4 hBw4 hs4 hlt hAl
      go_upto_region 11 with (first
        | (go_at_call 94; refine (hE.out _ hsr).mono ?_; rintro e w5 ⟨⟨ve, rfl, hoe⟩, hB5⟩; dsimp only; have he := hoe.read (H := H) (fun y hy => by have := hEin.out y hy; exact ⟨by omega, by omega⟩) (by unfold maxN; omega); have hx5 := blk_keep hB5 hxr; clear q l0; have q := box7 hx5; have l0 := (Array.getElem?_eq_some_iff.1 hx5).1)
        | (go_at_call 95; refine (hRd.out _ (hsr.below hB5)).mono ?_; rintro e w6 ⟨⟨gr, bsr, rfl, hgr, hAr, hMr⟩, hB6⟩; dsimp only; clear q l0))
      clear hE hRd hoe q10
      have hB56 := bstep hB5 hB6
      have hz56 := hB56.size
      have hz5 := hB5.size
      have hK6 : Sees w6 (exG H w (w.heap.size + 2) g w6) := exG.sees (hsr.below hB56)
      have hKH : PH.le H (exG H w (w.heap.size + 2) g w6) := exG.le hw
      have he6 := he.mono (exG.ext (w := w) (G := w.heap.size + 2) (g := g) hw (by omega) hGl hgl2 hB6)
      have hKr : exG H w (w.heap.size + 2) g w6 gr = w6.heap[gr]? := exG.at_ (by omega) (by omega) (by omega) (by omega)
      have hKx : exG H w (w.heap.size + 2) g w6 w.heap.size = some (.cells #[s0, s1, s2, s3, s4, s5, s6] 30 (0, 0)) := (exG.at_ (by omega) (by omega) (by omega) (by omega)).trans (blk_keep hB6 hx5)
      have hKA : exG H w (w.heap.size + 2) g w6 gr = some (.cells (bsr.map Value.bool).toArray 4 (0, 0)) := hKr.trans hAr
      have hrk := hMr.len
      have hI0 : OfI (nxF c bs) w H w6.heap.size (w.heap.size + 2) g cap s0 s1 s2 s3 s4 s5 s6 (rowsK bs c.instrs.length) 0 w6 (fun _ => nilV) nilV nilV [] [] (exG H w (w.heap.size + 2) g w6) :=
        { box := blk_keep hB56 hbx
          blk := hblk.of_block (hB56.block _ hgl2)
          sees := hK6
          le := hKH
          low := fun b hb => by unfold exG; rw [if_pos hb]
          done := fun k hk => by omega
          ent := OwnBl.nil _ _
          rch := OwnBl.nil _ _
          entK := fun k hk => by cases hk
          rchK := fun k hk => by cases hk
          apart := fun k hk => by cases hk
          liveG := by unfold exG; rw [if_neg (by omega), if_pos (.inl rfl)]
          liveg := by unfold exG; rw [if_neg (by omega), if_pos (.inr (.inl rfl))]
          ltG := by omega
          ltg := by omega
          ne := by omega
          size := Nat.le_refl _
          old := ⟨by omega, by omega⟩
          oldB := by omega
          below := bstep hBr hB56
          rb := blk_keep hB56 hrr
          rbG := by omega
          rbg := by omega
          ltRb := by omega
          liveRb := by unfold exG; rw [if_neg (by omega), if_pos (.inr (.inr rfl))] }
      clear he hAr hKr hrr hxr hx5 hbx hblk hsr hBr hB5 hB6 hB56 hz5 hgr hK6 hKH hGl hgl2
      generalize exG H w (w.heap.size + 2) g w6 = K0 at *
      have hrsp := Lib.hid (fun (i : Nat) (h : i < cnt bs c.instrs.length) => rows_spec bs c.instrs.length i h)
      have hat := Lib.hid (fun (p : Nat) (hp : p < c.instrs.length) => at_of (bs := bs) hb0h.out hp)
      have hnxF := Lib.hid (fun (i : Nat) => show nxF c bs i = (nextL c (((rowsK bs c.instrs.length).getD i (0, 0)).2 - 1).toNat).map (ofI bs) from rfl)
      obtain ⟨rows, hrowsE⟩ : ∃ rows, rowsK bs c.instrs.length = rows := ⟨_, rfl⟩
      rw [hrowsE] at hI0 hrsp hat hcl hcap
      have hnx2 := Lib.hid (fun (i : Nat) => (hnxF.out i).trans (by rw [hrowsE]))
      have hrowsEh := Lib.hid hrowsE
      clear hnxF hrowsE
      have hofr := Lib.hid (fun (p : Nat) (hp : p < c.instrs.length) => ofI_range (bs := bs) hb0h.out hp)
      obtain ⟨Ae, ce, rfl, -, -⟩ := he6.open_
      go_wp2_with fail
      go_loopw [8] (fun i wr => ∃ (k : Nat) (vnx : Nat → Value) (Ev Rv : Value) (es rs : List Bool) (K : PH), k ≤ rows.length ∧ i = .int .i64 k ∧ OfI (nxF c bs) w H w6.heap.size (w.heap.size + 2) g cap s0 s1 s2 s3 s4 s5 s6 rows k wr vnx Ev Rv es rs K ∧ PH.le K0 K ∧
        Aside (es.length = k ∧ ∀ j, j < k → es.getD j false = inB (rows.getD j (0, 0)).1 (entriesL c)) ∧ Aside (rs.length = k ∧ ∀ j, j < k → rs.getD j false = bsr.getD (rows.getD j (0, 0)).1.toNat false)) (fun i _ => rows.length - (intOf i).toNat)
      case atStart => exact ⟨0, _, _, _, _, _, _, Nat.zero_le _, rfl, hI0, PH.le_refl _, ⟨rfl, fun j hj => by omega⟩, ⟨rfl, fun j hj => by omega⟩⟩
      clear hI0
      case round =>
        obtain ⟨k, vnx, Ev, Rv, es, rs, K, hk, rfl, hI, hKK, hes, hrs⟩ := hrel
        obtain ⟨hesl, hesv⟩ := hes
        obtain ⟨hrsl, hrsv⟩ := hrs
        have hesvh := Lib.hid hesv
        have hrsvh := Lib.hid hrsv
        clear hesv hrsv
        have q7 := (box10 hI.box).2.2.2.2.2.2.2.1
        have hfl := (Array.getElem?_eq_some_iff.1 hI.box).1
        by_cases hlt : k < rows.length
        · have hlt' : (k : Int) < rows.length := by omega
          have hk0 : (0 : Int) ≤ k := by omega
          obtain ⟨s, t, hst, hrow⟩ := hrsp.out k (by omega)
          have hrl := hrow.lt
          have hrle := hrow.le
          have hgd : rows.getD k (0, 0) = ((s : Int), (t : Int)) := by rw [List.getD_eq_getElem?_getD, hst]; rfl
          obtain ⟨m, hm⟩ : ∃ m, t = m + 1 := ⟨t - 1, by omega⟩
          have hmn : m < c.instrs.length := by omega
          obtain ⟨-, c1, -⟩ := hI.blk.cells hst
          have hglt := hI.blk.lt
          have hxr : wr.heap[w.heap.size]? = some (.cells #[s0, s1, s2, s3, s4, s5, s6] 30 (0, 0)) := hI.sees _ _ (hKK _ _ hKx)
          have hxl := (Array.getElem?_eq_some_iff.1 hxr).1
          have hwt : IntKind.i64.wrap ((t : Int) - 1) = (m : Int) := by rw [hm]; push_cast; rw [Int.add_sub_cancel]; exact IntWalk.i64_in _ (by omega)
          simp only at c1
          have hcs := Lib.hid (fun (w' : World) (h : ∀ b, b < wr.heap.size → w'.heap[b]? = wr.heap[b]?) => And.intro (box7 ((h _ hxl).trans hxr)) (And.intro (lt_same (h _ hxl) hxl) (And.intro ((cell_same (h _ hfl)).trans q7) (And.intro (lt_same (h _ hfl) hfl) (And.intro ((cell_same (h _ hglt)).trans c1) (lt_same (h _ hglt) hglt))))))
          have hsH := hw.below hI.below
          have hgdh := Lib.hid hgd
          have hsth := Lib.hid hst
          have hrowh := Lib.hid hrow
          have hnm : nxF c bs k = (nextL c m).map (ofI bs) := by rw [hnx2.out k, hgd, hm]; simp
          have hnmh := Lib.hid hnm
          clear hgd hst hrow hm c1 hnm
          go_upto_region 14 with fail
          refine wp_region_plan (fun w' => ∀ b, b < wr.heap.size → w'.heap[b]? = wr.heap[b]?) [(0, true), (1, true), (2, true), (3, true), (4, true), (5, true), (6, true), (7, true), (8, false), (9, true)] (by kernel_rfl) (by kernel_rfl) (by kernel_rfl) (fun _ _ => rfl) ?_
          repeat first
            | (refine plan_skip rfl (by rfl) ?_; simp only [Act.put, List.setIfInBounds_toArray, List.set_cons_zero, List.set_cons_succ])
            | (refine plan_read (v := ?_) rfl (by rfl) ?_ ?_; rotate_left; (focus (intro w' hSw; obtain ⟨p1, p2, p3, p4, p5, p6⟩ := hcs.out _ hSw; clear hSw; go_simp; all_goals with_reducible rfl)); simp only [Act.put, List.setIfInBounds_toArray, List.set_cons_zero, List.set_cons_succ])
          refine plan_step rfl (by rfl) (fun K' hK' => ?_)
          go_simp
          refine (hN.out _ (by exact fun i o e => hsH i o e) m hmn).mono ?_
          rintro e w7 ⟨⟨vn, rfl, hon⟩, hB7⟩
          refine hK'.out _ _ (fun b hb => hB7.block b hb) ?_
          clear hK' K'
          repeat first
            | (refine plan_skip rfl (by rfl) ?_; simp only [Act.put, List.setIfInBounds_toArray, List.set_cons_zero, List.set_cons_succ])
            | (refine plan_read (v := ?_) rfl (by rfl) ?_ ?_; rotate_left; (focus (intro w' hSw; skip; clear hSw; go_simp; all_goals with_reducible rfl)); simp only [Act.put, List.setIfInBounds_toArray, List.set_cons_zero, List.set_cons_succ])
          refine plan_nil (NoPanic.normal ?_)
          have hI7 := hI.drew.know hB7
          have hK7 := PH.le_trans hKK (extH.le hI.drew.sees w7)
          have hn7 : SlV rInt (extH K wr.drew w7) vn (nextL c m) := hon.read (fun y hy => by have := hNin.out m hmn y hy; exact ⟨by omega, by omega⟩) (by have h1 := nextL_len c m; unfold maxN; omega)
          clear hI hon hB7 hcs hwt q7 hfl hxr hxl hglt hsH hKK
          generalize extH K wr.drew w7 = K7 at *
          have hn70 := hn7
          obtain ⟨An, cn, rfl, -, -⟩ := hn70.open_
          clear hn70
          have hnl2 := nextL_len c m
          go_wp2_with fail
          obtain ⟨wo, rfl⟩ : ∃ wo : World, wo = wr := ⟨_, rfl⟩
          go_loopw [10, 11] (fun l i wj => ∃ j : Nat, j ≤ (nextL c m).length ∧ i = .int .i64 j ∧ OwnI wj w7.heap.size l (((nextL c m).take j).map (ofI bs)) ∧ Below w7.heap.size w7 wj) (fun _ i _ => (nextL c m).length - (intOf i).toNat)
          case atStart => exact ⟨0, Nat.zero_le _, rfl, OwnI.nil _ _, Below.refl _ _⟩
          case round =>
            obtain ⟨j, hj, rfl, hown, hB⟩ := hrel
            have hIj := hI7.call hB
            by_cases hjt : j < (nextL c m).length
            · have hjt' : (j : Int) < (nextL c m).length := by omega
              obtain ⟨bm, om, cm2, em, -, hbm, hmcell, -⟩ := hn7.ints (by omega)
              cases em
              have d1 := hmcell wr hIj.sees j hjt
              have lm := hIj.sees.lt' hbm
              have hy : (nextL c m)[j]? = some ((nextL c m).getD j 0) := by simp [hjt]
              obtain ⟨hi0, hi1⟩ := hNin.out m hmn _ (List.mem_of_getElem? hy)
              obtain ⟨p, hp⟩ : ∃ p : Nat, (nextL c m).getD j 0 = (p : Int) := ⟨((nextL c m).getD j 0).toNat, by omega⟩
              have htk := take_succ_map (nextL c m) (ofI bs) hy
              rw [hp] at d1 htk
              have hpn : p < c.instrs.length := by omega
              have hap := hat.out p hpn
              have hor := hofr.out p hpn
              have hAt := r19_at (w.heap.size + 2) g 0 cap s0 s1 s2 s3 s4 s5 s6 Ev Rv rows (p : Int) wr hIj.box (by omega) (fun i hi => by
                have hri : rows[i]? = some (rows.getD i (0, 0)) := by simp [hi]
                rw [Nat.zero_add]
                exact (hIj.blk.cells hri).2.1) hIj.blk.lt
              rw [hap] at hAt
              have htkh := Lib.hid htk
              have hz := hB.size
              have hlen : (((nextL c m).take j).map (ofI bs)).length ≤ 2 := by rw [List.length_map]; exact Nat.le_trans (List.length_take_le' _ _) hnl2
              generalize ofI bs p = y at *
              generalize ((nextL c m).take j).map (ofI bs) = ls at *
              clear hmcell hy hp htk hap
              go_wp2_with (first
                | (go_at_call 51; refine hAt.mono ?_; rintro e w8 ⟨rfl, rfl⟩)
                | (at_builtin; go_loud (refine wpL_appI rfl _ _ rfl w7.heap.size _ ls [y] rfl (hown.al _) ⟨wr.heap.size, 0, none⟩ 1 1 rfl rfl (one_new (by simp)) ?hlen ?hsz ?_); go_loud (case hlen => first | omega | (simp; omega)); go_loud (case hsz => first | omega | (simp; omega)); intro v2 w2 hown2 hg2 _))
              go_roundw
              case rel => exact ⟨j + 1, by omega, by go_num, by rw [htkh.out]; exact hown2, (hB.alloc hB.size _).grown hg2 (by simp; omega) (fun i hi => (hown.lt hi).1)⟩
              case measure => simp [intOf]; omega
            · obtain rfl : j = (nextL c m).length := by omega
              have hltn2 : ¬ ((nextL c m).length : Int) < (nextL c m).length := by omega
              rw [List.take_length, ← hnmh.out] at hown
              have hI8 := hI7.know hB
              have hK8 := PH.le_trans hK7 (extH.le hI7.sees wr)
              have hlr : SlV rInt (extH _ w7 wr) _ (nxF c bs k) := hown.read (H := K7) (fun y hy => by
                rw [hnmh.out] at hy
                obtain ⟨z, hz, rfl⟩ := List.mem_map.1 hy
                have h1 := hNin.out m hmn z hz
                obtain ⟨p, rfl⟩ : ∃ p : Nat, z = (p : Int) := ⟨z.toNat, by omega⟩
                have h2 := hofr.out p (by omega)
                exact ⟨by omega, by omega⟩) (by rw [hnmh.out, List.length_map]; unfold maxN; omega)
              clear hI7 hK7 hn7 hown hIj hB
              generalize extH K7 w7 wr = K8 at *
              have q7 := (box10 hI8.box).2.2.2.2.2.2.2.1
              have hfl := (Array.getElem?_eq_some_iff.1 hI8.box).1
              obtain ⟨-, -, c2⟩ := hI8.blk.cells hsth.out
              have hglt := hI8.blk.lt
              have hfz := hI8.blk.free (k * 3 + 2)
              have hlr0 := hlr
              obtain ⟨Al, cl, rfl, -, -⟩ := hlr0.open_
              clear hlr0
              go_upto_region 21 with fail
              refine wp_name fun w9 hw9 => ?_
              obtain ⟨vnx9, hI9⟩ : ∃ vnx9, OfI (nxF c bs) w H w6.heap.size (w.heap.size + 2) g cap s0 s1 s2 s3 s4 s5 s6 rows (k + 1) w9 vnx9 Ev Rv es rs K8 := ⟨_, by rw [hw9]; exact hI8.setN hlr⟩
              clear hw9 hI8 q7 hfl c2 hglt hfz hlr
              have q := box10 hI9.box
              have hfl := (Array.getElem?_eq_some_iff.1 hI9.box).1
              obtain ⟨c0, -, -⟩ := hI9.blk.cells hsth.out
              simp only at c0
              have hglt := hI9.blk.lt
              have hcs := Lib.hid (fun (w' : World) (h : w'.heap[w.heap.size + 2]? = w9.heap[w.heap.size + 2]? ∧ w'.heap[g]? = w9.heap[g]? ∧ Sees w' K8) => And.intro ((cell_same h.1).trans q.2.2.2.2.2.2.2.2.1) (And.intro ((cell_same h.1).trans q.2.2.2.2.2.2.2.1) (And.intro (lt_same h.1 hfl) (And.intro ((cell_same h.2.1).trans c0) (lt_same h.2.1 hglt)))))
              have hei := Lib.hid (he6.mono hK8)
              clear q c0
              go_upto_region 21 with fail
              refine wp_region_planF (fun w' => w'.heap[w.heap.size + 2]? = w9.heap[w.heap.size + 2]? ∧ w'.heap[g]? = w9.heap[g]? ∧ Sees w' K8) 13 [(0, true), (1, true), (2, true), (3, true), (4, true), (5, true), (6, true), (7, true), (8, true), (9, false), (10, false), (11, false), (12, true), (13, false)] (by kernel_rfl) (by kernel_rfl) (by kernel_rfl) ⟨rfl, rfl, by exact fun i o e => hI9.sees i o e⟩ ?_
              repeat first
                | (refine planF_skip rfl (by rfl) ?_; simp only [Act.put, List.setIfInBounds_toArray, List.set_cons_zero, List.set_cons_succ])
                | (refine planF_read (v := ?_) rfl (by rfl) ?_ ?_; rotate_left; (focus (intro w' hSw; obtain ⟨p1, p2, p3, p4, p5⟩ := hcs.out _ hSw; clear hSw; go_simp; all_goals with_reducible rfl)); simp only [Act.put, List.setIfInBounds_toArray, List.set_cons_zero, List.set_cons_succ])
              refine planF_step rfl (by rfl) (fun K' hK' => ?_)
              go_simp
              refine (r19_in K8 (s : Int) _ (entriesL c) _ (by exact fun i o e => hI9.sees i o e) hei.out).mono ?_
              rintro e w10 ⟨rfl, rfl⟩
              refine hK'.out _ _ (.inr ⟨rfl, rfl, by exact fun i o e => hI9.sees i o e⟩) ?_
              clear hK' K'
              generalize hb1 : inB (s : Int) (entriesL c) = b1 at *
              refine planF_step rfl (by rfl) (fun K' hK' => ?_)
              go_simp
              refine hK'.out _ _ (.inr ⟨heap_al hfl, heap_al hglt, fun i o e => ga_old (hI9.sees i o e)⟩) ?_
              clear hK' K'
              refine planF_step rfl (by rfl) (fun K' hK' => ?_)
              refine step_appBl _ _ (by rfl) (by rfl) w6.heap.size Ev es (by rfl) (hI9.drew.ent.al _) w9.heap.size 1 b1 (by rfl) (ga_new w9.drew _) (by omega) (by have := hI9.size; simp; omega) ?_
              intro g2 cap2 w11 h11 hg11 hat11 hlt11
              have hneG : ∀ b, b < w6.heap.size → some b ≠ Ev.ownBlock := fun b hb e => by have := (hI9.ent.lt e.symm).1; omega
              have hG11 : w11.heap[w.heap.size + 2]? = w9.heap[w.heap.size + 2]? := (hg11.block _ (Nat.lt_trans hfl alsize) (hneG _ hI9.ltG)).trans (heap_al hfl)
              have hgg11 : w11.heap[g]? = w9.heap[g]? := (hg11.block _ (Nat.lt_trans hglt alsize) (hneG _ hI9.ltg)).trans (heap_al hglt)
              have hK11 : Sees w11 K8 := fun i o e => (hg11.block i (Nat.lt_trans (hI9.sees.lt e) alsize) (fun e2 => by rw [hI9.entK i e2.symm] at e; cases e)).trans (ga_old (hI9.sees i o e))
              refine hK'.out _ _ (.inr ⟨hG11, hgg11, hK11⟩) ?_
              clear hK' K'
              repeat first
                | (refine planF_skip rfl (by rfl) ?_; simp only [Act.put, List.setIfInBounds_toArray, List.set_cons_zero, List.set_cons_succ])
                | (refine planF_read (v := ?_) rfl (by rfl) ?_ ?_; rotate_left; (focus (intro w' hSw; obtain ⟨p1, p2, p3, p4, p5⟩ := hcs.out _ hSw; clear hSw; go_simp; all_goals with_reducible rfl)); simp only [Act.put, List.setIfInBounds_toArray, List.set_cons_zero, List.set_cons_succ])
              have hI10 := (hI9.call ((Below.refl _ _).alloc (Nat.le_refl _) (.cells #[.bool b1] 4))).drew.addE h11 hg11 hat11
              rw [hesl] at hI10
              have hbG := hG11.trans hI9.box
              have qE := (box10 hbG).2.2.2.2.2.2.2.2.1
              have fE := free_blk hbG 8
              have lE := (Array.getElem?_eq_some_iff.1 hbG).1
              refine planF_step rfl (by rfl) (fun K' hK' => ?_)
              go_simp
              refine hK'.out _ _ (.inl rfl) ?_
              clear hK' K'
              refine planF_nil (NoPanic.normal ?_)
              clear hG11 hgg11 hK11 hbG qE fE lE hneG h11 hg11 hat11 hlt11 hI9 hcs hfl hglt
              generalize w11.setCell ⟨w.heap.size + 2, 8, none⟩ (.slice (some ⟨g2, 0, none⟩) (k + 1) cap2) = w12 at *
              have q := box10 hI10.box
              have hfl := (Array.getElem?_eq_some_iff.1 hI10.box).1
              obtain ⟨c0, -, -⟩ := hI10.blk.cells hsth.out
              simp only at c0
              have hglt := hI10.blk.lt
              have hsn : s < c.instrs.length := by omega
              have hsn' : (s : Int) < c.instrs.length := by omega
              have hs0 : (0 : Int) ≤ s := by omega
              have hKA8 := hK8 _ _ hKA
              obtain ⟨b2, hb2⟩ : ∃ b2, bsr.getD s false = b2 := ⟨_, rfl⟩
              have hcs := Lib.hid (fun (w' : World) (h : w'.heap[w.heap.size + 2]? = w12.heap[w.heap.size + 2]? ∧ w'.heap[g]? = w12.heap[g]? ∧ Sees w' K8) => And.intro ((cell_same h.1).trans q.2.2.2.2.2.2.2.2.2) (And.intro ((cell_same h.1).trans q.2.2.2.2.2.2.2.1) (And.intro (lt_same h.1 hfl) (And.intro ((cell_same h.2.1).trans c0) (And.intro (lt_same h.2.1 hglt) (And.intro ((ArrB.cell (w := w') (g := gr) (bs := bsr) (h.2.2 _ _ hKA8) (j := s) (by omega)).trans (by rw [hb2])) (h.2.2.lt hKA8)))))))
              have hb2h := Lib.hid hb2
              clear q c0 hb2
              go_upto_region 22 with fail
              refine wp_region_planF (fun w' => w'.heap[w.heap.size + 2]? = w12.heap[w.heap.size + 2]? ∧ w'.heap[g]? = w12.heap[g]? ∧ Sees w' K8) 14 [(0, true), (1, true), (2, true), (3, true), (4, true), (5, true), (6, true), (7, true), (8, true), (9, true), (10, true), (11, false), (12, false), (13, true), (14, false)] (by kernel_rfl) (by kernel_rfl) (by kernel_rfl) ⟨rfl, rfl, by exact fun i o e => hI10.sees i o e⟩ ?_
              repeat first
                | (refine planF_skip rfl (by rfl) ?_; simp only [Act.put, List.setIfInBounds_toArray, List.set_cons_zero, List.set_cons_succ])
                | (refine planF_read (v := ?_) rfl (by rfl) ?_ ?_; rotate_left; (focus (intro w' hSw; obtain ⟨p1, p2, p3, p4, p5, p6, p7⟩ := hcs.out _ hSw; clear hSw; go_simp; all_goals with_reducible rfl)); simp only [Act.put, List.setIfInBounds_toArray, List.set_cons_zero, List.set_cons_succ])
              refine planF_step rfl (by rfl) (fun K' hK' => ?_)
              go_simp
              refine hK'.out _ _ (.inr ⟨heap_al hfl, heap_al hglt, fun i o e => ga_old (hI10.sees i o e)⟩) ?_
              clear hK' K'
              refine planF_step rfl (by rfl) (fun K' hK' => ?_)
              refine step_appBl _ _ (by rfl) (by rfl) w6.heap.size Rv rs (by rfl) (hI10.drew.rch.al _) w12.heap.size 1 b2 (by rfl) (ga_new w12.drew _) (by omega) (by have := hI10.size; simp; omega) ?_
              intro g3 cap3 w13 h13 hg13 hat13 hlt13
              have hneG : ∀ b, b < w6.heap.size → some b ≠ Rv.ownBlock := fun b hb e => by have := (hI10.rch.lt e.symm).1; omega
              have hG13 : w13.heap[w.heap.size + 2]? = w12.heap[w.heap.size + 2]? := (hg13.block _ (Nat.lt_trans hfl alsize) (hneG _ hI10.ltG)).trans (heap_al hfl)
              have hgg13 : w13.heap[g]? = w12.heap[g]? := (hg13.block _ (Nat.lt_trans hglt alsize) (hneG _ hI10.ltg)).trans (heap_al hglt)
              have hK13 : Sees w13 K8 := fun i o e => (hg13.block i (Nat.lt_trans (hI10.sees.lt e) alsize) (fun e2 => by rw [hI10.rchK i e2.symm] at e; cases e)).trans (ga_old (hI10.sees i o e))
              refine hK'.out _ _ (.inr ⟨hG13, hgg13, hK13⟩) ?_
              clear hK' K'
              repeat first
                | (refine planF_skip rfl (by rfl) ?_; simp only [Act.put, List.setIfInBounds_toArray, List.set_cons_zero, List.set_cons_succ])
                | (refine planF_read (v := ?_) rfl (by rfl) ?_ ?_; rotate_left; (focus (intro w' hSw; obtain ⟨p1, p2, p3, p4, p5, p6, p7⟩ := hcs.out _ hSw; clear hSw; go_simp; all_goals with_reducible rfl)); simp only [Act.put, List.setIfInBounds_toArray, List.set_cons_zero, List.set_cons_succ])
              have hI14 := (hI10.call ((Below.refl _ _).alloc (Nat.le_refl _) (.cells #[.bool b2] 4))).drew.addR h13 hg13 hat13
              rw [hrsl] at hI14
              have hbG := hG13.trans hI10.box
              have qE := (box10 hbG).2.2.2.2.2.2.2.2.2
              have fE := free_blk hbG 9
              have lE := (Array.getElem?_eq_some_iff.1 hbG).1
              refine planF_step rfl (by rfl) (fun K' hK' => ?_)
              go_simp
              refine hK'.out _ _ (.inl rfl) ?_
              clear hK' K'
              refine planF_nil (NoPanic.normal ?_)
              clear hG13 hgg13 hK13 hbG qE fE lE hneG h13 hg13 hat13 hlt13 hI10 hcs hfl hglt
              generalize w13.setCell ⟨w.heap.size + 2, 9, none⟩ (.slice (some ⟨g3, 0, none⟩) (k + 1) cap3) = w14 at *
              clear hei hKA8
              go_wp2_with fail
              go_roundw
              case rel =>
                refine ⟨k + 1, vnx9, _, _, es ++ [b1], rs ++ [b2], K8, by omega, by go_num, hI14, hK8, ⟨by simp [hesl], fun j hj => ?_⟩, ⟨by simp [hrsl], fun j hj => ?_⟩⟩
                · by_cases e : j = k
                  · subst e
                    rw [List.getD_eq_getElem?_getD, List.getElem?_append_right (by omega), hesl, Nat.sub_self, hgdh.out, hb1]
                    rfl
                  · rw [List.getD_eq_getElem?_getD, List.getElem?_append_left (by omega), ← List.getD_eq_getElem?_getD]
                    exact hesvh.out j (by omega)
                · by_cases e : j = k
                  · subst e
                    rw [List.getD_eq_getElem?_getD, List.getElem?_append_right (by omega), hrsl, Nat.sub_self, hgdh.out]
                    exact hb2h.out.symm
                  · rw [List.getD_eq_getElem?_getD, List.getElem?_append_left (by omega), ← List.getD_eq_getElem?_getD]
                    exact hrsvh.out j (by omega)
              case measure => simp [intOf]; omega
        · obtain rfl : k = rows.length := by omega
          have hltn3 : ¬ (rows.length : Int) < rows.length := by omega
          have q := box10 hI.box
          have hgE : Ev.oneCell' = true := by rcases hI.ent.2 with ⟨h, _⟩ | ⟨_, _, _, h, _⟩ <;> rw [h] <;> rfl
          have hgR : Rv.oneCell' = true := by rcases hI.rch.2 with ⟨h, _⟩ | ⟨_, _, _, h, _⟩ <;> rw [h] <;> rfl
          have hrb := hI.rb
          go_wp2_with (with_reducible refine wpL_storeG rfl _ _ rfl (w.heap.size + 1) s0 s1 s2 s3 s4 s5 s6 _ Ev Rv _ rfl rfl hrb rfl hone ⟨rfl, hgE, hgR⟩ ?_; intro w15 hb15 hg15 hz15; have qr := box10 hb15; have lr := (Array.getElem?_eq_some_iff.1 hb15).1)
          have hB15 : Below w.heap.size w w15 := hI.below.grown hg15 hI.below.size fun k hk => by injection hk with hk; omega
          have hKs : Sees w15 K := fun i o e => (hg15.block i (hI.sees.lt e) (fun e2 => by injection e2 with e2; rw [e2, hI.liveRb] at e; cases e)).trans (hI.sees i o e)
          have hle : PH.le K (extH H w w15) := by
            intro b o e
            unfold extH
            split
            · rename_i hb; rw [← e, hI.low b hb]
            · exact hKs b o e
          have hat2 : ∀ b, w.heap.size + 1 < b → b < wr.heap.size → extH H w w15 b = wr.heap[b]? := fun b h1 h2 => (extH.at_ (by omega)).trans (hg15.block b h2 (fun e => by injection e with e; omega))
          have hes := of_entry hfine.out hMkh.out hrowsEh.out hesl (fun j hj => hesvh.out j hj)
          have hrs := of_reached hMkh.out hrowsEh.out hMr hrsl (fun j hj => hrsvh.out j hj)
          have hri : ∀ r ∈ rows, I64 r.1 ∧ I64 r.2 := by rw [← hrowsEh.out]; exact rows_i64 n0
          have hbv := hI.blocksV hle (hat2 g (by have := hI.old; have := hI.rbg; omega) hI.blk.lt) rfl hri hcap (by unfold maxN; omega)
          rw [of_blocks hMkh.out hrowsEh.out, hcl] at hbv
          have hev := hI.ent.readK (K := extH H w w15) (fun k hk => hat2 k (by have := (hI.ent.lt hk).1; have := hI.ltRb; omega) (hI.ent.lt hk).2) (by unfold maxN; omega)
          have hrv := hI.rch.readK (K := extH H w w15) (fun k hk => hat2 k (by have := (hI.rch.lt hk).1; have := hI.ltRb; omega) (hI.rch.lt hk).2) (by unfold maxN; omega)
          rw [hes] at hev
          rw [hrs] at hrv
          refine bodyPost_ret (v := .agg #[s0, s1, s2, s3, s4, s5, s6, .slice (some ⟨g, 0, none⟩) (cnt bs c.instrs.length) cap, Ev, Rv]) (by simp [results, Tryz.results49, go_sem, *]) rfl ?_
          exact ⟨⟨_, rfl, s0, s1, s2, s3, s4, s5, s6, _, _, _, rfl, hone, hbv, hev, hrv⟩, hB15⟩
end Go.Proofs.YtififjlgjmgikaaGreat
namespace Go.Proofs.YtififjlgjmgikaaGreat
set_option linter.all false
open Go.RowKit

theorem SlV.one {α : Type} {r : Rp α} {K : PH} {v : Value} {xs : List α} (h : SlV r K v xs) : v.oneCell' = true := by
  obtain ⟨_, _, rfl, -, -⟩ := h.open_
  rfl
theorem extH.over {H : PH} {w w3 w4 w6 : World} (hw : Sees w H) (h3 : w.heap.size ≤ w3.heap.size) (hk : ∀ i, w3.heap.size ≤ i → i < w4.heap.size → w6.heap[i]? = w4.heap[i]?) : PH.le (extH H w3 w4) (extH H w w6) := by
  intro i o e
  unfold extH at e ⊢
  split at e
  · rw [if_pos (hw.lt e)]; exact e
  · rename_i h
    rw [if_neg (by omega), hk i (by omega) (Array.getElem?_eq_some_iff.1 e).1]
    exact e
/-- What Small answers. -/
def SmRes (H : PH) (w w' : World) (c : CodeD) (e : Ending) : Prop :=
  ∃ s0 s1 s2 s3 s4 s5 s6 L E R, e = .returned (.tuple #[.agg #[s0, s1, s2, s3, s4, s5, s6, L, E, R], .int .i64 (checkedE c)]) ∧ (s0.oneCell' = true ∧ s1.oneCell' = true ∧ s2.oneCell' = true ∧ s3.oneCell' = true ∧ s4.oneCell' = true ∧ s5.oneCell' = true ∧ s6.oneCell' = true) ∧ (L.oneCell' = true ∧ E.oneCell' = true ∧ R.oneCell' = true) ∧
    (fineB c = true → SlV rBlock (extH H w w') L (theFlow c).blocks ∧ SlV rBool (extH H w w') E (theFlow c).entry ∧ SlV rBool (extH H w w') R (theFlow c).reached)
set_option maxHeartbeats 4000000 in
set_option maxRecDepth 100000 in
theorem r19_Small_no (H : PH) (v : Value) (c : CodeD) (w : World) (hw : Sees w H) (hc : CodeV H v c) (hf : fineB c = false) :
    Calls Tryz.prog 35 #[v] w fun e w' => SmRes H w w' c e ∧ Below w.heap.size w w' := by
  have hV := Lib.hid (fun (w1 : World) (hs : Sees w1 H) => r19_valid H _ c w1 hs hc)
  have hE1 : checkedE c = 1 := by simp [checkedE, hf]
  have hv1 : validE c = 1 := by simp [validE, hf]
  unfold SmRes
  rw [hE1, hf]
  rw [hv1] at hV
  obtain ⟨s0, s1, s2, s3, s4, s5, s6, rfl, hc⟩ := hc
  have hx0 := ga_new w (.cells #[s0, s1, s2, s3, s4, s5, s6] 30)
  have hB0 : Below w.heap.size w (w.alloc (.cells #[s0, s1, s2, s3, s4, s5, s6] 30)) := (Below.refl _ _).alloc (Nat.le_refl _) _
  clear hc hf hE1 hv1
  go_enter Tryz.func35, Tryz.ntmps35
  go_upto_region 1 with fail
  refine wp_name fun W2 hW2 => ?_
  have hx2 : W2.heap[w.heap.size]? = some (.cells #[s0, s1, s2, s3, s4, s5, s6] 30 (0, 0)) := by rw [hW2]; exact ga_old hx0
  have hr2 : W2.heap[w.heap.size + 1]? = some (.cells zeroG 65 (0, 0)) := by rw [hW2]; exact blk1 _ _ _
  have hB2 : Below w.heap.size w W2 := by rw [hW2]; exact hB0.alloc hB0.size _
  clear hW2 hx0 hB0
  have q := box7 hx2
  have l0 := (Array.getElem?_eq_some_iff.1 hx2).1
  go_wp2_with (first
    | (go_at_call 48; refine (hV.out _ (hw.below hB2)).mono ?_; rintro e w3 ⟨rfl, hB3⟩; have hr3 := blk_keep hB3 hr2; have hBa := bstep hB2 hB3; clear q l0)
    | (with_reducible refine wpL_storeG rfl _ _ rfl (w.heap.size + 1) _ _ _ _ _ _ _ _ _ _ _ rfl rfl hr3 rfl ⟨rfl, rfl, rfl, rfl, rfl, rfl, rfl⟩ ⟨rfl, rfl, rfl⟩ ?_; intro w4 hb4 hg4 hz4; have q4 := box10 hb4; have l4 := (Array.getElem?_eq_some_iff.1 hb4).1))
  have hB4 : Below w.heap.size w w4 := hBa.grown hg4 hBa.size fun k hk => by injection hk with hk; omega
  refine bodyPost_ret (v := .tuple #[.agg zeroG, .int .i64 1]) (by simp [results, Tryz.results35, go_sem, *]) rfl ?_
  exact ⟨⟨_, _, _, _, _, _, _, _, _, _, rfl, ⟨rfl, rfl, rfl, rfl, rfl, rfl, rfl⟩, ⟨rfl, rfl, rfl⟩, fun h => by cases h⟩, hB4⟩
set_option maxHeartbeats 4000000 in
set_option maxRecDepth 100000 in
theorem r19_Small_ok (H : PH) (v : Value) (c : CodeD) (w : World) (hw : Sees w H) (hc : CodeV H v c) (hf : fineB c = true) :
    Calls Tryz.prog 35 #[v] w fun e w' => SmRes H w w' c e ∧ Below w.heap.size w w' := by
  have hV := Lib.hid (fun (w1 : World) (hs : Sees w1 H) => r19_valid H _ c w1 hs hc)
  have hO := Lib.hid (fun (w1 : World) (hs : Sees w1 H) => r19_Of H _ c w1 hs hc hf)
  have hv1 : validE c = 0 := by simp [validE, hf]
  have hE1 : checkedE c = if 400 < (theFlow c).blocks.length then 2 else 0 := by simp [checkedE, hf]
  have hle : (theFlow c).blocks.length ≤ 20000 := by
    have h1 := flow_len c
    have h2 := cnt_le (leadB c) c.instrs.length
    have h3 := (fine_bounds hf).i1
    omega
  unfold SmRes
  rw [hf]
  rw [hv1] at hV
  generalize checkedE c = CE at *
  obtain ⟨s0, s1, s2, s3, s4, s5, s6, rfl, hc⟩ := hc
  have hx0 := ga_new w (.cells #[s0, s1, s2, s3, s4, s5, s6] 30)
  have hB0 : Below w.heap.size w (w.alloc (.cells #[s0, s1, s2, s3, s4, s5, s6] 30)) := (Below.refl _ _).alloc (Nat.le_refl _) _
  clear hc hf hv1
  generalize theFlow c = f at *
  go_enter Tryz.func35, Tryz.ntmps35
  go_upto_region 1 with fail
  refine wp_name fun W2 hW2 => ?_
  have hx2 : W2.heap[w.heap.size]? = some (.cells #[s0, s1, s2, s3, s4, s5, s6] 30 (0, 0)) := by rw [hW2]; exact ga_old hx0
  have hr2 : W2.heap[w.heap.size + 1]? = some (.cells zeroG 65 (0, 0)) := by rw [hW2]; exact blk1 _ _ _
  have hB2 : Below w.heap.size w W2 := by rw [hW2]; exact hB0.alloc hB0.size _
  have hz2 : W2.heap.size = w.heap.size + 2 := by rw [hW2]; simp
  clear hW2 hx0 hB0
  have q := box7 hx2
  have l0 := (Array.getElem?_eq_some_iff.1 hx2).1
  go_upto_region 5 with (first
    | (go_at_call 48; refine (hV.out _ (hw.below hB2)).mono ?_; rintro e w3 ⟨rfl, hB3⟩; have hr3 := blk_keep hB3 hr2; have hx3 := blk_keep hB3 hx2; have hBa := bstep hB2 hB3; clear q l0; have q := box7 hx3; have l0 := (Array.getElem?_eq_some_iff.1 hx3).1)
    | (go_at_call 49; refine (hO.out _ (hw.below hBa)).mono ?_; rintro e w4 ⟨⟨vg, rfl, t0, t1, t2, t3, t4, t5, t6, L, E, R, rfl, hone, hL, hE, hR⟩, hB4⟩; have hr4 := blk_keep hB4 hr3; have hs3 := hw.below hBa; replace hBa := bstep hBa hB4; obtain ⟨AL, cL, rfl, -, -⟩ := hL.open_; clear q l0)
    | (with_reducible refine wpL_storeG rfl _ _ rfl w4.heap.size t0 t1 t2 t3 t4 t5 t6 (.slice AL f.blocks.length cL) E R _ rfl rfl (ga_new w4 (.cells zeroG 65)) rfl hone ⟨rfl, hE.one, hR.one⟩ ?_; intro w5 hb5 hg5 hz5))
  rw [World.size_alloc] at hz5
  have hB45 : Below w4.heap.size w4 w5 := (((Below.refl _ _).alloc (Nat.le_refl _) _).grown hg5 (by simp) fun k hk => by injection hk with hk; omega)
  have hr5 := blk_keep hB45 hr4
  have q5 := box10 hb5
  have l5 := (Array.getElem?_eq_some_iff.1 hb5).1
  have hBb := bstep hBa hB45
  have hw3 : w.heap.size + 1 < w3.heap.size := (Array.getElem?_eq_some_iff.1 hr3).1
  have hover : ∀ w6, w5.grownBy w6 (some (w.heap.size + 1)) → PH.le (extH H w3 w4) (extH H w w6) := fun w6 hg => extH.over hw (by omega) fun i h1 h2 => (hg.block i (by have := hB45.size; omega) (fun e => by injection e with e; omega)).trans (hB45.block i h2)
  have hoverh := Lib.hid hover
  clear hover hB45 hz5 hg5 hs3 hr4 hx3 hx2 hr2 hB2 hB3 hB4 hr3 hO hV
  by_cases hl : 400 < f.blocks.length
  · rw [if_pos hl] at hE1
    have hl' : (400 : Int) < f.blocks.length := by omega
    clear hl
    go_wp2_with (with_reducible refine wpL_storeG rfl _ _ rfl (w.heap.size + 1) _ _ _ _ _ _ _ _ _ _ _ rfl rfl hr5 rfl hone ⟨rfl, hE.one, hR.one⟩ ?_; intro w6 hb6 hg6 hz6; have q6 := box10 hb6; have l6 := (Array.getElem?_eq_some_iff.1 hb6).1)
    have hle2 := hoverh.out w6 hg6
    refine bodyPost_ret (v := .tuple #[.agg #[t0, t1, t2, t3, t4, t5, t6, .slice AL f.blocks.length cL, E, R], .int .i64 2]) (by simp [results, Tryz.results35, go_sem, *]) rfl ?_
    exact ⟨⟨_, _, _, _, _, _, _, _, _, _, (by first | (rw [hE1]; done) | rfl), hone, ⟨by rfl, hE.one, hR.one⟩, (by first | exact fun _ => ⟨hL.mono hle2, hE.mono hle2, hR.mono hle2⟩ | exact ⟨hL.mono hle2, hE.mono hle2, hR.mono hle2⟩)⟩, hBb.grown hg6 hBb.size fun k hk => by injection hk with hk; omega⟩
  · rw [if_neg hl] at hE1
    have hl' : ¬ (400 : Int) < f.blocks.length := by omega
    clear hl
    go_wp2_with (with_reducible refine wpL_storeG rfl _ _ rfl (w.heap.size + 1) _ _ _ _ _ _ _ _ _ _ _ rfl rfl hr5 rfl hone ⟨rfl, hE.one, hR.one⟩ ?_; intro w6 hb6 hg6 hz6; have q6 := box10 hb6; have l6 := (Array.getElem?_eq_some_iff.1 hb6).1)
    have hle2 := hoverh.out w6 hg6
    refine bodyPost_ret (v := .tuple #[.agg #[t0, t1, t2, t3, t4, t5, t6, .slice AL f.blocks.length cL, E, R], .int .i64 0]) (by simp [results, Tryz.results35, go_sem, *]) rfl ?_
    exact ⟨⟨_, _, _, _, _, _, _, _, _, _, (by first | (rw [hE1]; done) | rfl), hone, ⟨by rfl, hE.one, hR.one⟩, (by first | exact fun _ => ⟨hL.mono hle2, hE.mono hle2, hR.mono hle2⟩ | exact ⟨hL.mono hle2, hE.mono hle2, hR.mono hle2⟩)⟩, hBb.grown hg6 hBb.size fun k hk => by injection hk with hk; omega⟩
theorem r19_Small (H : PH) (v : Value) (c : CodeD) (w : World) (hw : Sees w H) (hc : CodeV H v c) :
    Calls Tryz.prog 35 #[v] w fun e w' => SmRes H w w' c e ∧ Below w.heap.size w w' := by
  cases hf : fineB c
  · exact r19_Small_no H v c w hw hc hf
  · exact r19_Small_ok H v c w hw hc hf
end Go.Proofs.YtififjlgjmgikaaGreat
