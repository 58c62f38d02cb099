/- Slices that the walk owns whose elements lead on to what is no longer written. graph.nexts. -/
import Derived.Test.YtififjlgjmgikaaGreatReached
namespace Go.Proofs.YtififjlgjmgikaaGreat
set_option linter.all false
open Go.RowKit

/-- H, and what is new in wr but for v's own row. -/
def extX (H : PH) (w wr : World) (v : Value) : PH := fun i => if i < w.heap.size then H i else if v.ownBlock = some i then none else wr.heap[i]?
theorem extX.le_extH (H : PH) (w wr : World) (v : Value) : PH.le (extX H w wr v) (extH H w wr) := by
  intro i o e
  unfold extX at e
  unfold extH
  split at e
  · rename_i h; rw [if_pos h]; exact e
  · rename_i h
    split at e
    · cases e
    · rw [if_neg h]; exact e
/-- A step that writes v's own row alone; the row may move. -/
theorem extX.grown {H : PH} {w wr w1 : World} {v v' : Value} (hg : wr.grownBy w1 v.ownBlock) (hv : v'.ownBlock = v.ownBlock ∨ v'.ownBlock = some wr.heap.size) : PH.le (extX H w wr v) (extX H w w1 v') := by
  intro i o e
  unfold extX at e ⊢
  split at e
  · rename_i h; rw [if_pos h]; exact e
  · rename_i h
    split at e
    · cases e
    · rename_i h2
      have hi : i < wr.heap.size := (Array.getElem?_eq_some_iff.1 e).1
      rw [if_neg h, if_neg, hg.block i hi (fun k => h2 k.symm)]
      · exact e
      · rcases hv with hv | hv
        · rw [hv]; exact h2
        · rw [hv]; intro k; injection k with k; omega
theorem extX.below {H : PH} {w wr w1 : World} {v : Value} (hb : Below wr.heap.size wr w1) : PH.le (extX H w wr v) (extX H w w1 v) := by
  intro i o e
  unfold extX at e ⊢
  split at e
  · rename_i h; rw [if_pos h]; exact e
  · rename_i h
    split at e
    · cases e
    · rename_i h2
      have hi : i < wr.heap.size := (Array.getElem?_eq_some_iff.1 e).1
      rw [if_neg h, if_neg h2, hb.block i hi]
      exact e
def OwnL {α : Type} (r : Rp α) (T : TypeId) (H : PH) (w wr : World) (v : Value) (xs : List α) : Prop :=
  ∃ cells, wr.ownsRow w.heap.size T r.sz v xs.length cells ∧ ∀ i x, xs[i]? = some x → r.R (extX H w wr v) ((cells.drop (i * r.sz)).take r.sz) x
theorem OwnL.nil {α : Type} (r : Rp α) (T : TypeId) (H : PH) (w wr : World) : OwnL r T H w wr (.slice none 0 0) [] := ⟨[], ⟨by simp, .inl ⟨rfl, rfl⟩⟩, fun i x h => by simp at h⟩
theorem OwnL.lt {α : Type} {r : Rp α} {T : TypeId} {H : PH} {w wr : World} {v : Value} {xs : List α} (h : OwnL r T H w wr v xs) {k : Nat} (hk : v.ownBlock = some k) : w.heap.size ≤ k ∧ k < wr.heap.size := by
  obtain ⟨cells, h, _⟩ := h
  rcases h.2 with ⟨rfl, _⟩ | ⟨g, cap, cur, rfl, h2, h3, _⟩
  · cases hk
  · cases hk; exact ⟨h2, (Array.getElem?_eq_some_iff.1 h3).1⟩
theorem OwnL.below {α : Type} {r : Rp α} {T : TypeId} {H : PH} {w wr w1 : World} {v : Value} {xs : List α} (h : OwnL r T H w wr v xs) (hb : Below wr.heap.size wr w1) : OwnL r T H w w1 v xs := by
  have hlt := fun k hk => (h.lt (k := k) hk).2
  obtain ⟨cells, ⟨h0, h1⟩, h2⟩ := h
  refine ⟨cells, ⟨h0, ?_⟩, fun i x hi => r.mono (extX.below hb) (h2 i x hi)⟩
  rcases h1 with h1 | ⟨g, cap, cur, rfl, h3, h4, h5⟩
  · exact .inl h1
  · exact .inr ⟨g, cap, cur, rfl, h3, (hb.block g (hlt g rfl)).trans h4, h5⟩
/-- What is owned can be read. -/
theorem OwnL.read {α : Type} {r : Rp α} {T : TypeId} {H : PH} {w wr : World} {v : Value} {xs : List α} (h : OwnL r T H w wr v xs) (hn : xs.length ≤ maxN) : SlV r (extH H w wr) v xs := by
  obtain ⟨cells, h, hR⟩ := h
  rcases h.2 with ⟨rfl, e⟩ | ⟨g, cap, cur, rfl, h2, h3, h4, h5, h6, h7⟩
  · have : xs = [] := List.eq_nil_of_length_eq_zero e
    subst this
    exact SlV.nil _ _
  · refine ⟨_, cap, rfl, h4, hn, fun i x hi => ⟨g, 0, (cells.drop (i * r.sz)).take r.sz, rfl, ⟨rfl, cur, _, _, extH.new h2 h3, ?_⟩, r.mono (extX.le_extH _ _ _ _) (hR i x hi)⟩⟩
    intro j u hj
    have hil := (List.getElem?_eq_some_iff.1 hi).1
    have hjl : j < r.sz := by
      have := (List.getElem?_eq_some_iff.1 hj).1
      rw [List.length_take] at this
      omega
    rw [List.getElem?_take, if_pos hjl, List.getElem?_drop, ← h7, List.getElem?_take] at hj
    have hb : i * r.sz + j < xs.length * r.sz := by
      have h1 : (i + 1) * r.sz ≤ xs.length * r.sz := Nat.mul_le_mul_right _ (by omega)
      rw [Nat.add_mul, Nat.one_mul] at h1
      omega
    rw [if_pos hb, Array.getElem?_toList] at hj
    simpa using hj
theorem wpL_appL {α : Type} (r : Rp α) (S T : TypeId) (z : Value) (bytes : Nat) (hS : Tryz.prog.underlying S = some (.slice T)) (hinfo : (Tryz.prog.info? T).map (fun i => (i.zero, i.size, i.bytes)) = some (some z, r.sz, bytes))
    (hz : z.cells.size = r.sz) (hsz : 0 < r.sz) (hby : bytes ≤ 64)
    {ops : Array Oper} {rest : List Oper} {o : Oper} {a : Act} {Q : Exit → Act → World → Prop} {H : PH} {w wr : World} (hgd : o.guard = none) (s x : Operand)
    (ho : o.op = .call { callee := .builtin .append, args := #[s, x], argTypes := #[S, S] }) (v : Value) (xs : List α) (hs : a.eval s = v) (hown : OwnL r T H w wr v xs)
    (n : Nat) (c : Nat) (cs : List Value) (hx : a.eval x = .slice (some ⟨n, 0, none⟩) 1 c) (hcs : ∀ j u, cs[j]? = some u → wr.cell? ⟨n, j, none⟩ = some u) (hone : ∀ u ∈ cs, u.oneCell' = true)
    (y : α) (hy : r.R (extX H w wr v) cs y) (hn : xs.length + 1 ≤ 1099511627776) (hbase : w.heap.size ≤ wr.heap.size)
    (h : ∀ v' w', OwnL r T H w w' v' (xs ++ [y]) → wr.grownBy w' v.ownBlock → (v'.ownBlock = v.ownBlock ∨ v'.ownBlock = some wr.heap.size) → wpList Tryz.prog ops Q rest (a.put o.dst v') w') :
    wpList Tryz.prog ops Q (o :: rest) a wr := by
  obtain ⟨i0, hi, hz0, hz1, hz2⟩ := info_parts hinfo
  obtain ⟨cells, hrow, hR⟩ := hown
  have hlen := r.len hy
  refine wpList_append_own_at wr hgd s x S ho w.heap.size T i0 z r.sz bytes hS hi hz0 hz1 hz2 hz hsz v xs.length cells hs hrow ⟨n, 0, none⟩ 1 c cs hx (by rw [hlen, Nat.one_mul]) ?_ hone (by unfold maxLen; omega) ?_ hbase ?_
  · intro j u hj
    rw [Addr.add_lit, Nat.zero_add]
    exact hcs j u hj
  · exact Nat.le_trans (Nat.mul_le_mul hn hby) (by omega)
  · intro v' w' h1 h2 _ h4
    refine h v' w' ⟨cells ++ cs, by rw [List.length_append]; exact h1, fun i x hi => ?_⟩ h2 h4
    have hm := extX.grown (H := H) (w := w) h2 h4
    have hcl := hrow.1
    by_cases e : i < xs.length
    · rw [List.getElem?_append_left e] at hi
      have := r.mono hm (hR i x hi)
      have hb : (i + 1) * r.sz ≤ xs.length * r.sz := Nat.mul_le_mul_right _ (by omega)
      rw [Nat.add_mul, Nat.one_mul] at hb
      rw [List.drop_append_of_le_length (by omega), List.take_append_of_le_length (by rw [List.length_drop]; omega)]
      exact this
    · have hi2 := (List.getElem?_eq_some_iff.1 hi).1
      simp at hi2
      obtain rfl : i = xs.length := by omega
      simp at hi
      subst hi
      rw [← hcl, List.drop_left, ← hlen, List.take_length]
      exact r.mono hm hy
end Go.Proofs.YtififjlgjmgikaaGreat
namespace Go.Proofs.YtififjlgjmgikaaGreat
set_option linter.all false
open Go.RowKit

theorem OwnI.readK {w : World} {K : PH} {base : Nat} {v : Value} {xs : List Int} (h : OwnI w base v xs) (hK : ∀ k, v.ownBlock = some k → K k = w.heap[k]?) (hx : ∀ x ∈ xs, I64 x) (hn : xs.length ≤ maxN) : SlV rInt K v xs := by
  rcases h.2 with ⟨rfl, e⟩ | ⟨g, cap, cur, rfl, h2, h3, h4, h5, h6, h7⟩
  · have : xs = [] := List.eq_nil_of_length_eq_zero e
    subst this
    exact SlV.nil _ _
  · refine ⟨_, cap, rfl, h4, hn, fun i x hi => ⟨g, 0, [.int .i64 x], rfl, ⟨rfl, cur, _, _, (hK g rfl).trans h3, ?_⟩, rfl, hx x (List.mem_of_getElem? hi)⟩⟩
    intro j u hj
    have hj0 : j = 0 := by
      have := (List.getElem?_eq_some_iff.1 hj).1
      simp at this
      exact this
    subst hj0
    cases hj
    have hil := (List.getElem?_eq_some_iff.1 hi).1
    have e : (cur.toList.take (xs.length * 1))[i]? = some (Value.int .i64 x) := by rw [h7]; simp [ints, hi]
    rw [List.getElem?_take, if_pos (by omega)] at e
    simpa [rInt] using e
theorem extH.lower {H : PH} {w w0 wr : World} (hw : Sees w H) (_hs : w.heap.size ≤ w0.heap.size) : PH.le (extH H w0 wr) (extH H w wr) := by
  intro i o e
  unfold extH at e ⊢
  split at e
  · have := hw.lt e
    rw [if_pos this]
    exact e
  · rw [if_neg (by omega)]
    exact e
theorem extX_at {H : PH} {w wr : World} {v : Value} {k : Nat} (hk : w.heap.size ≤ k) (hv : v.ownBlock ≠ some k) : extX H w wr v k = wr.heap[k]? := by
  unfold extX
  rw [if_neg (by omega), if_neg hv]
def nextsL (c : CodeD) : List (List Int) := (List.range c.instrs.length).map (nextL c)
theorem infoSl : (Tryz.prog.info? 28).map (fun i => (i.zero, i.size, i.bytes)) = some (some (.slice none 0 0), 1, 24) := by kernel_rfl
theorem i64_place {c : CodeD} (hn : c.instrs.length ≤ 20000) {y : Int} (h : 0 ≤ y ∧ y < c.instrs.length) : I64 y := by unfold I64; omega

/-- A slice of ints just made, read beside an owned row. -/
theorem row_read {H : PH} {w0 wr w1 : World} {vo u : Value} {xs : List Int} {α : Type} {r : Rp α} {T T' : TypeId} {ys : List α} (h : OwnI w1 wr.heap.size u xs) (ho : OwnL r T H w0 w1 vo ys) (hlt : ∀ k, vo.ownBlock = some k → k < wr.heap.size) (hs : w0.heap.size ≤ wr.heap.size)
    (hx : ∀ x ∈ xs, I64 x) (hn : xs.length ≤ maxN) : (rSl rInt).R (extX H w0 (w1.alloc (.cells #[u] T')) vo) [u] xs := by
  refine ⟨u, rfl, (h.al (.cells #[u] T')).readK (fun k hk => ?_) hx hn⟩
  have h1 := h.lt hk
  exact extX_at (by omega) fun e => by have := hlt k e; omega

set_option maxHeartbeats 2000000 in
set_option maxRecDepth 100000 in
theorem graph_nexts (H : PH) (v : Value) (c : CodeD) (w : World) (hw : Sees w H) (hc : CodeV H v c) (hf : fineB c = true) :
    Calls Tryz.prog 61 #[v] w fun e w' => (∃ v', e = .returned v' ∧ SlV (rSl rInt) (extH H w w') v' (nextsL c)) ∧ Below w.heap.size w w' := by
  have hfb := fine_bounds hf
  have n0 := hfb.i1
  have hc0 := hc
  obtain ⟨s0, s1, s2, s3, s4, s5, s6, rfl, hc⟩ := hc
  obtain ⟨A0, c0, rfl, k0, -⟩ := hc.instrs.open_
  have hN := Lib.hid (fun (w1 : World) (hs : Sees w1 H) (p : Nat) (hp : p < c.instrs.length) => code_Next H _ c w1 hs hc0 hf p hp)
  have hfh := Lib.hid hf; clear hf
  go_enter Tryz.func61, Tryz.ntmps61
  go_wp2
  refine wp_name fun w0 hw0 => ?_
  have hbx : w0.heap[w.heap.size]? = some (.cells #[.slice A0 c.instrs.length c0, s1, s2, s3, s4, s5, s6] 30 (0, 0)) := by rw [hw0]; exact ga_new _ _
  have hB0 : Below w.heap.size w w0 := by rw [hw0]; exact (Below.refl _ _).alloc (Nat.le_refl _) _
  have hz : w.heap.size < w0.heap.size := by rw [hw0]; simp
  have hs0 := hw.below hB0
  clear hw0
  go_loopw [3, 10] (fun o i wr => ∃ k : Nat, k ≤ c.instrs.length ∧ i = .int .i64 k ∧ OwnL (rSl rInt) 28 H w0 wr o ((List.range k).map (nextL c)) ∧ Below w0.heap.size w0 wr) (fun _ i _ => c.instrs.length - (intOf i).toNat)
  case atStart => exact ⟨0, Nat.zero_le _, rfl, OwnL.nil _ _ _ _ _, Below.refl _ _⟩
  case round =>
    obtain ⟨k, hk, rfl, hown, hB⟩ := hrel
    have hsz := hB.size
    have l0 : w.heap.size < wr.heap.size := by omega
    have hbr := blk_keep hB hbx
    have q := box7 hbr
    by_cases hlt : k < c.instrs.length
    · have hnx := hN.out wr (hs0.below hB) k hlt
      go_wp2_with (first
        | (go_at_call 102; refine hnx.mono ?_; rintro e w1 ⟨⟨v1, rfl, hown1⟩, hB1⟩; go_must (obtain ⟨A1, cap1, rfl, -⟩ := hown1.len_form; clear q; have hRR : (rSl rInt).R (extX H w0 (w1.alloc (.cells #[.slice A1 (nextL c k).length cap1] 28)) u3) [.slice A1 (nextL c k).length cap1] (nextL c k) := row_read hown1 (hown.below hB1) (fun j hj => (hown.lt hj).2) (by omega) (fun y hy => i64_place n0 (next_in hfh.out hlt y hy)) (by have := next_len c k; unfold maxN; omega)))
        | (at_builtin; refine wpL_appL (rSl rInt) 25 28 (.slice none 0 0) 24 Tryz.underlying25 infoSl rfl (by decide) (by decide) rfl _ _ rfl _ _ rfl ((hown.below hB1).below ((Below.refl _ _).alloc (Nat.le_refl _) _)) w1.heap.size 1 [.slice A1 (nextL c k).length cap1] rfl ?hcell ?hone (nextL c k) ?hR ?hlen ?hbase ?_; (case hcell => exact fun j u hj => by (have hj1 := (List.getElem?_eq_some_iff.1 hj).1; obtain rfl : j = 0 := (by simpa using hj1); cases hj; exact cell_one_new' _ _ _)); (case hone => exact fun u hu => by (simp at hu; subst hu; rfl)); (case hR => exact hRR); (case hlen => simp; omega); (case hbase => have := hB1.size; simp; omega); intro v2 w2 hown2 hg2 _))
      go_roundw
      case rel =>
        refine ⟨k + 1, by omega, by go_num, by rw [List.range_succ, List.map_append]; exact hown2, ?_⟩
        exact ((bstep hB hB1).alloc (by have := hB1.size; omega) _).grown hg2 (by have := hB1.size; simp; omega) fun j hj => (hown.lt hj).1
      case measure => simp [intOf]; omega
    · obtain rfl : k = c.instrs.length := by omega
      have hlt' : ¬ (c.instrs.length : Int) < c.instrs.length := by omega
      clear q
      go_wp2
      go_ret
      exact ⟨⟨_, rfl, (hown.read (by simp [maxN]; omega)).mono (extH.lower hw (by omega))⟩, bstep hB0 hB⟩
end Go.Proofs.YtififjlgjmgikaaGreat
