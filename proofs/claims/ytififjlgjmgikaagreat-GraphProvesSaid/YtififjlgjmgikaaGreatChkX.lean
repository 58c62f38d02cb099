/- graph.Check: the paths of a proof. graph.Check: one proof. graph.Check. -/
import Derived.Test.YtififjlgjmgikaaGreatKnotA
import Derived.Test.YtififjlgjmgikaaGreatProofA
namespace Go.Proofs.YtififjlgjmgikaaGreat
set_option linter.all false
open Go.RowKit Go.Shelf

theorem hp_cell {w w' : World} (h : w'.heap = w.heap) (a : Addr) : w'.cell? a = w.cell? a := by
  simp only [World.cell?, h]
theorem hp_lt {w w' : World} {b : Nat} (h : w'.heap = w.heap) (hb : b < w.heap.size) : b < w'.heap.size := by rw [h]; exact hb
theorem hp_drew {w w1 : World} (h : Below w.heap.size w w1) : Below w.heap.size w w1.drew := ⟨h.os, h.tape, h.output, h.size, h.block⟩
theorem hp_sees {w : World} {H : PH} (h : Sees w H) : Sees w.drew H := fun i o e => h i o e
theorem SlV.tail_ {H : PH} {b off n cap : Nat} {xs : List Int} (h : SlV rInt H (.slice (some ⟨b, off, none⟩) n cap) xs) (hne : 0 < xs.length) : SlV rInt H (.slice (some ⟨b, off + 1, none⟩) (n - 1) (cap - 1)) xs.tail := by
  obtain ⟨A, cap', e, h1, h2, h3⟩ := h
  cases e
  refine ⟨_, _, by rw [List.length_tail], by rw [List.length_tail]; omega, by rw [List.length_tail]; omega, fun i x hi => ?_⟩
  rw [List.getElem?_tail] at hi
  obtain ⟨b', off', cs, e1, e2, e3⟩ := h3 (i + 1) x hi
  cases e1
  exact ⟨_, _, cs, rfl, by rw [show off + 1 + i * rInt.sz = off + (i + 1) * rInt.sz by simp [rInt]; omega]; exact e2, e3⟩
theorem slice_tail (b off n : Nat) (h : 0 < n) (cap : Nat) (w : World) : (Instr.slice 28 (.slice (some ⟨b, off, none⟩) n cap) (some (.int .i64 1)) none none).run Tryz.prog w = .ok (.slice (if cap = 1 then some ⟨b, off, none⟩ else some ⟨b, off + 1, none⟩) (n - 1) (cap - 1)) w := by
  rw [run_slice_l (P := Tryz.prog) w 28 (some ⟨b, off, none⟩) n cap (by kernel_rfl) .i64 1 (by omega) (by omega)]
  rw [show (sizeOf (Tryz.prog.elem 28)).run Tryz.prog w = .ok 1 w from by kernel_rfl]
  simp only [Result.andThen, sliced]
  by_cases h1 : cap = 1
  · simp [h1]
  · simp [h1, Addr.add]
/-- A proof, as it reads. -/
def DomV (H : PH) (v : Value) (d : DominD) : Prop := ∃ u1 u2, v = .agg #[.int .i64 d.block, .int .i64 d.idom, u1, u2] ∧ SlV rInt H u1 d.one ∧ SlV rInt H u2 d.two
theorem DomV.mono {H H' : PH} {v : Value} {d : DominD} (h : PH.le H H') (k : DomV H v d) : DomV H' v d := by
  obtain ⟨u1, u2, e, h1, h2⟩ := k
  exact ⟨u1, u2, e, h1.mono h, h2.mono h⟩
noncomputable def leadsB (f : FlowD) (d : DominD) (p : List Int) : Bool := dcd (LeadsP f d p)
/-- The map of immediate dominators. -/
def DomMap (H : PH) (m : Nat) (l : List DominD) : Prop := ∃ ml : IntMap, (∀ w, Sees w H → MapL encI w m ml) ∧ ∀ y, mget ml y = (l.find? fun d => decide (d.block = y)).map fun d => .int .i64 d.idom
noncomputable def metB (l : List DominD) (v b : Int) : Bool := dcd (metP l v b)
theorem itI_snoc (l : List DominD) (k : Nat) (x : Int) : itI l (k + 1) x = stepI l (itI l k x) := by rw [itI_add]; rfl
end Go.Proofs.YtififjlgjmgikaaGreat
namespace Go.Proofs.YtififjlgjmgikaaGreat
set_option linter.all false
open Go.RowKit Go.Shelf

/-- A proof in its box. -/
def BoxD (H : PH) (b : Nat) (d : DominD) : Prop := ∃ u1 u2, H b = some (.cells #[.int .i64 d.block, .int .i64 d.idom, u1, u2] 106 (0, 0)) ∧ SlV rInt H u1 d.one ∧ SlV rInt H u2 d.two
theorem boxD4 {w : World} {b : Nat} {s0 s1 s2 s3 : Value} {T : TypeId} (h : w.heap[b]? = some (.cells #[s0, s1, s2, s3] T (0, 0))) :
    w.cell? ⟨b, 0, none⟩ = some s0 ∧ w.cell? ⟨b, 1, none⟩ = some s1 ∧ w.cell? ⟨b, 2, none⟩ = some s2 ∧ w.cell? ⟨b, 3, none⟩ = some s3 ∧ b < w.heap.size := by
  have q0 := cell_blk h 0
  have q1 := cell_blk h 1
  have q2 := cell_blk h 2
  have q3 := cell_blk h 3
  simp only [List.getElem?_toArray, List.getElem?_cons_zero, List.getElem?_cons_succ] at q0 q1 q2 q3
  exact ⟨q0, q1, q2, q3, (Array.getElem?_eq_some_iff.1 h).1⟩
def apartB (d : DominD) (x : Int) : Bool := x != d.block && (x != d.idom && d.two.contains x)
noncomputable def provesB (f : FlowD) (d : DominD) : Bool := dcd (ProvesP f d)
end Go.Proofs.YtififjlgjmgikaaGreat
namespace Go.Proofs.YtififjlgjmgikaaGreat
set_option linter.all false
open Go.RowKit Go.Shelf
attribute [local go_sem] Oper.semAt_some

noncomputable def chkE (c : CodeD) (l : List DominD) : Int := if checkedE c = 0 then (if dcd (PrfP (theFlow c) l) = true then 0 else 8) else checkedE c
def wantK (f : FlowD) (k : Nat) : List Int := ((List.range k).filter fun b => f.reached.getD b false).map fun (b : Nat) => (b : Int)
theorem wantK_succ (f : FlowD) (k : Nat) : wantK f (k + 1) = wantK f k ++ if f.reached.getD k false = true then [(k : Int)] else [] := by
  unfold wantK
  rw [List.range_succ, List.filter_append, List.map_append]
  congr 1
  by_cases h : f.reached.getD k false = true
  · rw [if_pos h, List.filter_cons, if_pos h]; rfl
  · rw [if_neg h, List.filter_cons, if_neg h]; rfl
theorem wantK_len (f : FlowD) (k : Nat) : (wantK f k).length ≤ k := by
  unfold wantK
  rw [List.length_map]
  refine Nat.le_trans (List.length_filter_le _ _) (by simp)
/-- A way that comes to an end is short. -/
theorem ends_len {l : List DominD} {x : Int} (hcl : ∀ y ∈ l.map (·.block), stepI l y = -1 ∨ stepI l y ∈ l.map (·.block)) (hx : x ∈ l.map (·.block)) (hend : metP l x (-1)) {j : Nat} (hj : itI l j x ≠ -1) : j < l.length := by
  have hne : ∀ i, i ≤ j → itI l i x ≠ -1 := fun i hi e => hj (by rw [show j = i + (j - i) by omega, itI_add, e, itI_no])
  have hin : ∀ i, i ≤ j → itI l i x ∈ l.map (·.block) := by
    intro i
    induction i with
    | zero => intro _; exact hx
    | succ i ih =>
      intro hi
      rcases hcl _ (ih (by omega)) with h | h
      · exact absurd (by rw [itI_snoc]; exact h) (hne (i + 1) hi)
      · rw [itI_snoc]; exact h
  have hinj : ∀ a b, a < b → b ≤ j → itI l a x ≠ itI l b x := by
    intro a b hab hb e
    have hper : ∀ t, itI l (a + t * (b - a)) x = itI l a x := by
      intro t
      induction t with
      | zero => simp
      | succ t ih =>
        rw [show a + (t + 1) * (b - a) = (a + t * (b - a)) + (b - a) by rw [Nat.succ_mul]; omega, itI_add, ih, ← itI_add, show a + (b - a) = b by omega, ← e]
    obtain ⟨N, hN⟩ := hend
    have h1 : itI l (a + N * (b - a)) x = -1 := by
      have hle : N ≤ a + N * (b - a) := by
        have : N * 1 ≤ N * (b - a) := Nat.mul_le_mul_left _ (by omega)
        omega
      rw [show a + N * (b - a) = N + (a + N * (b - a) - N) by omega, itI_add, hN, itI_no]
    rw [hper] at h1
    exact hne a (by omega) h1
  have hn : ((List.range (j + 1)).map fun i => itI l i x).Nodup := by
    unfold List.Nodup
    rw [List.pairwise_map]
    refine (List.pairwise_lt_range (n := j + 1)).imp_of_mem fun {a b} _ hb h => ?_
    have := List.mem_range.1 hb
    exact hinj a b h (by omega)
  have h2 := nodup_len hn (ys := l.map (·.block)) fun y hy => by
    obtain ⟨i, hi, rfl⟩ := List.mem_map.1 hy
    exact hin i (by have := List.mem_range.1 hi; omega)
  simp at h2
  omega
/-- What is known behind some proofs. -/
def PrfI (f : FlowD) (l : List DominD) (k : Nat) (ml : IntMap) : Prop := ml.length = k ∧ (∀ y, mget ml y = ((l.take k).find? fun d => decide (d.block = y)).map fun d => .int .i64 d.idom) ∧ (l.take k).map (·.block) = (wantL f).take k ∧ ∀ d ∈ l.take k, ProvesP f d
end Go.Proofs.YtififjlgjmgikaaGreat
