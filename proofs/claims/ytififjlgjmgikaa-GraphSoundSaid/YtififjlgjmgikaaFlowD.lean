/- What graph.flowOf makes, read as a flow (no program). The flow of a code is one (no program). -/
import Derived.Test.YtififjlgjmgikaaFlowI
import Derived.Test.YtififjlgjmgikaaDom
namespace Go.Proofs.Ytififjlgjmgikaa
set_option linter.all false
open Go.RowKit

def blocksF (c : CodeD) (bs : List Bool) : List BlockD := (List.range (cnt bs c.instrs.length)).map fun i => ⟨((rowsK bs c.instrs.length).getD i (0, 0)).1, ((rowsK bs c.instrs.length).getD i (0, 0)).2, nxF c bs i⟩
/-- The flow of a code. -/
def IsFlow (c : CodeD) (f : FlowD) : Prop :=
  ∃ bs, Marks bs c.instrs.length (IsLeader c) ∧ f.blocks = blocksF c bs ∧ f.of_ = ofK bs c.instrs.length ∧ f.ahead = aheadIJ (nxF c bs) (cnt bs c.instrs.length) 0 ∧
    Marks f.entry (cnt bs c.instrs.length) (fun i => ∃ p ∈ entriesL c, ofI bs p = (i : Int)) ∧ Marks f.reached (cnt bs c.instrs.length) (fun i => ReachC c ((rowsK bs c.instrs.length).getD i (0, 0)).1)
def FlowRes (H : PH) (w : World) (c : CodeD) (w' : World) (e : Ending) : Prop := ∃ v f, e = .returned v ∧ FlowV (extH H w w') v f ∧ IsFlow c f
variable {nx : Nat → List Int} {rs : List Bool} {w wr : World} {H K0 K : PH} {B g gr P M m cap : Nat} {rows : List (Int × Int)} {vnx : Nat → Value} {l : IntMap} {bsR : List Bool}
theorem FlowI.leE (h : FlowI nx rs w K0 B g gr P rows M 0 0 m wr vnx l K bsR) (hl : ∀ b, b < w.heap.size → K0 b = H b) : PH.le K (extH H w wr) := by
  intro b o e
  unfold extH
  split
  · rename_i hb; rw [← hl b hb, ← h.low b hb]; exact e
  · exact h.sees b o e
theorem extH.at_ {i : Nat} (h : w.heap.size ≤ i) : extH H w wr i = wr.heap[i]? := by unfold extH; rw [if_neg (by omega)]
theorem FlowI.blocksV (h : FlowI nx rs w K0 B g gr P rows M 0 0 m wr vnx l K bsR) (hM : rows.length = M) (hl : ∀ b, b < w.heap.size → K0 b = H b) (hr : ∀ r ∈ rows, I64 r.1 ∧ I64 r.2) (hc : M ≤ cap) (hn : M ≤ maxN) :
    SlV rBlock (extH H w wr) (.slice (some ⟨g, 0, none⟩) M cap) ((List.range M).map fun i => ⟨(rows.getD i (0, 0)).1, (rows.getD i (0, 0)).2, nx i⟩) := by
  have hle := h.leE hl
  refine ⟨some ⟨g, 0, none⟩, cap, by simp, by simpa using hc, by simpa using hn, fun i x hi => ?_⟩
  obtain ⟨hil, hx⟩ := List.getElem?_eq_some_iff.1 hi
  simp at hil
  rw [List.getElem?_map, List.getElem?_range hil] at hi
  simp only [Option.map_some, Option.some.injEq] at hi
  have hri : rows[i]? = some (rows.getD i (0, 0)) := by rw [List.getD_eq_getElem?_getD, List.getElem?_eq_getElem (by omega)]; rfl
  obtain ⟨arr, h1, h2⟩ := h.blk
  obtain ⟨a, b, d⟩ := h2 i _ hri
  have h64 := hr _ (List.mem_of_getElem? hri)
  refine ⟨g, 0, [.int .i64 (rows.getD i (0, 0)).1, .int .i64 (rows.getD i (0, 0)).2, vnx i], rfl, ⟨rfl, arr, _, _, (extH.at_ h.old.1).trans h1, fun j u hj => ?_⟩, ?_⟩
  · have hjl := (List.getElem?_eq_some_iff.1 hj).1
    simp at hjl
    show arr[0 + i * 3 + j]? = _
    rw [Nat.zero_add]
    obtain rfl | rfl | rfl : j = 0 ∨ j = 1 ∨ j = 2 := by omega
    · cases hj; exact a
    · cases hj; exact b
    · cases hj; exact d
  · subst hi
    exact ⟨vnx i, rfl, h64.1, h64.2, (h.done i hil).mono hle⟩
theorem FlowI.reachedV (h : FlowI nx rs w K0 B g gr P rows M 0 0 m wr vnx l K bsR) (hM : rows.length = M) (hn : M ≤ maxN) : SlV rBool (extH H w wr) (.slice (some ⟨gr, 0, none⟩) M M) bsR :=
  bools_read ((extH.at_ h.old.2.1).trans h.arr) (by rw [h.marks.len, hM]) hn
theorem FlowI.aheadV (h : FlowI nx rs w K0 B g gr P rows M 0 0 m wr vnx l K bsR) (hn : ∀ y, (aheadIJ nx M 0 y).length ≤ maxN) (hM : M ≤ 20000) : AheadV (extH H w wr) P M (aheadIJ nx M 0) := by
  refine ⟨l, fun w' hw' => h.map.of_block ?_, fun y _ => (h.ah y).readK (fun k hk => extH.at_ (by have := ((h.ah y).lt hk).1; have := h.oldB; omega)) (fun x hx => ?_) (hn y)⟩
  · have h1 := h.map.lt
    have h2 := extH.at_ (H := H) (wr := wr) h.old.2.2
    rw [Array.getElem?_eq_getElem h1] at h2 ⊢
    exact hw' _ _ h2
  · unfold aheadIJ at hx
    simp only [List.take_zero, List.filter_nil, List.map_nil, List.append_nil, List.mem_flatMap, List.mem_range, List.mem_map] at hx
    obtain ⟨k, hk, z, _, rfl⟩ := hx
    unfold I64
    omega
end Go.Proofs.Ytififjlgjmgikaa
namespace Go.Proofs.Ytififjlgjmgikaa
set_option linter.all false
open Go.RowKit

noncomputable def dcd (p : Prop) : Bool := @decide p (Classical.propDecidable p)
theorem dcd_iff {p : Prop} : dcd p = true ↔ p := @decide_eq_true_iff p (Classical.propDecidable p)
noncomputable def leadB (c : CodeD) : List Bool := (List.range c.instrs.length).map fun p => dcd (IsLeader c p)
noncomputable def theFlow (c : CodeD) : FlowD where
  blocks := blocksF c (leadB c)
  of_ := ofK (leadB c) c.instrs.length
  ahead := aheadIJ (nxF c (leadB c)) (cnt (leadB c) c.instrs.length) 0
  entry := (List.range (cnt (leadB c) c.instrs.length)).map fun (i : Nat) => dcd (∃ p ∈ entriesL c, ofI (leadB c) p = (i : Int))
  reached := (List.range (cnt (leadB c) c.instrs.length)).map fun (i : Nat) => dcd (ReachC c ((rowsK (leadB c) c.instrs.length).getD i (0, 0)).1)
theorem marks_map {n : Nat} (p : Nat → Prop) : Marks ((List.range n).map fun i => dcd (p i)) n p := by
  refine ⟨by simp, fun j hj => ?_⟩
  rw [List.getD_eq_getElem?_getD, List.getElem?_map, List.getElem?_range hj]
  exact dcd_iff
theorem Marks.eq {a b : List Bool} {n : Nat} {p : Nat → Prop} (h : Marks a n p) (k : Marks b n p) : a = b := by
  apply List.ext_getElem?
  intro j
  by_cases hj : j < n
  · have h1 := h.iff_ j hj
    have h2 := k.iff_ j hj
    have h3 : j < a.length := by rw [h.len]; exact hj
    have h4 : j < b.length := by rw [k.len]; exact hj
    rw [List.getD_eq_getElem?_getD, List.getElem?_eq_getElem h3, Option.getD_some] at h1
    rw [List.getD_eq_getElem?_getD, List.getElem?_eq_getElem h4, Option.getD_some] at h2
    rw [List.getElem?_eq_getElem h3, List.getElem?_eq_getElem h4, Bool.eq_iff_iff.2 (h1.trans h2.symm)]
  · rw [List.getElem?_eq_none (by rw [h.len]; omega), List.getElem?_eq_none (by rw [k.len]; omega)]
theorem lead_marks (c : CodeD) : Marks (leadB c) c.instrs.length (IsLeader c) := marks_map _
theorem theFlow_is (c : CodeD) : IsFlow c (theFlow c) := ⟨leadB c, lead_marks c, rfl, rfl, rfl, marks_map _, marks_map _⟩
theorem IsFlow.eq {c : CodeD} {f : FlowD} (h : IsFlow c f) : f = theFlow c := by
  obtain ⟨bs, h1, h2, h3, h4, h5, h6⟩ := h
  obtain ⟨bs', k1, k2, k3, k4, k5, k6⟩ := theFlow_is c
  obtain rfl := h1.eq k1
  cases f
  generalize theFlow c = g at *
  cases g
  simp only at h2 h3 h4 h5 h6 k2 k3 k4 k5 k6
  subst h2; subst h3; subst h4; subst k2; subst k3; subst k4
  obtain rfl := h5.eq k5
  obtain rfl := h6.eq k6
  rfl
end Go.Proofs.Ytififjlgjmgikaa
