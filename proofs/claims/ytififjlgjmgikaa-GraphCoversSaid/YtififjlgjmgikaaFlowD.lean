/- What graph.flowOf makes, read as a flow (no program). -/
import Derived.Test.YtififjlgjmgikaaFlowI
import Derived.Test.YtififjlgjmgikaaDom
namespace Go.Proofs.Ytififjlgjmgikaa
set_option linter.all false
open Go.RowKit

def blocksF (c : CodeD) (bs : List Bool) : List BlockD := (List.range (cnt bs c.instrs.length)).map fun i => ⟨((rowsK bs c.instrs.length).getD i (0, 0)).1, ((rowsK bs c.instrs.length).getD i (0, 0)).2, nxF c bs i⟩
/-- The flow of a code. -/
def IsFlow (c : CodeD) (f : FlowD) : Prop :=
  ∃ bs, Marks bs c.instrs.length (IsLeader c) ∧ f.blocks = blocksF c bs ∧ f.of_ = ofK bs c.instrs.length ∧ f.ahead = aheadIJ (nxF c bs) (cnt bs c.instrs.length) 0 ∧
    Marks f.entry (cnt bs c.instrs.length) (fun i => ∃ p ∈ entriesL c, ofI bs p = (i : Int)) ∧ Marks f.reached (cnt bs c.instrs.length) (fun i => ReachC c ((rowsK bs c.instrs.length).getD i (0, 0)).1)
def FlowRes (H : PH) (w : World) (c : CodeD) (w' : World) (e : Ending) : Prop := ∃ v f, e = .returned v ∧ FlowV (extH H w w') v f ∧ IsFlow c f
variable {nx : Nat → List Int} {rs : List Bool} {w wr : World} {H K0 K : PH} {B g gr P M m cap : Nat} {rows : List (Int × Int)} {vnx : Nat → Value} {l : IntMap} {bsR : List Bool}
theorem FlowI.leE (h : FlowI nx rs w K0 B g gr P rows M 0 0 m wr vnx l K bsR) (hl : ∀ b, b < w.heap.size → K0 b = H b) : PH.le K (extH H w wr) := by
  intro b o e
  unfold extH
  split
  · rename_i hb; rw [← hl b hb, ← h.low b hb]; exact e
  · exact h.sees b o e
theorem extH.at_ {i : Nat} (h : w.heap.size ≤ i) : extH H w wr i = wr.heap[i]? := by unfold extH; rw [if_neg (by omega)]
theorem FlowI.blocksV (h : FlowI nx rs w K0 B g gr P rows M 0 0 m wr vnx l K bsR) (hM : rows.length = M) (hl : ∀ b, b < w.heap.size → K0 b = H b) (hr : ∀ r ∈ rows, I64 r.1 ∧ I64 r.2) (hc : M ≤ cap) (hn : M ≤ maxN) :
    SlV rBlock (extH H w wr) (.slice (some ⟨g, 0, none⟩) M cap) ((List.range M).map fun i => ⟨(rows.getD i (0, 0)).1, (rows.getD i (0, 0)).2, nx i⟩) := by
  have hle := h.leE hl
  refine ⟨some ⟨g, 0, none⟩, cap, by simp, by simpa using hc, by simpa using hn, fun i x hi => ?_⟩
  obtain ⟨hil, hx⟩ := List.getElem?_eq_some_iff.1 hi
  simp at hil
  rw [List.getElem?_map, List.getElem?_range hil] at hi
  simp only [Option.map_some, Option.some.injEq] at hi
  have hri : rows[i]? = some (rows.getD i (0, 0)) := by rw [List.getD_eq_getElem?_getD, List.getElem?_eq_getElem (by omega)]; rfl
  obtain ⟨arr, h1, h2⟩ := h.blk
  obtain ⟨a, b, d⟩ := h2 i _ hri
  have h64 := hr _ (List.mem_of_getElem? hri)
  refine ⟨g, 0, [.int .i64 (rows.getD i (0, 0)).1, .int .i64 (rows.getD i (0, 0)).2, vnx i], rfl, ⟨rfl, arr, _, _, (extH.at_ h.old.1).trans h1, fun j u hj => ?_⟩, ?_⟩
  · have hjl := (List.getElem?_eq_some_iff.1 hj).1
    simp at hjl
    show arr[0 + i * 3 + j]? = _
    rw [Nat.zero_add]
    obtain rfl | rfl | rfl : j = 0 ∨ j = 1 ∨ j = 2 := by omega
    · cases hj; exact a
    · cases hj; exact b
    · cases hj; exact d
  · subst hi
    exact ⟨vnx i, rfl, h64.1, h64.2, (h.done i hil).mono hle⟩
theorem FlowI.reachedV (h : FlowI nx rs w K0 B g gr P rows M 0 0 m wr vnx l K bsR) (hM : rows.length = M) (hn : M ≤ maxN) : SlV rBool (extH H w wr) (.slice (some ⟨gr, 0, none⟩) M M) bsR :=
  bools_read ((extH.at_ h.old.2.1).trans h.arr) (by rw [h.marks.len, hM]) hn
theorem FlowI.aheadV (h : FlowI nx rs w K0 B g gr P rows M 0 0 m wr vnx l K bsR) (hn : ∀ y, (aheadIJ nx M 0 y).length ≤ maxN) (hM : M ≤ 20000) : AheadV (extH H w wr) P M (aheadIJ nx M 0) := by
  refine ⟨l, fun w' hw' => h.map.of_block ?_, fun y _ => (h.ah y).readK (fun k hk => extH.at_ (by have := ((h.ah y).lt hk).1; have := h.oldB; omega)) (fun x hx => ?_) (hn y)⟩
  · have h1 := h.map.lt
    have h2 := extH.at_ (H := H) (wr := wr) h.old.2.2
    rw [Array.getElem?_eq_getElem h1] at h2 ⊢
    exact hw' _ _ h2
  · unfold aheadIJ at hx
    simp only [List.take_zero, List.filter_nil, List.map_nil, List.append_nil, List.mem_flatMap, List.mem_range, List.mem_map] at hx
    obtain ⟨k, hk, z, _, rfl⟩ := hx
    unfold I64
    omega
end Go.Proofs.Ytififjlgjmgikaa
