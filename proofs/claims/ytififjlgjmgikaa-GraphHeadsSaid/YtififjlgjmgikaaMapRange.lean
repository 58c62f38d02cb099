/- A range over a map that reads as a list of pairs (no program). -/
import Derived.Test.YtififjlgjmgikaaMaps
import Derived.Maps.RangeWalk
namespace Go.Proofs.Ytififjlgjmgikaa
set_option linter.all false
open Go.RowKit

section
variable {κ : Type} [DecidableEq κ] {enc : κ → Value} {w : World} {b r : Nat} {l : List (κ × Value)} {gone : List κ}
/-- A range over map b, by the iterator r: what has come. -/
def MapR (enc : κ → Value) (w : World) (b r : Nat) (l : List (κ × Value)) (gone : List κ) : Prop :=
  ∃ es clock since seen c0, w.heap[b]? = some (.map es clock) ∧ es.toList.map (fun e => (e.key, e.val)) = l.map (fun p => (enc p.1, p.2)) ∧ (l.map (·.1)).Nodup ∧
    (∀ e ∈ es.toList, e.born < clock) ∧ (es.toList.map (·.born)).Nodup ∧ w.heap[r]? = some (.mapIter (some b) since seen c0) ∧ (∀ x ∈ es.toList, x.born < since) ∧ since ≤ c0 ∧ since ≤ clock ∧
    (∀ (i : Nat) e p, es.toList[i]? = some e → l[i]? = some p → (seen.contains e.born = true ↔ p.1 ∈ gone)) ∧ gone.Nodup ∧ (∀ k ∈ gone, k ∈ l.map (·.1))
theorem MapR.mapL (h : MapR enc w b r l gone) : MapL enc w b l := by
  obtain ⟨es, clock, since, seen, c0, h1, h2, h3, h4, h5, -⟩ := h
  exact ⟨es, clock, h1, h2, h3, h4, h5⟩
theorem MapR.lt (h : MapR enc w b r l gone) : r < w.heap.size := by
  obtain ⟨es, clock, since, seen, c0, h1, h2, h3, h4, h5, h6, -⟩ := h
  exact (Array.getElem?_eq_some_iff.1 h6).1
theorem MapR.ne (h : MapR enc w b r l gone) : r ≠ b := by
  obtain ⟨es, clock, since, seen, c0, h1, h2, h3, h4, h5, h6, -⟩ := h
  intro e
  rw [e, h1] at h6
  cases h6
theorem MapR.of_blocks (h : MapR enc w b r l gone) {w' : World} (hb : w'.heap[b]? = w.heap[b]?) (hr : w'.heap[r]? = w.heap[r]?) : MapR enc w' b r l gone := by
  obtain ⟨es, clock, since, seen, c0, h1, h2, h3, h4, h5, h6, h7⟩ := h
  exact ⟨es, clock, since, seen, c0, hb.trans h1, h2, h3, h4, h5, hr.trans h6, h7⟩
theorem MapL.range {P : Program} (h : MapL enc w b l) {t k e : TypeId} (ht : P.underlying t = some (.map k e)) :
    ∃ w', (Instr.range t (.map (some b))).run P w = .ok (.pointer (some ⟨w.heap.size, 0, none⟩)) w' ∧ MapR enc w' b w.heap.size l [] ∧ w.grownBy w' none ∧ w'.heap.size = w.heap.size + 1 := by
  have hlt := h.lt
  obtain ⟨es, clock, h1, h2, h3, h4, h5⟩ := h
  refine ⟨_, run_range_map w t k e b es clock ht h1, ⟨es, clock, clock, #[], clock, (Below.heap_alloc w _ b hlt).trans h1, h2, h3, h4, h5, heap_alloc_new w _, h4, Nat.le_refl _, Nat.le_refl _, fun i e p _ _ => by simp, by simp, fun k hk => by cases hk⟩, World.grownBy_alloc w _ none, by simp⟩
/-- The step. -/
theorem MapR.next {P : Program} (h : MapR enc w b r l gone) (ty : TypeId) :
    ((∀ p ∈ l, p.1 ∈ gone) ∧ (Instr.next (.pointer (some ⟨r, 0, none⟩)) false ty).run P w = .ok (.tuple #[.bool false]) w) ∨
    ∃ k v w', (k, v) ∈ l ∧ k ∉ gone ∧ (Instr.next (.pointer (some ⟨r, 0, none⟩)) false ty).run P w = .ok (.tuple #[.bool true, enc k, v]) w' ∧ MapR enc w' b r l (gone ++ [k]) ∧ w.grownBy w' (some r) ∧ w'.heap.size = w.heap.size ∧
      (Instr.entry (.pointer (some ⟨r, 0, none⟩))).run P w' = .ok (.tuple #[enc k, v]) w' ∧ w'.rangeLeft b r < w.rangeLeft b r := by
  have hne := h.ne
  obtain ⟨es, clock, since, seen, c0, h1, h2, h3, h4, h5, h6, h7, h8, h9, h10, h11, h12⟩ := h
  have hlen : es.toList.length = l.length := by have := congrArg List.length h2; simpa using this
  have hat : ∀ (i : Nat) e p, es.toList[i]? = some e → l[i]? = some p → e.key = enc p.1 ∧ e.val = p.2 := by
    intro i e p he hp
    have h := congrArg (·[i]?) h2
    simp only [List.getElem?_map, he, hp, Option.map_some, Option.some.injEq, Prod.mk.injEq] at h
    exact h
  rcases run_next_at (P := P) w ty r b since c0 seen es clock h6 h1 h7 h8 with ⟨h0, hrun⟩ | ⟨e, he, w1, hal, hrun⟩
  · refine .inl ⟨fun p hp => ?_, hrun⟩
    obtain ⟨i, hi⟩ := List.getElem?_of_mem hp
    have hil := (List.getElem?_eq_some_iff.1 hi).1
    have hei : es.toList[i]? = some (es.toList[i]'(by omega)) := List.getElem?_eq_getElem (by omega)
    exact (h10 i _ p hei hi).1 (all_seen es seen h0 _ (List.mem_of_getElem? hei))
  · obtain ⟨hem, hes⟩ := mem_left he
    obtain ⟨i, hi⟩ := List.getElem?_of_mem hem
    have hil := (List.getElem?_eq_some_iff.1 hi).1
    have hpi : l[i]? = some (l[i]'(by omega)) := List.getElem?_eq_getElem (by omega)
    obtain ⟨hk, hv⟩ := hat i e _ hi hpi
    obtain ⟨⟨k, v⟩, hkv⟩ : ∃ p, l[i]'(by omega) = p := ⟨_, rfl⟩
    rw [hkv] at hpi hk hv
    simp only at hk hv
    have hng : k ∉ gone := fun hg => by
      have := (h10 i e (k, v) hi hpi).2 hg
      rw [hes] at this; cases this
    have hr1 : w1.heap[r]? = some (.mapIter (some b) since seen c0) := by rcases hal with rfl | rfl <;> exact h6
    have hb1 : w1.heap[b]? = some (.map es clock) := by rcases hal with rfl | rfl <;> exact h1
    have hset := MapKept.heap_set (o' := .mapIter (some b) since (seen.push e.born) clock) hr1
    have hb' : (Go.ChangeMaps.setBlock w1 r (.mapIter (some b) since (seen.push e.born) clock)).heap[b]? = some (.map es clock) := (hset.2 b (fun e1 => hne e1.symm)).trans hb1
    refine .inr ⟨k, v, _, List.mem_of_getElem? hpi, hng, by rw [← hk, ← hv]; exact hrun, ⟨es, clock, since, seen.push e.born, clock, hb', h2, h3, h4, h5, hset.1, h7, h9, h9, fun j ej pj hj hpj => ?_, ?_, fun k' hk' => ?_⟩, ?_, ?_, ?_, ?_⟩
    · rw [contains_push, Bool.or_eq_true, h10 j ej pj hj hpj, List.mem_append, List.mem_singleton]
      refine or_congr Iff.rfl ⟨fun hb => ?_, fun hb => ?_⟩
      · have hbe : ej.born = e.born := by simpa using hb
        have hji : j = i := by
          have e1 : (es.toList.map (·.born))[j]? = some e.born := by rw [List.getElem?_map, hj]; simp [hbe]
          have e2 : (es.toList.map (·.born))[i]? = some e.born := by rw [List.getElem?_map, hi]; rfl
          have hjl := (List.getElem?_eq_some_iff.1 hj).1
          exact (List.getElem?_inj (by simpa using hjl) h5).1 (e1.trans e2.symm)
        subst hji
        rw [hpi] at hpj
        injection hpj with hpj
        rw [← hpj]
      · have hji : j = i := by
          have e1 : (l.map (·.1))[j]? = some k := by rw [List.getElem?_map, hpj]; simp [hb]
          have e2 : (l.map (·.1))[i]? = some k := by rw [List.getElem?_map, hpi]; rfl
          have hjl := (List.getElem?_eq_some_iff.1 hpj).1
          exact (List.getElem?_inj (by simpa using hjl) h3).1 (e1.trans e2.symm)
        subst hji
        rw [hi] at hj
        injection hj with hj
        rw [hj]; simp
    · rw [List.nodup_append]
      exact ⟨h11, by simp, fun a ha b hb => by simp at hb; subst hb; rintro rfl; exact hng ha⟩
    · rcases List.mem_append.1 hk' with h | h
      · exact h12 k' h
      · simp at h
        subst h
        exact List.mem_map.2 ⟨_, List.mem_of_getElem? hpi, rfl⟩
    · rcases hal with rfl | rfl <;> exact ⟨rfl, rfl, rfl, by simp [Go.ChangeMaps.setBlock], fun i _ hi => hset.2 i (fun e1 => hi (by rw [e1]))⟩
    · rcases hal with rfl | rfl <;> simp [Go.ChangeMaps.setBlock]
    · rw [← hk, ← hv]
      exact run_entry_at _ r b since seen es clock e hset.1 hb' hem h5
    · have e1 : (Go.ChangeMaps.setBlock w1 r (.mapIter (some b) since (seen.push e.born) clock)).rangeLeft b r = (leftOf es (seen.push e.born)).size := by
        unfold World.rangeLeft
        rw [hb', show (ChangeMaps.setBlock w1 r (.mapIter (some b) since (seen.push e.born) clock)).heap[r]? = some (.mapIter (some b) since (seen.push e.born) clock) from hset.1]
      have e2 : w.rangeLeft b r = (leftOf es seen).size := by
        unfold World.rangeLeft
        rw [h1, h6]
      rw [e1, e2]
      exact left_shrinks es seen e he
/-- 'range m'. -/
theorem wpL_range {P : Program} {ops : Array Oper} {rest : List Oper} {o : Oper} {a : Act} {Q : Exit → Act → World → Prop} (hg : o.guard = none) (m : Operand) (t : TypeId) (hop : o.op = Op.range t m) {k e : TypeId} (ht : P.underlying t = some (.map k e))
    (hm : a.eval m = .map (some b)) (hM : MapL enc w b l)
    (hK : ∀ w', MapR enc w' b w.heap.size l [] → w.grownBy w' none → w'.heap.size = w.heap.size + 1 → wpList P ops Q rest (a.put o.dst (.pointer (some ⟨w.heap.size, 0, none⟩))) w') : wpList P ops Q (o :: rest) a w := by
  refine wpList_plain hg fun K' hK' => ?_
  obtain ⟨w', hrun, r1, r2, r3⟩ := hM.range ht
  unfold Oper.wp
  simp [execOp, hop, hm, hrun, Result.andThen]
  exact hK' _ _ (hK w' r1 r2 r3)
/-- The step of a range over a map. -/
theorem wpL_next {P : Program} {ops : Array Oper} {rest : List Oper} {o : Oper} {a : Act} {Q : Exit → Act → World → Prop} (hg : o.guard = none) (it : Operand) (hop : o.op = Op.next it false) (hit : a.eval it = .pointer (some ⟨r, 0, none⟩)) (h : MapR enc w b r l gone)
    (hDone : (∀ p ∈ l, p.1 ∈ gone) → wpList P ops Q rest (a.put o.dst (.tuple #[.bool false])) w)
    (hMore : ∀ (k : κ) (v : Value) (w' : World), (k, v) ∈ l → k ∉ gone → MapR enc w' b r l (gone ++ [k]) → w.grownBy w' (some r) → w'.heap.size = w.heap.size → (Instr.entry (.pointer (some ⟨r, 0, none⟩))).run P w' = .ok (.tuple #[enc k, v]) w' → w'.rangeLeft b r < w.rangeLeft b r →
      wpList P ops Q rest (a.put o.dst (.tuple #[.bool true, enc k, v])) w') : wpList P ops Q (o :: rest) a w := by
  refine wpList_plain hg fun K' hK' => ?_
  unfold Oper.wp
  rcases h.next (P := P) o.type with ⟨h0, hrun⟩ | ⟨k, v, w', h1, h2, hrun, h3, h4, h5, h6, h7⟩
  · simp [execOp, hop, hit, hrun, Result.andThen]
    exact hK' _ _ (hDone h0)
  · simp [execOp, hop, hit, hrun, Result.andThen]
    exact hK' _ _ (hMore k v w' h1 h2 h3 h4 h5 h6 h7)
end
end Go.Proofs.Ytififjlgjmgikaa
