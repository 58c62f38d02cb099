/- A range over a map that reads as a list of pairs (no program). The closures of graph.Loops. graph.Loops. Loops in plain Lean (no program): what the laws ask of them; the way by immediate dominators. -/
import Derived.Test.YtififjlgjmgikaaGreatMaps
import Derived.Maps.RangeWalk
import Derived.Test.YtififjlgjmgikaaGreatHeadsA
import Derived.Test.YtififjlgjmgikaaGreatTop
import Derived.Test.YtififjlgjmgikaaGreatIdomM
namespace Go.Proofs.YtififjlgjmgikaaGreat
set_option linter.all false
open Go.RowKit

section
variable {κ : Type} [DecidableEq κ] {enc : κ → Value} {w : World} {b r : Nat} {l : List (κ × Value)} {gone : List κ}
/-- A range over map b, by the iterator r: what has come. -/
def MapR (enc : κ → Value) (w : World) (b r : Nat) (l : List (κ × Value)) (gone : List κ) : Prop :=
  ∃ es clock since seen c0, w.heap[b]? = some (.map es clock) ∧ es.toList.map (fun e => (e.key, e.val)) = l.map (fun p => (enc p.1, p.2)) ∧ (l.map (·.1)).Nodup ∧
    (∀ e ∈ es.toList, e.born < clock) ∧ (es.toList.map (·.born)).Nodup ∧ w.heap[r]? = some (.mapIter (some b) since seen c0) ∧ (∀ x ∈ es.toList, x.born < since) ∧ since ≤ c0 ∧ since ≤ clock ∧
    (∀ (i : Nat) e p, es.toList[i]? = some e → l[i]? = some p → (seen.contains e.born = true ↔ p.1 ∈ gone)) ∧ gone.Nodup ∧ (∀ k ∈ gone, k ∈ l.map (·.1))
theorem MapR.mapL (h : MapR enc w b r l gone) : MapL enc w b l := by
  obtain ⟨es, clock, since, seen, c0, h1, h2, h3, h4, h5, -⟩ := h
  exact ⟨es, clock, h1, h2, h3, h4, h5⟩
theorem MapR.lt (h : MapR enc w b r l gone) : r < w.heap.size := by
  obtain ⟨es, clock, since, seen, c0, h1, h2, h3, h4, h5, h6, -⟩ := h
  exact (Array.getElem?_eq_some_iff.1 h6).1
theorem MapR.ne (h : MapR enc w b r l gone) : r ≠ b := by
  obtain ⟨es, clock, since, seen, c0, h1, h2, h3, h4, h5, h6, -⟩ := h
  intro e
  rw [e, h1] at h6
  cases h6
theorem MapR.of_blocks (h : MapR enc w b r l gone) {w' : World} (hb : w'.heap[b]? = w.heap[b]?) (hr : w'.heap[r]? = w.heap[r]?) : MapR enc w' b r l gone := by
  obtain ⟨es, clock, since, seen, c0, h1, h2, h3, h4, h5, h6, h7⟩ := h
  exact ⟨es, clock, since, seen, c0, hb.trans h1, h2, h3, h4, h5, hr.trans h6, h7⟩
theorem MapL.range {P : Program} (h : MapL enc w b l) {t k e : TypeId} (ht : P.underlying t = some (.map k e)) :
    ∃ w', (Instr.range t (.map (some b))).run P w = .ok (.pointer (some ⟨w.heap.size, 0, none⟩)) w' ∧ MapR enc w' b w.heap.size l [] ∧ w.grownBy w' none ∧ w'.heap.size = w.heap.size + 1 := by
  have hlt := h.lt
  obtain ⟨es, clock, h1, h2, h3, h4, h5⟩ := h
  refine ⟨_, run_range_map w t k e b es clock ht h1, ⟨es, clock, clock, #[], clock, (Below.heap_alloc w _ b hlt).trans h1, h2, h3, h4, h5, heap_alloc_new w _, h4, Nat.le_refl _, Nat.le_refl _, fun i e p _ _ => by simp, by simp, fun k hk => by cases hk⟩, World.grownBy_alloc w _ none, by simp⟩
/-- The step. -/
theorem MapR.next {P : Program} (h : MapR enc w b r l gone) (ty : TypeId) :
    ((∀ p ∈ l, p.1 ∈ gone) ∧ (Instr.next (.pointer (some ⟨r, 0, none⟩)) false ty).run P w = .ok (.tuple #[.bool false]) w) ∨
    ∃ k v w', (k, v) ∈ l ∧ k ∉ gone ∧ (Instr.next (.pointer (some ⟨r, 0, none⟩)) false ty).run P w = .ok (.tuple #[.bool true, enc k, v]) w' ∧ MapR enc w' b r l (gone ++ [k]) ∧ w.grownBy w' (some r) ∧ w'.heap.size = w.heap.size ∧
      (Instr.entry (.pointer (some ⟨r, 0, none⟩))).run P w' = .ok (.tuple #[enc k, v]) w' ∧ w'.rangeLeft b r < w.rangeLeft b r := by
  have hne := h.ne
  obtain ⟨es, clock, since, seen, c0, h1, h2, h3, h4, h5, h6, h7, h8, h9, h10, h11, h12⟩ := h
  have hlen : es.toList.length = l.length := by have := congrArg List.length h2; simpa using this
  have hat : ∀ (i : Nat) e p, es.toList[i]? = some e → l[i]? = some p → e.key = enc p.1 ∧ e.val = p.2 := by
    intro i e p he hp
    have h := congrArg (·[i]?) h2
    simp only [List.getElem?_map, he, hp, Option.map_some, Option.some.injEq, Prod.mk.injEq] at h
    exact h
  rcases run_next_at (P := P) w ty r b since c0 seen es clock h6 h1 h7 h8 with ⟨h0, hrun⟩ | ⟨e, he, w1, hal, hrun⟩
  · refine .inl ⟨fun p hp => ?_, hrun⟩
    obtain ⟨i, hi⟩ := List.getElem?_of_mem hp
    have hil := (List.getElem?_eq_some_iff.1 hi).1
    have hei : es.toList[i]? = some (es.toList[i]'(by omega)) := List.getElem?_eq_getElem (by omega)
    exact (h10 i _ p hei hi).1 (all_seen es seen h0 _ (List.mem_of_getElem? hei))
  · obtain ⟨hem, hes⟩ := mem_left he
    obtain ⟨i, hi⟩ := List.getElem?_of_mem hem
    have hil := (List.getElem?_eq_some_iff.1 hi).1
    have hpi : l[i]? = some (l[i]'(by omega)) := List.getElem?_eq_getElem (by omega)
    obtain ⟨hk, hv⟩ := hat i e _ hi hpi
    obtain ⟨⟨k, v⟩, hkv⟩ : ∃ p, l[i]'(by omega) = p := ⟨_, rfl⟩
    rw [hkv] at hpi hk hv
    simp only at hk hv
    have hng : k ∉ gone := fun hg => by
      have := (h10 i e (k, v) hi hpi).2 hg
      rw [hes] at this; cases this
    have hr1 : w1.heap[r]? = some (.mapIter (some b) since seen c0) := by rcases hal with rfl | rfl <;> exact h6
    have hb1 : w1.heap[b]? = some (.map es clock) := by rcases hal with rfl | rfl <;> exact h1
    have hset := MapKept.heap_set (o' := .mapIter (some b) since (seen.push e.born) clock) hr1
    have hb' : (Go.ChangeMaps.setBlock w1 r (.mapIter (some b) since (seen.push e.born) clock)).heap[b]? = some (.map es clock) := (hset.2 b (fun e1 => hne e1.symm)).trans hb1
    refine .inr ⟨k, v, _, List.mem_of_getElem? hpi, hng, by rw [← hk, ← hv]; exact hrun, ⟨es, clock, since, seen.push e.born, clock, hb', h2, h3, h4, h5, hset.1, h7, h9, h9, fun j ej pj hj hpj => ?_, ?_, fun k' hk' => ?_⟩, ?_, ?_, ?_, ?_⟩
    · rw [contains_push, Bool.or_eq_true, h10 j ej pj hj hpj, List.mem_append, List.mem_singleton]
      refine or_congr Iff.rfl ⟨fun hb => ?_, fun hb => ?_⟩
      · have hbe : ej.born = e.born := by simpa using hb
        have hji : j = i := by
          have e1 : (es.toList.map (·.born))[j]? = some e.born := by rw [List.getElem?_map, hj]; simp [hbe]
          have e2 : (es.toList.map (·.born))[i]? = some e.born := by rw [List.getElem?_map, hi]; rfl
          have hjl := (List.getElem?_eq_some_iff.1 hj).1
          exact (List.getElem?_inj (by simpa using hjl) h5).1 (e1.trans e2.symm)
        subst hji
        rw [hpi] at hpj
        injection hpj with hpj
        rw [← hpj]
      · have hji : j = i := by
          have e1 : (l.map (·.1))[j]? = some k := by rw [List.getElem?_map, hpj]; simp [hb]
          have e2 : (l.map (·.1))[i]? = some k := by rw [List.getElem?_map, hpi]; rfl
          have hjl := (List.getElem?_eq_some_iff.1 hpj).1
          exact (List.getElem?_inj (by simpa using hjl) h3).1 (e1.trans e2.symm)
        subst hji
        rw [hi] at hj
        injection hj with hj
        rw [hj]; simp
    · rw [List.nodup_append]
      exact ⟨h11, by simp, fun a ha b hb => by simp at hb; subst hb; rintro rfl; exact hng ha⟩
    · rcases List.mem_append.1 hk' with h | h
      · exact h12 k' h
      · simp at h
        subst h
        exact List.mem_map.2 ⟨_, List.mem_of_getElem? hpi, rfl⟩
    · rcases hal with rfl | rfl <;> exact ⟨rfl, rfl, rfl, by simp [Go.ChangeMaps.setBlock], fun i _ hi => hset.2 i (fun e1 => hi (by rw [e1]))⟩
    · rcases hal with rfl | rfl <;> simp [Go.ChangeMaps.setBlock]
    · rw [← hk, ← hv]
      exact run_entry_at _ r b since seen es clock e hset.1 hb' hem h5
    · have e1 : (Go.ChangeMaps.setBlock w1 r (.mapIter (some b) since (seen.push e.born) clock)).rangeLeft b r = (leftOf es (seen.push e.born)).size := by
        unfold World.rangeLeft
        rw [hb', show (ChangeMaps.setBlock w1 r (.mapIter (some b) since (seen.push e.born) clock)).heap[r]? = some (.mapIter (some b) since (seen.push e.born) clock) from hset.1]
      have e2 : w.rangeLeft b r = (leftOf es seen).size := by
        unfold World.rangeLeft
        rw [h1, h6]
      rw [e1, e2]
      exact left_shrinks es seen e he
end
end Go.Proofs.YtififjlgjmgikaaGreat
namespace Go.Proofs.YtififjlgjmgikaaGreat
set_option linter.all false
open Go.RowKit Go.Shelf

def rchB (f : FlowD) (y : Int) : Bool := f.reached.getD y.toNat false
/-- What a loop's walk goes on to: the reached blocks ahead, but not beyond the head. -/
def loopNx (f : FlowD) (h : Int) (x : Int) : List Int := if x = h then [] else (f.ahead x).filter fun y => !!rchB f y
end Go.Proofs.YtififjlgjmgikaaGreat
namespace Go.Proofs.YtififjlgjmgikaaGreat
set_option linter.all false
open Go.RowKit Go.Shelf

structure LoopD where
  head : Int
  body : List Int
deriving Inhabited
def rLoop : Rp LoopD where
  sz := 2
  R := fun H cs x => ∃ u, cs = [.int .i64 x.head, u] ∧ I64 x.head ∧ SlV rInt H u x.body
  len := fun h => by obtain ⟨u, rfl, _⟩ := h; rfl
  mono := fun h ⟨u, e, h1, k⟩ => ⟨u, e, h1, k.mono h⟩
noncomputable def tailsR (f : FlowD) (h : Int) : List Int := headsR f (edgesR f) h
/-- A loop's blocks: those that lead to its tails but by the head. -/
def inLoop (f : FlowD) (h y : Int) : Prop := Reach (· ∈ h :: tailsR f h) (fun a b => b ∈ loopNx f h a) y
open Classical in
noncomputable def bodyR (f : FlowD) (h : Int) : List Int := ((List.range f.blocks.length).filter fun (y : Nat) => decide (inLoop f h (y : Int))).map fun (y : Nat) => (y : Int)
noncomputable def loopOf (f : FlowD) (k : Nat) : List LoopD := if tailsR f (k : Int) = [] then [] else [⟨(k : Int), bodyR f (k : Int)⟩]
noncomputable def loopsTo (f : FlowD) (k : Nat) : List LoopD := (List.range k).flatMap (loopOf f)
def LpErr (H : PH) (w : World) (c : CodeD) (w' : World) (e : Ending) : Prop := ∃ u, e = .returned (.tuple #[u, .int .i64 0]) ∧ SlV rLoop (extH H w w') u (loopsTo (theFlow c) (theFlow c).blocks.length)
/-- What is known of a flow that the loops need. -/
structure LpOk (f : FlowD) : Prop where
  two : ∀ x, (nxB f x).length ≤ 2
  ahead : ∀ x : Int, 0 ≤ x ∧ x < f.blocks.length → ∀ y ∈ f.ahead x, 0 ≤ y ∧ y < f.blocks.length
  alen : ∀ x : Int, 0 ≤ x ∧ x < f.blocks.length → (f.ahead x).length ≤ 20000
  le : f.blocks.length ≤ 400
theorem MapR.sub {κ : Type} [DecidableEq κ] {enc : κ → Value} {w : World} {b r : Nat} {l : List (κ × Value)} {gone : List κ} (h : MapR enc w b r l gone) : gone.Nodup ∧ ∀ k ∈ gone, k ∈ l.map (·.1) := by
  obtain ⟨es, clock, since, seen, c0, h1, h2, h3, h4, h5, h6, h7, h8, h9, h10, h11, h12⟩ := h
  exact ⟨h11, h12⟩
noncomputable def lpsL (c : CodeD) : List LoopD := if checkedE c = 0 then loopsTo (theFlow c) (theFlow c).blocks.length else []
/-- The loops, or an error. -/
def LpRes (H : PH) (w w' : World) (c : CodeD) (e : Ending) : Prop := ∃ u, e = .returned (.tuple #[u, .int .i64 (checkedE c)]) ∧ SlV rLoop (extH H w w') u (lpsL c)
end Go.Proofs.YtififjlgjmgikaaGreat
namespace Go.Proofs.YtififjlgjmgikaaGreat
set_option linter.all false
open Go.RowKit

theorem filter_lt {α : Type} {p q : α → Bool} : ∀ {l : List α} {y : α}, (∀ x ∈ l, p x = true → q x = true) → y ∈ l → q y = true → p y = false → (l.filter p).length < (l.filter q).length := by
  intro l
  induction l with
  | nil => intro y _ hy; cases hy
  | cons a l ih =>
    intro y h hy hq hp
    have hle : (l.filter p).length ≤ (l.filter q).length := by
      have key : ∀ l : List α, (∀ x ∈ l, p x = true → q x = true) → (l.filter p).length ≤ (l.filter q).length := by
        intro l
        induction l with
        | nil => intro _; simp
        | cons a l ih =>
          intro h
          have h1 := ih fun x hx => h x (List.mem_cons_of_mem _ hx)
          have h2 := h a List.mem_cons_self
          simp only [List.filter_cons]
          cases hpa : p a
          · cases hqa : q a
            · simpa using h1
            · simp; omega
          · rw [h2 hpa]; simpa using h1
      exact key l fun x hx => h x (List.mem_cons_of_mem _ hx)
    rcases List.mem_cons.1 hy with rfl | hy
    · rw [List.filter_cons, List.filter_cons, hq, hp]
      simp
      omega
    · have h1 := ih (fun x hx => h x (List.mem_cons_of_mem _ hx)) hy hq hp
      have h2 := h a List.mem_cons_self
      simp only [List.filter_cons]
      cases hpa : p a
      · cases hqa : q a
        · simpa using h1
        · simp; omega
      · rw [h2 hpa]; simpa using h1
section
variable {c : CodeD} (hf : fineB c = true)
include hf
theorem reached_dom {v : Int} (h0 : 0 ≤ v ∧ v < (theFlow c).blocks.length) : rchB (theFlow c) v = true ↔ RA (theFlow c) (fun _ => False) v := by
  obtain ⟨k, rfl⟩ : ∃ k : Nat, v = (k : Int) := ⟨v.toNat, by omega⟩
  have hk : k < (theFlow c).blocks.length := by omega
  exact reached_iff hf hk
end
/-- The law's 'above'. -/
def aboveK (idom : List Int) (a : Int) : Nat → Int → Bool
  | 0, _ => false
  | m + 1, b => if b < 0 ∨ (idom.length : Int) ≤ b then false else if a = b then true else aboveK idom a m (idom.getD b.toNat 0)
open Classical in
noncomputable def domN (f : FlowD) (b : Int) : Nat := ((List.range f.blocks.length).filter fun (x : Nat) => decide (DomP f x b)).length
/-- The law's 'leads': one block, one round, all rounds. -/
def stepG (f : FlowD) (g : List Int) (b : Int) : List Int := if b ∈ g then g else if ∃ z ∈ nxB f b, z ∈ g then g ++ [b] else g
def roundG (f : FlowD) (body g : List Int) : List Int := body.foldl (stepG f) g
def iterG (f : FlowD) (body : List Int) (h : Int) : Nat → List Int
  | 0 => [h]
  | n + 1 => roundG f body (iterG f body h n)
theorem nodup_len {xs : List Int} : ∀ {ys : List Int}, xs.Nodup → (∀ x ∈ xs, x ∈ ys) → xs.length ≤ ys.length := by
  induction xs with
  | nil => intro ys _ _; simp
  | cons a l ih =>
    intro ys hx h
    obtain ⟨h1, h2⟩ := List.nodup_cons.1 hx
    have ha := h a List.mem_cons_self
    have h3 := ih (ys := ys.erase a) h2 fun x hxl => (List.mem_erase_of_ne (show x ≠ a from fun e => h1 (by rw [← e]; exact hxl))).2 (h x (List.mem_cons_of_mem _ hxl))
    rw [List.length_erase_of_mem ha] at h3
    have := List.length_pos_of_mem ha
    rw [List.length_cons]
    omega
end Go.Proofs.YtififjlgjmgikaaGreat
