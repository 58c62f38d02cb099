/- Maps that the walk makes: a block that reads as a list of pairs, its keys all different. -/
import Derived.Test.YtififjlgjmgikaaGreatBase
import Derived.Maps.OwnOps
import Derived.MapKept
namespace Go.Proofs.YtififjlgjmgikaaGreat
set_option linter.all false
open Go.RowKit

def findL {κ : Type} [DecidableEq κ] : List (κ × Value) → κ → Nat → Option (Nat × Value)
  | [], _, _ => none
  | p :: l, k, i => if k = p.1 then some (i, p.2) else findL l k (i + 1)
def mget {κ : Type} [DecidableEq κ] (l : List (κ × Value)) (k : κ) : Option Value := (findL l k 0).map (·.2)
def mput {κ : Type} [DecidableEq κ] (l : List (κ × Value)) (k : κ) (v : Value) : List (κ × Value) :=
  match findL l k 0 with
  | some (i, _) => l.set i (k, v)
  | none => l ++ [(k, v)]

theorem findL_shift {κ : Type} [DecidableEq κ] (l : List (κ × Value)) (k : κ) (i : Nat) : findL l k i = (findL l k 0).map fun p => (p.1 + i, p.2) := by
  induction l generalizing i with
  | nil => rfl
  | cons p l ih =>
    simp only [findL]
    split
    · simp
    · rw [ih (i + 1), ih (0 + 1)]
      cases findL l k 0 <;> simp [Nat.add_comm, Nat.add_left_comm]
theorem findL_some {κ : Type} [DecidableEq κ] {l : List (κ × Value)} {k : κ} {j : Nat} {v : Value} (h : findL l k 0 = some (j, v)) : l[j]? = some (k, v) := by
  induction l generalizing j with
  | nil => cases h
  | cons p l ih =>
    simp only [findL] at h
    split at h
    · rename_i e; subst e; cases h; rfl
    · rw [findL_shift] at h
      cases e : findL l k 0 with
      | none => rw [e] at h; cases h
      | some q => rw [e] at h; cases h; exact ih (j := q.1) (by rw [e])
theorem findL_none {κ : Type} [DecidableEq κ] {l : List (κ × Value)} {k : κ} : findL l k 0 = none ↔ ∀ p ∈ l, p.1 ≠ k := by
  induction l with
  | nil => simp [findL]
  | cons p l ih =>
    simp only [findL]
    split
    · rename_i e; simp [e]
    · rename_i e
      rw [findL_shift]
      simp only [Option.map_eq_none_iff, ih, List.mem_cons, forall_eq_or_imp]
      exact ⟨fun h => ⟨fun x => e x.symm, h⟩, fun h => h.2⟩
theorem findL_set {κ : Type} [DecidableEq κ] (l : List (κ × Value)) (k k' : κ) (v v' : Value) (i j : Nat) (h : l[i]? = some (k, v)) :
    findL (l.set i (k, v')) k' j = if k' = k then (findL l k' j).map fun p => if p.1 = i + j then (p.1, v') else p else findL l k' j := by
  induction l generalizing i j with
  | nil => simp at h
  | cons p l ih =>
    cases i with
    | zero =>
      simp at h; subst h
      simp only [List.set_cons_zero, findL]
      by_cases e : k' = k <;> simp [e]
    | succ i =>
      simp at h
      simp only [List.set_cons_succ, findL]
      by_cases e : k' = p.1
      · simp [e]
      · simp [e, ih i (j + 1) h, Nat.add_assoc, Nat.add_comm 1 j]

theorem mget_put_same {κ : Type} [DecidableEq κ] (l : List (κ × Value)) (k : κ) (v : Value) : mget (mput l k v) k = some v := by
  unfold mget mput
  cases e : findL l k 0 with
  | none =>
    simp only
    have : ∀ (l : List (κ × Value)) i, findL l k i = none → ∃ j, findL (l ++ [(k, v)]) k i = some (j, v) := by
      intro l
      induction l with
      | nil => intro i _; exact ⟨i, by simp [findL]⟩
      | cons p l ih =>
        intro i h
        simp only [findL] at h
        split at h
        · cases h
        · rename_i e; obtain ⟨j, hj⟩ := ih _ h; exact ⟨j, by simp [findL, e, hj]⟩
    obtain ⟨j, hj⟩ := this l 0 e
    simp [hj]
  | some q =>
    obtain ⟨i, u⟩ := q
    simp only
    rw [findL_set l k k u v i 0 (findL_some e), if_pos rfl, e]
    simp
theorem mget_put_other {κ : Type} [DecidableEq κ] (l : List (κ × Value)) (k k' : κ) (v : Value) (h : k' ≠ k) : mget (mput l k v) k' = mget l k' := by
  unfold mget mput
  cases e : findL l k 0 with
  | none =>
    simp only
    have : ∀ (l : List (κ × Value)) i, findL (l ++ [(k, v)]) k' i = findL l k' i := by
      intro l
      induction l with
      | nil => intro i; simp [findL, h]
      | cons p l ih => intro i; simp [findL, ih]
    rw [this]
  | some q =>
    obtain ⟨i, u⟩ := q
    simp only
    rw [findL_set l k k' u v i 0 (findL_some e), if_neg h]
theorem mget_put {κ : Type} [DecidableEq κ] (l : List (κ × Value)) (k k' : κ) (v : Value) : mget (mput l k v) k' = if k' = k then some v else mget l k' := by
  split
  · rename_i h; subst h; exact mget_put_same l k' v
  · rename_i h; exact mget_put_other l k k' v h
/-- How a key type's keys are asked for. -/
structure KeyK {κ : Type} [DecidableEq κ] (P : Program) (T : TypeId) (enc : κ → Value) : Prop where
  check : ∀ (w : World) (em : Bool) (k : κ), (Instr.checkKey em 10000 T (enc k)).run P w = .ok () w
  find : ∀ (w : World) (k : κ) (es : List MapEntry) (l : List (κ × Value)), es.map (fun e => (e.key, e.val)) = l.map (fun p => (enc p.1, p.2)) →
    (Instr.findKey T (enc k) es).run P w = .ok (findL l k 0) w
  stays : ∀ (w : World) (k : κ), (Instr.keyThatStays (enc k) (enc k)).run P w = .ok (enc k) w

theorem findNow_int (q : IntKind) (k : Int) (es : List MapEntry) (l : List (Int × Value)) (h : es.map (fun e => (e.key, e.val)) = l.map (fun p => (.int q p.1, p.2))) (i : Nat) :
    Instr.findNow (.int q) (.int q k) es i = some (findL l k i) := by
  induction es generalizing l i with
  | nil =>
    cases l with
    | nil => rfl
    | cons p l => simp at h
  | cons e es ih =>
    cases l with
    | nil => simp at h
    | cons p l =>
      simp only [List.map_cons, List.cons.injEq, Prod.mk.injEq] at h
      obtain ⟨⟨h1, h2⟩, h3⟩ := h
      simp only [Instr.findNow, Instr.sameNow, h1, h2, findL]
      by_cases hk : k = p.1
      · simp [hk]
      · have hb : (k == p.1) = false := by simpa using hk
        simp [hk, hb, ih l h3]
theorem keyInt {P : Program} {T : TypeId} {q : IntKind} (ht : P.underlying T = some (.int q)) : KeyK P T (fun x : Int => Value.int q x) where
  check := fun w em k => by
    exact Go.MapKept.run_checkKey ht (by trivial) em 9999
  find := fun w k es l h => by
    have hu : (underlying T).run P w = .ok (.int q) w := run_underlying ht w
    unfold Instr.findKey
    simp [Sem.run_bind, hu, Result.andThen, findNow_int q k es l h 0]
  stays := fun w k => by simp [Instr.keyThatStays, Instr.sameBits]

/-- Block b is a map that holds just the pairs of l. -/
def MapL {κ : Type} (enc : κ → Value) (w : World) (b : Nat) (l : List (κ × Value)) : Prop :=
  ∃ es clock, w.heap[b]? = some (.map es clock) ∧ es.toList.map (fun e => (e.key, e.val)) = l.map (fun p => (enc p.1, p.2)) ∧ (l.map (·.1)).Nodup ∧
    (∀ e ∈ es.toList, e.born < clock) ∧ (es.toList.map (·.born)).Nodup
theorem MapL.new {κ : Type} (enc : κ → Value) (w : World) : MapL enc (w.alloc (.map #[] 0)) w.heap.size [] :=
  ⟨#[], 0, heap_alloc_new w _, rfl, by simp, by simp, by simp⟩
theorem MapL.of_block {κ : Type} {enc : κ → Value} {w w' : World} {b : Nat} {l : List (κ × Value)} (h : MapL enc w b l) (k : w'.heap[b]? = w.heap[b]?) : MapL enc w' b l := by
  obtain ⟨es, clock, h1, h2⟩ := h
  exact ⟨es, clock, k.trans h1, h2⟩
theorem MapL.lt {κ : Type} {enc : κ → Value} {w : World} {b : Nat} {l : List (κ × Value)} (h : MapL enc w b l) : b < w.heap.size := by
  obtain ⟨es, clock, h1, _⟩ := h
  exact (Array.getElem?_eq_some_iff.1 h1).1

theorem MapL.lookup {κ : Type} [DecidableEq κ] {P : Program} {enc : κ → Value} {w : World} {b : Nat} {l : List (κ × Value)} (h : MapL enc w b l) {T K E : TypeId} (hT : P.underlying T = some (.map K E)) (hK : KeyK P K enc)
    {z : Value} (hz : ∀ w, (zeroValue E).run P w = .ok z w) (k : κ) (ok : Bool) :
    (Instr.lookup T (.map (some b)) (enc k) ok).run P w = .ok (if ok then .tuple #[(mget l k).getD z, .bool (mget l k).isSome] else (mget l k).getD z) w := by
  obtain ⟨es, clock, h1, h2, -⟩ := h
  have hu : (underlying T).run P w = .ok (.map K E) w := run_underlying hT w
  have hg : (getObj b).run P w = .ok (.map es clock) w := by simp [getObj, Sem.run, h1]
  have hc := hK.check w es.isEmpty k
  have hf := hK.find w k es.toList l h2
  unfold Instr.lookup
  simp only [Sem.run_bind, hu, Result.andThen, hg]
  simp only [Sem.run_pure, Sem.run_bind, Result.andThen, hc, hf, mget]
  cases findL l k 0 with
  | none => cases ok <;> simp [Sem.run_bind, Result.andThen, hz]
  | some q => cases ok <;> simp [Sem.run_bind, Result.andThen]

theorem MapL.update {κ : Type} [DecidableEq κ] {P : Program} {enc : κ → Value} {w : World} {b : Nat} {l : List (κ × Value)} (h : MapL enc w b l) {T K E : TypeId} (hT : P.underlying T = some (.map K E)) (hK : KeyK P K enc)
    (hinj : ∀ a b, enc a = enc b → a = b) (k : κ) (v : Value) :
    ∃ w', (Instr.mapUpdate T (.map (some b)) (enc k) v).run P w = .ok () w' ∧ MapL enc w' b (mput l k v) ∧ w.grownBy w' (some b) := by
  obtain ⟨es, clock, h1, h2, h3, h4, h5⟩ := h
  have hlt := (Array.getElem?_eq_some_iff.1 h1).1
  have hu : (underlying T).run P w = .ok (.map K E) w := run_underlying hT w
  have hg : (getObj b).run P w = .ok (.map es clock) w := by simp [getObj, Sem.run, h1]
  have hc := hK.check w false k
  have hf := hK.find w k es.toList l h2
  have hset : ∀ o, (setObj b o).run P w = .ok () { w with heap := w.heap.setIfInBounds b o } := by intro o; simp [setObj, Sem.run, h1]
  have hgr : ∀ o, w.grownBy { w with heap := w.heap.setIfInBounds b o } (some b) := fun o =>
    ⟨rfl, rfl, rfl, by simp, fun j _ hj => by
      have hne : b ≠ j := fun e => hj (by rw [e])
      simp [Array.getElem?_setIfInBounds, hne]⟩
  have hat : ∀ o, ({ w with heap := w.heap.setIfInBounds b o } : World).heap[b]? = some o := fun o => by simp [hlt]
  cases e : findL l k 0 with
  | none =>
    refine ⟨_, ?_, ⟨es.push { key := enc k, val := v, born := clock }, clock + 1, hat _, ?_, ?_, ?_, ?_⟩, hgr _⟩
    · unfold Instr.mapUpdate
      simp [Sem.run_bind, hu, Result.andThen, hg, hc, hf, e, hset]
    · simp [mput, e, h2]
    · have := findL_none.1 e
      simp only [mput, e, List.map_append, List.map_cons, List.map_nil]
      rw [List.nodup_append]
      refine ⟨h3, by simp, ?_⟩
      intro a ha x hx
      simp at hx; subst hx
      obtain ⟨p, hp, rfl⟩ := List.mem_map.1 ha
      exact this p hp
    · intro x hx
      simp at hx
      rcases hx with hx | rfl
      · have := h4 x (by simpa using hx); omega
      · simp
    · simp only [Array.toList_push, List.map_append, List.map_cons, List.map_nil]
      rw [List.nodup_append]
      refine ⟨h5, by simp, ?_⟩
      intro a ha x hx
      simp at hx; subst hx
      obtain ⟨p, hp, rfl⟩ := List.mem_map.1 ha
      have := h4 p hp; omega
  | some q =>
    obtain ⟨i, u⟩ := q
    have hl := findL_some e
    have hes : ∃ x, es[i]? = some x ∧ x.key = enc k ∧ x.val = u := by
      have : (es.toList.map (fun e => (e.key, e.val)))[i]? = some (enc k, u) := by rw [h2]; simp [hl]
      simp only [List.getElem?_map, Option.map_eq_some_iff, Prod.mk.injEq] at this
      obtain ⟨x, hx, h⟩ := this
      exact ⟨x, by simpa using hx, h⟩
    obtain ⟨x, hx, hxk, hxv⟩ := hes
    have hs := hK.stays w k
    refine ⟨_, ?_, ⟨es.modify i fun e => { e with key := enc k, val := v }, clock, hat _, ?_, ?_, ?_, ?_⟩, hgr _⟩
    · unfold Instr.mapUpdate
      simp [Sem.run_bind, hu, Result.andThen, hg, hc, hf, e, hx, hxk, hs, hset]
    · simp only [mput, e, Array.toList_modify]
      apply List.ext_getElem?
      intro j
      have h2j := congrArg (fun z => z[j]?) h2
      simp only [List.getElem?_map] at h2j
      simp only [List.getElem?_map, List.getElem?_modify, List.getElem?_set]
      by_cases hij : i = j
      · subst hij
        have hil : i < l.length := (List.getElem?_eq_some_iff.1 hl).1
        have hx' : es.toList[i]? = some x := by simpa using hx
        simp [hx', hil]
      · simp [hij]
        simpa using h2j
    · have : (l.set i (k, v)).map (·.1) = l.map (·.1) := by
        apply List.ext_getElem?
        intro j
        simp only [List.getElem?_map, List.getElem?_set]
        by_cases hij : i = j
        · subst hij
          have hil : i < l.length := (List.getElem?_eq_some_iff.1 hl).1
          simp [hil, hl]
          rw [List.getElem?_eq_getElem hil] at hl
          simp at hl
          rw [hl]
        · simp [hij]
      simp only [mput, e, this]; exact h3
    · intro y hy
      simp only [Array.toList_modify] at hy
      obtain ⟨j, hj⟩ := List.getElem?_of_mem hy
      simp only [List.getElem?_modify] at hj
      cases hz : es.toList[j]? with
      | none => rw [hz] at hj; simp at hj
      | some z =>
        rw [hz] at hj
        have hzb := h4 z (List.mem_of_getElem? hz)
        by_cases hij : i = j
        · simp [hij] at hj; subst hj; exact hzb
        · simp [hij] at hj; subst hj; exact hzb
    · have : (es.modify i fun e => { e with key := enc k, val := v }).toList.map (·.born) = es.toList.map (·.born) := by
        simp only [Array.toList_modify]
        apply List.ext_getElem?
        intro j
        simp only [List.getElem?_map, List.getElem?_modify]
        by_cases hij : i = j
        · subst hij; cases es.toList[i]? <;> simp
        · simp [hij]
      rw [this]; exact h5

theorem wpL_mapUpdate {κ : Type} [DecidableEq κ] {P : Program} {ops : Array Oper} {rest : List Oper} {o : Oper} {a : Act} {Q : Exit → Act → World → Prop} {w : World}
    (hgd : o.guard = none) (m x v : Operand) (T : TypeId) (hop : o.op = Op.mapUpdate T m x v) {K E : TypeId} (hT : P.underlying T = some (.map K E)) (enc : κ → Value) (hK : KeyK P K enc)
    (hinj : ∀ a b, enc a = enc b → a = b) (b : Nat) (l : List (κ × Value)) (hm : a.eval m = .map (some b)) (hM : MapL enc w b l) (k : κ) (val : Value) (hx : a.eval x = enc k) (hv : a.eval v = val)
    (h : ∀ w', MapL enc w' b (mput l k val) → w.grownBy w' (some b) → wpList P ops Q rest (a.put o.dst undef) w') : wpList P ops Q (o :: rest) a w := by
  refine wpList_plain hgd fun K' hK' => ?_
  obtain ⟨w', hrun, r1, r2⟩ := hM.update hT hK hinj k val
  unfold Oper.wp
  simp [execOp, hop, hm, hx, hv, hrun, Result.andThen]
  exact hK' _ _ (h w' r1 r2)
theorem wpL_insert {κ : Type} [DecidableEq κ] {P : Program} {ops : Array Oper} {rest : List Oper} {o : Oper} {a : Act} {Q : Exit → Act → World → Prop} {w : World}
    (hgd : o.guard = none) (m x v : Operand) (T : TypeId) (hop : o.op = Op.insert T m x v) {K E : TypeId} (hT : P.underlying T = some (.map K E)) (enc : κ → Value) (hK : KeyK P K enc)
    (hinj : ∀ a b, enc a = enc b → a = b) (b : Nat) (l : List (κ × Value)) (hm : a.eval m = .map (some b)) (hM : MapL enc w b l) (k : κ) (val : Value) (hx : a.eval x = enc k) (hv : a.eval v = val)
    (h : ∀ w', MapL enc w' b (mput l k val) → w.grownBy w' (some b) → wpList P ops Q rest (a.put o.dst undef) w') : wpList P ops Q (o :: rest) a w := by
  refine wpList_plain hgd fun K' hK' => ?_
  obtain ⟨w', hrun, r1, r2⟩ := hM.update hT hK hinj k val
  unfold Oper.wp
  simp [execOp, hop, hm, hx, hv, hrun, Result.andThen]
  exact hK' _ _ (h w' r1 r2)
theorem int_inj (q : IntKind) : ∀ a b : Int, Value.int q a = Value.int q b → a = b := fun a b h => by injection h
end Go.Proofs.YtififjlgjmgikaaGreat
