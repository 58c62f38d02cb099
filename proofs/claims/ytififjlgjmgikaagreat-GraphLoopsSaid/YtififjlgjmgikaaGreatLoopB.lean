/- A range over a map that reads as a list of pairs (no program). The closures of graph.Loops. graph.Loops. Loops in plain Lean (no program): what the laws ask of them; the way by immediate dominators. -/
import Derived.Test.YtififjlgjmgikaaGreatMaps
import Derived.Maps.RangeWalk
import Derived.Test.YtififjlgjmgikaaGreatHeadsA
import Derived.Test.YtififjlgjmgikaaGreatTop
import Derived.Test.YtififjlgjmgikaaGreatIdomM
namespace Go.Proofs.YtififjlgjmgikaaGreat
set_option linter.all false
open Go.RowKit

section
variable {κ : Type} [DecidableEq κ] {enc : κ → Value} {w : World} {b r : Nat} {l : List (κ × Value)} {gone : List κ}
/-- A range over map b, by the iterator r: what has come. -/
def MapR (enc : κ → Value) (w : World) (b r : Nat) (l : List (κ × Value)) (gone : List κ) : Prop :=
  ∃ es clock since seen c0, w.heap[b]? = some (.map es clock) ∧ es.toList.map (fun e => (e.key, e.val)) = l.map (fun p => (enc p.1, p.2)) ∧ (l.map (·.1)).Nodup ∧
    (∀ e ∈ es.toList, e.born < clock) ∧ (es.toList.map (·.born)).Nodup ∧ w.heap[r]? = some (.mapIter (some b) since seen c0) ∧ (∀ x ∈ es.toList, x.born < since) ∧ since ≤ c0 ∧ since ≤ clock ∧
    (∀ (i : Nat) e p, es.toList[i]? = some e → l[i]? = some p → (seen.contains e.born = true ↔ p.1 ∈ gone)) ∧ gone.Nodup ∧ (∀ k ∈ gone, k ∈ l.map (·.1))
theorem MapR.mapL (h : MapR enc w b r l gone) : MapL enc w b l := by
  obtain ⟨es, clock, since, seen, c0, h1, h2, h3, h4, h5, -⟩ := h
  exact ⟨es, clock, h1, h2, h3, h4, h5⟩
theorem MapR.lt (h : MapR enc w b r l gone) : r < w.heap.size := by
  obtain ⟨es, clock, since, seen, c0, h1, h2, h3, h4, h5, h6, -⟩ := h
  exact (Array.getElem?_eq_some_iff.1 h6).1
theorem MapR.ne (h : MapR enc w b r l gone) : r ≠ b := by
  obtain ⟨es, clock, since, seen, c0, h1, h2, h3, h4, h5, h6, -⟩ := h
  intro e
  rw [e, h1] at h6
  cases h6
theorem MapR.of_blocks (h : MapR enc w b r l gone) {w' : World} (hb : w'.heap[b]? = w.heap[b]?) (hr : w'.heap[r]? = w.heap[r]?) : MapR enc w' b r l gone := by
  obtain ⟨es, clock, since, seen, c0, h1, h2, h3, h4, h5, h6, h7⟩ := h
  exact ⟨es, clock, since, seen, c0, hb.trans h1, h2, h3, h4, h5, hr.trans h6, h7⟩
theorem MapL.range {P : Program} (h : MapL enc w b l) {t k e : TypeId} (ht : P.underlying t = some (.map k e)) :
    ∃ w', (Instr.range t (.map (some b))).run P w = .ok (.pointer (some ⟨w.heap.size, 0, none⟩)) w' ∧ MapR enc w' b w.heap.size l [] ∧ w.grownBy w' none ∧ w'.heap.size = w.heap.size + 1 := by
  have hlt := h.lt
  obtain ⟨es, clock, h1, h2, h3, h4, h5⟩ := h
  refine ⟨_, run_range_map w t k e b es clock ht h1, ⟨es, clock, clock, #[], clock, (Below.heap_alloc w _ b hlt).trans h1, h2, h3, h4, h5, heap_alloc_new w _, h4, Nat.le_refl _, Nat.le_refl _, fun i e p _ _ => by simp, by simp, fun k hk => by cases hk⟩, World.grownBy_alloc w _ none, by simp⟩
/-- The step. -/
theorem MapR.next {P : Program} (h : MapR enc w b r l gone) (ty : TypeId) :
    ((∀ p ∈ l, p.1 ∈ gone) ∧ (Instr.next (.pointer (some ⟨r, 0, none⟩)) false ty).run P w = .ok (.tuple #[.bool false]) w) ∨
    ∃ k v w', (k, v) ∈ l ∧ k ∉ gone ∧ (Instr.next (.pointer (some ⟨r, 0, none⟩)) false ty).run P w = .ok (.tuple #[.bool true, enc k, v]) w' ∧ MapR enc w' b r l (gone ++ [k]) ∧ w.grownBy w' (some r) ∧ w'.heap.size = w.heap.size ∧
      (Instr.entry (.pointer (some ⟨r, 0, none⟩))).run P w' = .ok (.tuple #[enc k, v]) w' ∧ w'.rangeLeft b r < w.rangeLeft b r := by
  have hne := h.ne
  obtain ⟨es, clock, since, seen, c0, h1, h2, h3, h4, h5, h6, h7, h8, h9, h10, h11, h12⟩ := h
  have hlen : es.toList.length = l.length := by have := congrArg List.length h2; simpa using this
  have hat : ∀ (i : Nat) e p, es.toList[i]? = some e → l[i]? = some p → e.key = enc p.1 ∧ e.val = p.2 := by
    intro i e p he hp
    have h := congrArg (·[i]?) h2
    simp only [List.getElem?_map, he, hp, Option.map_some, Option.some.injEq, Prod.mk.injEq] at h
    exact h
  rcases run_next_at (P := P) w ty r b since c0 seen es clock h6 h1 h7 h8 with ⟨h0, hrun⟩ | ⟨e, he, w1, hal, hrun⟩
  · refine .inl ⟨fun p hp => ?_, hrun⟩
    obtain ⟨i, hi⟩ := List.getElem?_of_mem hp
    have hil := (List.getElem?_eq_some_iff.1 hi).1
    have hei : es.toList[i]? = some (es.toList[i]'(by omega)) := List.getElem?_eq_getElem (by omega)
    exact (h10 i _ p hei hi).1 (all_seen es seen h0 _ (List.mem_of_getElem? hei))
  · obtain ⟨hem, hes⟩ := mem_left he
    obtain ⟨i, hi⟩ := List.getElem?_of_mem hem
    have hil := (List.getElem?_eq_some_iff.1 hi).1
    have hpi : l[i]? = some (l[i]'(by omega)) := List.getElem?_eq_getElem (by omega)
    obtain ⟨hk, hv⟩ := hat i e _ hi hpi
    obtain ⟨⟨k, v⟩, hkv⟩ : ∃ p, l[i]'(by omega) = p := ⟨_, rfl⟩
    rw [hkv] at hpi hk hv
    simp only at hk hv
    have hng : k ∉ gone := fun hg => by
      have := (h10 i e (k, v) hi hpi).2 hg
      rw [hes] at this; cases this
    have hr1 : w1.heap[r]? = some (.mapIter (some b) since seen c0) := by rcases hal with rfl | rfl <;> exact h6
    have hb1 : w1.heap[b]? = some (.map es clock) := by rcases hal with rfl | rfl <;> exact h1
    have hset := MapKept.heap_set (o' := .mapIter (some b) since (seen.push e.born) clock) hr1
    have hb' : (Go.ChangeMaps.setBlock w1 r (.mapIter (some b) since (seen.push e.born) clock)).heap[b]? = some (.map es clock) := (hset.2 b (fun e1 => hne e1.symm)).trans hb1
    refine .inr ⟨k, v, _, List.mem_of_getElem? hpi, hng, by rw [← hk, ← hv]; exact hrun, ⟨es, clock, since, seen.push e.born, clock, hb', h2, h3, h4, h5, hset.1, h7, h9, h9, fun j ej pj hj hpj => ?_, ?_, fun k' hk' => ?_⟩, ?_, ?_, ?_, ?_⟩
    · rw [contains_push, Bool.or_eq_true, h10 j ej pj hj hpj, List.mem_append, List.mem_singleton]
      refine or_congr Iff.rfl ⟨fun hb => ?_, fun hb => ?_⟩
      · have hbe : ej.born = e.born := by simpa using hb
        have hji : j = i := by
          have e1 : (es.toList.map (·.born))[j]? = some e.born := by rw [List.getElem?_map, hj]; simp [hbe]
          have e2 : (es.toList.map (·.born))[i]? = some e.born := by rw [List.getElem?_map, hi]; rfl
          have hjl := (List.getElem?_eq_some_iff.1 hj).1
          exact (List.getElem?_inj (by simpa using hjl) h5).1 (e1.trans e2.symm)
        subst hji
        rw [hpi] at hpj
        injection hpj with hpj
        rw [← hpj]
      · have hji : j = i := by
          have e1 : (l.map (·.1))[j]? = some k := by rw [List.getElem?_map, hpj]; simp [hb]
          have e2 : (l.map (·.1))[i]? = some k := by rw [List.getElem?_map, hpi]; rfl
          have hjl := (List.getElem?_eq_some_iff.1 hpj).1
          exact (List.getElem?_inj (by simpa using hjl) h3).1 (e1.trans e2.symm)
        subst hji
        rw [hi] at hj
        injection hj with hj
        rw [hj]; simp
    · rw [List.nodup_append]
      exact ⟨h11, by simp, fun a ha b hb => by simp at hb; subst hb; rintro rfl; exact hng ha⟩
    · rcases List.mem_append.1 hk' with h | h
      · exact h12 k' h
      · simp at h
        subst h
        exact List.mem_map.2 ⟨_, List.mem_of_getElem? hpi, rfl⟩
    · rcases hal with rfl | rfl <;> exact ⟨rfl, rfl, rfl, by simp [Go.ChangeMaps.setBlock], fun i _ hi => hset.2 i (fun e1 => hi (by rw [e1]))⟩
    · rcases hal with rfl | rfl <;> simp [Go.ChangeMaps.setBlock]
    · rw [← hk, ← hv]
      exact run_entry_at _ r b since seen es clock e hset.1 hb' hem h5
    · have e1 : (Go.ChangeMaps.setBlock w1 r (.mapIter (some b) since (seen.push e.born) clock)).rangeLeft b r = (leftOf es (seen.push e.born)).size := by
        unfold World.rangeLeft
        rw [hb', show (ChangeMaps.setBlock w1 r (.mapIter (some b) since (seen.push e.born) clock)).heap[r]? = some (.mapIter (some b) since (seen.push e.born) clock) from hset.1]
      have e2 : w.rangeLeft b r = (leftOf es seen).size := by
        unfold World.rangeLeft
        rw [h1, h6]
      rw [e1, e2]
      exact left_shrinks es seen e he
/-- 'range m'. -/
theorem wpL_range {P : Program} {ops : Array Oper} {rest : List Oper} {o : Oper} {a : Act} {Q : Exit → Act → World → Prop} (hg : o.guard = none) (m : Operand) (t : TypeId) (hop : o.op = Op.range t m) {k e : TypeId} (ht : P.underlying t = some (.map k e))
    (hm : a.eval m = .map (some b)) (hM : MapL enc w b l)
    (hK : ∀ w', MapR enc w' b w.heap.size l [] → w.grownBy w' none → w'.heap.size = w.heap.size + 1 → wpList P ops Q rest (a.put o.dst (.pointer (some ⟨w.heap.size, 0, none⟩))) w') : wpList P ops Q (o :: rest) a w := by
  refine wpList_plain hg fun K' hK' => ?_
  obtain ⟨w', hrun, r1, r2, r3⟩ := hM.range ht
  unfold Oper.wp
  simp [execOp, hop, hm, hrun, Result.andThen]
  exact hK' _ _ (hK w' r1 r2 r3)
/-- The step of a range over a map. -/
theorem wpL_next {P : Program} {ops : Array Oper} {rest : List Oper} {o : Oper} {a : Act} {Q : Exit → Act → World → Prop} (hg : o.guard = none) (it : Operand) (hop : o.op = Op.next it false) (hit : a.eval it = .pointer (some ⟨r, 0, none⟩)) (h : MapR enc w b r l gone)
    (hDone : (∀ p ∈ l, p.1 ∈ gone) → wpList P ops Q rest (a.put o.dst (.tuple #[.bool false])) w)
    (hMore : ∀ (k : κ) (v : Value) (w' : World), (k, v) ∈ l → k ∉ gone → MapR enc w' b r l (gone ++ [k]) → w.grownBy w' (some r) → w'.heap.size = w.heap.size → (Instr.entry (.pointer (some ⟨r, 0, none⟩))).run P w' = .ok (.tuple #[enc k, v]) w' → w'.rangeLeft b r < w.rangeLeft b r →
      wpList P ops Q rest (a.put o.dst (.tuple #[.bool true, enc k, v])) w') : wpList P ops Q (o :: rest) a w := by
  refine wpList_plain hg fun K' hK' => ?_
  unfold Oper.wp
  rcases h.next (P := P) o.type with ⟨h0, hrun⟩ | ⟨k, v, w', h1, h2, hrun, h3, h4, h5, h6, h7⟩
  · simp [execOp, hop, hit, hrun, Result.andThen]
    exact hK' _ _ (hDone h0)
  · simp [execOp, hop, hit, hrun, Result.andThen]
    exact hK' _ _ (hMore k v w' h1 h2 h3 h4 h5 h6 h7)
end
end Go.Proofs.YtififjlgjmgikaaGreat
namespace Go.Proofs.YtififjlgjmgikaaGreat
set_option linter.all false
open Go.RowKit Go.Shelf

def rchB (f : FlowD) (y : Int) : Bool := f.reached.getD y.toNat false
set_option maxHeartbeats 1000000 in
theorem loops_11 (H : PH) (bf : Nat) (f : FlowD) (y : Int) (w : World) (hw : Sees w H) (hF : BoxF H bf f) (hy : 0 ≤ y ∧ y < f.blocks.length) :
    Calls Tryz.prog 79 #[.int .i64 y, .pointer (some ⟨bf, 0, none⟩)] w fun e w' => e = .returned (.bool (!rchB f y)) ∧ Below w.heap.size w w' := by
  obtain ⟨v, hbf, hf⟩ := hF
  obtain ⟨b5, s0, s1, s2, s3, m, rfl, hb, hf⟩ := hf
  have hbx := hw bf _ hbf
  have q := cell_blk hbx 0
  simp only [List.getElem?_toArray, List.getElem?_cons_zero] at q
  have hbl := hw.lt hbf
  obtain ⟨k, rfl⟩ : ∃ k : Nat, y = (k : Int) := ⟨y.toNat, by omega⟩
  have hk : k < f.reached.length := by have := hf.lenR; omega
  obtain ⟨rb, ro, rc, rfl, -, hrb, hrcell⟩ := hf.reached.bools (by omega)
  have hrk := hrcell w hw k hk
  have hrl := hw.lt' hrb
  have q5 := box5 (hw b5 _ hb)
  have hbl5 := hw.lt hb
  have he : rchB f (k : Int) = f.reached.getD k false := rfl
  rw [he]
  have hlen := hf.lenR
  clear hf hrcell hb hbf he
  generalize f.reached.getD k false = r at *
  go_enter Tryz.func79, Tryz.ntmps79
  go_wp2
  go_ret
  exact ⟨rfl, Below.refl _ _⟩
theorem loops_11V (H : PH) (bf : Nat) (f : FlowD) (hF : BoxF H bf f) : PredV H .i64 (.func (.func 79) #[] #[.pointer (some ⟨bf, 0, none⟩)]) (fun y => 0 ≤ y ∧ y < f.blocks.length) (fun y => !rchB f y) :=
  ⟨_, _, rfl, enters_mk Tryz.func79 (by kernel_rfl) rfl, fun w' H' x hle hs hx => loops_11 H' bf f x w' hs (by
    obtain ⟨v, h1, h2⟩ := hF
    exact ⟨v, hle _ _ h1, h2.mono hle⟩) hx⟩
/-- What a loop's walk goes on to: the reached blocks ahead, but not beyond the head. -/
def loopNx (f : FlowD) (h : Int) (x : Int) : List Int := if x = h then [] else (f.ahead x).filter fun y => !!rchB f y
set_option maxHeartbeats 2000000 in
set_option maxRecDepth 100000 in
theorem loops_1 (H : PH) (bh bf : Nat) (f : FlowD) (h x : Int) (w : World) (hw : Sees w H) (hF : BoxF H bf f) (hh : BoxI H bh h) (hx : 0 ≤ x ∧ x < f.blocks.length) (hah : ∀ y ∈ f.ahead x, 0 ≤ y ∧ y < f.blocks.length) (hal : (f.ahead x).length ≤ 20000) :
    Calls Tryz.prog 77 #[.int .i64 x, .pointer (some ⟨bh, 0, none⟩), .pointer (some ⟨bf, 0, none⟩)] w fun e w' => SlRes H w w' (loopNx f h x) e ∧ Below w.heap.size w w' := by
  have hF0 := hF
  obtain ⟨v, hbf, hf⟩ := hF
  obtain ⟨b5, s0, s1, s2, s3, m, rfl, hb, hf⟩ := hf
  have qh := cell_blk (hw bh _ hh) 0
  simp only [List.getElem?_toArray, List.getElem?_cons_zero] at qh
  have lh := hw.lt hh
  have hbx := hw bf _ hbf
  have q := cell_blk hbx 0
  simp only [List.getElem?_toArray, List.getElem?_cons_zero] at q
  have hbl := hw.lt hbf
  have q5 := box5 (hw b5 _ hb)
  have hbl5 := hw.lt hb
  have hmf : ∀ (fn : Fn) (first cap : Array Value) (w : World), (Instr.makeFunc fn first cap).run Tryz.prog w = .ok (.func fn first cap) w := fun _ _ _ _ => rfl
  by_cases hxh : x = h
  · have hb : (x == h) = true := by simp [hxh]
    have hres : loopNx f h x = [] := by unfold loopNx; rw [if_pos hxh]
    rw [hres]
    clear hres hf hF0 hah hal hxh hmf
    go_enter Tryz.func77, Tryz.ntmps77
    go_wp2
    go_ret
    exact ⟨⟨_, rfl, SlV.nil _ _⟩, Below.refl _ _⟩
  · have hb : (x == h) = false := by simp [hxh]
    have hres : loopNx f h x = (f.ahead x).filter fun y => !!rchB f y := by unfold loopNx; rw [if_neg hxh]
    rw [hres]
    obtain ⟨l, hM, hA⟩ := hf.ahead
    have hu := hA x hx
    have hKY : KeyK Tryz.prog 3 (fun x : Int => Value.int .i64 x) := keyInt Tryz.underlying3
    have hlk := (hM w hw).lookup Tryz.underlying80 hKY (z := .slice none 0 0) (fun _ => by kernel_rfl) x false
    simp only [Bool.false_eq_true, if_false] at hlk
    have hC := clone_sl hw hu (by omega)
    have hP := loops_11V H bf f hF0
    obtain ⟨es, hes⟩ : ∃ es, es = (f.ahead x).filter fun y => !!rchB f y := ⟨_, rfl⟩
    rw [← hes]
    have hesh := Lib.hid hes
    have hIh := Lib.hid hah
    have hIh2 := Lib.hid (show ∀ y ∈ f.ahead x, I64 y from fun y hy => by have := hah y hy; have := hf.le; unfold I64; omega)
    have hle := hf.le
    clear hes hah hres hxh hM hA hF0 hf
    generalize (mget l x).getD (.slice none 0 0) = uv at *
    generalize f.ahead x = nx at *
    go_enter Tryz.func77, Tryz.ntmps77
    go_wp2_with (first
      | (go_at_call 62; refine hC.mono ?_; rintro e w1 ⟨⟨vq, rfl, hown⟩, hB1⟩)
      | (go_at_call 78; refine (delete_own H _ _ _ (fun y => 0 ≤ y ∧ y < f.blocks.length) (fun y => !rchB f y) w.heap.size w1 (hw.below hB1) hown (fun k hk => hw.fresh (hown.lt hk).1) hP hIh.out hIh2.out (by omega)).mono ?_; rintro e w2 ⟨⟨v2, rfl, hown2, -⟩, hg2⟩; rw [← hesh.out] at hown2))
    go_ret
    have hB2 : Below w.heap.size w w2 := hB1.grown hg2 hB1.size (fun k hk => (hown.lt hk).1)
    refine ⟨⟨_, rfl, hown2.read (fun y hy => ?_) ?_⟩, hB2⟩
    · rw [hesh.out] at hy
      exact hIh2.out y (List.mem_filter.1 hy).1
    · have h1 : es.length ≤ nx.length := by rw [hesh.out]; exact List.length_filter_le _ _
      unfold maxN
      omega
theorem loops_1V (H : PH) (bh bf : Nat) (f : FlowD) (h : Int) (hF : BoxF H bf f) (hh : BoxI H bh h) (hah : ∀ x : Int, 0 ≤ x ∧ x < f.blocks.length → ∀ y ∈ f.ahead x, 0 ≤ y ∧ y < f.blocks.length) (hal : ∀ x : Int, 0 ≤ x ∧ x < f.blocks.length → (f.ahead x).length ≤ 20000) :
    NextV H (.func (.func 77) #[] #[.pointer (some ⟨bh, 0, none⟩), .pointer (some ⟨bf, 0, none⟩)]) f.blocks.length (loopNx f h) :=
  ⟨_, _, rfl, enters_mk Tryz.func77 (by kernel_rfl) rfl, fun w' H' x hle hs hx => loops_1 H' bh bf f h x w' hs (by
    obtain ⟨v, h1, h2⟩ := hF
    exact ⟨v, hle _ _ h1, h2.mono hle⟩) (hle _ _ hh) hx (hah x hx) (hal x hx)⟩
end Go.Proofs.YtififjlgjmgikaaGreat
namespace Go.Proofs.YtififjlgjmgikaaGreat
set_option linter.all false
open Go.RowKit Go.Shelf

structure LoopD where
  head : Int
  body : List Int
deriving Inhabited
def rLoop : Rp LoopD where
  sz := 2
  R := fun H cs x => ∃ u, cs = [.int .i64 x.head, u] ∧ I64 x.head ∧ SlV rInt H u x.body
  len := fun h => by obtain ⟨u, rfl, _⟩ := h; rfl
  mono := fun h ⟨u, e, h1, k⟩ => ⟨u, e, h1, k.mono h⟩
theorem infoLp : (Tryz.prog.info? 72).map (fun i => (i.zero, i.size, i.bytes)) = some (some (.agg #[.int .i64 0, .slice none 0 0]), 2, 32) := by kernel_rfl
noncomputable def tailsR (f : FlowD) (h : Int) : List Int := headsR f (edgesR f) h
/-- A loop's blocks: those that lead to its tails but by the head. -/
def inLoop (f : FlowD) (h y : Int) : Prop := Reach (· ∈ h :: tailsR f h) (fun a b => b ∈ loopNx f h a) y
open Classical in
noncomputable def bodyR (f : FlowD) (h : Int) : List Int := ((List.range f.blocks.length).filter fun (y : Nat) => decide (inLoop f h (y : Int))).map fun (y : Nat) => (y : Int)
noncomputable def loopOf (f : FlowD) (k : Nat) : List LoopD := if tailsR f (k : Int) = [] then [] else [⟨(k : Int), bodyR f (k : Int)⟩]
noncomputable def loopsTo (f : FlowD) (k : Nat) : List LoopD := (List.range k).flatMap (loopOf f)
theorem loopsTo_succ (f : FlowD) (k : Nat) : loopsTo f (k + 1) = loopsTo f k ++ loopOf f k := by
  unfold loopsTo
  rw [List.range_succ, List.flatMap_append]
  simp
theorem loopsTo_len (f : FlowD) (k : Nat) : (loopsTo f k).length ≤ k := by
  induction k with
  | zero => simp [loopsTo]
  | succ k ih =>
    rw [loopsTo_succ, List.length_append]
    have : (loopOf f k).length ≤ 1 := by unfold loopOf; split <;> simp
    omega
theorem bodyR_mem {f : FlowD} {h y : Int} : y ∈ bodyR f h ↔ (0 ≤ y ∧ y < f.blocks.length) ∧ inLoop f h y := by
  unfold bodyR
  simp only [List.mem_map, List.mem_filter, List.mem_range, decide_eq_true_eq]
  constructor
  · rintro ⟨k, ⟨h1, h2⟩, rfl⟩; exact ⟨by omega, h2⟩
  · rintro ⟨h1, h2⟩; exact ⟨y.toNat, ⟨by omega, by rw [show ((y.toNat : Nat) : Int) = y by omega]; exact h2⟩, by omega⟩
theorem bodyR_sorted (f : FlowD) (h : Int) : (bodyR f h).Pairwise (· < ·) := by
  unfold bodyR
  rw [List.pairwise_map]
  refine List.Pairwise.imp (fun h => by omega) (List.Pairwise.filter _ List.pairwise_lt_range)
/-- The keys of a map that holds the loop's blocks, sorted. -/
theorem body_of {f : FlowD} {h : Int} {gone : List Int} (hn : gone.Nodup) (hm : ∀ y, y ∈ gone ↔ (0 ≤ y ∧ y < f.blocks.length) ∧ inLoop f h y) : isort gone = bodyR f h := by
  refine sorted_ext ?_ (bodyR_sorted f h) fun a => mem_isort.trans ((hm a).trans bodyR_mem.symm)
  have h1 := isort_sorted gone
  have h2 : (isort gone).Nodup := (List.mergeSort_perm gone _).nodup_iff.2 hn
  exact (h1.and h2).imp fun ⟨a, b⟩ => by omega
def LpErr (H : PH) (w : World) (c : CodeD) (w' : World) (e : Ending) : Prop := ∃ u, e = .returned (.tuple #[u, .int .i64 0]) ∧ SlV rLoop (extH H w w') u (loopsTo (theFlow c) (theFlow c).blocks.length)
theorem theFlow_nx (c : CodeD) (x : Int) (h : x.toNat < (theFlow c).blocks.length) : nxB (theFlow c) x = nxF c (leadB c) x.toNat := by
  unfold nxB
  have h1 : x.toNat < cnt (leadB c) c.instrs.length := by
    have : (theFlow c).blocks.length = cnt (leadB c) c.instrs.length := by simp [theFlow, blocksF]
    omega
  show ((blocksF c (leadB c)).getD x.toNat default).next = _
  unfold blocksF
  rw [List.getD_eq_getElem?_getD, List.getElem?_map, List.getElem?_range h1]
  rfl
theorem theFlow_two (c : CodeD) (x : Int) : (nxB (theFlow c) x).length ≤ 2 := by
  by_cases h : x.toNat < (theFlow c).blocks.length
  · rw [theFlow_nx c x h]; exact nxF_len _ _ _
  · unfold nxB
    rw [List.getD_eq_getElem?_getD, List.getElem?_eq_none (by omega)]
    simp [default, instInhabitedBlockD.default]
theorem ahead_mem {c : CodeD} {x y : Int} : x ∈ (theFlow c).ahead y ↔ (0 ≤ x ∧ x < (theFlow c).blocks.length) ∧ y ∈ nxB (theFlow c) x := by
  have hc : (theFlow c).blocks.length = cnt (leadB c) c.instrs.length := by simp [theFlow, blocksF]
  show x ∈ aheadIJ (nxF c (leadB c)) (cnt (leadB c) c.instrs.length) 0 y ↔ _
  rw [← hc]
  unfold aheadIJ
  simp only [List.take_zero, List.filter_nil, List.map_nil, List.append_nil, List.mem_flatMap, List.mem_range, List.mem_map, List.mem_filter, beq_iff_eq]
  constructor
  · rintro ⟨k, hk, z, ⟨hz, rfl⟩, rfl⟩
    refine ⟨by omega, ?_⟩
    rw [theFlow_nx c _ (by simpa using hk)]
    simpa using hz
  · rintro ⟨h1, h2⟩
    have hk : x.toNat < (theFlow c).blocks.length := by omega
    rw [theFlow_nx c x hk] at h2
    exact ⟨x.toNat, hk, y, ⟨h2, rfl⟩, by omega⟩
theorem ahead_len (c : CodeD) (hl : (theFlow c).blocks.length ≤ 400) (y : Int) : ((theFlow c).ahead y).length ≤ 20000 := by
  have hc : (theFlow c).blocks.length = cnt (leadB c) c.instrs.length := by simp [theFlow, blocksF]
  have h : ((theFlow c).ahead y).length ≤ 2 * cnt (leadB c) c.instrs.length + 2 := aheadIJ_len _ _ 0 y fun k _ => nxF_len _ _ _
  omega
/-- What is known of a flow that the loops need. -/
structure LpOk (f : FlowD) : Prop where
  two : ∀ x, (nxB f x).length ≤ 2
  ahead : ∀ x : Int, 0 ≤ x ∧ x < f.blocks.length → ∀ y ∈ f.ahead x, 0 ≤ y ∧ y < f.blocks.length
  alen : ∀ x : Int, 0 ≤ x ∧ x < f.blocks.length → (f.ahead x).length ≤ 20000
  le : f.blocks.length ≤ 400
theorem lpOk {c : CodeD} (h : checkedE c = 0) : LpOk (theFlow c) := by
  have hl : (theFlow c).blocks.length ≤ 400 := by
    apply Classical.byContradiction
    intro hn
    have hn : 400 < (theFlow c).blocks.length := by omega
    cases hf : fineB c <;> simp [checkedE, hf, hn] at h
  exact ⟨theFlow_two c, fun x _ y hy => (ahead_mem.1 hy).1, fun x _ => ahead_len c hl x, hl⟩
theorem loopNx_range {f : FlowD} (ho : LpOk f) {h x : Int} (hx : 0 ≤ x ∧ x < f.blocks.length) : ∀ y ∈ loopNx f h x, 0 ≤ y ∧ y < f.blocks.length := by
  intro y hy
  unfold loopNx at hy
  split at hy
  · cases hy
  · exact ho.ahead x hx y (List.mem_filter.1 hy).1
theorem tailsR_range {f : FlowD} {h x : Int} (hx : x ∈ tailsR f h) : 0 ≤ x ∧ x < f.blocks.length := by
  have := (edgesR_all _ (headsR_mem.1 hx).1).1
  exact this
theorem tailsR_len {f : FlowD} (ho : LpOk f) (h : Int) : (tailsR f h).length ≤ 800 := by
  have h1 := headsR_len f (edgesR f) h
  have h2 := edgesR_len ho.two
  have h3 := ho.le
  unfold tailsR
  omega
theorem findL_keys {κ : Type} [DecidableEq κ] {l : List (κ × Value)} {k : κ} : ∀ {i : Nat}, (findL l k i).isSome = true ↔ k ∈ l.map (·.1) := by
  induction l with
  | nil => intro i; simp [findL]
  | cons p l ih =>
    intro i
    by_cases h : k = p.1
    · simp [findL, h]
    · simp only [findL, if_neg h, List.map_cons, List.mem_cons]
      rw [ih]
      simp [h]
theorem hasK_keys {l : IntMap} {k : Int} : hasK l k ↔ k ∈ l.map (·.1) := by
  unfold hasK mget
  rw [Option.isSome_map]
  exact findL_keys
theorem MapR.sub {κ : Type} [DecidableEq κ] {enc : κ → Value} {w : World} {b r : Nat} {l : List (κ × Value)} {gone : List κ} (h : MapR enc w b r l gone) : gone.Nodup ∧ ∀ k ∈ gone, k ∈ l.map (·.1) := by
  obtain ⟨es, clock, since, seen, c0, h1, h2, h3, h4, h5, h6, h7, h8, h9, h10, h11, h12⟩ := h
  exact ⟨h11, h12⟩
set_option maxHeartbeats 4000000 in
set_option maxRecDepth 100000 in
theorem graph_Loops_ok (H : PH) (v : Value) (c : CodeD) (w : World) (hw : Sees w H) (hc : CodeV H v c) (hE : checkedE c = 0) :
    Calls Tryz.prog 36 #[v] w fun e w' => LpErr H w c w' e ∧ Below w.heap.size w w' := by
  have hok := lpOk hE
  have hc0 := hc
  obtain ⟨s0, s1, s2, s3, s4, s5, s6, rfl, hc⟩ := hc
  have hB0 : Below w.heap.size w (w.alloc (.cells #[s0, s1, s2, s3, s4, s5, s6] 30)) := (Below.refl _ _).alloc (Nat.le_refl _) _
  have hC := graph_checked_ok H _ c _ (hw.below hB0) hc0 hE
  unfold LpErr
  unfold FlowErr at hC
  generalize theFlow c = f at *
  clear hE hc0 hc
  go_enter Tryz.func36, Tryz.ntmps36
  go_upto_region 4 with (go_at_call 43; refine hC.mono ?_; rintro e w1 ⟨⟨v1, rfl, hfv⟩, hB1⟩; have hfvh := Lib.hid hfv; obtain ⟨b5, t0, t1, t2, t3, m, rfl, hb5, hfc⟩ := hfv; have hset := set_new w1; clear hfc hb5)
  clear hset
  refine wp_name fun W0 hW0 => ?_
  have hB01 : Below w1.heap.size w1 W0 := by rw [hW0]; exact (Below.refl _ _).alloc (Nat.le_refl _) _
  have hBx := bstep hB0 (bstep hB1 hB01)
  have hx4 : W0.heap[w1.heap.size]? = some (.cells #[.pointer (some ⟨b5, 0, none⟩)] 76 (0, 0)) := by rw [hW0]; exact ga_new _ _
  have hs0 := extH.sees hw hBx
  have hK1 : PH.le (extH H (w.alloc (.cells #[s0, s1, s2, s3, s4, s5, s6] 30)) w1) (extH H w W0) := fun i o e => extH.lower hw hB0.size i o (extH.step hB01 i o e)
  have hfK := hfvh.out.mono hK1
  have hk4 : extH H w W0 w1.heap.size = some (.cells #[.pointer (some ⟨b5, 0, none⟩)] 76 (0, 0)) := extH.new (Nat.le_trans hB0.size hB1.size) hx4
  have hHK := extH.le hw W0
  have q := cell_blk hx4 0
  simp only [List.getElem?_toArray, List.getElem?_cons_zero] at q
  have lq := (Array.getElem?_eq_some_iff.1 hx4).1
  clear hW0 hK1 hfvh hC
  have hKp : ∀ i o, extH H w W0 i = some o → (i < w.heap.size → H i = some o) ∧ (w.heap.size ≤ i → W0.heap[i]? = some o) := fun i o e => by
    unfold extH at e
    split at e
    · rename_i h9; exact ⟨fun _ => e, fun h => absurd h9 (by omega)⟩
    · rename_i h9; exact ⟨fun h => absurd h h9, fun _ => e⟩
  generalize extH H w W0 = K at *
  have hHd := flow_heads K _ f W0 hs0 hfK hok.two
  go_upto_region 5 with (go_at_call 76; refine hHd.mono ?_; rintro e w2 ⟨⟨m2, rfl, hm2, hHv⟩, hB2⟩)
  clear hHd q lq
  have hs2 := extH.sees hs0 hB2
  have hKF := hfK.mono (extH.le hs0 w2)
  have hk4' := extH.le hs0 w2 _ _ hk4
  have hBw := bstep hBx hB2
  have hHK2 : PH.le H (extH K W0 w2) := fun i o e => extH.le hs0 w2 i o (hHK i o e)
  have hK2p : ∀ i o, extH K W0 w2 i = some o → extH H w w2 i = some o := fun i o e => by
    unfold extH at e ⊢
    split at e
    · rename_i h9
      by_cases h8 : i < w.heap.size
      · rw [if_pos h8]; exact (hKp i o e).1 h8
      · rw [if_neg h8, hB2.block i h9]; exact (hKp i o e).2 (by omega)
    · rename_i h9
      rw [if_neg (by have := hBx.size; omega)]; exact e
  have hK2h := Lib.hid hK2p
  clear hfK hk4 hHK hKp hK2p
  generalize extH K W0 w2 = K2 at *
  have hKF0 := hKF
  obtain ⟨b5', u0, u1, u2, u3, m5, he5, hb5, hfc⟩ := hKF
  injection he5 with he5
  injection he5 with he5
  injection he5 with he5
  subst he5
  obtain ⟨A0, c0, rfl, -, -⟩ := hfc.blocks.open_
  have hx42 := hs2 _ _ hk4'
  have q := cell_blk hx42 0
  simp only [List.getElem?_toArray, List.getElem?_cons_zero] at q
  have lq := hs2.lt hk4'
  have q5 := box5 (hs2 _ _ hb5)
  have hbl5 := hs2.lt hb5
  have hle := hok.le
  go_wp2_with fail
  clear q lq q5 hbl5
  obtain ⟨ll, hMl, hrows, hhas⟩ := hHv
  change ∀ y, SlV rInt K2 ((mget ll y).getD nilV) (tailsR f y) at hrows
  change ∀ y, (mget ll y).isSome = true ↔ tailsR f y ≠ [] at hhas
  have hrowsh := Lib.hid hrows
  have hhash := Lib.hid hhas
  have hMlh := Lib.hid hMl
  clear hrows hhas hMl
  go_loopw [7, 29] (fun o i wr => ∃ k : Nat, k ≤ f.blocks.length ∧ i = .int .i64 k ∧ OwnL rLoop 72 K2 w2 wr o (loopsTo f k) ∧ Below w2.heap.size w2 wr) (fun _ i _ => f.blocks.length - (intOf i).toNat)
  case atStart => exact ⟨0, Nat.zero_le _, rfl, OwnL.nil _ _ _ _ _, Below.refl _ _⟩
  case round =>
    obtain ⟨k, hk, rfl, hown, hB⟩ := hrel
    have hsr := hs2.below hB
    have q := cell_blk (hsr _ _ hk4') 0
    simp only [List.getElem?_toArray, List.getElem?_cons_zero] at q
    have lq := hsr.lt hk4'
    have hMr := hMlh.out wr hsr
    have hll := loopsTo_len f k
    have hsuc := Lib.hid (loopsTo_succ f k)
    obtain ⟨es, hes⟩ : ∃ es, es = loopsTo f k := ⟨_, rfl⟩
    rw [← hes] at hown hll hsuc
    have hesh := Lib.hid hes
    clear hes
    obtain ⟨wo, rfl⟩ : ∃ wo : World, wo = wr := ⟨_, rfl⟩
    by_cases hlt : k < f.blocks.length
    · have hlt' : (k : Int) < f.blocks.length := by omega
      go_upto_region 9 with fail
      refine wp_name fun W hW => ?_
      have hBn : Below wo.heap.size wo W := by rw [hW]; exact (Below.refl _ _).alloc (Nat.le_refl _) _
      have hz : W.heap.size = wo.heap.size + 1 := by rw [hW]; simp
      have hxh : W.heap[wo.heap.size]? = some (.cells #[.int .i64 (k : Int)] 3 (0, 0)) := by rw [hW]; exact ga_new _ _
      have hMW := hMr.of_block (hBn.block _ hMr.lt)
      have hKY : KeyK Tryz.prog 3 (fun x : Int => Value.int .i64 x) := keyInt Tryz.underlying3
      have hlk := hMW.lookup Tryz.underlying80 hKY (z := .slice none 0 0) (fun _ => by kernel_rfl) (k : Int) true
      simp only [if_true] at hlk
      have q1 := cell_blk hxh 0
      simp only [List.getElem?_toArray, List.getElem?_cons_zero] at q1
      have lq1 := (Array.getElem?_eq_some_iff.1 hxh).1
      have hhk := hhash.out (k : Int)
      have hvr := hrowsh.out (k : Int)
      cases hsome : (mget ll (k : Int)).isSome
      · rw [hsome] at hlk hhk
        have hnil : tailsR f (k : Int) = [] := by
          apply Classical.byContradiction
          intro h9
          exact absurd (hhk.2 h9) (by simp)
        have hlo : loopOf f k = [] := by unfold loopOf; rw [if_pos hnil]
        have hloh := Lib.hid (show loopsTo f (k + 1) = es by rw [hsuc.out, hlo, List.append_nil])
        have hBh := Lib.hid hBn
        clear hW q lq hsome hnil hlo hhk hvr hBn
        go_wp2_with fail
        go_roundw
        case rel => exact ⟨k + 1, by omega, by go_num, by rw [hloh.out]; exact hown.below hBh.out, bstep hB hBh.out⟩
        case measure => simp [intOf]; omega
      · rw [hsome] at hlk hhk
        have hnn : tailsR f (k : Int) ≠ [] := hhk.1 rfl
        have hlo : loopOf f k = [⟨(k : Int), bodyR f (k : Int)⟩] := by unfold loopOf; rw [if_neg hnn]
        have hloh := Lib.hid (show loopsTo f (k + 1) = es ++ [⟨(k : Int), bodyR f (k : Int)⟩] by rw [hsuc.out, hlo])
        clear hW q lq hsome hlo hhk
        generalize (mget ll (k : Int)).getD nilV = vt at *
        obtain ⟨bt, ot, ct, rfl, -, -, hct, -⟩ := hvr.ints (List.length_pos_iff.2 hnn)
        have hnews : ∀ j y, (tailsR f (k : Int))[j]? = some y → (W.alloc (.cells #[.int .i64 (k : Int)] 3)).cell? ((⟨bt, ot, none⟩ : Addr).add j) = some (.int .i64 y) := by
          intro j y hj
          have hBz : Below w2.heap.size w2 (W.alloc (.cells #[.int .i64 (k : Int)] 3)) := (bstep hB hBn).alloc (by have := hB.size; omega) _
          have h9 := hct _ (hs2.below hBz) j (List.getElem?_eq_some_iff.1 hj).1
          rw [Addr.add_lit]
          rw [h9, List.getD_eq_getElem?_getD, hj]
          rfl
        clear hct
        have htl := tailsR_len hok (k : Int)
        have hmf : ∀ (fn : Fn) (first cap : Array Value) (w : World), (Instr.makeFunc fn first cap).run Tryz.prog w = .ok (.func fn first cap) w := fun _ _ _ _ => rfl
        have hxhh := Lib.hid hxh
        have hBnh := Lib.hid hBn
        have hB0h := Lib.hid hB
        have hownh := Lib.hid hown
        have hz2 := hB.size
        have hnnh := Lib.hid hnn
        have hzh := Lib.hid hz
        clear hxh hBn hB hown hnn hvr hz
        go_upto_region 12 with (first
          | (at_builtin; go_loud (refine wpL_appI rfl _ _ rfl W.heap.size _ [(k : Int)] (tailsR f (k : Int)) rfl (OwnI.snoc_lit W k) ⟨bt, ot, none⟩ _ ct rfl rfl hnews ?hlen ?hsz ?_); go_loud (case hlen => simp; omega); go_loud (case hsz => simp); intro v3 w3 hown3 hg3 _)
          | (go_at_call 67
             have hz := hzh.out
             have hB3 : Below wo.heap.size wo w3 := (hBnh.out.alloc (by omega) _).grown hg3 (by rw [World.size_alloc]; omega) (fun j hj => by have : W.heap.size = j := Option.some.inj hj; omega)
             have hB3w := bstep hB0h.out hB3
             have hs3 := extH.sees hs2 hB3w
             have hr3 : SlV rInt (extH K2 w2 w3) v3 ([(k : Int)] ++ tailsR f (k : Int)) := (hown3.lower (by omega)).read (fun y hy => by (rcases List.mem_append.1 hy with h9 | h9; · (simp at h9; unfold I64; omega)); (have := tailsR_range h9; unfold I64; omega)) (by simp; unfold maxN; omega)
             have hbh : BoxI (extH K2 w2 w3) wo.heap.size (k : Int) := extH.new (by omega) ((hg3.block _ (by rw [World.size_alloc]; omega) (fun e => by have : wo.heap.size = W.heap.size := (Option.some.inj e); omega)).trans (ga_old hxhh.out))
             have hbF : BoxF (extH K2 w2 w3) w1.heap.size f := ⟨_, extH.le hs2 w3 _ _ hk4', hKF0.mono (extH.le hs2 w3)⟩
             refine (graph_walk (extH K2 w2 w3) v3 _ ([(k : Int)] ++ tailsR f (k : Int)) f.blocks.length (loopNx f (k : Int)) w3 hs3 hr3 (by omega) (by simp; omega) (fun x hx => ?_) (fun x hx => loopNx_range hok hx) (loops_1V _ _ _ f (k : Int) hbF hbh hok.ahead hok.alen)).mono ?_
             · (rcases List.mem_append.1 hx with h9 | h9; · (simp at h9; omega)); exact tailsR_range h9
             rintro e w4 ⟨⟨bm, l, ρ, N, rfl, h1, h2, h3⟩, hB4⟩
             have hx4 := blk_keep hB4 (hs3 _ _ hbh)
             have q := cell_blk hx4 0
             simp only [List.getElem?_toArray, List.getElem?_cons_zero] at q
             have lq := (Array.getElem?_eq_some_iff.1 hx4).1))
        have hset := set_new w4
        have hBx4 := bstep hB3 hB4
        go_upto_region 13 with fail
        clear hset q lq hs3 hr3 hbh hbF hx4
        refine wp_name fun W5 hW5 => ?_
        have hg5 : W5.heap[w4.heap.size]? = some (.cells #[.int .i64 (k : Int), .slice none 0 0] 72 (0, 0)) := by rw [hW5]; exact ga_new _ _
        have hz5 : W5.heap.size = w4.heap.size + 1 := by rw [hW5]; simp
        have hB45 : Below w4.heap.size w4 W5 := by rw [hW5]; exact (Below.refl _ _).alloc (Nat.le_refl _) _
        have hM5 := h2.of_block (hB45.block _ h2.lt)
        have hbmlt := h2.lt
        clear hW5 h2
        obtain ⟨w6, hrun6, hR6, hg6, hz6⟩ := hM5.range (P := Tryz.prog) Tryz.underlying90
        have hB56 : Below W5.heap.size W5 w6 := (Below.refl _ _).grown hg6 (Nat.le_refl _) (fun j hj => by cases hj)
        have hBx6 := bstep hBx4 (bstep hB45 hB56)
        have hg6' := blk_keep hB56 hg5
        have hz4 := hBx4.size
        have hh6 : wo.heap.size + 2 ≤ w4.heap.size := by have := hB4.size; have := hg3.size; rw [World.size_alloc] at this; omega
        go_wp2_with fail
        clear hrun6
        rw [hz5] at hR6
        go_loopw [13] (fun x wr => ∃ gone v, MapR encI wr bm (w4.heap.size + 1) l gone ∧ wr.heap[w4.heap.size]? = some (.cells #[.int .i64 (k : Int), v] 72 (0, 0)) ∧ OwnI wr w6.heap.size v gone ∧ Below wo.heap.size wo wr ∧ w6.heap.size ≤ wr.heap.size) (fun x wr => wr.rangeLeft bm (w4.heap.size + 1))
        case atStart => exact ⟨[], _, hR6, hg6', OwnI.nil _ _, hBx6, Nat.le_refl _⟩
        case round =>
          obtain ⟨gone, vb, hR, hgr, hownb, hBr, hzr⟩ := hrel
          rcases hR.next (P := Tryz.prog) 0 with ⟨hall, hrun⟩ | ⟨x, xv, w7, hxl, hxg, hrun, hR7, hg7, hz7, hent, hms⟩
          · have hgm : ∀ y, y ∈ gone ↔ (0 ≤ y ∧ y < f.blocks.length) ∧ inLoop f (k : Int) y := by
              intro y
              have hr1 : hasK l y ↔ inLoop f (k : Int) y := h3.reach y
              constructor
              · intro hy
                have hk9 := hasK_keys.2 (hR.sub.2 y hy)
                obtain ⟨vy, hvy⟩ := Option.isSome_iff_exists.1 hk9
                exact ⟨(h3.vals y vy hvy).1, hr1.1 hk9⟩
              · rintro ⟨-, hy⟩
                obtain ⟨p, hp, rfl⟩ := List.mem_map.1 (hasK_keys.1 (hr1.2 hy))
                exact hall p hp
            have hbody := Lib.hid (body_of hR.sub.1 hgm)
            have hgl := nodup_range hR.sub.1 (fun y hy => ((hgm y).1 hy).1)
            clear hgm hall
            obtain ⟨Ab, cb, rfl, -⟩ := hownb.len_form
            have q7 := cell_blk hgr 1
            simp only [List.getElem?_toArray, List.getElem?_cons_succ, List.getElem?_cons_zero] at q7
            have hl7 := (Array.getElem?_eq_some_iff.1 hgr).1
            have hgrh := Lib.hid hgr
            clear hgr
            go_upto_region 18 with (go_at_call 80; refine (sort_own hownb (by omega)).mono ?_; rintro e w8 ⟨rfl, hown8, hg8⟩)
            have hgr8 := (hg8.block w4.heap.size hl7 (fun e => by have h9 := hownb.lt e.symm; omega)).trans hgrh.out
            rw [hbody.out] at hown8
            clear q7 hl7
            have q8 := cell_blk hgr8 0
            have q9 := cell_blk hgr8 1
            simp only [List.getElem?_toArray, List.getElem?_cons_succ, List.getElem?_cons_zero] at q8 q9
            have hl8 := (Array.getElem?_eq_some_iff.1 hgr8).1
            have hB8 : Below wo.heap.size wo w8 := hBr.grown hg8 hBr.size (fun j hj => by have := (hownb.lt hj).1; omega)
            have hownO := hownh.out.below hB8
            have hI64 : ∀ y ∈ bodyR f (k : Int), I64 y := fun y hy => by have := (bodyR_mem.1 hy).1; unfold I64; omega
            have hRR : rLoop.R (extX K2 w2 (w8.alloc (.cells #[.int .i64 (k : Int), .slice Ab gone.length cb] 72)) u7) [.int .i64 (k : Int), .slice Ab gone.length cb] ⟨(k : Int), bodyR f (k : Int)⟩ := by
              refine ⟨_, rfl, by unfold I64; simp only; omega, (hown8.al (.cells #[.int .i64 (k : Int), .slice Ab gone.length cb] 72)).readK (fun j hj => ?_) hI64 ?_⟩
              · have h9 := (hown8.lt hj).1
                unfold extX
                rw [if_neg (by omega), if_neg (fun e => by have := (hownh.out.lt e).2; omega)]
              · unfold maxN bodyR
                rw [List.length_map]
                have := List.length_filter_le (fun (y : Nat) => @decide (inLoop f (k : Int) (y : Int)) (Classical.propDecidable _)) (List.range f.blocks.length)
                rw [List.length_range] at this
                omega
            have hcell : ∀ j u, [Value.int .i64 (k : Int), .slice Ab gone.length cb][j]? = some u → (w8.alloc (.cells #[.int .i64 (k : Int), .slice Ab gone.length cb] 72)).cell? ⟨w8.heap.size, j, none⟩ = some u := by
              intro j u hj
              rw [cell_blk (ga_new w8 _) j]
              simpa using hj
            have hRRh := Lib.hid hRR
            have hcellh := Lib.hid hcell
            have hz8 := hB8.size
            clear hRR hcell hgr8
            go_wp2_with (at_builtin; go_loud (refine wpL_appL rLoop 68 72 (.agg #[.int .i64 0, .slice none 0 0]) 32 Tryz.underlying68 infoLp rfl (by decide) (by decide) rfl _ _ rfl _ _ rfl (hownO.below ((Below.refl _ _).alloc (Nat.le_refl _) _)) w8.heap.size 1 [.int .i64 (k : Int), .slice Ab gone.length cb] rfl ?hcell ?hone ⟨(k : Int), bodyR f (k : Int)⟩ ?hR ?hlen ?hbase ?_); (case hcell => exact hcellh.out); (case hone => exact fun u hu => by (simp at hu; rcases hu with rfl | rfl <;> rfl)); (case hR => exact hRRh.out); (case hlen => omega); (case hbase => simp; omega); intro v9 w9 hown9 hg9 _)
            go_roundw
            case rel => exact ⟨k + 1, by omega, by go_num, by rw [hloh.out]; exact hown9, ((bstep hB0h.out hB8).alloc (by omega) _).grown hg9 (by rw [World.size_alloc]; omega) (fun j hj => by have := (hownh.out.lt hj).1; omega)⟩
            case measure => simp [intOf]; omega
          · have hgr7 := (hg7.block w4.heap.size (Array.getElem?_eq_some_iff.1 hgr).1 (fun e => by have := Option.some.inj e; omega)).trans hgr
            have hown7 := hownb.of_block (fun j hj => hg7.block j (hownb.lt hj).2 (fun e => by have := Option.some.inj e; have := (hownb.lt hj).1; omega))
            have hgl := nodup_range hR.sub.1 (fun y hy => by
              obtain ⟨vy, hvy⟩ := Option.isSome_iff_exists.1 (hasK_keys.2 (hR.sub.2 y hy))
              exact (h3.vals y vy hvy).1)
            obtain ⟨Ab, cb, rfl, -⟩ := hownb.len_form
            have q7 := cell_blk hgr7 1
            simp only [List.getElem?_toArray, List.getElem?_cons_succ, List.getElem?_cons_zero] at q7
            have hf7 := free_blk hgr7 1
            have hl7 := (Array.getElem?_eq_some_iff.1 hgr7).1
            have hz7h := Lib.hid hz7
            have hgr7h := Lib.hid hgr7
            have hglh := Lib.hid hgl
            clear hz7 hgr7 hgr hgl
            go_wp2_with (at_builtin; go_loud (refine wpL_appI rfl _ _ rfl w6.heap.size _ gone [x] rfl (hown7.al _) ⟨w7.heap.size, 0, none⟩ 1 1 rfl rfl (one_new rfl) ?hlen ?hsz ?_); go_loud (case hlen => have := hglh.out; simp; omega); go_loud (case hsz => have := hz7h.out; simp; omega); intro v8 w8 hown8 hg8 _; obtain ⟨A8, c8, rfl, -⟩ := hown8.len_form; rw [show (gone ++ [x]).length = gone.length + 1 from by simp] at hown8; have hgr8 := (hg8.block w4.heap.size (by have := hz7h.out; rw [World.size_alloc]; omega) (fun e => by have h9 := hownb.lt e.symm; omega)).trans (ga_old hgr7h.out); have q8 := cell_blk hgr8 1; simp only [List.getElem?_toArray, List.getElem?_cons_succ, List.getElem?_cons_zero] at q8; have hf8 := free_blk hgr8 1; have hl8 := (Array.getElem?_eq_some_iff.1 hgr8).1; have hgr8h := Lib.hid hgr8; clear hgr8 q7 hf7 hl7)
            have hz7 := hz7h.out
            have hne8 : ∀ b, b < w6.heap.size → (Value.slice Ab gone.length cb).ownBlock ≠ some b := fun b hb e => by have := (hownb.lt e).1; omega
            have hkeep : ∀ b, b < w6.heap.size → b ≠ w4.heap.size → (w8.setCell ⟨w4.heap.size, 1, none⟩ (.slice A8 (gone.length + 1) c8)).heap[b]? = w7.heap[b]? := fun b hb hne =>
              (setCell_other hne).trans ((hg8.block b (by rw [World.size_alloc]; omega) (fun e => hne8 b hb e.symm)).trans (by rw [get_alloc, if_neg (by omega)]))
            have hRf := hR7.of_blocks (hkeep bm (by omega) (by omega)) (hkeep (w4.heap.size + 1) (by omega) (by omega))
            have hsz8 := hg8.size
            rw [World.size_alloc] at hsz8
            have hzo := hBr.size
            go_roundw
            case rel =>
              refine ⟨gone ++ [x], _, hRf, ?_, hown8.of_block (fun j hj => setCell_other (fun e => by have := (hown8.lt hj).1; omega)), setCell_below (((hBr.grown hg7 hzo (fun j hj => by have : w4.heap.size + 1 = j := Option.some.inj hj; omega)).alloc (by omega) _).grown hg8 (by rw [World.size_alloc]; omega) (fun j hj => by have := (hownb.lt hj).1; omega)) (by omega), by rw [size_set]; omega⟩
              rw [set_blk hgr8h.out]
              rfl
            case measure =>
              have e9 : (w8.setCell ⟨w4.heap.size, 1, none⟩ (.slice A8 (gone.length + 1) c8)).rangeLeft bm (w4.heap.size + 1) = w7.rangeLeft bm (w4.heap.size + 1) := by
                unfold World.rangeLeft
                rw [hkeep bm (by omega) (by omega), hkeep (w4.heap.size + 1) (by omega) (by omega)]
              rw [e9]
              exact hms
    · obtain rfl : k = f.blocks.length := by omega
      have hlt' : ¬ (f.blocks.length : Int) < f.blocks.length := by omega
      have hownh := Lib.hid hown
      clear hown hsuc
      go_wp2_with fail
      go_ret2
      refine ⟨⟨_, rfl, ?_⟩, bstep hBw hB⟩
      rw [← hesh.out]
      refine (hownh.out.read (by unfold maxN; omega)).mono (fun i o e => ?_)
      by_cases h9 : i < w2.heap.size
      · rw [show extH K2 w2 wo i = K2 i by unfold extH; rw [if_pos h9]] at e
        exact extH.step hB i o (hK2h.out i o e)
      · rw [show extH K2 w2 wo i = wo.heap[i]? by unfold extH; rw [if_neg h9]] at e
        exact extH.new (by have := hBw.size; omega) e
noncomputable def lpsL (c : CodeD) : List LoopD := if checkedE c = 0 then loopsTo (theFlow c) (theFlow c).blocks.length else []
/-- The loops, or an error. -/
def LpRes (H : PH) (w w' : World) (c : CodeD) (e : Ending) : Prop := ∃ u, e = .returned (.tuple #[u, .int .i64 (checkedE c)]) ∧ SlV rLoop (extH H w w') u (lpsL c)
set_option maxHeartbeats 2000000 in
set_option maxRecDepth 100000 in
theorem graph_Loops_no (H : PH) (v : Value) (c : CodeD) (w : World) (hw : Sees w H) (hc : CodeV H v c) (hE : checkedE c ≠ 0) :
    Calls Tryz.prog 36 #[v] w fun e w' => e = .returned (.tuple #[.slice none 0 0, .int .i64 (checkedE c)]) ∧ Below w.heap.size w w' := by
  have hc0 := hc
  obtain ⟨s0, s1, s2, s3, s4, s5, s6, rfl, hc⟩ := hc
  have hB0 : Below w.heap.size w (w.alloc (.cells #[s0, s1, s2, s3, s4, s5, s6] 30)) := (Below.refl _ _).alloc (Nat.le_refl _) _
  have hC := graph_checked_no H _ c _ (hw.below hB0) hc0 hE
  have hne : (checkedE c != 0) = true := by simpa using hE
  generalize checkedE c = E at *
  clear hE hc0 hc
  go_enter Tryz.func36, Tryz.ntmps36
  go_wp2_with (go_at_call 43; refine hC.mono ?_; rintro e w1 ⟨rfl, hB1⟩; have hset := set_new w1)
  go_ret2
  exact ⟨rfl, (bstep hB0 hB1).alloc (Nat.le_trans hB0.size hB1.size) _⟩
theorem graph_Loops_rd (H : PH) (v : Value) (c : CodeD) (w : World) (hw : Sees w H) (hc : CodeV H v c) :
    Calls Tryz.prog 36 #[v] w fun e w' => LpRes H w w' c e ∧ Below w.heap.size w w' := by
  by_cases hE : checkedE c = 0
  · refine (graph_Loops_ok H v c w hw hc hE).mono ?_
    rintro e w' ⟨⟨u, rfl, hu⟩, hB⟩
    exact ⟨⟨u, by rw [hE], by unfold lpsL; rw [if_pos hE]; exact hu⟩, hB⟩
  · refine (graph_Loops_no H v c w hw hc hE).mono ?_
    rintro e w' ⟨rfl, hB⟩
    exact ⟨⟨_, rfl, by unfold lpsL; rw [if_neg hE]; exact SlV.nil _ _⟩, hB⟩
end Go.Proofs.YtififjlgjmgikaaGreat
namespace Go.Proofs.YtififjlgjmgikaaGreat
set_option linter.all false
open Go.RowKit

theorem filter_lt {α : Type} {p q : α → Bool} : ∀ {l : List α} {y : α}, (∀ x ∈ l, p x = true → q x = true) → y ∈ l → q y = true → p y = false → (l.filter p).length < (l.filter q).length := by
  intro l
  induction l with
  | nil => intro y _ hy; cases hy
  | cons a l ih =>
    intro y h hy hq hp
    have hle : (l.filter p).length ≤ (l.filter q).length := by
      have key : ∀ l : List α, (∀ x ∈ l, p x = true → q x = true) → (l.filter p).length ≤ (l.filter q).length := by
        intro l
        induction l with
        | nil => intro _; simp
        | cons a l ih =>
          intro h
          have h1 := ih fun x hx => h x (List.mem_cons_of_mem _ hx)
          have h2 := h a List.mem_cons_self
          simp only [List.filter_cons]
          cases hpa : p a
          · cases hqa : q a
            · simpa using h1
            · simp; omega
          · rw [h2 hpa]; simpa using h1
      exact key l fun x hx => h x (List.mem_cons_of_mem _ hx)
    rcases List.mem_cons.1 hy with rfl | hy
    · rw [List.filter_cons, List.filter_cons, hq, hp]
      simp
      omega
    · have h1 := ih (fun x hx => h x (List.mem_cons_of_mem _ hx)) hy hq hp
      have h2 := h a List.mem_cons_self
      simp only [List.filter_cons]
      cases hpa : p a
      · cases hqa : q a
        · simpa using h1
        · simp; omega
      · rw [h2 hpa]; simpa using h1
section
variable {c : CodeD} (hf : fineB c = true)
include hf
theorem reached_dom {v : Int} (h0 : 0 ≤ v ∧ v < (theFlow c).blocks.length) : rchB (theFlow c) v = true ↔ RA (theFlow c) (fun _ => False) v := by
  obtain ⟨k, rfl⟩ : ∃ k : Nat, v = (k : Int) := ⟨v.toNat, by omega⟩
  have hk : k < (theFlow c).blocks.length := by omega
  exact reached_iff hf hk
theorem tail_spec {h t : Int} (ht : t ∈ tailsR (theFlow c) h) : (0 ≤ t ∧ t < (theFlow c).blocks.length) ∧ h ∈ nxB (theFlow c) t ∧ DomP (theFlow c) h t := by
  obtain ⟨h1, h2⟩ := headsR_mem.1 ht
  obtain ⟨h3, h4, h5⟩ := edgesR_all _ h1
  simp only at h3 h4 h5
  have hr : RA (theFlow c) (fun _ => False) t := (reached_dom hf h3).1 h4
  have hh := reach_in hf (hr.more h5 (fun k => k))
  obtain ⟨k, rfl, hk⟩ := hh
  obtain ⟨m, rfl⟩ : ∃ m : Nat, t = (m : Int) := ⟨t.toNat, by omega⟩
  refine ⟨h3, h5, (domB_iff hf hk (by omega)).1 ?_⟩
  exact h2
/-- A loop's head dominates its blocks. -/
theorem loop_dom {h : Int} {t0 : Int} (h0 : t0 ∈ tailsR (theFlow c) h) {y : Int} (hy : inLoop (theFlow c) h y) : DomP (theFlow c) h y := by
  have hd := (tail_spec hf h0).2.2.reached
  unfold inLoop at hy
  induction hy with
  | start hs =>
    rcases List.mem_cons.1 hs with rfl | ht
    · exact DomP.refl hd
    · exact (tail_spec hf ht).2.2
  | step hx hxy ih =>
    rename_i x y
    unfold loopNx at hxy
    split at hxy
    · cases hxy
    · rename_i hne
      obtain ⟨h1, h2⟩ := List.mem_filter.1 hxy
      obtain ⟨h3, h4⟩ := ahead_mem.1 h1
      refine ⟨(reached_dom hf h3).1 (by simpa using h2), fun k => ih.2 (k.more h4 hne)⟩
theorem loop_closed {h v w : Int} (hv : 0 ≤ v ∧ v < (theFlow c).blocks.length) (hr : rchB (theFlow c) v = true) (hw : w ∈ nxB (theFlow c) v) (hne : w ≠ h) (hl : inLoop (theFlow c) h w) : inLoop (theFlow c) h v := by
  refine Reach.step hl ?_
  unfold loopNx
  rw [if_neg hne]
  exact List.mem_filter.2 ⟨ahead_mem.2 ⟨hv, hw⟩, by simpa using hr⟩
/-- What holds of the head, and of each block that is followed by one of which it holds, holds of all. -/
theorem loop_leads {h : Int} {P : Int → Prop} (h0 : P h) (hs : ∀ b, inLoop (theFlow c) h b → (∃ z ∈ nxB (theFlow c) b, P z) → P b) {y : Int} (hy : inLoop (theFlow c) h y) : P y := by
  have hy0 := hy
  unfold inLoop at hy
  induction hy with
  | start h1 =>
    rcases List.mem_cons.1 h1 with rfl | ht
    · exact h0
    · exact hs _ hy0 ⟨h, (tail_spec hf ht).2.1, h0⟩
  | step hx hxy ih =>
    rename_i x y
    have hPx := ih hx
    unfold loopNx at hxy
    split at hxy
    · cases hxy
    · obtain ⟨h3, h4⟩ := ahead_mem.1 (List.mem_filter.1 hxy).1
      exact hs _ hy0 ⟨x, h4, hPx⟩
end
/-- The law's 'above'. -/
def aboveK (idom : List Int) (a : Int) : Nat → Int → Bool
  | 0, _ => false
  | m + 1, b => if b < 0 ∨ (idom.length : Int) ≤ b then false else if a = b then true else aboveK idom a m (idom.getD b.toNat 0)
open Classical in
noncomputable def domN (f : FlowD) (b : Int) : Nat := ((List.range f.blocks.length).filter fun (x : Nat) => decide (DomP f x b)).length
theorem above_iff {c : CodeD} (hf : fineB c = true) (a : Nat) : ∀ (k : Nat) (b : Nat), b < (theFlow c).blocks.length → (theFlow c).reached.getD b false = true → domN (theFlow c) b ≤ k → (aboveK (idomL (theFlow c)) a k b = true ↔ DomP (theFlow c) a b) := by
  have hlen : (idomL (theFlow c)).length = (theFlow c).blocks.length := by simp [idomL]
  intro k
  induction k with
  | zero =>
    intro b hb hr hk
    have h1 := DomP.refl ((reached_iff hf hb).1 hr)
    have h2 : 0 < domN (theFlow c) b := by
      unfold domN
      exact List.length_pos_of_mem (List.mem_filter.2 ⟨List.mem_range.2 hb, by simpa using h1⟩)
    omega
  | succ k ih =>
    intro b hb hr hk
    unfold aboveK
    rw [if_neg (by rw [hlen]; omega), Int.toNat_natCast, idomL_at _ hb]
    by_cases hab : (a : Int) = b
    · rw [if_pos hab]
      have : a = b := by omega
      subst this
      simp only [true_iff]
      exact DomP.refl ((reached_iff hf hb).1 hr)
    · rw [if_neg hab]
      rcases idom_spec hf hb with ⟨h1, _⟩ | ⟨_, h2, h3⟩ | ⟨_, m, h2, h3, h4⟩
      · rw [h1] at hr; cases hr
      · rw [h2]
        have hno := h3 a hab
        constructor
        · intro h
          cases k with
          | zero => simp [aboveK] at h
          | succ k => simp [aboveK] at h
        · intro h; exact absurd h hno
      · rw [h2]
        have hmr := (reached_iff hf h3).2 h4.2.1.reached
        have hlt : domN (theFlow c) m < domN (theFlow c) b := by
          unfold domN
          refine filter_lt (y := b) (fun x hx hp => ?_) (List.mem_range.2 hb) (by simpa using DomP.refl ((reached_iff hf hb).1 hr)) ?_
          · simp only [decide_eq_true_eq] at hp ⊢
            exact hp.trans h4.2.1
          · simp only [decide_eq_false_iff_not]
            intro hbm
            exact h4.1 (h4.2.1.antisym hbm)
        rw [ih m h3 hmr (by omega)]
        exact ⟨fun h => h.trans h4.2.1, fun h => h4.2.2 a hab h⟩
theorem domN_le (f : FlowD) (b : Int) : domN f b ≤ f.blocks.length := by
  unfold domN
  refine Nat.le_trans (List.length_filter_le _ _) (by simp)
/-- Which block is met on the way by immediate dominators. -/
theorem above_dom {c : CodeD} (hf : fineB c = true) {a b : Nat} (hb : b < (theFlow c).blocks.length) (hr : (theFlow c).reached.getD b false = true) : aboveK (idomL (theFlow c)) a ((idomL (theFlow c)).length + 1) b = true ↔ DomP (theFlow c) a b :=
  above_iff hf a _ b hb hr (Nat.le_trans (domN_le _ _) (by simp [idomL]))
/-- The law's 'leads': one block, one round, all rounds. -/
def stepG (f : FlowD) (g : List Int) (b : Int) : List Int := if b ∈ g then g else if ∃ z ∈ nxB f b, z ∈ g then g ++ [b] else g
def roundG (f : FlowD) (body g : List Int) : List Int := body.foldl (stepG f) g
def iterG (f : FlowD) (body : List Int) (h : Int) : Nat → List Int
  | 0 => [h]
  | n + 1 => roundG f body (iterG f body h n)
theorem stepG_sub {f : FlowD} {g : List Int} {b x : Int} (h : x ∈ g) : x ∈ stepG f g b := by
  unfold stepG
  split
  · exact h
  · split
    · exact List.mem_append_left _ h
    · exact h
theorem stepG_len (f : FlowD) (g : List Int) (b : Int) : g.length ≤ (stepG f g b).length := by
  unfold stepG
  split
  · exact Nat.le_refl _
  · split
    · simp
    · exact Nat.le_refl _
theorem roundG_sub {f : FlowD} {body : List Int} : ∀ {g : List Int} {x : Int}, x ∈ g → x ∈ roundG f body g := by
  induction body with
  | nil => intro g x h; exact h
  | cons b l ih => intro g x h; exact ih (stepG_sub h)
theorem roundG_len (f : FlowD) (body : List Int) : ∀ (g : List Int), g.length ≤ (roundG f body g).length := by
  induction body with
  | nil => intro g; exact Nat.le_refl _
  | cons b l ih => intro g; exact Nat.le_trans (stepG_len f g b) (ih _)
/-- A round that adds nothing. -/
theorem roundG_same {f : FlowD} {body : List Int} : ∀ {g : List Int}, (roundG f body g).length = g.length → ∀ b ∈ body, b ∈ g ∨ ∀ z ∈ nxB f b, z ∉ g := by
  induction body with
  | nil => intro g _ b hb; cases hb
  | cons a l ih =>
    intro g h b hb
    have h1 := stepG_len f g a
    have h2 := roundG_len f l (stepG f g a)
    have h3 : (roundG f l (stepG f g a)).length = g.length := h
    have h4 : stepG f g a = g ∧ (a ∈ g ∨ ∀ z ∈ nxB f a, z ∉ g) := by
      unfold stepG at h1 h2 h3 ⊢
      by_cases ha : a ∈ g
      · rw [if_pos ha]; exact ⟨rfl, .inl ha⟩
      · rw [if_neg ha] at h1 h2 h3 ⊢
        by_cases hz : ∃ z ∈ nxB f a, z ∈ g
        · rw [if_pos hz, List.length_append] at h2
          rw [if_pos hz] at h3
          simp at h2
          omega
        · rw [if_neg hz]
          exact ⟨rfl, .inr fun z h5 h6 => hz ⟨z, h5, h6⟩⟩
    rcases List.mem_cons.1 hb with rfl | hb
    · exact h4.2
    · rw [h4.1] at h3
      exact ih h3 b hb
theorem stepG_ok {f : FlowD} {body g : List Int} {b : Int} (hb : b ∈ body) (hn : g.Nodup) (hs : ∀ x ∈ g, x ∈ body) : (stepG f g b).Nodup ∧ ∀ x ∈ stepG f g b, x ∈ body := by
  unfold stepG
  split
  · exact ⟨hn, hs⟩
  · rename_i h1
    split
    · refine ⟨List.nodup_append.2 ⟨hn, by simp, fun x hx y hy => ?_⟩, fun x hx => ?_⟩
      · simp at hy; subst hy; rintro rfl; exact h1 hx
      · rcases List.mem_append.1 hx with h | h
        · exact hs x h
        · simp at h; subst h; exact hb
    · exact ⟨hn, hs⟩
theorem roundG_ok {f : FlowD} {body : List Int} : ∀ {l g : List Int}, (∀ b ∈ l, b ∈ body) → g.Nodup → (∀ x ∈ g, x ∈ body) → (roundG f l g).Nodup ∧ ∀ x ∈ roundG f l g, x ∈ body := by
  intro l
  induction l with
  | nil => intro g _ h1 h2; exact ⟨h1, h2⟩
  | cons b l ih =>
    intro g hl h1 h2
    obtain ⟨h3, h4⟩ := stepG_ok (f := f) (hl b List.mem_cons_self) h1 h2
    exact ih (fun x hx => hl x (List.mem_cons_of_mem _ hx)) h3 h4
theorem iterG_ok {f : FlowD} {body : List Int} {h : Int} (hh : h ∈ body) (n : Nat) : (iterG f body h n).Nodup ∧ ∀ x ∈ iterG f body h n, x ∈ body := by
  induction n with
  | zero => exact ⟨by simp [iterG], fun x hx => by simp [iterG] at hx; subst hx; exact hh⟩
  | succ n ih => exact roundG_ok (fun b hb => hb) ih.1 ih.2
theorem iterG_head {f : FlowD} {body : List Int} {h : Int} (n : Nat) : h ∈ iterG f body h n := by
  induction n with
  | zero => simp [iterG]
  | succ n ih => exact roundG_sub ih
theorem nodup_len {xs : List Int} : ∀ {ys : List Int}, xs.Nodup → (∀ x ∈ xs, x ∈ ys) → xs.length ≤ ys.length := by
  induction xs with
  | nil => intro ys _ _; simp
  | cons a l ih =>
    intro ys hx h
    obtain ⟨h1, h2⟩ := List.nodup_cons.1 hx
    have ha := h a List.mem_cons_self
    have h3 := ih (ys := ys.erase a) h2 fun x hxl => (List.mem_erase_of_ne (show x ≠ a from fun e => h1 (by rw [← e]; exact hxl))).2 (h x (List.mem_cons_of_mem _ hxl))
    rw [List.length_erase_of_mem ha] at h3
    have := List.length_pos_of_mem ha
    rw [List.length_cons]
    omega
/-- 'leads' says yes. -/
theorem leads_yes {f : FlowD} {body : List Int} {h : Int} (hh : h ∈ body) (hn : body.Nodup) (hl : ∀ P : Int → Prop, P h → (∀ b ∈ body, (∃ z ∈ nxB f b, P z) → P b) → ∀ y ∈ body, P y) : (iterG f body h body.length).length = body.length := by
  have key : ∀ n, (∀ y ∈ body, y ∈ iterG f body h n) ∨ n + 1 ≤ (iterG f body h n).length := by
    intro n
    induction n with
    | zero => exact .inr (by simp [iterG])
    | succ n ih =>
      rcases ih with h1 | h1
      · exact .inl fun y hy => roundG_sub (h1 y hy)
      · have h2 := roundG_len f body (iterG f body h n)
        by_cases h3 : (roundG f body (iterG f body h n)).length = (iterG f body h n).length
        · refine .inl fun y hy => roundG_sub ?_
          refine hl (· ∈ iterG f body h n) (iterG_head n) (fun b hb hz => ?_) y hy
          rcases roundG_same h3 b hb with h4 | h4
          · exact h4
          · obtain ⟨z, hz1, hz2⟩ := hz
            exact absurd hz2 (h4 z hz1)
        · refine .inr ?_
          show n + 1 + 1 ≤ (roundG f body (iterG f body h n)).length
          omega
  obtain ⟨h1, h2⟩ := iterG_ok (f := f) hh body.length
  have h3 := nodup_len h1 h2
  rcases key body.length with h4 | h4
  · have := nodup_len hn h4
    omega
  · omega
end Go.Proofs.YtififjlgjmgikaaGreat
