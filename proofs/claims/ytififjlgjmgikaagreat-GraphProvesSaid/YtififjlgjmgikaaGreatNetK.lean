/- The net of a proof as the program walks it, in plain Lean (no program). Maps whose keys are structs (graph's nodes and pairs of nodes). Deleting a key of a map; a map as a set of edges (no program). -/
import Derived.Test.YtififjlgjmgikaaGreatMengerA
import Derived.Test.YtififjlgjmgikaaGreatAroundW
import Derived.DeepKeys3
import Derived.Laws.StructEq
import Derived.ChangeMaps
namespace Go.Proofs.YtififjlgjmgikaaGreat
set_option linter.all false

/-- The nodes of a net. -/
def DN (f : FlowD) (i : Int) (x : Nd) : Prop := ((0 ≤ x.1 ∧ x.1 < f.blocks.length) ∨ x.1 = i) ∧ x ≠ (i, false)
def GN (f : FlowD) (i : Int) (x y : Nd) : Prop := NetG f i x y ∧ DN f i x
/-- One step of the program's walk. -/
def RN (f : FlowD) (i b : Int) (U : List (Nd × Nd)) (x y : Nd) : Prop := x ≠ (b, false) ∧ DN f i x ∧ ((y ∈ linksL f i x ∧ (x, y) ∉ U) ∨ (y, x) ∈ U)
theorem from_before {V : Type} [DecidableEq V] {R : V → V → Prop} {s t : V} (h : From R s t) : From (fun a b => a ≠ t ∧ R a b) s t := by
  have key : ∀ x, From R s x → From (fun a b => a ≠ t ∧ R a b) s x ∨ From (fun a b => a ≠ t ∧ R a b) s t := by
    intro x hx
    induction hx with
    | start => exact .inl .start
    | step _ h1 ih =>
      rename_i a y _
      rcases ih with k | k
      · by_cases e : a = t
        · subst e; exact .inr k
        · exact .inl (.step k ⟨e, h1⟩)
      · exact .inr k
  rcases key t h with k | k <;> exact k
theorem dn_src {f : FlowD} {i : Int} : DN f i (i, true) := ⟨.inr rfl, by simp⟩
theorem dn_net {f : FlowD} {i : Int} {x y : Nd} (h : DN f i x) (hy : y ∈ linksL f i x) : GN f i x y := ⟨⟨hy, h.1.imp (fun k => k.1) id, h.2⟩, h⟩
section
variable {c : CodeD} (hf : fineB c = true)
include hf
theorem dn_link {i : Int} (hi : i = -1 ∨ 0 ≤ i ∧ i < (theFlow c).blocks.length) {x y : Nd} (h : DN (theFlow c) i x) (hy : y ∈ linksL (theFlow c) i x) : DN (theFlow c) i y := by
  obtain ⟨x1, x2⟩ := x
  unfold linksL at hy
  obtain ⟨h1, h2⟩ := h
  simp only at hy h1
  by_cases e1 : x1 < 0
  · rw [if_pos e1] at hy
    obtain ⟨z, hz, rfl⟩ := List.mem_map.1 hy
    have := (entries_isE.1 hz).1
    exact ⟨.inl this, fun e => by injection e with e _; omega⟩
  · rw [if_neg e1] at hy
    have hx : 0 ≤ x1 ∧ x1 < (theFlow c).blocks.length := by
      rcases h1 with h1 | h1
      · exact h1
      · rcases hi with hi | hi <;> omega
    by_cases e2 : x2 = false
    · rw [if_pos e2] at hy
      simp at hy
      subst hy
      exact ⟨.inl hx, by simp⟩
    · rw [if_neg e2] at hy
      obtain ⟨z, hz, rfl⟩ := List.mem_map.1 hy
      obtain ⟨k1, k2⟩ := List.mem_filter.1 hz
      have k2 : z ≠ i := by simpa using k2
      refine ⟨.inl ?_, fun e => by injection e with e _; exact k2 e⟩
      refine (flow_nx hf _ ?_).1 z k1
      rw [List.getD_eq_getElem?_getD, List.getElem?_eq_getElem (show x1.toNat < (theFlow c).blocks.length by omega)]
      exact List.getElem_mem _
theorem rn_dn {i b : Int} (hi : i = -1 ∨ 0 ≤ i ∧ i < (theFlow c).blocks.length) {U : List (Nd × Nd)} (hG : ∀ e ∈ U, GN (theFlow c) i e.1 e.2) {x y : Nd} (h : RN (theFlow c) i b U x y) : DN (theFlow c) i y := by
  rcases h.2.2 with ⟨k, _⟩ | k
  · exact dn_link hf hi h.2.1 k
  · exact (hG _ k).2
omit hf in
theorem rn_resid {f : FlowD} {i b : Int} {U : List (Nd × Nd)} : ∀ x y, RN f i b U x y → Resid (GN f i) U x y := by
  intro x y h
  rcases h.2.2 with ⟨k1, k2⟩ | k
  · exact .inl ⟨dn_net h.2.1 k1, k2⟩
  · exact .inr k
/-- Where one more path can be led, the walk comes to the end. -/
theorem rn_from {i b : Int} (hi : i = -1 ∨ 0 ≤ i ∧ i < (theFlow c).blocks.length) {U : List (Nd × Nd)} (hG : ∀ e ∈ U, GN (theFlow c) i e.1 e.2) (h : From (Resid (NetG (theFlow c) i) U) ((i, true) : Nd) (b, false)) : From (RN (theFlow c) i b U) ((i, true) : Nd) (b, false) := by
  have h1 := from_before h
  have key : ∀ x, From (fun a b' => a ≠ ((b, false) : Nd) ∧ Resid (NetG (theFlow c) i) U a b') ((i, true) : Nd) x → From (RN (theFlow c) i b U) ((i, true) : Nd) x ∧ DN (theFlow c) i x := by
    intro x hx
    induction hx with
    | start => exact ⟨.start, dn_src⟩
    | step _ h1 ih =>
      have : RN (theFlow c) i b U _ _ := ⟨h1.1, ih.2, h1.2.imp (fun k => ⟨k.1.1, k.2⟩) id⟩
      exact ⟨.step ih.1 this, rn_dn hf hi hG this⟩
  exact (key _ h1).1
theorem net_i {i b : Int} (h : NetP (theFlow c) i b) : i = -1 ∨ 0 ≤ i ∧ i < (theFlow c).blocks.length := by
  rcases h.dom with ⟨h1, _⟩ | ⟨_, h1⟩
  · exact .inl h1
  · exact .inr (ra_pos hf h1.2.1.reached)
/-- The first and the second path can be led. -/
theorem rn_first {i b : Int} (h : NetP (theFlow c) i b) : From (RN (theFlow c) i b []) ((i, true) : Nd) (b, false) :=
  rn_from hf (net_i hf h) (fun e he => by cases he) (cut_zero (net_first h))
theorem rn_second {i b : Int} (h : NetP (theFlow c) i b) {U : List (Nd × Nd)} (hU : FlowK ((i, true) : Nd) (b, false) 1 U) (hG : ∀ e ∈ U, GN (theFlow c) i e.1 e.2) : From (RN (theFlow c) i b U) ((i, true) : Nd) (b, false) :=
  rn_from hf (net_i hf h) hG (net_more h hU fun e he => (hG e he).1)
end
end Go.Proofs.YtififjlgjmgikaaGreat
namespace Go.Proofs.YtififjlgjmgikaaGreat
set_option linter.all false
open Go.RowKit

/-- Keys of a struct type: found as they are compared. -/
theorem ask_find {κ : Type} [DecidableEq κ] {P : Program} {T : TypeId} {enc : κ → Value} (heq : ∀ (w : World) (a b : κ), (Op.equal T (enc a) (enc b)).run P w = .ok (decide (a = b)) w) (w : World) (k : κ) :
    ∀ (es : List MapEntry) (l : List (κ × Value)) (i : Nat), es.map (fun e => (e.key, e.val)) = l.map (fun p => (enc p.1, p.2)) → (Instr.findAsking T (enc k) es i).run P w = .ok (findL l k i) w := by
  intro es
  induction es with
  | nil =>
    intro l i h
    cases l with
    | nil => simp [Instr.findAsking, findL]
    | cons p l => simp at h
  | cons e es ih =>
    intro l i h
    cases l with
    | nil => simp at h
    | cons p l =>
      simp only [List.map_cons, List.cons.injEq, Prod.mk.injEq] at h
      obtain ⟨⟨h1, h2⟩, h3⟩ := h
      have e1 := heq w k p.1
      rw [← h1] at e1
      by_cases hk : k = p.1
      · subst hk
        simp only [decide_true] at e1
        simp [Instr.findAsking, findL, Sem.run_bind, e1, h2]
      · simp [Instr.findAsking, findL, Sem.run_bind, e1, hk, ih l (i + 1) h3]
def nd (x : Nd) : Value := .agg #[.int .i64 x.1, .bool x.2]
theorem nd_inj : ∀ a b, nd a = nd b → a = b := by
  rintro ⟨a1, a2⟩ ⟨b1, b2⟩ h
  unfold nd at h
  injection h with h
  injection h with h
  injection h with h1 h
  injection h with h2 h
  injection h1 with _ h1
  injection h2 with h2
  simp only at h1 h2
  rw [h1, h2]
theorem nd_check (w : World) (em : Bool) (k : Nd) : (Instr.checkKey em 10000 166 (nd k)).run Tryz.prog w = .ok () w := by kernel_rfl
theorem nd_stays (w : World) (k : Nd) : (Instr.keyThatStays (nd k) (nd k)).run Tryz.prog w = .ok (nd k) w := by
  simp [Instr.keyThatStays, Instr.sameBits, nd]

/-- A struct of an int and a bool, as it is compared. -/
theorem eq_two {P : Program} {w : World} {T : TypeId} {f0 f1 : Field} (ht : P.underlying T = some (.struct (P.fieldsOf T))) (hp : P.stoodInHeld T = false) (hF : (P.fieldsOf T).toList = [f0, f1])
    (n0 : (f0.name == "_") = false) (n1 : (f1.name == "_") = false) (o0 : f0.offset = 0) (o1 : f1.offset = 1) (u0 : P.underlying f0.type = some (.int .i64)) (u1 : P.underlying f1.type = some .bool) (d : Nat) (x y : Int) (b c : Bool) :
    (Op.equalIn (d + 2) T (.agg #[.int .i64 x, .bool b]) (.agg #[.int .i64 y, .bool c])).run P w = .ok (x == y && b == c) w := by
  have p0 : P.plainKey f0.type = true := by unfold Program.plainKey; rw [u0]
  have p1 : P.plainKey f1.type = true := by unfold Program.plainKey; rw [u1]
  have m0 : f0.name ≠ "_" := by simpa using n0
  have m1 : f1.name ≠ "_" := by simpa using n1
  have q0 : ∀ (x : Int) (b : Bool), (part f0.type #[.int .i64 x, .bool b] 0).run P w = .ok (.int .i64 x) w := fun x b => run_part_plain w p0 rfl
  have q1 : ∀ (x : Int) (b : Bool), (part f1.type #[.int .i64 x, .bool b] 1).run P w = .ok (.bool b) w := fun x b => run_part_plain w p1 rfl
  rw [run_equalIn_struct w (d + 1) T _ _ ht hp, hF]
  simp only [Op.eqFields]
  rw [if_pos m0, if_pos m1, o0, o1]
  simp only [Sem.run_bind, q0, q1, Result.andThen_ok, run_equalIn_int w d _ _ _ _ _ u0, run_equalIn_bool' w d _ _ _ u1]
  cases (x == y)
  · simp
  · simp only [Bool.not_true, Bool.false_eq_true, if_false, Bool.true_and, Sem.run_bind, q1, Result.andThen_ok, run_equalIn_bool' w d _ _ _ u1]
    cases (b == c) <;> simp
theorem nd_eqIn (d : Nat) (w : World) (a b : Nd) : (Op.equalIn (d + 2) 166 (nd a) (nd b)).run Tryz.prog w = .ok (decide (a = b)) w := by
  have h := eq_two (P := Tryz.prog) (w := w) (T := 166) (f0 := ((Tryz.prog.fieldsOf 166).toList).getD 0 default) (f1 := ((Tryz.prog.fieldsOf 166).toList).getD 1 default)
    (by kernel_rfl) (by kernel_rfl) (by kernel_rfl) (by kernel_rfl) (by kernel_rfl) (by kernel_rfl) (by kernel_rfl) (by kernel_rfl) (by kernel_rfl) d a.1 b.1 a.2 b.2
  have k : (a.1 == b.1 && a.2 == b.2) = decide (a = b) := by
    obtain ⟨a1, a2⟩ := a
    obtain ⟨b1, b2⟩ := b
    rw [Bool.eq_iff_iff]
    simp
  rw [k] at h
  exact h
theorem nd_eq (w : World) (a b : Nd) : (Op.equal 166 (nd a) (nd b)).run Tryz.prog w = .ok (decide (a = b)) w := by
  have h := nd_eqIn 9998 w a b
  rw [show (9998 + 2 : Nat) = 10000 from rfl] at h
  unfold Op.equal Op.maxDepth
  exact h
theorem nd_key : KeyK Tryz.prog 166 nd where
  check := nd_check
  find := fun w k es l h => by
    rw [run_findKey_eq w (by kernel_rfl)]
    exact ask_find nd_eq w k es l 0 h
  stays := nd_stays
/-- A pair of nodes, as a key. -/
abbrev Pr := Nd × Nd
def pr (e : Pr) : Value := .agg #[.int .i64 e.1.1, .bool e.1.2, .int .i64 e.2.1, .bool e.2.2]
theorem pr_inj : ∀ a b, pr a = pr b → a = b := by
  rintro ⟨⟨a1, a2⟩, a3, a4⟩ ⟨⟨b1, b2⟩, b3, b4⟩ h
  simp [pr] at h
  obtain ⟨rfl, rfl, rfl, rfl⟩ := h
  rfl
theorem pr_part0 (w : World) (a c : Int) (b d : Bool) : (part 166 #[.int .i64 a, .bool b, .int .i64 c, .bool d] 0).run Tryz.prog w = .ok (nd (a, b)) w := by kernel_rfl
theorem pr_part1 (w : World) (a c : Int) (b d : Bool) : (part 166 #[.int .i64 a, .bool b, .int .i64 c, .bool d] 2).run Tryz.prog w = .ok (nd (c, d)) w := by kernel_rfl
theorem pr_eq (w : World) (a b : Pr) : (Op.equal 171 (pr a) (pr b)).run Tryz.prog w = .ok (decide (a = b)) w := by
  have hs : (Tryz.prog.info? 166).isSome = true := by kernel_rfl
  obtain ⟨i, hi⟩ := Option.isSome_iff_exists.1 hs
  have hc : Tryz.prog.cellsOf 166 = 2 := by kernel_rfl
  have hr : List.range 2 = [0, 1] := rfl
  have h := run_equalIn_array (P := Tryz.prog) w 9999 (t := 171) (e := 166) (n := 2) #[.int .i64 a.1.1, .bool a.1.2, .int .i64 a.2.1, .bool a.2.2] #[.int .i64 b.1.1, .bool b.1.2, .int .i64 b.2.1, .bool b.2.2] (by kernel_rfl) hi
  unfold pr
  refine Eq.trans h ?_
  rw [hc, hr]
  obtain ⟨⟨a1, a2⟩, a3, a4⟩ := a
  obtain ⟨⟨b1, b2⟩, b3, b4⟩ := b
  have e1 := nd_eqIn 9997 w (a1, a2) (b1, b2)
  have e2 := nd_eqIn 9997 w (a3, a4) (b3, b4)
  rw [show (9997 + 2 : Nat) = 9999 from rfl] at e1 e2
  simp only [Op.eqItems, Sem.run_bind, Nat.zero_mul, Nat.one_mul, pr_part0, pr_part1, Result.andThen_ok, e1]
  by_cases h1 : ((a1, a2) : Nd) = (b1, b2)
  · have k1 : decide (((a1, a2), a3, a4) = (((b1, b2), b3, b4) : Pr)) = decide (((a3, a4) : Nd) = (b3, b4)) := by rw [h1]; simp
    rw [k1, decide_eq_true h1]
    simp only [Bool.not_true, Bool.false_eq_true, if_false, Sem.run_bind, pr_part0, pr_part1, Result.andThen_ok, e2]
    cases decide (((a3, a4) : Nd) = (b3, b4)) <;> simp
  · have k1 : decide (((a1, a2), a3, a4) = (((b1, b2), b3, b4) : Pr)) = false := by
      rw [decide_eq_false_iff_not]
      intro e
      injection e with e _
      exact h1 e
    rw [k1, decide_eq_false h1]
    simp
theorem pr_check (w : World) (em : Bool) (k : Pr) : (Instr.checkKey em 10000 171 (pr k)).run Tryz.prog w = .ok () w := by kernel_rfl
theorem pr_stays (w : World) (k : Pr) : (Instr.keyThatStays (pr k) (pr k)).run Tryz.prog w = .ok (pr k) w := by
  simp [Instr.keyThatStays, Instr.sameBits, pr]
theorem pr_key : KeyK Tryz.prog 171 pr where
  check := pr_check
  find := fun w k es l h => by
    rw [run_findKey_eq w (by kernel_rfl)]
    exact ask_find pr_eq w k es l 0 h
  stays := pr_stays
end Go.Proofs.YtififjlgjmgikaaGreat
namespace Go.Proofs.YtififjlgjmgikaaGreat
set_option linter.all false
open Go.RowKit

section
variable {κ : Type} [DecidableEq κ]
theorem mget_iff {l : List (κ × Value)} (hn : (l.map (·.1)).Nodup) {k : κ} {v : Value} : mget l k = some v ↔ (k, v) ∈ l := by
  unfold mget
  constructor
  · intro h
    obtain ⟨⟨j, u⟩, h1, h2⟩ := Option.map_eq_some_iff.1 h
    simp only at h2
    subst h2
    exact List.mem_of_getElem? (findL_some h1)
  · intro h
    cases e : findL l k 0 with
    | none => exact absurd rfl (findL_none.1 e _ h)
    | some q =>
      obtain ⟨j, u⟩ := q
      have h1 := findL_some e
      obtain ⟨i, hi⟩ := List.getElem?_of_mem h
      have hil := (List.getElem?_eq_some_iff.1 hi).1
      have e1 : (l.map (·.1))[i]? = some k := by rw [List.getElem?_map, hi]; rfl
      have e2 : (l.map (·.1))[j]? = some k := by rw [List.getElem?_map, h1]; rfl
      have hij : i = j := (List.getElem?_inj (by simpa using hil) hn).1 (e1.trans e2.symm)
      subst hij
      rw [hi] at h1
      injection h1 with h1
      injection h1 with _ h1
      simp [h1]
theorem eraseIdx_mp {α β : Type} (f : α → β) : ∀ (l : List α) (j : Nat), (l.eraseIdx j).map f = (l.map f).eraseIdx j
  | [], _ => by simp
  | _ :: _, 0 => by simp
  | a :: r, j + 1 => by simp [eraseIdx_mp f r j]
def mdel (l : List (κ × Value)) (k : κ) : List (κ × Value) := match findL l k 0 with | some (i, _) => l.eraseIdx i | none => l
theorem mdel_filter {l : List (κ × Value)} (hn : (l.map (·.1)).Nodup) (k : κ) : mdel l k = l.filter fun p => !decide (p.1 = k) := by
  unfold mdel
  cases e : findL l k 0 with
  | none =>
    have h := findL_none.1 e
    simp only
    rw [List.filter_eq_self.2]
    intro p hp
    simpa using h p hp
  | some q =>
    obtain ⟨i, u⟩ := q
    simp only
    refine (Go.ChangeMaps.filter_eq_eraseIdx (fun p : κ × Value => decide (p.1 = k)) l i _ (findL_some e) (by simp) ?_).symm
    have := List.pairwise_map.1 hn
    refine this.imp fun {a b} hab h => ?_
    simp only [decide_eq_true_eq] at h
    exact hab (h.1.trans h.2.symm)
theorem mdel_mem {l : List (κ × Value)} (hn : (l.map (·.1)).Nodup) {k : κ} {p : κ × Value} : p ∈ mdel l k ↔ p ∈ l ∧ p.1 ≠ k := by
  rw [mdel_filter hn]
  simp
theorem MapL.delete {P : Program} {enc : κ → Value} {w : World} {b : Nat} {l : List (κ × Value)} (h : MapL enc w b l) {T K E : TypeId} (hT : P.underlying T = some (.map K E)) (hK : KeyK P K enc) (k : κ) (ty : TypeId) :
    ∃ w', (Builtin.delete_ #[T, K] ty #[.map (some b), enc k]).run P w = .ok (.tuple #[]) w' ∧ MapL enc w' b (mdel l k) ∧ w.grownBy w' (some b) := by
  obtain ⟨es, clock, h1, h2, h3, h4, h5⟩ := h
  have hlt := (Array.getElem?_eq_some_iff.1 h1).1
  have hu : (underlying T).run P w = .ok (.map K E) w := run_underlying hT w
  have hg : (getObj b).run P w = .ok (.map es clock) w := by simp [getObj, Sem.run, h1]
  have hc := hK.check w es.isEmpty k
  have hf := hK.find w k es.toList l h2
  have hset : ∀ o, (setObj b o).run P w = .ok () { w with heap := w.heap.setIfInBounds b o } := by intro o; simp [setObj, Sem.run, h1]
  have hgr : ∀ o, w.grownBy { w with heap := w.heap.setIfInBounds b o } (some b) := fun o =>
    ⟨rfl, rfl, rfl, by simp, fun j _ hj => by
      have hne : b ≠ j := fun e => hj (by rw [e])
      simp [Array.getElem?_setIfInBounds, hne]⟩
  have hat : ∀ o, ({ w with heap := w.heap.setIfInBounds b o } : World).heap[b]? = some o := fun o => by simp [hlt]
  cases e : findL l k 0 with
  | none =>
    have hm : mdel l k = l := by simp [mdel, e]
    rw [hm]
    refine ⟨_, ?_, ⟨es, clock, hat _, h2, h3, h4, h5⟩, hgr _⟩
    simp [Builtin.delete_, Sem.run_bind, hu, Result.andThen, hg, hc, hf, e, hset]
  | some q =>
    obtain ⟨i, u⟩ := q
    have hs : (es.eraseIdxIfInBounds i).toList = es.toList.eraseIdx i := by
      unfold Array.eraseIdxIfInBounds
      split
      · simp
      · rename_i hi
        rw [List.eraseIdx_of_length_le (by simpa using hi)]
    refine ⟨_, ?_, ⟨es.eraseIdxIfInBounds i, clock, hat _, ?_, ?_, ?_, ?_⟩, hgr _⟩
    · simp [Builtin.delete_, Sem.run_bind, hu, Result.andThen, hg, hc, hf, e, hset]
    · simp only [mdel, e]
      rw [hs, eraseIdx_mp, eraseIdx_mp, h2]
    · simp only [mdel, e]
      exact ((List.eraseIdx_sublist _ _).map _).nodup h3
    · rw [hs]
      exact fun x hx => h4 x ((List.eraseIdx_sublist _ _).subset hx)
    · rw [hs]
      exact ((List.eraseIdx_sublist _ _).map _).nodup h5
/-- Block b is a map that holds true for just the keys of U. -/
def MapU (enc : κ → Value) (w : World) (b : Nat) (U : List κ) : Prop := ∃ l, MapL enc w b l ∧ ∀ k v, (k, v) ∈ l ↔ k ∈ U ∧ v = .bool true
theorem MapU.get {enc : κ → Value} {w : World} {b : Nat} {U : List κ} (h : MapU enc w b U) : ∃ l, MapL enc w b l ∧ (∀ k v, (k, v) ∈ l ↔ k ∈ U ∧ v = .bool true) ∧ ∀ k, mget l k = if k ∈ U then some (.bool true) else none := by
  obtain ⟨l, hM, hl⟩ := h
  have hn : (l.map (·.1)).Nodup := by obtain ⟨_, _, _, _, h, _⟩ := hM; exact h
  refine ⟨l, hM, hl, fun k => ?_⟩
  by_cases hk : k ∈ U
  · rw [if_pos hk]
    exact (mget_iff hn).2 ((hl k _).2 ⟨hk, rfl⟩)
  · rw [if_neg hk]
    cases e : mget l k with
    | none => rfl
    | some v => exact absurd ((hl k v).1 ((mget_iff hn).1 e)).1 hk
theorem MapU.put {enc : κ → Value} {w w' : World} {b : Nat} {U : List κ} {l : List (κ × Value)} (hl : ∀ k v, (k, v) ∈ l ↔ k ∈ U ∧ v = .bool true) (hM : MapL enc w b l) {k : κ} (h : MapL enc w' b (mput l k (.bool true))) : MapU enc w' b (U ++ [k]) := by
  refine ⟨_, h, fun k' v => ?_⟩
  have hn : (l.map (·.1)).Nodup := by obtain ⟨_, _, _, _, h, _⟩ := hM; exact h
  have hn' : ((mput l k (.bool true)).map (·.1)).Nodup := by obtain ⟨_, _, _, _, h, _⟩ := h; exact h
  rw [← mget_iff hn', mget_put, List.mem_append, List.mem_singleton]
  by_cases e : k' = k
  · subst e
    simp [eq_comm]
  · rw [if_neg e, mget_iff hn, hl]
    simp [e]
theorem MapU.of_block {enc : κ → Value} {w w' : World} {b : Nat} {U : List κ} (h : MapU enc w b U) (k : w'.heap[b]? = w.heap[b]?) : MapU enc w' b U := by
  obtain ⟨l, h1, h2⟩ := h
  exact ⟨l, h1.of_block k, h2⟩
theorem MapU.lt {enc : κ → Value} {w : World} {b : Nat} {U : List κ} (h : MapU enc w b U) : b < w.heap.size := by
  obtain ⟨l, h1, _⟩ := h
  exact h1.lt
end
end Go.Proofs.YtififjlgjmgikaaGreat
