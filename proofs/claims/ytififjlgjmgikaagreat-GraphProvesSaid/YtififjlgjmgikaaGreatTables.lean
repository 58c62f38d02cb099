/- code.tables: whether the tables of a code are well-formed. -/
import Derived.Test.YtififjlgjmgikaaGreatSlicesW
import Derived.Lib.ConvBytes
import Derived.Lib.AtoiErrMem
namespace Go.Proofs.YtififjlgjmgikaaGreat
set_option linter.all false
open Go.RowKit

def placeB (c : CodeD) (n : Int) : Bool := withinB n 0 ((c.instrs.length : Int) - 1)
def leastI (p : ProcD) : Int := if p.type = 0 then p.params else wrap64 (p.params + 1)
def procB (c : CodeD) (p : ProcD) : Bool := placeB c p.entry && withinB p.params 0 8 && (p.type == 0 || isTypeB p.type) && withinB p.slots (leastI p) 2000
def thunkB (c : CodeD) (t : ThunkD) : Bool := (t.value == -1 || placeB c t.value) && (t.address == -1 || placeB c t.address) && (t.desig == -1 || placeB c t.desig)
def switchB (c : CodeD) (l : List Int) : Bool := withinB l.length 1 2000 && !(l.any fun n => !placeB c n)
def strOdd (s : ByteArray) : Bool := (s.data.toList.map fun b => (b.toNat : Int)).any oddB
def strB (s : ByteArray) : Bool := decide (s.size ≤ 80) && !strOdd s
def realB2 (x : RealD) : Bool := realB x && decide (0 ≤ x.man)
def ownB (t : Int) : Bool := t == 0 || isTypeB t
def tablesB (c : CodeD) : Bool := c.procs.all (procB c) && c.thunks.all (thunkB c) && c.switches.all (switchB c) && c.strings.all strB && c.reals.all realB2 && c.owns.all ownB
def errOf (b : Bool) : Int := if b then 0 else 3

theorem predV_tables2 (H : PH) (b b1 : Nat) (A : Option Addr) (n cap : Nat) (hn : n ≤ 140737488351232) (arr : Array Value) (T1 T2 : TypeId) (h0 : H b = some (.cells arr T1 (0, 0))) (harr : arr[0]? = some (.slice A n cap))
    (h1 : H b1 = some (.cells #[.func (.func 145) #[] #[.pointer (some ⟨b, 0, none⟩)]] T2 (0, 0))) :
    PredV H .i64 (.func (.func 147) #[] #[.pointer (some ⟨b1, 0, none⟩)]) (fun _ => True) fun x => !withinB x 0 ((n : Int) - 1) := by
  refine ⟨_, _, rfl, enters_mk Tryz.func147 (by kernel_rfl) rfl, fun w' H' x hl hs _ => ?_⟩
  refine (code_tables2 x b b1 A n cap hn w' ?_ ?_).mono ?_
  · rw [cell_of_PH hs (hl _ _ h0)]; exact harr
  · rw [cell_of_PH hs (hl _ _ h1)]; rfl
  · rintro e w'' ⟨rfl, rfl⟩; exact ⟨rfl, Below.refl _ _⟩
theorem predV_tables3 (H : PH) : PredV H .u8 (.func (.func 148) #[] #[]) (fun _ => True) oddB := by
  refine ⟨_, _, rfl, enters_mk Tryz.func148 (by kernel_rfl) rfl, fun w' H' x hl hs _ => ?_⟩
  refine (code_tables3 x w').mono ?_
  rintro e w'' ⟨rfl, rfl⟩; exact ⟨rfl, Below.refl _ _⟩

theorem tab_false {c : CodeD} (h : (∃ (j : Nat) (p : ProcD), c.procs[j]? = some p ∧ procB c p = false) ∨ (∃ (j : Nat) (p : ThunkD), c.thunks[j]? = some p ∧ thunkB c p = false) ∨
    (∃ (j : Nat) (p : List Int), c.switches[j]? = some p ∧ switchB c p = false) ∨ (∃ (j : Nat) (p : ByteArray), c.strings[j]? = some p ∧ strB p = false) ∨
    (∃ (j : Nat) (p : RealD), c.reals[j]? = some p ∧ realB2 p = false) ∨ (∃ (j : Nat) (p : Int), c.owns[j]? = some p ∧ ownB p = false)) : errOf (tablesB c) = 3 := by
  have key : ∀ {α : Type} (l : List α) (f : α → Bool), (∃ (j : Nat) (p : α), l[j]? = some p ∧ f p = false) → l.all f = false := by
    intro α l f ⟨j, p, h1, h2⟩
    rw [List.all_eq_false]
    exact ⟨p, List.mem_of_getElem? h1, by simp [h2]⟩
  have : tablesB c = false := by
    unfold tablesB
    rcases h with h | h | h | h | h | h <;> simp [key _ _ h]
  simp [this, errOf]
theorem tab_true {c : CodeD} (h1 : ∀ (j : Nat) (p : ProcD), c.procs[j]? = some p → procB c p = true) (h2 : ∀ (j : Nat) (p : ThunkD), c.thunks[j]? = some p → thunkB c p = true)
    (h3 : ∀ (j : Nat) (p : List Int), c.switches[j]? = some p → switchB c p = true) (h4 : ∀ (j : Nat) (p : ByteArray), c.strings[j]? = some p → strB p = true)
    (h5 : ∀ (j : Nat) (p : RealD), c.reals[j]? = some p → realB2 p = true) (h6 : ∀ (j : Nat) (p : Int), c.owns[j]? = some p → ownB p = true) : errOf (tablesB c) = 0 := by
  have key : ∀ {α : Type} (l : List α) (f : α → Bool), (∀ (j : Nat) (p : α), l[j]? = some p → f p = true) → l.all f = true := by
    intro α l f h
    rw [List.all_eq_true]
    intro x hx
    obtain ⟨j, hj⟩ := List.getElem?_of_mem hx
    exact h j x hj
  have : tablesB c = true := by simp [tablesB, key _ _ h1, key _ _ h2, key _ _ h3, key _ _ h4, key _ _ h5, key _ _ h6]
  simp [this, errOf]
/-- One round more of a search that has found nothing. -/
theorem no_more {α : Type} {l : List α} {f : α → Bool} {k : Nat} {x : α} (h : ∀ (j : Nat) (p : α), j < k → l[j]? = some p → f p = true) (hk : l[k]? = some x) (hx : f x = true) :
    ∀ (j : Nat) (p : α), j < k + 1 → l[j]? = some p → f p = true := by
  intro j p hj hp
  by_cases e : j = k
  · subst e; rw [hk] at hp; cases hp; exact hx
  · exact h j p (by omega) hp
theorem no_all {α : Type} {l : List α} {f : α → Bool} {k : Nat} (h : ∀ (j : Nat) (p : α), j < k → l[j]? = some p → f p = true) (hk : ¬ k < l.length) : ∀ (j : Nat) (p : α), l[j]? = some p → f p = true :=
  fun j p hp => h j p (by have := (List.getElem?_eq_some_iff.1 hp).1; omega) hp
theorem print_conv (s : ByteArray) (W : World) : (convert 9 185 (.string s)).run Tryz.prog W = .ok (.slice (some ⟨W.heap.size, 0, none⟩) s.size (grownCap W s.size 0 5)) (Lib.bytesWorld W 5 s) :=
  Lib.run_convert_string_bytes W _ _ _ s Tryz.underlying9 Tryz.underlying185 Tryz.underlying5
theorem bytes_slV (H : PH) (w : World) (e : TypeId) (s : ByteArray) (cap : Nat) (hs : s.size ≤ 140737488351232) (hc : s.size ≤ cap) :
    SlV rU8 (extH H w (Lib.bytesWorld w e s)) (.slice (some ⟨w.heap.size, 0, none⟩) s.size cap) (s.data.toList.map fun b => (b.toNat : Int)) := by
  have hl : (s.data.toList.map fun b => (b.toNat : Int)).length = s.size := by rw [List.length_map, Array.length_toList]; rfl
  refine ⟨_, cap, by rw [hl], by rw [hl]; exact hc, by rw [hl]; exact hs, fun i x hi => ?_⟩
  refine ⟨_, _, [.int .u8 x], rfl, ⟨rfl, _, _, _, extH.new (Nat.le_refl _) (Lib.bytesWorld_at_new w e s), ?_⟩, rfl, ?_⟩
  · intro j u hj
    have hj0 : j = 0 := by
      have := (List.getElem?_eq_some_iff.1 hj).1
      simp at this
      exact this
    subst hj0
    have hil : i < s.size := by
      have := (List.getElem?_eq_some_iff.1 hi).1
      rwa [hl] at this
    have h1 := Lib.bytesWorld_cell w e s i hil
    have h2 := cell_blk (Lib.bytesWorld_at_new w e s) i
    rw [h1] at h2
    have hd : i < s.data.toList.length := by rw [Array.length_toList]; exact hil
    simp only [List.getElem?_map, List.getElem?_eq_getElem hd, Option.map_some, Option.some.injEq] at hi
    subst hi
    cases hj
    simp only [rU8, Nat.mul_one, Nat.add_zero, Nat.zero_add]
    rw [← h2]
    simp [List.getD_eq_getElem?_getD, List.getElem?_eq_getElem hd]
  · obtain ⟨b, _, rfl⟩ := List.mem_map.1 (List.mem_of_getElem? hi)
    have := b.toNat_lt
    omega
theorem idx3_0 (x y z : Int) (w : World) : (Instr.index 152 (.agg #[.int .i64 x, .int .i64 y, .int .i64 z]) (.int .i64 0)).run Tryz.prog w = .ok (.int .i64 x) w := by kernel_rfl
theorem idx3_1 (x y z : Int) (w : World) : (Instr.index 152 (.agg #[.int .i64 x, .int .i64 y, .int .i64 z]) (.int .i64 1)).run Tryz.prog w = .ok (.int .i64 y) w := by kernel_rfl
theorem idx3_2 (x y z : Int) (w : World) : (Instr.index 152 (.agg #[.int .i64 x, .int .i64 y, .int .i64 z]) (.int .i64 2)).run Tryz.prog w = .ok (.int .i64 z) w := by kernel_rfl
theorem ret_pair {a b : Int} {v : Value} (h : a = b) : Ending.returned (.tuple #[.int .i64 a, v]) = .returned (.tuple #[.int .i64 b, v]) := by rw [h]

set_option maxHeartbeats 4000000 in
set_option maxRecDepth 100000 in
theorem code_tables (H : PH) (v : Value) (c : CodeD) (w : World) (hw : Sees w H) (hc : CodeV H v c) :
    Calls Tryz.prog 119 #[v] w fun e w' => (∃ i : Int, e = .returned (.tuple #[.int .i64 (errOf (tablesB c)), .int .i64 i])) ∧ Below w.heap.size w w' := by
  obtain ⟨s0, s1, s2, s3, s4, s5, s6, rfl, hc⟩ := hc
  obtain ⟨A0, c0, rfl, k0, -⟩ := hc.instrs.open_
  have b0 := hc.instrs.le
  obtain ⟨A1, c1, rfl, k1, -⟩ := hc.procs.open_
  have b1 := hc.procs.le
  obtain ⟨A2, c2, rfl, k2, -⟩ := hc.thunks.open_
  have b2 := hc.thunks.le
  obtain ⟨A3, c3, rfl, k3, -⟩ := hc.switches.open_
  have b3 := hc.switches.le
  obtain ⟨A4, c4, rfl, k4, -⟩ := hc.strings.open_
  have b4 := hc.strings.le
  obtain ⟨A5, c5, rfl, k5, -⟩ := hc.reals.open_
  have b5 := hc.reals.le
  obtain ⟨A6, c6, rfl, k6, -⟩ := hc.owns.open_
  have b6 := hc.owns.le
  have hmf : ∀ (fn : Fn) (first cap : Array Value) (w : World), (Instr.makeFunc fn first cap).run Tryz.prog w = .ok (.func fn first cap) w := fun _ _ _ _ => rfl
  go_enter Tryz.func119, Tryz.ntmps119
  go_wp2
  refine wp_name fun w1 hw1 => ?_
  have hbox : w1.heap[w.heap.size]? = some (.cells #[.slice A0 c.instrs.length c0, .slice A1 c.procs.length c1, .slice A2 c.thunks.length c2, .slice A3 c.switches.length c3, .slice A4 c.strings.length c4, .slice A5 c.reals.length c5, .slice A6 c.owns.length c6] 30 (0, 0)) := by rw [hw1]; exact ga_old (ga_new _ _)
  have hfun : w1.heap[w.heap.size + 1]? = some (.cells #[.func (.func 145) #[] #[.pointer (some ⟨w.heap.size, 0, none⟩)]] 102 (0, 0)) := by rw [hw1]; have := ga_new (w.alloc (.cells #[.slice A0 c.instrs.length c0, .slice A1 c.procs.length c1, .slice A2 c.thunks.length c2, .slice A3 c.switches.length c3, .slice A4 c.strings.length c4, .slice A5 c.reals.length c5, .slice A6 c.owns.length c6] 30)) (.cells #[.func (.func 145) #[] #[.pointer (some ⟨w.heap.size, 0, none⟩)]] 102); rwa [World.size_alloc] at this
  have hB1 : Below w.heap.size w w1 := by rw [hw1]; exact ((Below.refl _ _).alloc (Nat.le_refl _) _).alloc (by simp) _
  have hs1 := hw.below hB1
  have q0 : w1.cell? ⟨w.heap.size, 0, none⟩ = some (.slice A0 c.instrs.length c0) := cell_blk hbox 0
  have qf : w1.cell? ⟨w.heap.size + 1, 0, none⟩ = some (.func (.func 145) #[] #[.pointer (some ⟨w.heap.size, 0, none⟩)]) := cell_blk hfun 0
  have q2 : w1.cell? ⟨w.heap.size, 2, none⟩ = some (.slice A2 c.thunks.length c2) := cell_blk hbox 2
  have q3 : w1.cell? ⟨w.heap.size, 3, none⟩ = some (.slice A3 c.switches.length c3) := cell_blk hbox 3
  have q4 : w1.cell? ⟨w.heap.size, 4, none⟩ = some (.slice A4 c.strings.length c4) := cell_blk hbox 4
  have q5 : w1.cell? ⟨w.heap.size, 5, none⟩ = some (.slice A5 c.reals.length c5) := cell_blk hbox 5
  have q6 : w1.cell? ⟨w.heap.size, 6, none⟩ = some (.slice A6 c.owns.length c6) := cell_blk hbox 6
  clear hw1
  go_loopw [25] (fun i wr => ∃ k : Nat, k ≤ c.procs.length ∧ i = .int .i64 k ∧ (∀ (j : Nat) (p : ProcD), j < k → c.procs[j]? = some p → procB c p = true) ∧ Below w1.heap.size w1 wr) (fun i _ => c.procs.length - (intOf i).toNat)
  case atStart => exact ⟨0, Nat.zero_le _, rfl, fun j x h => by omega, Below.refl _ _⟩
  case round =>
    obtain ⟨k, hk, rfl, hno, hB⟩ := hrel
    have hno' := Lib.hid hno; clear hno
    have r0 := cell_keep hB q0
    have rf := cell_keep hB qf
    have r2 := cell_keep hB q2
    have l0 : w.heap.size < wr.heap.size := World.block_lt_of_cell? wr _ r0
    have lf : w.heap.size + 1 < wr.heap.size := World.block_lt_of_cell? wr _ rf
    have hsee : Sees wr H := hs1.below hB
    by_cases hlt : k < c.procs.length
    · obtain ⟨b, off, c', hA, -, hb, hcell, hint⟩ := hc.procs.procs (by omega)
      cases hA
      obtain ⟨x0, x1, x2, x3, x4⟩ := hcell wr hsee k hlt
      obtain ⟨y0, y1, y2, y3⟩ := hint k hlt
      have hx : c.procs[k]? = some (c.procs.getD k default) := by simp [hlt]
      generalize c.procs.getD k default = p at *
      clear hcell hint
      have hbl := hsee.lt' hb
      have hH := Lib.hid hx; clear hx
      obtain ⟨pe, pp, pt, ps, pd⟩ := p
      (try dsimp only at *)
      unfold I64 at *
      by_cases h0 : pt = 0
      all_goals go_wp2_with (first | (go_at_call 145; refine (code_tables1 _ _ _ _ _ b0 _ (cell_al r0)).mono ?_; rintro e w' ⟨rfl, rfl⟩) | (go_at_call 127; refine (code_within _ _ _ _).mono ?_; rintro e w' ⟨rfl, rfl⟩) | (go_at_call 146; refine (code_isType _ _).mono ?_; rintro e w' ⟨rfl, rfl⟩))
      all_goals first
        | (have hpt : procB c ⟨pe, pp, pt, ps, pd⟩ = true := by (try simp only [Bool.not_eq_true', Bool.not_eq_false', bne_iff_ne, ne_eq, bne_eq_false_iff_eq] at *); simp [procB, placeB, leastI, h0, *]
           exact ⟨⟨k + 1, by omega, by go_num, no_more hno'.out hH.out hpt, hB.alloc hB.size _⟩, by simp [intOf]; omega⟩)
        | (have hpf : procB c ⟨pe, pp, pt, ps, pd⟩ = false := by (try simp only [Bool.not_eq_true', Bool.not_eq_false', bne_iff_ne, ne_eq, bne_eq_false_iff_eq] at *); simp [procB, placeB, leastI, h0, *]
           go_ret2
           exact ⟨⟨_, ret_pair (tab_false (.inl ⟨k, _, hH.out, hpf⟩)).symm⟩, bstep hB1 (hB.alloc hB.size _)⟩)
    · have hd1 := Lib.hid (no_all hno'.out hlt)
      have hlt' : ¬ (k : Int) < c.procs.length := by omega
      clear hno'
      go_wp2
      clear hlt hlt' rf r2 lf hsee r0 l0
      refine wp_name fun w2 hw2 => ?_
      obtain rfl := hw2
      have l0 : w.heap.size < w2.heap.size := World.block_lt_of_cell? w2 _ (cell_keep hB q0)
      have l2 := l0
      go_loopw [71] (fun i wr => ∃ k : Nat, k ≤ c.thunks.length ∧ i = .int .i64 k ∧ (∀ (j : Nat) (p : ThunkD), j < k → c.thunks[j]? = some p → thunkB c p = true) ∧ Below w1.heap.size w1 wr) (fun i _ => c.thunks.length - (intOf i).toNat)
      case atStart => exact ⟨0, Nat.zero_le _, rfl, fun j x h => by omega, hB⟩
      clear hB l0 l2
      case round =>
        obtain ⟨k, hk, rfl, hno, hB⟩ := hrel
        have hno' := Lib.hid hno; clear hno
        have r0 := cell_keep hB q0
        have rf := cell_keep hB qf
        have r3 := cell_keep hB q3
        have l0 : w.heap.size < wr.heap.size := World.block_lt_of_cell? wr _ r0
        have lf : w.heap.size + 1 < wr.heap.size := World.block_lt_of_cell? wr _ rf
        have hsee : Sees wr H := hs1.below hB
        by_cases hlt : k < c.thunks.length
        · obtain ⟨b, off, c', hA, -, hb, hcell, hint⟩ := hc.thunks.thunks (by omega)
          cases hA
          obtain ⟨x0, x1, x2⟩ := hcell wr hsee k hlt
          obtain ⟨y0, y1, y2⟩ := hint k hlt
          have hx : c.thunks[k]? = some (c.thunks.getD k default) := by simp [hlt]
          generalize c.thunks.getD k default = p at *
          clear hcell hint
          have hbl := hsee.lt' hb
          have hH := Lib.hid hx; clear hx
          obtain ⟨pv, pa, pd⟩ := p
          (try dsimp only at *)
          go_wp2
          have i0 := idx3_0
          have i1 := idx3_1
          have i2 := idx3_2
          refine wp_loop_rounds 4 ?_
          repeat any_goals (rw [rounds_succ]; go_wp2_with (go_at_call 145; refine (code_tables1 _ _ _ _ _ b0 _ (cell_al r0)).mono ?_; rintro e w' ⟨rfl, rfl⟩))
          clear i0 i1 i2
          all_goals first
            | (have hpt : thunkB c ⟨pv, pa, pd⟩ = true := by (try simp only [Bool.not_eq_true', Bool.not_eq_false', bne_iff_ne, ne_eq, bne_eq_false_iff_eq] at *); first | (simp [thunkB, placeB, *]; done) | (simp_all [thunkB, placeB]; done)
               exact ⟨⟨k + 1, by omega, by go_num, no_more hno'.out hH.out hpt, hB.alloc hB.size _⟩, by simp [intOf]; omega⟩)
            | (have hpf : thunkB c ⟨pv, pa, pd⟩ = false := by (try simp only [Bool.not_eq_true', Bool.not_eq_false', bne_iff_ne, ne_eq, bne_eq_false_iff_eq] at *); first | (simp [thunkB, placeB, *]; done) | (simp_all [thunkB, placeB]; done)
               go_ret2
               exact ⟨⟨_, ret_pair (tab_false (.inr (.inl ⟨k, _, hH.out, hpf⟩))).symm⟩, bstep hB1 (hB.alloc hB.size _)⟩)
        · have hd2 := Lib.hid (no_all hno'.out hlt)
          have hlt' : ¬ (k : Int) < c.thunks.length := by omega
          clear hno'
          go_wp2
          clear hlt hlt' rf r3 lf hsee r0 l0
          refine wp_name fun w2 hw2 => ?_
          obtain rfl := hw2
          have l0 : w.heap.size < w2.heap.size := World.block_lt_of_cell? w2 _ (cell_keep hB q0)
          have l3 := l0
          go_loopw [100] (fun i wr => ∃ k : Nat, k ≤ c.switches.length ∧ i = .int .i64 k ∧ (∀ (j : Nat) (p : List Int), j < k → c.switches[j]? = some p → switchB c p = true) ∧ Below w1.heap.size w1 wr) (fun i _ => c.switches.length - (intOf i).toNat)
          case atStart => exact ⟨0, Nat.zero_le _, rfl, fun j x h => by omega, hB⟩
          clear hB l0 l3
          case round =>
            obtain ⟨k, hk, rfl, hno, hB⟩ := hrel
            have hno' := Lib.hid hno; clear hno
            have r0 := cell_keep hB q0
            have rf := cell_keep hB qf
            have r4 := cell_keep hB q4
            have l0 : w.heap.size < wr.heap.size := World.block_lt_of_cell? wr _ r0
            have lf : w.heap.size + 1 < wr.heap.size := World.block_lt_of_cell? wr _ rf
            have hsee : Sees wr H := hs1.below hB
            by_cases hlt : k < c.switches.length
            · obtain ⟨b, off, c', hA, -, hb, hcell⟩ := hc.switches.rows (by omega)
              cases hA
              obtain ⟨u, hu, x0⟩ := hcell k hlt
              replace x0 := x0 wr hsee
              have hx : c.switches[k]? = some (c.switches.getD k []) := by simp [hlt]
              generalize c.switches.getD k [] = p at *
              clear hcell
              have hbl := hsee.lt' hb
              have hH := Lib.hid hx; clear hx
              have hul := hu.le
              have hu' := hu
              obtain ⟨Au, cu, rfl, ku, -⟩ := hu'
              have hC := slices_ContainsFunc_int (extH H w w1) _ _ p (fun _ => True) (fun x => !withinB x 0 ((c.instrs.length : Int) - 1)) wr ((extH.sees hw hB1).below hB) (hu.mono (extH.le hw w1)) (predV_tables2 (extH H w w1) w.heap.size (w.heap.size + 1) A0 c.instrs.length c0 b0 _ _ _ (extH.new (Nat.le_refl _) hbox) rfl (extH.new (by omega) hfun)) (fun _ _ => trivial)
              go_wp2_with (first | (go_at_call 127; refine (code_within _ _ _ _).mono ?_; rintro e w' ⟨rfl, rfl⟩) | (go_at_call 100; refine hC.mono ?_; rintro e w2 ⟨rfl, hB2⟩))
              all_goals first
                | (have hpt : switchB c p = true := by (try simp only [Bool.not_eq_true', Bool.not_eq_false', bne_iff_ne, ne_eq, bne_eq_false_iff_eq] at *); simp [switchB, placeB, *]
                   exact ⟨⟨k + 1, by omega, by go_num, no_more hno'.out hH.out hpt, (by first | exact bstep hB hB2 | exact hB)⟩, by simp [intOf]; omega⟩)
                | (have hpf : switchB c p = false := by (try simp only [Bool.not_eq_true', Bool.not_eq_false', bne_iff_ne, ne_eq, bne_eq_false_iff_eq] at *); simp [switchB, placeB, *]
                   go_ret2
                   exact ⟨⟨_, ret_pair (tab_false (.inr (.inr (.inl ⟨k, _, hH.out, hpf⟩)))).symm⟩, bstep hB1 ((by first | exact bstep hB hB2 | exact hB))⟩)
            · have hd3 := Lib.hid (no_all hno'.out hlt)
              have hlt' : ¬ (k : Int) < c.switches.length := by omega
              clear hno'
              go_wp2
              clear hlt hlt' rf r4 lf hsee r0 l0
              refine wp_name fun w2 hw2 => ?_
              obtain rfl := hw2
              have l0 : w.heap.size < w2.heap.size := World.block_lt_of_cell? w2 _ (cell_keep hB q0)
              have l4 := l0
              go_loopw [119] (fun i wr => ∃ k : Nat, k ≤ c.strings.length ∧ i = .int .i64 k ∧ (∀ (j : Nat) (p : ByteArray), j < k → c.strings[j]? = some p → strB p = true) ∧ Below w1.heap.size w1 wr) (fun i _ => c.strings.length - (intOf i).toNat)
              case atStart => exact ⟨0, Nat.zero_le _, rfl, fun j x h => by omega, hB⟩
              clear hB l0 l4
              case round =>
                obtain ⟨k, hk, rfl, hno, hB⟩ := hrel
                have hno' := Lib.hid hno; clear hno
                have r0 := cell_keep hB q0
                have rf := cell_keep hB qf
                have r5 := cell_keep hB q5
                have l0 : w.heap.size < wr.heap.size := World.block_lt_of_cell? wr _ r0
                have lf : w.heap.size + 1 < wr.heap.size := World.block_lt_of_cell? wr _ rf
                have hsee : Sees wr H := hs1.below hB
                by_cases hlt : k < c.strings.length
                · obtain ⟨b, off, c', hA, -, hb, hcell, hsz⟩ := hc.strings.strs (by omega)
                  cases hA
                  have x0 := hcell wr hsee k hlt
                  have y0 := hsz k
                  have hx : c.strings[k]? = some (c.strings.getD k ByteArray.empty) := by simp [hlt]
                  generalize c.strings.getD k ByteArray.empty = p at *
                  clear hcell hsz
                  have hbl := hsee.lt' hb
                  have hH := Lib.hid hx; clear hx
                  have hk2 := print_conv p
                  have hC : Calls Tryz.prog 149 _ _ fun e w' => e = .returned (.bool (strOdd p)) ∧ _ := slices_ContainsFunc_u8 (extH H wr (Lib.bytesWorld wr 5 p)) _ _ _ (fun _ => True) oddB _ (extH.sees hsee (Lib.bytesWorld_below wr 5 p)) (bytes_slV H wr 5 p (grownCap wr p.size 0 5) y0 (grownCap_ge _ _ _ _)) (predV_tables3 _) (fun _ _ => trivial)
                  go_wp2_with (go_at_call 149; refine hC.mono ?_; rintro e w2 ⟨rfl, hB2⟩)
                  all_goals first
                    | (have hpt : strB p = true := by (try simp only [Bool.not_eq_true', Bool.not_eq_false', bne_iff_ne, ne_eq, bne_eq_false_iff_eq] at *); cases ho : strOdd p <;> simp_all [strB] <;> omega
                       exact ⟨⟨k + 1, by omega, by go_num, no_more hno'.out hH.out hpt, (by first | exact bstep (bstep hB (Lib.bytesWorld_below wr 5 p)) hB2 | exact hB)⟩, by simp [intOf]; omega⟩)
                    | (have hpf : strB p = false := by (try simp only [Bool.not_eq_true', Bool.not_eq_false', bne_iff_ne, ne_eq, bne_eq_false_iff_eq] at *); cases ho : strOdd p <;> simp_all [strB] <;> omega
                       go_ret2
                       exact ⟨⟨_, ret_pair (tab_false (.inr (.inr (.inr (.inl ⟨k, _, hH.out, hpf⟩))))).symm⟩, bstep hB1 ((by first | exact bstep (bstep hB (Lib.bytesWorld_below wr 5 p)) hB2 | exact hB))⟩)
                · have hd4 := Lib.hid (no_all hno'.out hlt)
                  have hlt' : ¬ (k : Int) < c.strings.length := by omega
                  clear hno'
                  go_wp2
                  clear hlt hlt' rf r5 lf hsee r0 l0
                  refine wp_name fun w2 hw2 => ?_
                  obtain rfl := hw2
                  have l0 : w.heap.size < w2.heap.size := World.block_lt_of_cell? w2 _ (cell_keep hB q0)
                  have l5 := l0
                  go_loopw [138] (fun i wr => ∃ k : Nat, k ≤ c.reals.length ∧ i = .int .i64 k ∧ (∀ (j : Nat) (p : RealD), j < k → c.reals[j]? = some p → realB2 p = true) ∧ Below w1.heap.size w1 wr) (fun i _ => c.reals.length - (intOf i).toNat)
                  case atStart => exact ⟨0, Nat.zero_le _, rfl, fun j x h => by omega, hB⟩
                  clear hB l0 l5
                  case round =>
                    obtain ⟨k, hk, rfl, hno, hB⟩ := hrel
                    have hno' := Lib.hid hno; clear hno
                    have r0 := cell_keep hB q0
                    have rf := cell_keep hB qf
                    have r6 := cell_keep hB q6
                    have l0 : w.heap.size < wr.heap.size := World.block_lt_of_cell? wr _ r0
                    have lf : w.heap.size + 1 < wr.heap.size := World.block_lt_of_cell? wr _ rf
                    have hsee : Sees wr H := hs1.below hB
                    by_cases hlt : k < c.reals.length
                    · obtain ⟨b, off, c', hA, -, hb, hcell, hint⟩ := hc.reals.reals (by omega)
                      cases hA
                      obtain ⟨x0, x1⟩ := hcell wr hsee k hlt
                      obtain ⟨y0, y1⟩ := hint k hlt
                      have hx : c.reals[k]? = some (c.reals.getD k default) := by simp [hlt]
                      generalize c.reals.getD k default = p at *
                      clear hcell hint
                      have hbl := hsee.lt' hb
                      have hH := Lib.hid hx; clear hx
                      obtain ⟨pm, pe⟩ := p
                      (try dsimp only at *)
                      have hC := real_Valid ⟨pm, pe⟩ ⟨y0, y1⟩
                      go_wp2_with (go_at_call 150; refine (hC _).mono ?_; rintro e w2 ⟨rfl, hB2⟩; have z0 : w2.cell? ⟨wr.heap.size, 0, none⟩ = some (.int .i64 pm) := cell_keep hB2 (cell_blk (ga_new _ _) 0))
                      all_goals first
                        | (have hpt : realB2 ⟨pm, pe⟩ = true := by (try simp only [Bool.not_eq_true', Bool.not_eq_false', bne_iff_ne, ne_eq, bne_eq_false_iff_eq] at *); simp [realB2, *]
                           exact ⟨⟨k + 1, by omega, by go_num, no_more hno'.out hH.out hpt, bstep (hB.alloc hB.size _) hB2⟩, by simp [intOf]; omega⟩)
                        | (have hpf : realB2 ⟨pm, pe⟩ = false := by (try simp only [Bool.not_eq_true', Bool.not_eq_false', bne_iff_ne, ne_eq, bne_eq_false_iff_eq] at *); simp [realB2, *]
                           go_ret2
                           exact ⟨⟨_, ret_pair (tab_false (.inr (.inr (.inr (.inr (.inl ⟨k, _, hH.out, hpf⟩)))))).symm⟩, bstep hB1 (bstep (hB.alloc hB.size _) hB2)⟩)
                    · have hd5 := Lib.hid (no_all hno'.out hlt)
                      have hlt' : ¬ (k : Int) < c.reals.length := by omega
                      clear hno'
                      go_wp2
                      clear hlt hlt' rf r6 lf hsee r0 l0
                      refine wp_name fun w2 hw2 => ?_
                      obtain rfl := hw2
                      have l0 : w.heap.size < w2.heap.size := World.block_lt_of_cell? w2 _ (cell_keep hB q0)
                      have l6 := l0
                      go_loopw [156] (fun i wr => ∃ k : Nat, k ≤ c.owns.length ∧ i = .int .i64 k ∧ (∀ (j : Nat) (p : Int), j < k → c.owns[j]? = some p → ownB p = true) ∧ Below w1.heap.size w1 wr) (fun i _ => c.owns.length - (intOf i).toNat)
                      case atStart => exact ⟨0, Nat.zero_le _, rfl, fun j x h => by omega, hB⟩
                      clear hB l0 l6
                      case round =>
                        obtain ⟨k, hk, rfl, hno, hB⟩ := hrel
                        have hno' := Lib.hid hno; clear hno
                        have r0 := cell_keep hB q0
                        have rf := cell_keep hB qf
                        have l0 : w.heap.size < wr.heap.size := World.block_lt_of_cell? wr _ r0
                        have lf : w.heap.size + 1 < wr.heap.size := World.block_lt_of_cell? wr _ rf
                        have hsee : Sees wr H := hs1.below hB
                        by_cases hlt : k < c.owns.length
                        · obtain ⟨b, off, c', hA, -, hb, hcell, hint⟩ := hc.owns.ints (by omega)
                          cases hA
                          have x0 := hcell wr hsee k hlt
                          have y0 := hint k
                          have hx : c.owns[k]? = some (c.owns.getD k 0) := by simp [hlt]
                          generalize c.owns.getD k 0 = po at *
                          clear hcell hint
                          have hbl := hsee.lt' hb
                          have hH := Lib.hid hx; clear hx
                          (try dsimp only at *)
                          go_wp2_with (go_at_call 146; refine (code_isType _ _).mono ?_; rintro e w' ⟨rfl, rfl⟩)
                          all_goals first
                            | (have hpt : ownB po = true := by (try simp only [Bool.not_eq_true', Bool.not_eq_false', bne_iff_ne, ne_eq, bne_eq_false_iff_eq] at *); first | (simp [ownB, *]; done) | (simp only [ownB, Bool.or_eq_true, beq_iff_eq]; assumption)
                               exact ⟨⟨k + 1, by omega, by go_num, no_more hno'.out hH.out hpt, hB⟩, by simp [intOf]; omega⟩)
                            | (have hpf : ownB po = false := by (try simp only [Bool.not_eq_true', Bool.not_eq_false', bne_iff_ne, ne_eq, bne_eq_false_iff_eq] at *); first | (simp [ownB, *]; done) | (simp only [ownB, Bool.or_eq_true, beq_iff_eq]; assumption)
                               go_ret2
                               exact ⟨⟨_, ret_pair (tab_false (.inr (.inr (.inr (.inr (.inr ⟨k, _, hH.out, hpf⟩)))))).symm⟩, bstep hB1 (hB)⟩)
                        · have hd6 := Lib.hid (no_all hno'.out hlt)
                          have hlt' : ¬ (k : Int) < c.owns.length := by omega
                          clear hno'
                          go_wp2
                          go_ret2
                          exact ⟨⟨_, ret_pair (tab_true hd1.out hd2.out hd3.out hd4.out hd5.out hd6.out).symm⟩, bstep hB1 hB⟩
end Go.Proofs.YtififjlgjmgikaaGreat
