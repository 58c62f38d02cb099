/- The reference's layer 14: tables, Check, Valid (seat .Z). The reference's layer 14: Check, Valid (seat .Z). -/
import Derived.Test.YtififjlgjmgikaaGreatRefA
import Derived.Test.YtififjlgjmgikaaGreatTables
namespace Go.Proofs.YtififjlgjmgikaaGreat
set_option linter.all false
open Go.RowKit

theorem box3 {w : World} {b : Nat} {s0 s1 s2 : Value} {T : TypeId} (h : w.heap[b]? = some (.cells #[s0, s1, s2] T (0, 0))) : w.cell? ⟨b, 0, none⟩ = some s0 ∧ w.cell? ⟨b, 1, none⟩ = some s1 ∧ w.cell? ⟨b, 2, none⟩ = some s2 := ⟨cell_blk h 0, cell_blk h 1, cell_blk h 2⟩
theorem in03 (n : Int) : withinB n 0 3 = (n == 0 || isTypeB n) := by
  rw [Bool.eq_iff_iff]; simp [withinB, isTypeB]; omega
theorem inM (n : Int) (m : Nat) : withinB n (-1) ((m : Int) - 1) = (n == -1 || lenB n m) := by
  rw [Bool.eq_iff_iff]; simp [withinB, lenB]; omega
set_option maxHeartbeats 1000000 in
theorem r14_place (H : PH) (v : Value) (c : CodeD) (n : Int) (w : World) (hw : Sees w H) (hc : CodeV H v c) :
    Calls Tryz.prog 177 #[v, .int .i64 n] w fun e w' => e = .returned (.bool (n == -1 || placeB c n)) ∧ Below w.heap.size w w' := by
  obtain ⟨A0, c0, A1, c1, A2, c2, A3, c3, A4, c4, A5, c5, A6, c6, rfl, hc, b0, b1, b2, b3, b4, b5, b6⟩ := hc.forms
  clear hc
  go_enter Tryz.func177, Tryz.ntmps177
  go_wp2_with (go_at_call 181; refine (r14_in _ _ _ _).mono ?_; rintro e w' ⟨rfl, rfl⟩)
  go_ret
  exact ⟨ret_bool (inM _ _), (Below.refl _ _).alloc (Nat.le_refl _) _⟩
set_option maxHeartbeats 2000000 in
theorem r14_proc (H : PH) (v : Value) (c : CodeD) (p : ProcD) (w : World) (hw : Sees w H) (hc : CodeV H v c) :
    Calls Tryz.prog 176 #[v, .agg #[.int .i64 p.entry, .int .i64 p.params, .int .i64 p.type, .int .i64 p.slots, .bool p.std]] w fun e w' => e = .returned (.bool (procB c p)) ∧ Below w.heap.size w w' := by
  obtain ⟨A0, c0, A1, c1, A2, c2, A3, c3, A4, c4, A5, c5, A6, c6, rfl, hc, b0, b1, b2, b3, b4, b5, b6⟩ := hc.forms
  clear hc
  obtain ⟨pe, pp, pt, ps, pd⟩ := p
  simp only
  by_cases h0 : pt = 0
  all_goals
    go_enter Tryz.func176, Tryz.ntmps176
    go_wp2_with (go_at_call 181; refine (r14_in _ _ _ _).mono ?_; rintro e w' ⟨rfl, rfl⟩)
    all_goals
      go_ret
      refine ⟨ret_bool ?_, ((Below.refl _ _).alloc (Nat.le_refl _) _).alloc (by simp) _⟩
      simp only [procB, placeB, leastI, ← in03, lenB]
      simp [h0, *]
theorem strOdd_iff {s : ByteArray} : strOdd s = true ↔ ∃ j, ∃ h : j < s.size, oddB (s[j].toNat : Int) = true := by
  unfold strOdd
  rw [List.any_eq_true]
  constructor
  · rintro ⟨x, hx, ho⟩
    obtain ⟨b, hb, rfl⟩ := List.mem_map.1 hx
    obtain ⟨j, hj, rfl⟩ := List.getElem_of_mem hb
    have hj' : j < s.size := by simpa using hj
    exact ⟨j, hj', ho⟩
  · rintro ⟨j, h, ho⟩
    have hj : j < s.data.toList.length := by simpa using h
    exact ⟨_, List.mem_map.2 ⟨s.data.toList[j], List.getElem_mem hj, rfl⟩, ho⟩
set_option maxHeartbeats 1000000 in
theorem r14_Text (s : ByteArray) (hs : s.size ≤ 140737488351232) (w : World) : Calls Tryz.prog 179 #[.string s] w fun e w' => e = .returned (.bool (strB s)) ∧ w = w' := by
  have hO := Lib.hid (strOdd_iff (s := s))
  have hB := Lib.hid (show strB s = (decide (s.size ≤ 80) && !strOdd s) from rfl)
  generalize strOdd s = O at *
  generalize strB s = B at *
  go_enter Tryz.func179, Tryz.ntmps179
  go_wp2
  go_loop [3] (fun i => ∃ k : Nat, k ≤ s.size ∧ i = .int .i64 k ∧ Aside (∀ j (h : j < s.size), j < k → oddB (s[j].toNat : Int) = false)) (fun i => s.size - (intOf i).toNat)
  case atStart => exact ⟨0, Nat.zero_le _, rfl, fun j h h2 => by omega⟩
  case round =>
    obtain ⟨k, hk, rfl, hno⟩ := hrel
    have hnoh := Lib.hid hno
    clear hno
    by_cases hlt : k < s.size
    · have hd := Lib.hid (fun h : oddB (s[k].toNat : Int) = true => hO.out.2 ⟨k, hlt, h⟩)
      cases ho : oddB (s[k].toNat : Int)
      · have hoh := Lib.hid ho
        have h3 : ((s[k].toNat : Int) == 34) = false := by simp [oddB] at ho; simp; omega
        have h1 : ¬ (s[k].toNat : Int) < 32 := by simp [oddB] at ho; omega
        have h2 : ¬ 126 < (s[k].toNat : Int) := by simp [oddB] at ho; omega
        clear ho
        go_wp2
        go_round
        case rel =>
          refine ⟨k + 1, by omega, by go_num, fun j h hj => ?_⟩
          by_cases e : j = k
          · subst e; exact hoh.out
          · exact hnoh.out j h (by omega)
        case measure => simp [intOf]; omega
      · have hod := Lib.hid (hd.out ho)
        have h3 : (s[k].toNat : Int) < 32 ∨ (¬ (s[k].toNat : Int) < 32 ∧ 126 < (s[k].toNat : Int)) ∨ (¬ (s[k].toNat : Int) < 32 ∧ ¬ 126 < (s[k].toNat : Int) ∧ ((s[k].toNat : Int) == 34) = true) := by simp [oddB] at ho ⊢; omega
        clear ho hd
        rcases h3 with h3 | ⟨h3, h4⟩ | ⟨h3, h4, h5⟩
        all_goals
          go_wp2
          go_ret
          refine ⟨ret_bool ?_, rfl⟩
          rw [hB.out, hod.out]
          simp
    · have hltn : ¬ (k : Int) < s.size := by omega
      have hf : O = false := by
        cases h : O
        · rfl
        · obtain ⟨j, hj, ho⟩ := hO.out.1 h
          rw [hnoh.out j hj (by omega)] at ho
          cases ho
      have hfh := Lib.hid hf
      clear hf hlt
      go_wp2
      go_ret
      refine ⟨ret_bool ?_, rfl⟩
      rw [hB.out, hfh.out]
      simp
      omega
set_option maxHeartbeats 2000000 in
set_option maxRecDepth 100000 in
theorem r14_choices (H : PH) (v u : Value) (c : CodeD) (l : List Int) (w : World) (hw : Sees w H) (hc : CodeV H v c) (hu : SlV rInt H u l) :
    Calls Tryz.prog 178 #[v, u] w fun e w' => e = .returned (.bool (switchB c l)) ∧ Below w.heap.size w w' := by
  obtain ⟨A0, c0, A1, c1, A2, c2, A3, c3, A4, c4, A5, c5, A6, c6, rfl, hc, b0, b1, b2, b3, b4, b5, b6⟩ := hc.forms
  clear hc
  have hul := hu.le
  obtain ⟨Au, cu, rfl, -, -⟩ := hu.open_
  have hx0 := ga_new w (.cells #[.slice A0 c.instrs.length c0, .slice A1 c.procs.length c1, .slice A2 c.thunks.length c2, .slice A3 c.switches.length c3, .slice A4 c.strings.length c4, .slice A5 c.reals.length c5, .slice A6 c.owns.length c6] 30)
  have hB0 : Below w.heap.size w (w.alloc (.cells #[.slice A0 c.instrs.length c0, .slice A1 c.procs.length c1, .slice A2 c.thunks.length c2, .slice A3 c.switches.length c3, .slice A4 c.strings.length c4, .slice A5 c.reals.length c5, .slice A6 c.owns.length c6] 30)) := (Below.refl _ _).alloc (Nat.le_refl _) _
  have hs0 := hw.below hB0
  have hSw := Lib.hid (show switchB c l = (withinB l.length 1 2000 && !(l.any fun n => !placeB c n)) from rfl)
  generalize switchB c l = B at *
  go_enter Tryz.func178, Tryz.ntmps178
  go_wp2
  generalize w.alloc (.cells #[.slice A0 c.instrs.length c0, .slice A1 c.procs.length c1, .slice A2 c.thunks.length c2, .slice A3 c.switches.length c3, .slice A4 c.strings.length c4, .slice A5 c.reals.length c5, .slice A6 c.owns.length c6] 30) = w0 at *
  go_loopw [5] (fun i wr => ∃ k : Nat, k ≤ l.length ∧ i = .int .i64 k ∧ Aside (∀ (j : Nat) (x : Int), j < k → l[j]? = some x → placeB c x = true) ∧ Below w0.heap.size w0 wr) (fun i _ => l.length - (intOf i).toNat)
  case atStart => exact ⟨0, Nat.zero_le _, rfl, fun j x h => by omega, Below.refl _ _⟩
  case round =>
    obtain ⟨k, hk, rfl, hno, hB⟩ := hrel
    have hnoh := Lib.hid hno
    clear hno
    have hx1 := blk_keep hB hx0
    have hs1 := hs0.below hB
    by_cases hlt : k < l.length
    · obtain ⟨b, off, cu2, eu, -, hb, hcell, -⟩ := hu.ints (by omega)
      cases eu
      have hx : l[k]? = some (l.getD k 0) := by simp [hlt]
      have hc1 := hcell wr hs1 k hlt
      have q := box7 hx1
      have l0 : w.heap.size < wr.heap.size := (Array.getElem?_eq_some_iff.1 hx1).1
      have l1 := hs1.lt' hb
      generalize hy : l.getD k 0 = y at *
      have hxh := Lib.hid hx
      clear hx hcell hy
      cases hr : withinB y 0 ((c.instrs.length : Int) - 1)
      all_goals
        have hrh := Lib.hid hr
        clear hr
        have hwm : IntKind.i64.wrap ((c.instrs.length : Int) - 1) = (c.instrs.length : Int) - 1 := IntWalk.i64_in _ (by omega)
        go_wp2_with fail
        go_quiet ((go_at_call 181; exact Calls.quiet_of_same ((r14_in _ _ _ _).mono fun _ _ h => ⟨h.1.trans (by rw [hrh.out]), h.2.symm⟩)))
        clear hwm
        go_wp2
      · go_ret
        have hf : l.any (fun n => !placeB c n) = true := List.any_eq_true.2 ⟨y, List.mem_of_getElem? hxh.out, by unfold placeB; rw [hrh.out]; rfl⟩
        exact ⟨ret_bool (by rw [hSw.out, hf]; simp), ⟨(bstep hB0 hB).os, (bstep hB0 hB).tape, (bstep hB0 hB).output, (bstep hB0 hB).size, (bstep hB0 hB).block⟩⟩
      · go_roundw
        case rel => exact ⟨k + 1, by omega, by go_num, no_more hnoh.out hxh.out hrh.out, ⟨hB.os, hB.tape, hB.output, hB.size, hB.block⟩⟩
        case measure => simp [intOf]; omega
    · obtain rfl : k = l.length := by omega
      have hltn : ¬ (l.length : Int) < l.length := by omega
      have hf : l.any (fun n => !placeB c n) = false := by
        rw [List.any_eq_false]
        intro x hx
        obtain ⟨j, hj⟩ := List.getElem?_of_mem hx
        rw [hnoh.out j x (List.getElem?_eq_some_iff.1 hj).1 hj]
        simp
      have hfh := Lib.hid hf
      clear hf hlt
      go_wp2_with (go_at_call 181; refine (r14_in _ _ _ _).mono ?_; rintro e w' ⟨rfl, rfl⟩)
      go_ret
      exact ⟨ret_bool (by rw [hSw.out, hfh.out]; simp), bstep hB0 hB⟩
set_option maxHeartbeats 1000000 in
theorem r02_Valid (x : RealD) (hx : I64 x.man ∧ I64 x.exp) (w : World) : Calls Tryz.prog 180 #[.agg #[.int .i64 x.man, .int .i64 x.exp]] w fun e w' => e = .returned (.bool (realB x)) ∧ Below w.heap.size w w' := by
  obtain ⟨m, e⟩ := x
  obtain ⟨⟨hm1, hm2⟩, he1, he2⟩ := hx
  simp only at *
  go_enter Tryz.func180, Tryz.ntmps180
  go_wp2
  all_goals (go_ret; refine ⟨ret_bool ?_, (Below.refl _ _).alloc (Nat.le_refl _) _⟩)
  all_goals
    have hw0 : m = 0 → wrap64 (-m) = 0 := by intro h; rw [h]; unfold wrap64; omega
    have hw2 : wrap64 (-m) = -m ∨ m = -9223372036854775808 := by unfold wrap64; omega
    have hw3 : m = -9223372036854775808 → wrap64 (-m) = -9223372036854775808 := by intro h; rw [h]; unfold wrap64; omega
    simp only [realB, absI, mxI]
    generalize wrap64 (-m) = mm at *
    rw [Bool.eq_iff_iff]
    (try simp only [beq_iff_eq, beq_eq_false_iff_ne, ne_eq] at *)
    simp only [Bool.or_eq_true, Bool.and_eq_true, decide_eq_true_eq, beq_iff_eq, true_iff, false_iff, Bool.false_eq_true]
    split <;> (first | omega | (simp only [true_or, and_true]; omega))
set_option maxHeartbeats 8000000 in
set_option maxRecDepth 100000 in
theorem r14_tables (H : PH) (v : Value) (c : CodeD) (w : World) (hw : Sees w H) (hc : CodeV H v c) :
    Calls Tryz.prog 165 #[v] w fun e w' => (∃ i : Int, e = .returned (.tuple #[.int .i64 (errOf (tablesB c)), .int .i64 i])) ∧ Below w.heap.size w w' := by
  have hcv := Lib.hid hc
  obtain ⟨A0, c0, A1, c1, A2, c2, A3, c3, A4, c4, A5, c5, A6, c6, rfl, hc, b0, b1, b2, b3, b4, b5, b6⟩ := hc.forms
  have hx0 := ga_new w (.cells #[.slice A0 c.instrs.length c0, .slice A1 c.procs.length c1, .slice A2 c.thunks.length c2, .slice A3 c.switches.length c3, .slice A4 c.strings.length c4, .slice A5 c.reals.length c5, .slice A6 c.owns.length c6] 30)
  have hB0 : Below w.heap.size w (w.alloc (.cells #[.slice A0 c.instrs.length c0, .slice A1 c.procs.length c1, .slice A2 c.thunks.length c2, .slice A3 c.switches.length c3, .slice A4 c.strings.length c4, .slice A5 c.reals.length c5, .slice A6 c.owns.length c6] 30)) := (Below.refl _ _).alloc (Nat.le_refl _) _
  have hs0 := hw.below hB0
  have hch := Lib.hid hc
  clear hc
  go_enter Tryz.func165, Tryz.ntmps165
  go_wp2
  generalize w.alloc (.cells #[.slice A0 c.instrs.length c0, .slice A1 c.procs.length c1, .slice A2 c.thunks.length c2, .slice A3 c.switches.length c3, .slice A4 c.strings.length c4, .slice A5 c.reals.length c5, .slice A6 c.owns.length c6] 30) = w0 at *
  go_loopw [4] (fun i wr => ∃ k : Nat, k ≤ c.procs.length ∧ i = .int .i64 k ∧ Aside (∀ (j : Nat) (p : ProcD), j < k → c.procs[j]? = some p → procB c p = true) ∧ Below w0.heap.size w0 wr) (fun i _ => c.procs.length - (intOf i).toNat)
  case atStart => exact ⟨0, Nat.zero_le _, rfl, fun j x h => by omega, Below.refl _ _⟩
  case round =>
    obtain ⟨k, hk, rfl, hno, hB⟩ := hrel
    have hnoh := Lib.hid hno
    clear hno
    have hx1 := blk_keep hB hx0
    have hs1 := hs0.below hB
    have q := box7 hx1
    have l0 : w.heap.size < wr.heap.size := (Array.getElem?_eq_some_iff.1 hx1).1
    by_cases hlt : k < c.procs.length
    · have hlt' : (k : Int) < c.procs.length := by omega
      have hk0 : (0 : Int) ≤ (k : Int) := by omega
      obtain ⟨b, off, c', hA, -, hb, hcell, -⟩ := hch.out.procs.procs (by omega)
      cases hA
      have hx : c.procs[k]? = some (c.procs.getD k default) := by simp [hlt]
      have hck := fun (w' : World) (hs : Sees w' H) => hcell w' hs k hlt
      clear hcell
      generalize c.procs.getD k default = p at *
      have hxh := Lib.hid hx
      have hcellh := Lib.hid hck
      clear hx hck
      cases hr : procB c p
      all_goals
        have hrh := Lib.hid hr
        clear hr
        go_wp2
        refine wp_region_plan (fun w' => Sees w' H ∧ w'.heap[w.heap.size]? = wr.heap[w.heap.size]?) [(0, true), (1, true), (2, true), (3, true), (4, true), (5, true), (6, false), (7, true)] (by kernel_rfl) (by kernel_rfl) (by kernel_rfl) ⟨fun i o e => hs1 i o e, rfl⟩ ?_
        repeat first
          | (refine plan_skip rfl (by rfl) ?_; simp only [Act.put, List.setIfInBounds_toArray, List.set_cons_zero, List.set_cons_succ])
          | (refine plan_read (v := ?_) rfl (by rfl) ?_ ?_; rotate_left; (focus (intro w' hSw; have q' := box7 (hSw.2.trans hx1); have l' := (Array.getElem?_eq_some_iff.1 (hSw.2.trans hx1)).1; have q2 := hcellh.out w' hSw.1; have l2 := hSw.1.lt' hb; clear hSw; go_simp; all_goals with_reducible rfl)); simp only [Act.put, List.setIfInBounds_toArray, List.set_cons_zero, List.set_cons_succ])
        refine plan_step rfl (by rfl) (fun K hK => ?_)
        go_simp
        (go_at_call 176; refine (r14_proc H _ c p _ (by exact fun i o e => hs1 i o e) hcv.out).mono ?_; rintro e w6 ⟨rfl, hB6⟩)
        rw [hrh.out]
        refine hK.out _ _ ⟨(by exact fun i o e => hs1 i o e : Sees wr.drew H).below hB6, (blk_keep hB6 hx1).trans hx1.symm⟩ ?_
        clear hK K
        repeat first
          | (refine plan_skip rfl (by rfl) ?_; simp only [Act.put, List.setIfInBounds_toArray, List.set_cons_zero, List.set_cons_succ])
          | (refine plan_read (v := ?_) rfl (by rfl) ?_ ?_; rotate_left; (focus (intro w' hSw; skip; clear hSw; go_simp; all_goals with_reducible rfl)); simp only [Act.put, List.setIfInBounds_toArray, List.set_cons_zero, List.set_cons_succ])
        refine plan_nil (NoPanic.normal ?_)
        go_wp2
      · go_ret2
        exact ⟨⟨_, ret_pair (tab_false (.inl ⟨k, _, hxh.out, hrh.out⟩)).symm⟩, bstep hB0 (bstep hB (drewB hB6))⟩
      · go_roundw
        case rel => exact ⟨k + 1, by omega, by go_num, no_more hnoh.out hxh.out hrh.out, bstep hB (drewB hB6)⟩
        case measure => simp [intOf]; omega
    · have hltn : ¬ (k : Int) < c.procs.length := by omega
      have hd1 := Lib.hid (no_all hnoh.out hlt)
      clear hlt hnoh
      clear q
      have q := box7 hx1
      go_wp2
      have hBw := bstep hB0 hB
      clear hB0 hB hx0 hs0 q
      replace hx0 := hx1
      replace hs0 := hs1
      replace hB0 := hBw
      clear hx1 hs1 hBw
      obtain ⟨w0, rfl⟩ : ∃ w0 : World, w0 = wr := ⟨_, rfl⟩
      go_loopw [5] (fun i wr => ∃ k : Nat, k ≤ c.thunks.length ∧ i = .int .i64 k ∧ Aside (∀ (j : Nat) (p : ThunkD), j < k → c.thunks[j]? = some p → thunkB c p = true) ∧ Below w0.heap.size w0 wr) (fun i _ => c.thunks.length - (intOf i).toNat)
      case atStart => exact ⟨0, Nat.zero_le _, rfl, fun j x h => by omega, Below.refl _ _⟩
      case round =>
        obtain ⟨k, hk, rfl, hno, hB⟩ := hrel
        have hnoh := Lib.hid hno
        clear hno
        have hx1 := blk_keep hB hx0
        have hs1 := hs0.below hB
        have q := box7 hx1
        have l0 : w.heap.size < wr.heap.size := (Array.getElem?_eq_some_iff.1 hx1).1
        by_cases hlt : k < c.thunks.length
        · have hlt' : (k : Int) < c.thunks.length := by omega
          have hk0 : (0 : Int) ≤ (k : Int) := by omega
          obtain ⟨b, off, c', hA, -, hb, hcell, -⟩ := hch.out.thunks.thunks (by omega)
          cases hA
          have hx : c.thunks[k]? = some (c.thunks.getD k default) := by simp [hlt]
          have hck := hcell wr hs1 k hlt
          clear hcell
          generalize c.thunks.getD k default = p at *
          have hxh := Lib.hid hx
          have l2 := hs1.lt' hb
          have hP := Lib.hid (fun (n : Int) (w1 : World) (hs : Sees w1 H) => r14_place H _ c n w1 hs hcv.out)
          have hrd := Lib.hid (show thunkB c p = ((p.value == -1 || placeB c p.value) && (p.address == -1 || placeB c p.address) && (p.desig == -1 || placeB c p.desig)) from rfl)
          obtain ⟨pv, pa, pd⟩ := p
          simp only at hck hrd
          clear hx
          have hC := (Below.refl wr.heap.size wr).alloc (Nat.le_refl _) (.cells #[.int .i64 pv, .int .i64 pa, .int .i64 pd] 161)
          have hsC := hs1.below hC
          have hxC := blk_keep hC hx1
          have hyC := ga_new wr (.cells #[.int .i64 pv, .int .i64 pa, .int .i64 pd] 161)
          have hgood : ∀ b, thunkB c ⟨pv, pa, pd⟩ = b → thunkB c ⟨pv, pa, pd⟩ = b := fun _ h => h
          cases h1 : (pv == -1 || placeB c pv)
          · have h2 := True.intro
            have h3 := True.intro
            have hrh := Lib.hid (hrd.out.trans (by simp [h1]) : thunkB c ⟨pv, pa, pd⟩ = false)
            have h1h := Lib.hid h1
            have h2h := Lib.hid h2
            have h3h := Lib.hid h3
            clear h1 h2 h3
            have qt : True := trivial
            go_wp2_with (first
              | (go_at_call_of 177 (Value.int .i64 pv); refine (hP.out pv _ hsC).mono ?_; rintro e w6 ⟨rfl, hB6⟩; rw [h1h.out]; replace hC := bstep hC hB6; replace hsC := hsC.below hB6; replace hxC := blk_keep hB6 hxC; replace hyC := blk_keep hB6 hyC; clear q qt; have q := box7 hxC; have qt := box3 hyC; have lx := (Array.getElem?_eq_some_iff.1 hxC).1; have ly := (Array.getElem?_eq_some_iff.1 hyC).1)
              | (go_at_call_of 177 (Value.int .i64 pa); refine (hP.out pa _ hsC).mono ?_; rintro e w6 ⟨rfl, hB6⟩; rw [h2h.out]; replace hC := bstep hC hB6; replace hsC := hsC.below hB6; replace hxC := blk_keep hB6 hxC; replace hyC := blk_keep hB6 hyC; clear q qt; have q := box7 hxC; have qt := box3 hyC; have lx := (Array.getElem?_eq_some_iff.1 hxC).1; have ly := (Array.getElem?_eq_some_iff.1 hyC).1)
              | (go_at_call_of 177 (Value.int .i64 pd); refine (hP.out pd _ hsC).mono ?_; rintro e w6 ⟨rfl, hB6⟩; rw [h3h.out]; replace hC := bstep hC hB6; replace hsC := hsC.below hB6; replace hxC := blk_keep hB6 hxC; replace hyC := blk_keep hB6 hyC; clear q qt; have q := box7 hxC; have qt := box3 hyC; have lx := (Array.getElem?_eq_some_iff.1 hxC).1; have ly := (Array.getElem?_eq_some_iff.1 hyC).1))
            go_ret2
            exact ⟨⟨_, ret_pair (tab_false (.inr (.inl ⟨k, _, hxh.out, hrh.out⟩))).symm⟩, bstep hB0 (bstep hB hC)⟩
          · cases h2 : (pa == -1 || placeB c pa)
            · have h3 := True.intro
              have hrh := Lib.hid (hrd.out.trans (by simp [h2]) : thunkB c ⟨pv, pa, pd⟩ = false)
              have h1h := Lib.hid h1
              have h2h := Lib.hid h2
              have h3h := Lib.hid h3
              clear h1 h2 h3
              have qt : True := trivial
              go_wp2_with (first
                | (go_at_call_of 177 (Value.int .i64 pv); refine (hP.out pv _ hsC).mono ?_; rintro e w6 ⟨rfl, hB6⟩; rw [h1h.out]; replace hC := bstep hC hB6; replace hsC := hsC.below hB6; replace hxC := blk_keep hB6 hxC; replace hyC := blk_keep hB6 hyC; clear q qt; have q := box7 hxC; have qt := box3 hyC; have lx := (Array.getElem?_eq_some_iff.1 hxC).1; have ly := (Array.getElem?_eq_some_iff.1 hyC).1)
                | (go_at_call_of 177 (Value.int .i64 pa); refine (hP.out pa _ hsC).mono ?_; rintro e w6 ⟨rfl, hB6⟩; rw [h2h.out]; replace hC := bstep hC hB6; replace hsC := hsC.below hB6; replace hxC := blk_keep hB6 hxC; replace hyC := blk_keep hB6 hyC; clear q qt; have q := box7 hxC; have qt := box3 hyC; have lx := (Array.getElem?_eq_some_iff.1 hxC).1; have ly := (Array.getElem?_eq_some_iff.1 hyC).1)
                | (go_at_call_of 177 (Value.int .i64 pd); refine (hP.out pd _ hsC).mono ?_; rintro e w6 ⟨rfl, hB6⟩; rw [h3h.out]; replace hC := bstep hC hB6; replace hsC := hsC.below hB6; replace hxC := blk_keep hB6 hxC; replace hyC := blk_keep hB6 hyC; clear q qt; have q := box7 hxC; have qt := box3 hyC; have lx := (Array.getElem?_eq_some_iff.1 hxC).1; have ly := (Array.getElem?_eq_some_iff.1 hyC).1))
              go_ret2
              exact ⟨⟨_, ret_pair (tab_false (.inr (.inl ⟨k, _, hxh.out, hrh.out⟩))).symm⟩, bstep hB0 (bstep hB hC)⟩
            · cases h3 : (pd == -1 || placeB c pd)
              · have hrh := Lib.hid (hrd.out.trans (by simp [h3]) : thunkB c ⟨pv, pa, pd⟩ = false)
                have h1h := Lib.hid h1
                have h2h := Lib.hid h2
                have h3h := Lib.hid h3
                clear h1 h2 h3
                have qt : True := trivial
                go_wp2_with (first
                  | (go_at_call_of 177 (Value.int .i64 pv); refine (hP.out pv _ hsC).mono ?_; rintro e w6 ⟨rfl, hB6⟩; rw [h1h.out]; replace hC := bstep hC hB6; replace hsC := hsC.below hB6; replace hxC := blk_keep hB6 hxC; replace hyC := blk_keep hB6 hyC; clear q qt; have q := box7 hxC; have qt := box3 hyC; have lx := (Array.getElem?_eq_some_iff.1 hxC).1; have ly := (Array.getElem?_eq_some_iff.1 hyC).1)
                  | (go_at_call_of 177 (Value.int .i64 pa); refine (hP.out pa _ hsC).mono ?_; rintro e w6 ⟨rfl, hB6⟩; rw [h2h.out]; replace hC := bstep hC hB6; replace hsC := hsC.below hB6; replace hxC := blk_keep hB6 hxC; replace hyC := blk_keep hB6 hyC; clear q qt; have q := box7 hxC; have qt := box3 hyC; have lx := (Array.getElem?_eq_some_iff.1 hxC).1; have ly := (Array.getElem?_eq_some_iff.1 hyC).1)
                  | (go_at_call_of 177 (Value.int .i64 pd); refine (hP.out pd _ hsC).mono ?_; rintro e w6 ⟨rfl, hB6⟩; rw [h3h.out]; replace hC := bstep hC hB6; replace hsC := hsC.below hB6; replace hxC := blk_keep hB6 hxC; replace hyC := blk_keep hB6 hyC; clear q qt; have q := box7 hxC; have qt := box3 hyC; have lx := (Array.getElem?_eq_some_iff.1 hxC).1; have ly := (Array.getElem?_eq_some_iff.1 hyC).1))
                go_ret2
                exact ⟨⟨_, ret_pair (tab_false (.inr (.inl ⟨k, _, hxh.out, hrh.out⟩))).symm⟩, bstep hB0 (bstep hB hC)⟩
              · have hrh := Lib.hid (hrd.out.trans (by rw [h1, h2, h3]; rfl) : thunkB c ⟨pv, pa, pd⟩ = true)
                have h1h := Lib.hid h1
                have h2h := Lib.hid h2
                have h3h := Lib.hid h3
                clear h1 h2 h3
                have qt : True := trivial
                go_wp2_with (first
                  | (go_at_call_of 177 (Value.int .i64 pv); refine (hP.out pv _ hsC).mono ?_; rintro e w6 ⟨rfl, hB6⟩; rw [h1h.out]; replace hC := bstep hC hB6; replace hsC := hsC.below hB6; replace hxC := blk_keep hB6 hxC; replace hyC := blk_keep hB6 hyC; clear q qt; have q := box7 hxC; have qt := box3 hyC; have lx := (Array.getElem?_eq_some_iff.1 hxC).1; have ly := (Array.getElem?_eq_some_iff.1 hyC).1)
                  | (go_at_call_of 177 (Value.int .i64 pa); refine (hP.out pa _ hsC).mono ?_; rintro e w6 ⟨rfl, hB6⟩; rw [h2h.out]; replace hC := bstep hC hB6; replace hsC := hsC.below hB6; replace hxC := blk_keep hB6 hxC; replace hyC := blk_keep hB6 hyC; clear q qt; have q := box7 hxC; have qt := box3 hyC; have lx := (Array.getElem?_eq_some_iff.1 hxC).1; have ly := (Array.getElem?_eq_some_iff.1 hyC).1)
                  | (go_at_call_of 177 (Value.int .i64 pd); refine (hP.out pd _ hsC).mono ?_; rintro e w6 ⟨rfl, hB6⟩; rw [h3h.out]; replace hC := bstep hC hB6; replace hsC := hsC.below hB6; replace hxC := blk_keep hB6 hxC; replace hyC := blk_keep hB6 hyC; clear q qt; have q := box7 hxC; have qt := box3 hyC; have lx := (Array.getElem?_eq_some_iff.1 hxC).1; have ly := (Array.getElem?_eq_some_iff.1 hyC).1))
                go_roundw
                case rel => exact ⟨k + 1, by omega, by go_num, no_more hnoh.out hxh.out hrh.out, bstep hB hC⟩
                case measure => simp [intOf]; omega
        · have hltn : ¬ (k : Int) < c.thunks.length := by omega
          have hd2 := Lib.hid (no_all hnoh.out hlt)
          clear hlt hnoh
          clear q
          have q := box7 hx1
          go_wp2
          have hBw := bstep hB0 hB
          clear hB0 hB hx0 hs0 q
          replace hx0 := hx1
          replace hs0 := hs1
          replace hB0 := hBw
          clear hx1 hs1 hBw
          obtain ⟨w0, rfl⟩ : ∃ w0 : World, w0 = wr := ⟨_, rfl⟩
          go_loopw [7] (fun i wr => ∃ k : Nat, k ≤ c.switches.length ∧ i = .int .i64 k ∧ Aside (∀ (j : Nat) (p : List Int), j < k → c.switches[j]? = some p → switchB c p = true) ∧ Below w0.heap.size w0 wr) (fun i _ => c.switches.length - (intOf i).toNat)
          case atStart => exact ⟨0, Nat.zero_le _, rfl, fun j x h => by omega, Below.refl _ _⟩
          case round =>
            obtain ⟨k, hk, rfl, hno, hB⟩ := hrel
            have hnoh := Lib.hid hno
            clear hno
            have hx1 := blk_keep hB hx0
            have hs1 := hs0.below hB
            have q := box7 hx1
            have l0 : w.heap.size < wr.heap.size := (Array.getElem?_eq_some_iff.1 hx1).1
            by_cases hlt : k < c.switches.length
            · have hlt' : (k : Int) < c.switches.length := by omega
              have hk0 : (0 : Int) ≤ (k : Int) := by omega
              obtain ⟨b, off, c', hA, -, hb, hcell⟩ := hch.out.switches.rows (by omega)
              cases hA
              obtain ⟨u, hu, hck⟩ := hcell k hlt
              clear hcell
              have hx : c.switches[k]? = some (c.switches.getD k []) := by simp [hlt]
              generalize c.switches.getD k [] = p at *
              have hxh := Lib.hid hx
              have hcellh := Lib.hid hck
              clear hx hck
              cases hr : switchB c p
              all_goals
                have hrh := Lib.hid hr
                clear hr
                go_wp2
                refine wp_region_plan (fun w' => Sees w' H ∧ w'.heap[w.heap.size]? = wr.heap[w.heap.size]?) [(0, true), (1, true), (2, true), (3, true), (4, true), (5, true), (6, false), (7, true)] (by kernel_rfl) (by kernel_rfl) (by kernel_rfl) ⟨fun i o e => hs1 i o e, rfl⟩ ?_
                repeat first
                  | (refine plan_skip rfl (by rfl) ?_; simp only [Act.put, List.setIfInBounds_toArray, List.set_cons_zero, List.set_cons_succ])
                  | (refine plan_read (v := ?_) rfl (by rfl) ?_ ?_; rotate_left; (focus (intro w' hSw; have q' := box7 (hSw.2.trans hx1); have l' := (Array.getElem?_eq_some_iff.1 (hSw.2.trans hx1)).1; have q2 := hcellh.out w' hSw.1; have l2 := hSw.1.lt' hb; clear hSw; go_simp; all_goals with_reducible rfl)); simp only [Act.put, List.setIfInBounds_toArray, List.set_cons_zero, List.set_cons_succ])
                refine plan_step rfl (by rfl) (fun K hK => ?_)
                go_simp
                (go_at_call 178; refine (r14_choices H _ u c p _ (by exact fun i o e => hs1 i o e) hcv.out hu).mono ?_; rintro e w6 ⟨rfl, hB6⟩)
                rw [hrh.out]
                refine hK.out _ _ ⟨(by exact fun i o e => hs1 i o e : Sees wr.drew H).below hB6, (blk_keep hB6 hx1).trans hx1.symm⟩ ?_
                clear hK K
                repeat first
                  | (refine plan_skip rfl (by rfl) ?_; simp only [Act.put, List.setIfInBounds_toArray, List.set_cons_zero, List.set_cons_succ])
                  | (refine plan_read (v := ?_) rfl (by rfl) ?_ ?_; rotate_left; (focus (intro w' hSw; skip; clear hSw; go_simp; all_goals with_reducible rfl)); simp only [Act.put, List.setIfInBounds_toArray, List.set_cons_zero, List.set_cons_succ])
                refine plan_nil (NoPanic.normal ?_)
                go_wp2
              · go_ret2
                exact ⟨⟨_, ret_pair (tab_false (.inr (.inr (.inl ⟨k, _, hxh.out, hrh.out⟩)))).symm⟩, bstep hB0 (bstep hB (drewB hB6))⟩
              · go_roundw
                case rel => exact ⟨k + 1, by omega, by go_num, no_more hnoh.out hxh.out hrh.out, bstep hB (drewB hB6)⟩
                case measure => simp [intOf]; omega
            · have hltn : ¬ (k : Int) < c.switches.length := by omega
              have hd3 := Lib.hid (no_all hnoh.out hlt)
              clear hlt hnoh
              clear q
              have q := box7 hx1
              go_wp2
              have hBw := bstep hB0 hB
              clear hB0 hB hx0 hs0 q
              replace hx0 := hx1
              replace hs0 := hs1
              replace hB0 := hBw
              clear hx1 hs1 hBw
              obtain ⟨w0, rfl⟩ : ∃ w0 : World, w0 = wr := ⟨_, rfl⟩
              go_loopw [8] (fun i wr => ∃ k : Nat, k ≤ c.strings.length ∧ i = .int .i64 k ∧ Aside (∀ (j : Nat) (p : ByteArray), j < k → c.strings[j]? = some p → strB p = true) ∧ Below w0.heap.size w0 wr) (fun i _ => c.strings.length - (intOf i).toNat)
              case atStart => exact ⟨0, Nat.zero_le _, rfl, fun j x h => by omega, Below.refl _ _⟩
              case round =>
                obtain ⟨k, hk, rfl, hno, hB⟩ := hrel
                have hnoh := Lib.hid hno
                clear hno
                have hx1 := blk_keep hB hx0
                have hs1 := hs0.below hB
                have q := box7 hx1
                have l0 : w.heap.size < wr.heap.size := (Array.getElem?_eq_some_iff.1 hx1).1
                by_cases hlt : k < c.strings.length
                · have hlt' : (k : Int) < c.strings.length := by omega
                  have hk0 : (0 : Int) ≤ (k : Int) := by omega
                  obtain ⟨b, off, c', hA, -, hb, hcell, hsz⟩ := hch.out.strings.strs (by omega)
                  cases hA
                  have hx : c.strings[k]? = some (c.strings.getD k ByteArray.empty) := by simp [hlt]
                  have hck := hcell wr hs1 k hlt
                  have hs80 := hsz k
                  clear hcell hsz
                  generalize c.strings.getD k ByteArray.empty = p at *
                  have hxh := Lib.hid hx
                  have l2 := hs1.lt' hb
                  cases hr : strB p
                  all_goals
                    have hrh := Lib.hid hr
                    clear hr hx
                    go_wp2_with (go_at_call 179; refine (r14_Text p hs80 _).mono ?_; rintro e w' ⟨rfl, rfl⟩; rw [hrh.out])
                  · go_ret2
                    exact ⟨⟨_, ret_pair (tab_false (.inr (.inr (.inr (.inl ⟨k, _, hxh.out, hrh.out⟩))))).symm⟩, bstep hB0 (hB)⟩
                  · go_roundw
                    case rel => exact ⟨k + 1, by omega, by go_num, no_more hnoh.out hxh.out hrh.out, hB⟩
                    case measure => simp [intOf]; omega
                · have hltn : ¬ (k : Int) < c.strings.length := by omega
                  have hd4 := Lib.hid (no_all hnoh.out hlt)
                  clear hlt hnoh
                  clear q
                  have q := box7 hx1
                  go_wp2
                  have hBw := bstep hB0 hB
                  clear hB0 hB hx0 hs0 q
                  replace hx0 := hx1
                  replace hs0 := hs1
                  replace hB0 := hBw
                  clear hx1 hs1 hBw
                  obtain ⟨w0, rfl⟩ : ∃ w0 : World, w0 = wr := ⟨_, rfl⟩
                  go_loopw [9] (fun i wr => ∃ k : Nat, k ≤ c.reals.length ∧ i = .int .i64 k ∧ Aside (∀ (j : Nat) (p : RealD), j < k → c.reals[j]? = some p → realB2 p = true) ∧ Below w0.heap.size w0 wr) (fun i _ => c.reals.length - (intOf i).toNat)
                  case atStart => exact ⟨0, Nat.zero_le _, rfl, fun j x h => by omega, Below.refl _ _⟩
                  case round =>
                    obtain ⟨k, hk, rfl, hno, hB⟩ := hrel
                    have hnoh := Lib.hid hno
                    clear hno
                    have hx1 := blk_keep hB hx0
                    have hs1 := hs0.below hB
                    have q := box7 hx1
                    have l0 : w.heap.size < wr.heap.size := (Array.getElem?_eq_some_iff.1 hx1).1
                    by_cases hlt : k < c.reals.length
                    · have hlt' : (k : Int) < c.reals.length := by omega
                      have hk0 : (0 : Int) ≤ (k : Int) := by omega
                      obtain ⟨b, off, c', hA, -, hb, hcell, hint⟩ := hch.out.reals.reals (by omega)
                      cases hA
                      have hx : c.reals[k]? = some (c.reals.getD k default) := by simp [hlt]
                      have hck := hcell wr hs1 k hlt
                      have hcq := fun (w' : World) (hs : Sees w' H) => hcell w' hs k hlt
                      have hpi := hint k hlt
                      clear hcell hint
                      generalize c.reals.getD k default = p at *
                      have hxh := Lib.hid hx
                      have hcqh := Lib.hid hcq
                      have l2 := hs1.lt' hb
                      clear hx hcq
                      have hrd := Lib.hid (show realB2 p = (realB p && decide (0 ≤ p.man)) from rfl)
                      cases hr : realB p
                      · have hrh := Lib.hid hr
                        have hrh2 := Lib.hid (hrd.out.trans (by rw [hr]; rfl) : realB2 p = false)
                        clear hr
                        go_wp2_with (go_at_call 180; refine (r02_Valid p hpi _).mono ?_; rintro e w6 ⟨rfl, hB6⟩; rw [hrh.out])
                        replace hrh := hrh2
                        go_ret2
                        exact ⟨⟨_, ret_pair (tab_false (.inr (.inr (.inr (.inr (.inl ⟨k, _, hxh.out, hrh.out⟩)))))).symm⟩, bstep hB0 (bstep hB hB6)⟩
                      · have hrh := Lib.hid hr
                        by_cases hm : p.man < 0
                        · have hrh2 := Lib.hid (hrd.out.trans (by rw [hr, decide_eq_false (by omega)]; rfl) : realB2 p = false)
                          clear hr
                          go_wp2_with (go_at_call 180; refine (r02_Valid p hpi _).mono ?_; rintro e w6 ⟨rfl, hB6⟩; rw [hrh.out]; have q6 := box7 (blk_keep hB6 hx1); have q7 := hcqh.out w6 (hs1.below hB6); have l6 := (hs1.below hB6).lt' hb; have l7 := (Array.getElem?_eq_some_iff.1 (blk_keep hB6 hx1)).1)
                          replace hrh := hrh2
                          go_ret2
                          exact ⟨⟨_, ret_pair (tab_false (.inr (.inr (.inr (.inr (.inl ⟨k, _, hxh.out, hrh.out⟩)))))).symm⟩, bstep hB0 (bstep hB hB6)⟩
                        · have hrh2 := Lib.hid (hrd.out.trans (by rw [hr, decide_eq_true (by omega)]; rfl) : realB2 p = true)
                          clear hr
                          go_wp2_with (go_at_call 180; refine (r02_Valid p hpi _).mono ?_; rintro e w6 ⟨rfl, hB6⟩; rw [hrh.out]; have q6 := box7 (blk_keep hB6 hx1); have q7 := hcqh.out w6 (hs1.below hB6); have l6 := (hs1.below hB6).lt' hb; have l7 := (Array.getElem?_eq_some_iff.1 (blk_keep hB6 hx1)).1)
                          replace hrh := hrh2
                          go_roundw
                          case rel => exact ⟨k + 1, by omega, by go_num, no_more hnoh.out hxh.out hrh.out, bstep hB hB6⟩
                          case measure => simp [intOf]; omega
                    · have hltn : ¬ (k : Int) < c.reals.length := by omega
                      have hd5 := Lib.hid (no_all hnoh.out hlt)
                      clear hlt hnoh
                      clear q
                      have q := box7 hx1
                      go_wp2
                      have hBw := bstep hB0 hB
                      clear hB0 hB hx0 hs0 q
                      replace hx0 := hx1
                      replace hs0 := hs1
                      replace hB0 := hBw
                      clear hx1 hs1 hBw
                      obtain ⟨w0, rfl⟩ : ∃ w0 : World, w0 = wr := ⟨_, rfl⟩
                      go_loopw [10] (fun i wr => ∃ k : Nat, k ≤ c.owns.length ∧ i = .int .i64 k ∧ Aside (∀ (j : Nat) (p : Int), j < k → c.owns[j]? = some p → ownB p = true) ∧ Below w0.heap.size w0 wr) (fun i _ => c.owns.length - (intOf i).toNat)
                      case atStart => exact ⟨0, Nat.zero_le _, rfl, fun j x h => by omega, Below.refl _ _⟩
                      case round =>
                        obtain ⟨k, hk, rfl, hno, hB⟩ := hrel
                        have hnoh := Lib.hid hno
                        clear hno
                        have hx1 := blk_keep hB hx0
                        have hs1 := hs0.below hB
                        have q := box7 hx1
                        have l0 : w.heap.size < wr.heap.size := (Array.getElem?_eq_some_iff.1 hx1).1
                        by_cases hlt : k < c.owns.length
                        · have hlt' : (k : Int) < c.owns.length := by omega
                          have hk0 : (0 : Int) ≤ (k : Int) := by omega
                          obtain ⟨b, off, c', hA, -, hb, hcell, -⟩ := hch.out.owns.ints (by omega)
                          cases hA
                          have hx : c.owns[k]? = some (c.owns.getD k 0) := by simp [hlt]
                          have hck := hcell wr hs1 k hlt
                          clear hcell
                          generalize c.owns.getD k 0 = p at *
                          have hxh := Lib.hid hx
                          have l2 := hs1.lt' hb
                          cases hr : ownB p
                          all_goals
                            have hrh := Lib.hid hr
                            clear hr hx
                            go_wp2_with (go_at_call 181; refine (r14_in _ _ _ _).mono ?_; rintro e w' ⟨rfl, rfl⟩; rw [show withinB p 0 3 = _ from (in03 p).trans hrh.out])
                          · go_ret2
                            exact ⟨⟨_, ret_pair (tab_false (.inr (.inr (.inr (.inr (.inr ⟨k, _, hxh.out, hrh.out⟩)))))).symm⟩, bstep hB0 (hB)⟩
                          · go_roundw
                            case rel => exact ⟨k + 1, by omega, by go_num, no_more hnoh.out hxh.out hrh.out, hB⟩
                            case measure => simp [intOf]; omega
                        · have hltn : ¬ (k : Int) < c.owns.length := by omega
                          have hd6 := Lib.hid (no_all hnoh.out hlt)
                          clear hlt hnoh
                          clear q
                          have q := box7 hx1
                          go_wp2
                          go_ret2
                          exact ⟨⟨_, ret_pair (tab_true hd1.out hd2.out hd3.out hd4.out hd5.out hd6.out).symm⟩, bstep hB0 hB⟩
end Go.Proofs.YtififjlgjmgikaaGreat
namespace Go.Proofs.YtififjlgjmgikaaGreat
set_option linter.all false
open Go.RowKit

theorem instrE_zero {c : CodeD} {x : InstrD} : instrE c x = 0 ↔ instrOk c x = true := by
  unfold instrE
  cases h : instrOk c x
  · cases isOpB x.op <;> simp
  · have : isOpB x.op = true := by
      unfold instrOk at h
      cases hf : fmtOf x.op with
      | none => rw [hf] at h; cases h
      | some f => exact (lets _ f hf).1
    simp [this]
def CheckR (c : CodeD) (e : Ending) : Prop := ∃ E i : Int, e = .returned (.tuple #[.int .i64 E, .int .i64 i]) ∧ (E == 0) = fineB c
theorem checkR_mk {c : CodeD} {E i : Int} (h : (E == 0) = fineB c) : CheckR c (.returned (.tuple #[.int .i64 E, .int .i64 i])) := ⟨E, i, rfl, h⟩
set_option maxHeartbeats 4000000 in
set_option maxRecDepth 100000 in
theorem r14_Check (H : PH) (v : Value) (c : CodeD) (w : World) (hw : Sees w H) (hc : CodeV H v c) :
    Calls Tryz.prog 126 #[v] w fun e w' => CheckR c e ∧ Below w.heap.size w w' := by
  have hcv := Lib.hid hc
  obtain ⟨A0, c0, A1, c1, A2, c2, A3, c3, A4, c4, A5, c5, A6, c6, rfl, hc, b0, b1, b2, b3, b4, b5, b6⟩ := hc.forms
  have hx0 := ga_new w (.cells #[.slice A0 c.instrs.length c0, .slice A1 c.procs.length c1, .slice A2 c.thunks.length c2, .slice A3 c.switches.length c3, .slice A4 c.strings.length c4, .slice A5 c.reals.length c5, .slice A6 c.owns.length c6] 30)
  have hB0 : Below w.heap.size w (w.alloc (.cells #[.slice A0 c.instrs.length c0, .slice A1 c.procs.length c1, .slice A2 c.thunks.length c2, .slice A3 c.switches.length c3, .slice A4 c.strings.length c4, .slice A5 c.reals.length c5, .slice A6 c.owns.length c6] 30)) := (Below.refl _ _).alloc (Nat.le_refl _) _
  have hs0 := hw.below hB0
  have hmx := run_max6 Tryz.prog
  have hL := Lib.hid (show largeB c = true ↔ (c.instrs.length < 1 ∨ 20000 < c.instrs.length ∨ 2000 < mxI (mxI (mxI (mxI (mxI c.procs.length c.thunks.length) c.switches.length) c.strings.length) c.reals.length) c.owns.length) by
    simp only [largeB, Bool.or_eq_true, decide_eq_true_eq, beq_iff_eq, mxI_lt]; omega)
  have hF := Lib.hid (show fineB c = (!largeB c && tablesB c && c.instrs.all (instrOk c)) from rfl)
  have hT := Lib.hid (fun (w1 : World) (hs : Sees w1 H) => r14_tables H _ c w1 hs hcv.out)
  have hch := Lib.hid hc
  clear hc
  go_enter Tryz.func126, Tryz.ntmps126
  go_wp2_with fail
  all_goals first
    | (go_ret2; exact ⟨checkR_mk (by rw [hF.out, hL.out.2 (by omega)]; rfl), hB0⟩)
    | skip
  have hl : largeB c = false := by
    cases h : largeB c
    · rfl
    · have := hL.out.1 h; omega
  have hlh := Lib.hid hl
  clear hl
  refine (hT.out _ (by exact hs0)).mono ?_
  rintro e w1 ⟨⟨i, rfl⟩, hB1⟩
  have hx1 := blk_keep hB1 hx0
  have hs1 := hs0.below hB1
  have hB2 := bstep hB0 hB1
  cases ht : tablesB c
  · have hth := Lib.hid ht
    have he : errOf false = 3 := rfl
    clear ht
    go_wp2
    go_ret2
    exact ⟨checkR_mk (by rw [hF.out, hth.out, Bool.and_false, Bool.false_and]; rfl), hB2⟩
  · have hth := Lib.hid ht
    have he : errOf true = 0 := rfl
    clear ht hx0 hs0 hB0 hB1
    have q := box7 hx1
    have l1 : w.heap.size < w1.heap.size := (Array.getElem?_eq_some_iff.1 hx1).1
    go_wp2
    clear q l1
    have hx0 := hx1
    have hs0 := hs1
    clear hx1 hs1
    go_loopw [7] (fun i wr => ∃ k : Nat, k ≤ c.instrs.length ∧ i = .int .i64 k ∧ Aside (∀ (j : Nat) (p : InstrD), j < k → c.instrs[j]? = some p → instrOk c p = true) ∧ Below w1.heap.size w1 wr) (fun i _ => c.instrs.length - (intOf i).toNat)
    case atStart => exact ⟨0, Nat.zero_le _, rfl, fun j x h => by omega, Below.refl _ _⟩
    case round =>
      obtain ⟨k, hk, rfl, hno, hB⟩ := hrel
      have hnoh := Lib.hid hno
      clear hno
      have hx1 := blk_keep hB hx0
      have hs1 := hs0.below hB
      have q := box7 hx1
      have l0 : w.heap.size < wr.heap.size := (Array.getElem?_eq_some_iff.1 hx1).1
      by_cases hlt : k < c.instrs.length
      · have hlt' : (k : Int) < c.instrs.length := by omega
        have hk0 : (0 : Int) ≤ (k : Int) := by omega
        obtain ⟨b, off, c', hA, -, hb, hcell, -⟩ := hch.out.instrs.instrs (by omega)
        cases hA
        have hx : c.instrs[k]? = some (c.instrs.getD k default) := by simp [hlt]
        have hck := fun (w' : World) (hs : Sees w' H) => hcell w' hs k hlt
        clear hcell
        generalize c.instrs.getD k default = p at *
        have hxh := Lib.hid hx
        have hcellh := Lib.hid hck
        clear hx hck
        have hz := Lib.hid (instrE_zero (c := c) (x := p))
        have hI := Lib.hid (fun (w1 : World) (hs : Sees w1 H) => r14_instr H _ c p w1 hs hcv.out)
        generalize instrE c p = E at *
        cases hr : instrOk c p
        · have hne : (E != 0) = true := by
            have : E ≠ 0 := fun e => by have := hz.out.1 e; rw [hr] at this; cases this
            simpa using this
          have hne2 := Lib.hid (show (E == 0) = false by simpa using hne)
          have hrh := Lib.hid hr
          clear hr
          go_wp2
          refine wp_region_plan (fun w' => Sees w' H ∧ w'.heap[w.heap.size]? = wr.heap[w.heap.size]?) [(0, true), (1, true), (2, true), (3, true), (4, true), (5, true), (6, false), (7, true)] (by kernel_rfl) (by kernel_rfl) (by kernel_rfl) ⟨fun i o e => hs1 i o e, rfl⟩ ?_
          repeat first
            | (refine plan_skip rfl (by rfl) ?_; simp only [Act.put, List.setIfInBounds_toArray, List.set_cons_zero, List.set_cons_succ])
            | (refine plan_read (v := ?_) rfl (by rfl) ?_ ?_; rotate_left; (focus (intro w' hSw; have q' := box7 (hSw.2.trans hx1); have l' := (Array.getElem?_eq_some_iff.1 (hSw.2.trans hx1)).1; have q2 := hcellh.out w' hSw.1; have l2 := hSw.1.lt' hb; clear hSw; go_simp; all_goals with_reducible rfl)); simp only [Act.put, List.setIfInBounds_toArray, List.set_cons_zero, List.set_cons_succ])
          refine plan_step rfl (by rfl) (fun K hK => ?_)
          go_simp
          (go_at_call 166; refine (hI.out _ (by exact fun i o e => hs1 i o e)).mono ?_; rintro e w6 ⟨rfl, hB6⟩)
          refine hK.out _ _ ⟨(by exact fun i o e => hs1 i o e : Sees wr.drew H).below hB6, (blk_keep hB6 hx1).trans hx1.symm⟩ ?_
          clear hK K
          repeat first
            | (refine plan_skip rfl (by rfl) ?_; simp only [Act.put, List.setIfInBounds_toArray, List.set_cons_zero, List.set_cons_succ])
            | (refine plan_read (v := ?_) rfl (by rfl) ?_ ?_; rotate_left; (focus (intro w' hSw; skip; clear hSw; go_simp; all_goals with_reducible rfl)); simp only [Act.put, List.setIfInBounds_toArray, List.set_cons_zero, List.set_cons_succ])
          refine plan_nil (NoPanic.normal ?_)
          go_wp2
          go_ret2
          have hf : c.instrs.all (instrOk c) = false := List.all_eq_false.2 ⟨p, List.mem_of_getElem? hxh.out, by rw [hrh.out]; simp⟩
          exact ⟨checkR_mk (by rw [hF.out, hf, Bool.and_false]; exact hne2.out), bstep hB2 (bstep hB (drewB hB6))⟩
        · obtain rfl : E = 0 := hz.out.2 hr
          have hrh := Lib.hid hr
          clear hr
          go_wp2
          refine wp_region_plan (fun w' => Sees w' H ∧ w'.heap[w.heap.size]? = wr.heap[w.heap.size]?) [(0, true), (1, true), (2, true), (3, true), (4, true), (5, true), (6, false), (7, true)] (by kernel_rfl) (by kernel_rfl) (by kernel_rfl) ⟨fun i o e => hs1 i o e, rfl⟩ ?_
          repeat first
            | (refine plan_skip rfl (by rfl) ?_; simp only [Act.put, List.setIfInBounds_toArray, List.set_cons_zero, List.set_cons_succ])
            | (refine plan_read (v := ?_) rfl (by rfl) ?_ ?_; rotate_left; (focus (intro w' hSw; have q' := box7 (hSw.2.trans hx1); have l' := (Array.getElem?_eq_some_iff.1 (hSw.2.trans hx1)).1; have q2 := hcellh.out w' hSw.1; have l2 := hSw.1.lt' hb; clear hSw; go_simp; all_goals with_reducible rfl)); simp only [Act.put, List.setIfInBounds_toArray, List.set_cons_zero, List.set_cons_succ])
          refine plan_step rfl (by rfl) (fun K hK => ?_)
          go_simp
          (go_at_call 166; refine (hI.out _ (by exact fun i o e => hs1 i o e)).mono ?_; rintro e w6 ⟨rfl, hB6⟩)
          refine hK.out _ _ ⟨(by exact fun i o e => hs1 i o e : Sees wr.drew H).below hB6, (blk_keep hB6 hx1).trans hx1.symm⟩ ?_
          clear hK K
          repeat first
            | (refine plan_skip rfl (by rfl) ?_; simp only [Act.put, List.setIfInBounds_toArray, List.set_cons_zero, List.set_cons_succ])
            | (refine plan_read (v := ?_) rfl (by rfl) ?_ ?_; rotate_left; (focus (intro w' hSw; skip; clear hSw; go_simp; all_goals with_reducible rfl)); simp only [Act.put, List.setIfInBounds_toArray, List.set_cons_zero, List.set_cons_succ])
          refine plan_nil (NoPanic.normal ?_)
          go_wp2
          go_roundw
          case rel => exact ⟨k + 1, by omega, by go_num, no_more hnoh.out hxh.out hrh.out, bstep hB (drewB hB6)⟩
          case measure => simp [intOf]; omega
      · have hltn : ¬ (k : Int) < c.instrs.length := by omega
        have hd := Lib.hid (no_all hnoh.out hlt)
        clear hlt hnoh
        go_wp2
        go_ret2
        have hf : c.instrs.all (instrOk c) = true := List.all_eq_true.2 fun x hx => by
          obtain ⟨j, hj⟩ := List.getElem?_of_mem hx
          exact hd.out j x hj
        exact ⟨checkR_mk (by rw [hF.out, hf, hlh.out, hth.out]; rfl), bstep hB2 hB⟩
set_option maxHeartbeats 1000000 in
theorem r14_Valid (H : PH) (v : Value) (c : CodeD) (w : World) (hw : Sees w H) (hc : CodeV H v c) :
    Calls Tryz.prog 92 #[v] w fun e w' => e = .returned (.bool (fineB c)) ∧ Below w.heap.size w w' := by
  have hc0 := hc
  obtain ⟨s0, s1, s2, s3, s4, s5, s6, rfl, hc⟩ := hc
  have hx0 := ga_new w (.cells #[s0, s1, s2, s3, s4, s5, s6] 30)
  have hB0 : Below w.heap.size w (w.alloc (.cells #[s0, s1, s2, s3, s4, s5, s6] 30)) := (Below.refl _ _).alloc (Nat.le_refl _) _
  have hC := Lib.hid (fun (w1 : World) (hs : Sees w1 H) => r14_Check H _ c w1 hs hc0)
  clear hc hc0 hx0
  generalize hf : fineB c = F at *
  have hfh := Lib.hid hf
  clear hf
  go_enter Tryz.func92, Tryz.ntmps92
  go_wp2_with (go_at_call 126; refine (hC.out _ (hw.below hB0)).mono ?_; rintro e w1 ⟨⟨E, i, rfl, hE⟩, hB1⟩; rw [hfh.out] at hE; have hEh := Lib.hid hE; clear hE)
  go_ret
  exact ⟨ret_bool hEh.out, bstep hB0 hB1⟩
end Go.Proofs.YtififjlgjmgikaaGreat
