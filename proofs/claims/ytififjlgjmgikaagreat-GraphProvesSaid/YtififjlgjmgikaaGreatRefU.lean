/- The reference's Idoms, Dominates, AroundError, Blocks, BlockAt (seat .Z). The reference's path (seat .Z). graph.Around; the reference's Dominates, AroundError, IsAround (seat .Z). -/
import Derived.Test.YtififjlgjmgikaaGreatRefY
import Derived.Test.YtififjlgjmgikaaGreatRefX
import Derived.Test.YtififjlgjmgikaaGreatAroundW
namespace Go.Proofs.YtififjlgjmgikaaGreat
set_option linter.all false
open Go.RowKit

theorem grB_of {c : CodeD} (hf : fineB c = true) {K : PH} {b : Nat} {s0 s1 s2 s3 s4 s5 s6 L E R : Value} (hb : K b = some (.cells #[s0, s1, s2, s3, s4, s5, s6, L, E, R] 65 (0, 0)))
    (hL : SlV rBlock K L (theFlow c).blocks) (hE : SlV rBool K E (theFlow c).entry) (hR : SlV rBool K R (theFlow c).reached) : GrB K b L E R (theFlow c) :=
  ⟨⟨_, _, _, _, _, _, _, hb⟩, hL, hE, hR, by rw [flow_len]; simp [theFlow], by rw [flow_len]; simp [theFlow], flow_le hf, fun b hb => (flow_nx hf b hb).1, fun b hb => (flow_nx hf b hb).2⟩
/-- The immediate dominators, or an error. -/
def IdRes (H : PH) (w w' : World) (c : CodeD) (e : Ending) : Prop := ∃ u xs, e = .returned (.tuple #[u, .int .i64 (checkedE c)]) ∧ SlV rInt (extH H w w') u xs ∧ ((checkedE c = 0 ∧ xs = idomL (theFlow c)) ∨ (checkedE c ≠ 0 ∧ xs = []))
end Go.Proofs.YtififjlgjmgikaaGreat
namespace Go.Proofs.YtififjlgjmgikaaGreat
set_option linter.all false
open Go.RowKit

/-- A path of reached blocks that leads to b. -/
structure PathP (f : FlowD) (l : List Int) (b : Int) : Prop where
  pos : 0 < l.length
  last : l.getD (l.length - 1) 0 = b
  ok : ∀ i, i < l.length → (0 ≤ l.getD i 0 ∧ l.getD i 0 < f.blocks.length) ∧ f.reached.getD (l.getD i 0).toNat false = true
  step : ∀ i, i + 1 < l.length → l.getD (i + 1) 0 ∈ nxB f (l.getD i 0)
noncomputable def pathB (f : FlowD) (l : List Int) (b : Int) : Bool := dcd (PathP f l b)
/-- The first k blocks are as they should be. -/
def PathK (f : FlowD) (l : List Int) (k : Nat) : Prop := (∀ i, i < k → (0 ≤ l.getD i 0 ∧ l.getD i 0 < f.blocks.length) ∧ f.reached.getD (l.getD i 0).toNat false = true) ∧ ∀ i, i + 1 < k → l.getD (i + 1) 0 ∈ nxB f (l.getD i 0)
theorem PathK.more {f : FlowD} {l : List Int} {k : Nat} {y : Int} (h : PathK f l k) (hy : l.getD k 0 = y) (h1 : (0 ≤ y ∧ y < f.blocks.length) ∧ f.reached.getD y.toNat false = true) (h2 : k = 0 ∨ y ∈ nxB f (l.getD (k - 1) 0)) : PathK f l (k + 1) := by
  refine ⟨fun i hi => ?_, fun i hi => ?_⟩
  · by_cases e : i = k
    · subst e; rw [hy]; exact h1
    · exact h.1 i (by omega)
  · by_cases e : i + 1 = k
    · subst e
      rw [hy]
      rcases h2 with h2 | h2
      · omega
      · simpa using h2
    · exact h.2 i (by omega)
set_option maxHeartbeats 8000000 in
set_option maxRecDepth 100000 in
theorem r19_path (H : PH) (bg : Nat) (L E R vl : Value) (f : FlowD) (ls : List Int) (b : Int) (w : World) (hw : Sees w H) (hg : GrB H bg L E R f) (hl : SlV rInt H vl ls) :
    Calls Tryz.prog 57 #[.pointer (some ⟨bg, 0, none⟩), vl, .int .i64 b] w fun e w' => e = .returned (.bool (pathB f ls b)) ∧ Below w.heap.size w w' := by
  have lx := hl.le
  have hle := hg.le
  have hlR := hg.lenR
  have hL := hg.blocks
  have hRe := hg.reached
  obtain ⟨s0, s1, s2, s3, s4, s5, s6, hb⟩ := hg.blk
  obtain ⟨AL, cL, rfl, -, -⟩ := hL.open_
  obtain ⟨AR, cR, rfl, -, -⟩ := hRe.open_
  obtain ⟨A0, c0, rfl, -, -⟩ := hl.open_
  have hbx := hw _ _ hb
  have hbgl := hw.lt hb
  have hS := Lib.hid (show pathB f ls b = true ↔ PathP f ls b from dcd_iff)
  generalize pathB f ls b = B at *
  rw [hlR] at hbx
  have hlRh := Lib.hid hlR
  have hIn := Lib.hid (fun (y : Int) (u : Value) (xs : List Int) (w1 : World) (hs : Sees w1 H) (hx : SlV rInt H u xs) => r19_in H y u xs w1 hs hx)
  clear hb hg hlR
  by_cases hpos : 0 < ls.length
  · obtain ⟨b1, o1, c1, e1, -, hb1, hc1, hi64⟩ := hl.ints hpos
    cases e1
    have hc1h := Lib.hid hc1
    have hq1 := hc1 w hw (ls.length - 1) (by omega)
    have l1 := hw.lt' hb1
    have hpos' : ((ls.length : Int) == 0) = false := by rw [beq_eq_false_iff_ne]; omega
    have hw1 : IntKind.i64.wrap ((ls.length : Int) - 1) = ((ls.length - 1 : Nat) : Int) := by rw [show (ls.length : Int) - 1 = ((ls.length - 1 : Nat) : Int) by omega]; exact IntWalk.i64_in _ (by omega)
    have hm0 : (0 : Int) ≤ ((ls.length - 1 : Nat) : Int) := by omega
    have hm1 : ((ls.length - 1 : Nat) : Int) < ls.length := by omega
    obtain ⟨z, hz⟩ : ∃ z, ls.getD (ls.length - 1) 0 = z := ⟨_, rfl⟩
    rw [hz] at hq1
    have hzh := Lib.hid hz
    obtain ⟨m, hm⟩ : ∃ m, m = ls.length - 1 := ⟨_, rfl⟩
    rw [← hm] at hq1 hw1 hm0 hm1
    have hmh := Lib.hid hm
    clear hc1 hz hm
    by_cases hzb : z = b
    · subst hzb
      have hzz : (z != z) = false := by simp
      go_enter Tryz.func57, Tryz.ntmps57
      go_upto_region 3 with fail
      clear hw1 hzz hq1 hpos' hm0 hm1 l1
      go_wp2_with fail
      refine wp_name fun wx hwx => ?_
      obtain rfl := hwx.symm
      go_loopw [7] (fun i wr => ∃ k : Nat, k ≤ ls.length ∧ i = .int .i64 k ∧ Aside (PathK f ls k) ∧ Below w.heap.size w wr) (fun i _ => ls.length - (intOf i).toNat)
      case atStart => exact ⟨0, Nat.zero_le _, rfl, ⟨fun i hi => by omega, fun i hi => by omega⟩, Below.refl _ _⟩
      case round =>
        obtain ⟨k, hk, rfl, hP, hB⟩ := hrel
        have hPh := Lib.hid hP
        clear hP
        have hsee := hw.below hB
        have hbr := blk_keep hB hbx
        have l1 := hsee.lt' hb1
        have lg := (Array.getElem?_eq_some_iff.1 hbr).1
        by_cases hlt : k < ls.length
        · have hlt' : (k : Int) < ls.length := by omega
          have hk0 : (0 : Int) ≤ k := by omega
          have hlk := hc1h.out wr hsee k hlt
          obtain ⟨y, hy⟩ : ∃ y, ls.getD k 0 = y := ⟨_, rfl⟩
          rw [hy] at hlk
          have hyh := Lib.hid hy
          clear hy
          have hcs := Lib.hid (fun (w' : World) (h : w'.heap = wr.heap) => And.intro ((cell_heap h _).trans hlk) (And.intro (size_heap h l1) (And.intro (box10 ((congrArg (·[bg]?) h).trans hbr)) (size_heap h lg))))
          have hbad : ∀ (hn : ¬ ((0 ≤ y ∧ y < f.blocks.length) ∧ f.reached.getD y.toNat false = true)), B = false := fun hn => by
            refine Bool.eq_false_iff.2 fun h => hn ?_
            have := (hS.out.1 h).ok k hlt
            rwa [hyh.out] at this
          have hbadh := Lib.hid hbad
          clear hbad
          by_cases hy0 : y < 0
          · have t1 : decide (y < 0) = true := decide_eq_true hy0
            have hbf := Lib.hid (hbadh.out (by omega))
            clear hy0
            go_upto_region 6 with fail
            refine wp_region_plan (fun w' => w'.heap = wr.heap) [(0, true), (1, true), (2, true), (3, true), (4, true), (5, true), (6, true), (7, true), (8, true), (9, true), (10, true), (11, true), (12, true), (13, true), (14, true), (15, true), (16, true), (17, true), (18, true), (19, true), (20, true), (21, true), (22, true), (23, true), (24, true), (25, true), (26, true), (27, true), (28, true), (29, true)] (by kernel_rfl) (by kernel_rfl) (by kernel_rfl) rfl ?_
            repeat first
              | (refine plan_skip rfl (by rfl) ?_; simp only [Act.put, List.setIfInBounds_toArray, List.set_cons_zero, List.set_cons_succ])
              | (refine plan_read (v := ?_) rfl (by rfl) ?_ ?_; rotate_left; (focus (intro w' hSw; obtain ⟨p1, p2, p3, p4⟩ := hcs.out _ hSw; clear hSw; go_simp; all_goals with_reducible rfl)); simp only [Act.put, List.setIfInBounds_toArray, List.set_cons_zero, List.set_cons_succ])
            refine plan_nil (NoPanic.normal ?_)
            go_wp2
            go_ret
            exact ⟨ret_bool hbf.out.symm, bdrew hB⟩
          · have t1 : decide (y < 0) = false := decide_eq_false hy0
            by_cases hyn : (f.blocks.length : Int) ≤ y
            · have t2 : decide ((f.blocks.length : Int) ≤ y) = true := decide_eq_true hyn
              have hbf := Lib.hid (hbadh.out (by omega))
              clear hyn hy0
              go_upto_region 6 with fail
              refine wp_region_plan (fun w' => w'.heap = wr.heap) [(0, true), (1, true), (2, true), (3, true), (4, true), (5, true), (6, true), (7, true), (8, true), (9, true), (10, true), (11, true), (12, true), (13, true), (14, true), (15, true), (16, true), (17, true), (18, true), (19, true), (20, true), (21, true), (22, true), (23, true), (24, true), (25, true), (26, true), (27, true), (28, true), (29, true)] (by kernel_rfl) (by kernel_rfl) (by kernel_rfl) rfl ?_
              repeat first
                | (refine plan_skip rfl (by rfl) ?_; simp only [Act.put, List.setIfInBounds_toArray, List.set_cons_zero, List.set_cons_succ])
                | (refine plan_read (v := ?_) rfl (by rfl) ?_ ?_; rotate_left; (focus (intro w' hSw; obtain ⟨p1, p2, p3, p4⟩ := hcs.out _ hSw; clear hSw; go_simp; all_goals with_reducible rfl)); simp only [Act.put, List.setIfInBounds_toArray, List.set_cons_zero, List.set_cons_succ])
              refine plan_nil (NoPanic.normal ?_)
              go_wp2
              go_ret
              exact ⟨ret_bool hbf.out.symm, bdrew hB⟩
            · have t2 : decide ((f.blocks.length : Int) ≤ y) = false := decide_eq_false hyn
              have r0 : 0 ≤ y := by omega
              have r1 : y < (f.blocks.length : Int) := by omega
              obtain ⟨rb, ro, rc, hve, -, hrb, hrcell⟩ := hRe.bools (by have := hlRh.out; omega)
              rw [hlRh.out] at hve
              cases hve
              have hrc := hrcell wr hsee y.toNat (by rw [hlRh.out]; omega)
              have lr := hsee.lt' hrb
              have hcr := Lib.hid (fun (w' : World) (h : w'.heap = wr.heap) => And.intro ((cell_heap h _).trans hrc) (size_heap h lr))
              clear hy0 hyn hrcell
              cases hrv : f.reached.getD y.toNat false
              · have hbf := Lib.hid (hbadh.out (by rw [hrv]; simp))
                rw [hrv] at hcr hrc
                clear hrv hrc
                go_upto_region 6 with fail
                refine wp_region_plan (fun w' => w'.heap = wr.heap) [(0, true), (1, true), (2, true), (3, true), (4, true), (5, true), (6, true), (7, true), (8, true), (9, true), (10, true), (11, true), (12, true), (13, true), (14, true), (15, true), (16, true), (17, true), (18, true), (19, true), (20, true), (21, true), (22, true), (23, true), (24, true), (25, true), (26, true), (27, true), (28, true), (29, true)] (by kernel_rfl) (by kernel_rfl) (by kernel_rfl) rfl ?_
                repeat first
                  | (refine plan_skip rfl (by rfl) ?_; simp only [Act.put, List.setIfInBounds_toArray, List.set_cons_zero, List.set_cons_succ])
                  | (refine plan_read (v := ?_) rfl (by rfl) ?_ ?_; rotate_left; (focus (intro w' hSw; obtain ⟨p1, p2, p3, p4⟩ := hcs.out _ hSw; obtain ⟨p5, p6⟩ := hcr.out _ hSw; clear hSw; go_simp; all_goals with_reducible rfl)); simp only [Act.put, List.setIfInBounds_toArray, List.set_cons_zero, List.set_cons_succ])
                refine plan_nil (NoPanic.normal ?_)
                go_wp2
                go_ret
                exact ⟨ret_bool hbf.out.symm, bdrew hB⟩
              · have hgood := Lib.hid (And.intro (And.intro r0 r1) hrv)
                rw [hrv] at hcr hrc
                clear hrv hrc
                go_upto_region 6 with fail
                refine wp_region_plan (fun w' => w'.heap = wr.heap) [(0, true), (1, true), (2, true), (3, true), (4, true), (5, true), (6, true), (7, true), (8, true), (9, true), (10, true), (11, true), (12, true), (13, true), (14, true), (15, true), (16, true), (17, true), (18, true), (19, true), (20, true), (21, true), (22, true), (23, true), (24, true), (25, true), (26, true), (27, true), (28, true), (29, true)] (by kernel_rfl) (by kernel_rfl) (by kernel_rfl) rfl ?_
                repeat first
                  | (refine plan_skip rfl (by rfl) ?_; simp only [Act.put, List.setIfInBounds_toArray, List.set_cons_zero, List.set_cons_succ])
                  | (refine plan_read (v := ?_) rfl (by rfl) ?_ ?_; rotate_left; (focus (intro w' hSw; obtain ⟨p1, p2, p3, p4⟩ := hcs.out _ hSw; obtain ⟨p5, p6⟩ := hcr.out _ hSw; clear hSw; go_simp; all_goals with_reducible rfl)); simp only [Act.put, List.setIfInBounds_toArray, List.set_cons_zero, List.set_cons_succ])
                refine plan_nil (NoPanic.normal ?_)
                clear t1 t2 hcr
                by_cases hkz : k = 0
                · have t3 : decide (0 < k) = false := decide_eq_false (by omega)
                  have t4 : decide ((0 : Int) < k) = false := decide_eq_false (by omega)
                  have hkzh := Lib.hid hkz
                  clear hkz
                  have hst := Lib.hid (hPh.out.more hyh.out hgood.out (.inl hkzh.out))
                  go_upto_region 8 with fail
                  refine wp_region_plan (fun w' => w'.heap = wr.heap) [(0, true), (1, true), (2, true), (3, true), (4, true), (5, true), (6, true), (7, true), (8, true), (9, true), (10, true), (11, true), (12, true), (13, true), (14, true), (15, true), (16, true), (17, true), (18, true), (19, true), (20, true), (21, true)] (by kernel_rfl) (by kernel_rfl) (by kernel_rfl) rfl ?_
                  repeat first
                    | (refine plan_skip rfl (by rfl) ?_; simp only [Act.put, List.setIfInBounds_toArray, List.set_cons_zero, List.set_cons_succ])
                    | (refine plan_read (v := ?_) rfl (by rfl) ?_ ?_; rotate_left; (focus (intro w' hSw; skip; clear hSw; go_simp; all_goals with_reducible rfl)); simp only [Act.put, List.setIfInBounds_toArray, List.set_cons_zero, List.set_cons_succ])
                  refine plan_nil (NoPanic.normal ?_)
                  go_wp2
                  go_roundw
                  case rel => exact ⟨k + 1, by omega, by go_num, hst.out, bdrew (bdrew hB)⟩
                  case measure => simp [intOf]; omega
                · obtain ⟨j, hj⟩ : ∃ j, k = j + 1 := ⟨k - 1, by omega⟩
                  have hjl : j < ls.length := by omega
                  have hjl' : (j : Int) < ls.length := by omega
                  have hj0 : (0 : Int) ≤ j := by omega
                  have t3 : decide (0 < k) = true := decide_eq_true (by omega)
                  have t4 : decide ((0 : Int) < k) = true := decide_eq_true (by omega)
                  have t5 : IntKind.i64.wrap ((k : Int) - 1) = (j : Int) := by rw [hj]; push_cast; rw [Int.add_sub_cancel]; exact IntWalk.i64_in _ (by omega)
                  obtain ⟨⟨z0, z1⟩, -⟩ := hPh.out.1 j (by omega)
                  have hlj := hc1h.out wr hsee j hjl
                  have hkj : k - 1 = j := by omega
                  obtain ⟨z2, hz2⟩ : ∃ z2, ls.getD j 0 = z2 := ⟨_, rfl⟩
                  rw [hz2] at z0 z1 hlj
                  obtain ⟨bL, oL, cL', hLe, -, hbL, hrow, -⟩ := hL.blocks (by omega)
                  cases hLe
                  obtain ⟨u, hu, huc⟩ := hrow z2.toNat (by omega)
                  have hnz : (f.blocks.getD z2.toNat default).next = nxB f z2 := rfl
                  rw [hnz] at hu
                  have hlu := (huc wr hsee).2.2
                  have lL := hsee.lt' hbL
                  have hcu := Lib.hid (fun (w' : World) (h : w'.heap = wr.heap) => And.intro ((cell_heap h _).trans hlj) (And.intro ((cell_heap h _).trans hlu) (size_heap h lL)))
                  have hsr : Sees wr.drew H := by exact fun i o e => hsee i o e
                  have hIny := hIn.out y u (nxB f z2) wr.drew.drew (by exact fun i o e => hsee i o e) hu
                  cases hin : inB y (nxB f z2)
                  · have hbf := Lib.hid (show B = false by
                      refine Bool.eq_false_iff.2 fun h => ?_
                      have h1 := (hS.out.1 h).step j (by omega)
                      rw [← hj, hyh.out, hz2] at h1
                      have : inB y (nxB f z2) = true := decide_eq_true h1
                      rw [hin] at this; cases this)
                    rw [hin] at hIny
                    clear hrow huc hlu hlj hz2 hkj hj hkz hin hnz hu
                    go_upto_region 8 with fail
                    refine wp_region_plan (fun w' => w'.heap = wr.heap) [(0, true), (1, true), (2, true), (3, true), (4, true), (5, true), (6, true), (7, true), (8, true), (9, true), (10, true), (11, true), (12, true), (13, true), (14, true), (15, true), (16, true), (17, true), (18, true), (19, false), (20, true), (21, true)] (by kernel_rfl) (by kernel_rfl) (by kernel_rfl) rfl ?_
                    repeat first
                      | (refine plan_skip rfl (by rfl) ?_; simp only [Act.put, List.setIfInBounds_toArray, List.set_cons_zero, List.set_cons_succ])
                      | (refine plan_read (v := ?_) rfl (by rfl) ?_ ?_; rotate_left; (focus (intro w' hSw; obtain ⟨p1, p2, p3, p4⟩ := hcs.out _ hSw; obtain ⟨p5, p6, p7⟩ := hcu.out _ hSw; clear hSw; go_simp; all_goals with_reducible rfl)); simp only [Act.put, List.setIfInBounds_toArray, List.set_cons_zero, List.set_cons_succ])
                    refine plan_step rfl (by rfl) (fun K hK => ?_)
                    go_simp
                    refine hIny.mono ?_
                    rintro e w6 ⟨rfl, rfl⟩
                    refine hK.out _ _ rfl ?_
                    clear hK K
                    repeat first
                      | (refine plan_skip rfl (by rfl) ?_; simp only [Act.put, List.setIfInBounds_toArray, List.set_cons_zero, List.set_cons_succ])
                      | (refine plan_read (v := ?_) rfl (by rfl) ?_ ?_; rotate_left; (focus (intro w' hSw; skip; clear hSw; go_simp; all_goals with_reducible rfl)); simp only [Act.put, List.setIfInBounds_toArray, List.set_cons_zero, List.set_cons_succ])
                    refine plan_nil (NoPanic.normal ?_)
                    clear t3 t4 t5
                    go_wp2
                    go_ret
                    exact ⟨ret_bool hbf.out.symm, bdrew (bdrew hB)⟩
                  · have hst := Lib.hid (hPh.out.more hyh.out hgood.out (.inr (by rw [hkj, hz2]; unfold inB at hin; simpa using hin)))
                    rw [hin] at hIny
                    clear hrow huc hlu hlj hz2 hkj hj hkz hin hnz hu
                    go_upto_region 8 with fail
                    refine wp_region_plan (fun w' => w'.heap = wr.heap) [(0, true), (1, true), (2, true), (3, true), (4, true), (5, true), (6, true), (7, true), (8, true), (9, true), (10, true), (11, true), (12, true), (13, true), (14, true), (15, true), (16, true), (17, true), (18, true), (19, false), (20, true), (21, true)] (by kernel_rfl) (by kernel_rfl) (by kernel_rfl) rfl ?_
                    repeat first
                      | (refine plan_skip rfl (by rfl) ?_; simp only [Act.put, List.setIfInBounds_toArray, List.set_cons_zero, List.set_cons_succ])
                      | (refine plan_read (v := ?_) rfl (by rfl) ?_ ?_; rotate_left; (focus (intro w' hSw; obtain ⟨p1, p2, p3, p4⟩ := hcs.out _ hSw; obtain ⟨p5, p6, p7⟩ := hcu.out _ hSw; clear hSw; go_simp; all_goals with_reducible rfl)); simp only [Act.put, List.setIfInBounds_toArray, List.set_cons_zero, List.set_cons_succ])
                    refine plan_step rfl (by rfl) (fun K hK => ?_)
                    go_simp
                    refine hIny.mono ?_
                    rintro e w6 ⟨rfl, rfl⟩
                    refine hK.out _ _ rfl ?_
                    clear hK K
                    repeat first
                      | (refine plan_skip rfl (by rfl) ?_; simp only [Act.put, List.setIfInBounds_toArray, List.set_cons_zero, List.set_cons_succ])
                      | (refine plan_read (v := ?_) rfl (by rfl) ?_ ?_; rotate_left; (focus (intro w' hSw; skip; clear hSw; go_simp; all_goals with_reducible rfl)); simp only [Act.put, List.setIfInBounds_toArray, List.set_cons_zero, List.set_cons_succ])
                    refine plan_nil (NoPanic.normal ?_)
                    clear t3 t4 t5
                    go_wp2
                    go_roundw
                    case rel => exact ⟨k + 1, by omega, by go_num, hst.out, bdrew (bdrew hB)⟩
                    case measure => simp [intOf]; omega
        · obtain rfl : k = ls.length := by omega
          have hltn : ¬ (ls.length : Int) < ls.length := by omega
          have hbt := Lib.hid (show B = true from hS.out.2 ⟨hpos, by rw [← hmh.out]; rw [hmh.out]; exact hzh.out, hPh.out.1, hPh.out.2⟩)
          clear hlt hpos
          go_wp2
          go_ret
          exact ⟨ret_bool hbt.out.symm, hB⟩
    · have hzz : (z != b) = true := by simpa using hzb
      have hbf := Lib.hid (show B = false by
        refine Bool.eq_false_iff.2 fun h => hzb ?_
        have := (hS.out.1 h).last
        rw [← this]; exact hzh.out.symm)
      clear hzb
      go_enter Tryz.func57, Tryz.ntmps57
      go_upto_region 2 with fail
      clear hw1
      go_wp2
      go_ret
      exact ⟨ret_bool hbf.out.symm, Below.refl _ _⟩
  · have hl0 : ls.length = 0 := by omega
    have hbf := Lib.hid (show B = false from Bool.eq_false_iff.2 fun h => hpos (hS.out.1 h).pos)
    rw [hl0]
    clear hpos hl0 lx
    go_enter Tryz.func57, Tryz.ntmps57
    go_wp2
    go_ret
    exact ⟨ret_bool hbf.out.symm, Below.refl _ _⟩
end Go.Proofs.YtififjlgjmgikaaGreat
namespace Go.Proofs.YtififjlgjmgikaaGreat
set_option linter.all false
open Go.RowKit

end Go.Proofs.YtififjlgjmgikaaGreat
