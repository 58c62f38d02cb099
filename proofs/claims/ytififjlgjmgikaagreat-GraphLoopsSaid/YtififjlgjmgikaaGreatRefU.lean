/- The reference's Idoms, Dominates, AroundError, Blocks, BlockAt (seat .Z). The reference's path (seat .Z). graph.Around; the reference's Dominates, AroundError, IsAround (seat .Z). -/
import Derived.Test.YtififjlgjmgikaaGreatRefY
import Derived.Test.YtififjlgjmgikaaGreatRefX
import Derived.Test.YtififjlgjmgikaaGreatAroundW
namespace Go.Proofs.YtififjlgjmgikaaGreat
set_option linter.all false
open Go.RowKit

theorem grB_of {c : CodeD} (hf : fineB c = true) {K : PH} {b : Nat} {s0 s1 s2 s3 s4 s5 s6 L E R : Value} (hb : K b = some (.cells #[s0, s1, s2, s3, s4, s5, s6, L, E, R] 65 (0, 0)))
    (hL : SlV rBlock K L (theFlow c).blocks) (hE : SlV rBool K E (theFlow c).entry) (hR : SlV rBool K R (theFlow c).reached) : GrB K b L E R (theFlow c) :=
  ⟨⟨_, _, _, _, _, _, _, hb⟩, hL, hE, hR, by rw [flow_len]; simp [theFlow], by rw [flow_len]; simp [theFlow], flow_le hf, fun b hb => (flow_nx hf b hb).1, fun b hb => (flow_nx hf b hb).2⟩
/-- The immediate dominators, or an error. -/
def IdRes (H : PH) (w w' : World) (c : CodeD) (e : Ending) : Prop := ∃ u xs, e = .returned (.tuple #[u, .int .i64 (checkedE c)]) ∧ SlV rInt (extH H w w') u xs ∧ ((checkedE c = 0 ∧ xs = idomL (theFlow c)) ∨ (checkedE c ≠ 0 ∧ xs = []))
theorem graph_Idoms_rd (H : PH) (v : Value) (c : CodeD) (w : World) (hw : Sees w H) (hc : CodeV H v c) :
    Calls Tryz.prog 13 #[v] w fun e w' => IdRes H w w' c e ∧ Below w.heap.size w w' := by
  by_cases h : checkedE c = 0
  · refine (graph_Idoms_ok H v c w hw hc h).mono ?_
    rintro e w' ⟨⟨u, rfl, hu⟩, hB⟩
    exact ⟨⟨u, _, by rw [h], hu, .inl ⟨h, rfl⟩⟩, hB⟩
  · refine (graph_Idoms_no H v c w hw hc h).mono ?_
    rintro e w' ⟨rfl, hB⟩
    exact ⟨⟨_, [], rfl, SlV.nil _ _, .inr ⟨h, rfl⟩⟩, hB⟩
theorem idomL_i64 {c : CodeD} (hf : fineB c = true) : ∀ x ∈ idomL (theFlow c), I64 x := by
  intro x hx
  unfold idomL at hx
  obtain ⟨b, hb, rfl⟩ := List.mem_map.1 hx
  have h1 := bestK_range (theFlow c) b (theFlow c).blocks.length
  have h2 := flow_le hf
  unfold idomB I64
  split <;> omega
set_option maxHeartbeats 4000000 in
set_option maxRecDepth 100000 in
theorem r19_Idoms_rd (H : PH) (v : Value) (c : CodeD) (w : World) (hw : Sees w H) (hc : CodeV H v c) :
    Calls Tryz.prog 14 #[v] w fun e w' => IdRes H w w' c e ∧ Below w.heap.size w w' := by
  have hSm := Lib.hid (fun (w1 : World) (hs : Sees w1 H) => r19_Small H _ c w1 hs hc)
  have hc0 := hc
  obtain ⟨s0, s1, s2, s3, s4, s5, s6, rfl, hc⟩ := hc
  have hx0 := ga_new w (.cells #[s0, s1, s2, s3, s4, s5, s6] 30)
  have hB0 : Below w.heap.size w (w.alloc (.cells #[s0, s1, s2, s3, s4, s5, s6] 30)) := (Below.refl _ _).alloc (Nat.le_refl _) _
  clear hc hc0
  obtain ⟨CE, hE⟩ : ∃ CE, checkedE c = CE := ⟨_, rfl⟩
  have hEh := Lib.hid hE
  by_cases hE0 : CE = 0
  · have hf := checked_fine (hE.trans hE0)
    subst hE0
    have hfh := Lib.hid hf
    unfold IdRes
    rw [hE]
    clear hE hf
    go_enter Tryz.func14, Tryz.ntmps14
    go_upto_region 4 with (first
      | (go_at_call 35; refine (hSm.out _ (hw.below hB0)).mono ?_; rintro e w1 ⟨⟨t0, t1, t2, t3, t4, t5, t6, L, E, R, rfl, hone, ho3, hrd⟩, hB1⟩; go_must (rw [hEh.out]); have hBa := bstep hB0 hB1; have hsa := extH.sees (hw.below hB0) hB1; have hrdh := Lib.hid hrd; clear hrd)
      | (with_reducible refine wpL_storeG rfl _ _ rfl w1.heap.size t0 t1 t2 t3 t4 t5 t6 L E R _ rfl rfl (ga_new w1 (.cells zeroG 65)) rfl hone ho3 ?_; intro w2 hb2 hg2 hz2; rw [World.size_alloc] at hz2; have hB12 : Below w1.heap.size w1 w2 := (((Below.refl _ _).alloc (Nat.le_refl _) _).grown hg2 (by simp) fun k hk => by injection hk with hk; omega); replace hBa := bstep hBa hB12))
    obtain ⟨hL, hE, hR⟩ := hrdh.out hfh.out
    have hle := extH.step (H := H) (w := w.alloc (.cells #[s0, s1, s2, s3, s4, s5, s6] 30)) hB12
    have hG := grB_of hfh.out (extH.new (by have := hB0.size; have := hB1.size; omega) hb2) (hL.mono hle) (hE.mono hle) (hR.mono hle)
    have hI := r19_idoms _ w1.heap.size L E R c w2 (extH.sees (hw.below hB0) (bstep hB1 hB12)) hfh.out hG
    go_wp2_with (go_at_call 45; refine hI.mono ?_; rintro e w3 ⟨⟨u, rfl, hown⟩, hB3⟩)
    go_ret2
    refine ⟨⟨_, _, rfl, (OwnI.lower (base' := w.heap.size) hown hBa.size).read (fun x hx => idomL_i64 hfh.out x hx) (by simp [idomL]; have := flow_le hfh.out; unfold maxN; omega), .inl ⟨by trivial, rfl⟩⟩, bstep hBa hB3⟩
  · have hne : (CE != 0) = true := by simpa using hE0
    unfold IdRes
    rw [hE]
    clear hE
    go_enter Tryz.func14, Tryz.ntmps14
    go_wp2_with (first
      | (go_at_call 35; refine (hSm.out _ (hw.below hB0)).mono ?_; rintro e w1 ⟨⟨t0, t1, t2, t3, t4, t5, t6, L, E, R, rfl, hone, ho3, hrd⟩, hB1⟩; go_must (rw [hEh.out]); have hBa := bstep hB0 hB1; have hsa := extH.sees (hw.below hB0) hB1; have hrdh := Lib.hid hrd; clear hrd)
      | (with_reducible refine wpL_storeG rfl _ _ rfl w1.heap.size t0 t1 t2 t3 t4 t5 t6 L E R _ rfl rfl (ga_new w1 (.cells zeroG 65)) rfl hone ho3 ?_; intro w2 hb2 hg2 hz2; rw [World.size_alloc] at hz2; have hB12 : Below w1.heap.size w1 w2 := (((Below.refl _ _).alloc (Nat.le_refl _) _).grown hg2 (by simp) fun k hk => by injection hk with hk; omega); replace hBa := bstep hBa hB12))
    go_ret2
    exact ⟨⟨_, [], rfl, SlV.nil _ _, .inr ⟨hE0, rfl⟩⟩, hBa⟩
end Go.Proofs.YtififjlgjmgikaaGreat
namespace Go.Proofs.YtififjlgjmgikaaGreat
set_option linter.all false
open Go.RowKit

/-- A path of reached blocks that leads to b. -/
structure PathP (f : FlowD) (l : List Int) (b : Int) : Prop where
  pos : 0 < l.length
  last : l.getD (l.length - 1) 0 = b
  ok : ∀ i, i < l.length → (0 ≤ l.getD i 0 ∧ l.getD i 0 < f.blocks.length) ∧ f.reached.getD (l.getD i 0).toNat false = true
  step : ∀ i, i + 1 < l.length → l.getD (i + 1) 0 ∈ nxB f (l.getD i 0)
noncomputable def pathB (f : FlowD) (l : List Int) (b : Int) : Bool := dcd (PathP f l b)
/-- The first k blocks are as they should be. -/
def PathK (f : FlowD) (l : List Int) (k : Nat) : Prop := (∀ i, i < k → (0 ≤ l.getD i 0 ∧ l.getD i 0 < f.blocks.length) ∧ f.reached.getD (l.getD i 0).toNat false = true) ∧ ∀ i, i + 1 < k → l.getD (i + 1) 0 ∈ nxB f (l.getD i 0)
theorem PathK.more {f : FlowD} {l : List Int} {k : Nat} {y : Int} (h : PathK f l k) (hy : l.getD k 0 = y) (h1 : (0 ≤ y ∧ y < f.blocks.length) ∧ f.reached.getD y.toNat false = true) (h2 : k = 0 ∨ y ∈ nxB f (l.getD (k - 1) 0)) : PathK f l (k + 1) := by
  refine ⟨fun i hi => ?_, fun i hi => ?_⟩
  · by_cases e : i = k
    · subst e; rw [hy]; exact h1
    · exact h.1 i (by omega)
  · by_cases e : i + 1 = k
    · subst e
      rw [hy]
      rcases h2 with h2 | h2
      · omega
      · simpa using h2
    · exact h.2 i (by omega)
set_option maxHeartbeats 8000000 in
set_option maxRecDepth 100000 in
theorem r19_path (H : PH) (bg : Nat) (L E R vl : Value) (f : FlowD) (ls : List Int) (b : Int) (w : World) (hw : Sees w H) (hg : GrB H bg L E R f) (hl : SlV rInt H vl ls) :
    Calls Tryz.prog 57 #[.pointer (some ⟨bg, 0, none⟩), vl, .int .i64 b] w fun e w' => e = .returned (.bool (pathB f ls b)) ∧ Below w.heap.size w w' := by
  have lx := hl.le
  have hle := hg.le
  have hlR := hg.lenR
  have hL := hg.blocks
  have hRe := hg.reached
  obtain ⟨s0, s1, s2, s3, s4, s5, s6, hb⟩ := hg.blk
  obtain ⟨AL, cL, rfl, -, -⟩ := hL.open_
  obtain ⟨AR, cR, rfl, -, -⟩ := hRe.open_
  obtain ⟨A0, c0, rfl, -, -⟩ := hl.open_
  have hbx := hw _ _ hb
  have hbgl := hw.lt hb
  have hS := Lib.hid (show pathB f ls b = true ↔ PathP f ls b from dcd_iff)
  generalize pathB f ls b = B at *
  rw [hlR] at hbx
  have hlRh := Lib.hid hlR
  have hIn := Lib.hid (fun (y : Int) (u : Value) (xs : List Int) (w1 : World) (hs : Sees w1 H) (hx : SlV rInt H u xs) => r19_in H y u xs w1 hs hx)
  clear hb hg hlR
  by_cases hpos : 0 < ls.length
  · obtain ⟨b1, o1, c1, e1, -, hb1, hc1, hi64⟩ := hl.ints hpos
    cases e1
    have hc1h := Lib.hid hc1
    have hq1 := hc1 w hw (ls.length - 1) (by omega)
    have l1 := hw.lt' hb1
    have hpos' : ((ls.length : Int) == 0) = false := by rw [beq_eq_false_iff_ne]; omega
    have hw1 : IntKind.i64.wrap ((ls.length : Int) - 1) = ((ls.length - 1 : Nat) : Int) := by rw [show (ls.length : Int) - 1 = ((ls.length - 1 : Nat) : Int) by omega]; exact IntWalk.i64_in _ (by omega)
    have hm0 : (0 : Int) ≤ ((ls.length - 1 : Nat) : Int) := by omega
    have hm1 : ((ls.length - 1 : Nat) : Int) < ls.length := by omega
    obtain ⟨z, hz⟩ : ∃ z, ls.getD (ls.length - 1) 0 = z := ⟨_, rfl⟩
    rw [hz] at hq1
    have hzh := Lib.hid hz
    obtain ⟨m, hm⟩ : ∃ m, m = ls.length - 1 := ⟨_, rfl⟩
    rw [← hm] at hq1 hw1 hm0 hm1
    have hmh := Lib.hid hm
    clear hc1 hz hm
    by_cases hzb : z = b
    · subst hzb
      have hzz : (z != z) = false := by simp
      go_enter Tryz.func57, Tryz.ntmps57
      go_upto_region 3 with fail
      clear hw1 hzz hq1 hpos' hm0 hm1 l1
      go_wp2_with fail
      refine wp_name fun wx hwx => ?_
      obtain rfl := hwx.symm
      go_loopw [7] (fun i wr => ∃ k : Nat, k ≤ ls.length ∧ i = .int .i64 k ∧ Aside (PathK f ls k) ∧ Below w.heap.size w wr) (fun i _ => ls.length - (intOf i).toNat)
      case atStart => exact ⟨0, Nat.zero_le _, rfl, ⟨fun i hi => by omega, fun i hi => by omega⟩, Below.refl _ _⟩
      case round =>
        obtain ⟨k, hk, rfl, hP, hB⟩ := hrel
        have hPh := Lib.hid hP
        clear hP
        have hsee := hw.below hB
        have hbr := blk_keep hB hbx
        have l1 := hsee.lt' hb1
        have lg := (Array.getElem?_eq_some_iff.1 hbr).1
        by_cases hlt : k < ls.length
        · have hlt' : (k : Int) < ls.length := by omega
          have hk0 : (0 : Int) ≤ k := by omega
          have hlk := hc1h.out wr hsee k hlt
          obtain ⟨y, hy⟩ : ∃ y, ls.getD k 0 = y := ⟨_, rfl⟩
          rw [hy] at hlk
          have hyh := Lib.hid hy
          clear hy
          have hcs := Lib.hid (fun (w' : World) (h : w'.heap = wr.heap) => And.intro ((cell_heap h _).trans hlk) (And.intro (size_heap h l1) (And.intro (box10 ((congrArg (·[bg]?) h).trans hbr)) (size_heap h lg))))
          have hbad : ∀ (hn : ¬ ((0 ≤ y ∧ y < f.blocks.length) ∧ f.reached.getD y.toNat false = true)), B = false := fun hn => by
            refine Bool.eq_false_iff.2 fun h => hn ?_
            have := (hS.out.1 h).ok k hlt
            rwa [hyh.out] at this
          have hbadh := Lib.hid hbad
          clear hbad
          by_cases hy0 : y < 0
          · have t1 : decide (y < 0) = true := decide_eq_true hy0
            have hbf := Lib.hid (hbadh.out (by omega))
            clear hy0
            go_upto_region 6 with fail
            refine wp_region_plan (fun w' => w'.heap = wr.heap) [(0, true), (1, true), (2, true), (3, true), (4, true), (5, true), (6, true), (7, true), (8, true), (9, true), (10, true), (11, true), (12, true), (13, true), (14, true), (15, true), (16, true), (17, true), (18, true), (19, true), (20, true), (21, true), (22, true), (23, true), (24, true), (25, true), (26, true), (27, true), (28, true), (29, true)] (by kernel_rfl) (by kernel_rfl) (by kernel_rfl) rfl ?_
            repeat first
              | (refine plan_skip rfl (by rfl) ?_; simp only [Act.put, List.setIfInBounds_toArray, List.set_cons_zero, List.set_cons_succ])
              | (refine plan_read (v := ?_) rfl (by rfl) ?_ ?_; rotate_left; (focus (intro w' hSw; obtain ⟨p1, p2, p3, p4⟩ := hcs.out _ hSw; clear hSw; go_simp; all_goals with_reducible rfl)); simp only [Act.put, List.setIfInBounds_toArray, List.set_cons_zero, List.set_cons_succ])
            refine plan_nil (NoPanic.normal ?_)
            go_wp2
            go_ret
            exact ⟨ret_bool hbf.out.symm, bdrew hB⟩
          · have t1 : decide (y < 0) = false := decide_eq_false hy0
            by_cases hyn : (f.blocks.length : Int) ≤ y
            · have t2 : decide ((f.blocks.length : Int) ≤ y) = true := decide_eq_true hyn
              have hbf := Lib.hid (hbadh.out (by omega))
              clear hyn hy0
              go_upto_region 6 with fail
              refine wp_region_plan (fun w' => w'.heap = wr.heap) [(0, true), (1, true), (2, true), (3, true), (4, true), (5, true), (6, true), (7, true), (8, true), (9, true), (10, true), (11, true), (12, true), (13, true), (14, true), (15, true), (16, true), (17, true), (18, true), (19, true), (20, true), (21, true), (22, true), (23, true), (24, true), (25, true), (26, true), (27, true), (28, true), (29, true)] (by kernel_rfl) (by kernel_rfl) (by kernel_rfl) rfl ?_
              repeat first
                | (refine plan_skip rfl (by rfl) ?_; simp only [Act.put, List.setIfInBounds_toArray, List.set_cons_zero, List.set_cons_succ])
                | (refine plan_read (v := ?_) rfl (by rfl) ?_ ?_; rotate_left; (focus (intro w' hSw; obtain ⟨p1, p2, p3, p4⟩ := hcs.out _ hSw; clear hSw; go_simp; all_goals with_reducible rfl)); simp only [Act.put, List.setIfInBounds_toArray, List.set_cons_zero, List.set_cons_succ])
              refine plan_nil (NoPanic.normal ?_)
              go_wp2
              go_ret
              exact ⟨ret_bool hbf.out.symm, bdrew hB⟩
            · have t2 : decide ((f.blocks.length : Int) ≤ y) = false := decide_eq_false hyn
              have r0 : 0 ≤ y := by omega
              have r1 : y < (f.blocks.length : Int) := by omega
              obtain ⟨rb, ro, rc, hve, -, hrb, hrcell⟩ := hRe.bools (by have := hlRh.out; omega)
              rw [hlRh.out] at hve
              cases hve
              have hrc := hrcell wr hsee y.toNat (by rw [hlRh.out]; omega)
              have lr := hsee.lt' hrb
              have hcr := Lib.hid (fun (w' : World) (h : w'.heap = wr.heap) => And.intro ((cell_heap h _).trans hrc) (size_heap h lr))
              clear hy0 hyn hrcell
              cases hrv : f.reached.getD y.toNat false
              · have hbf := Lib.hid (hbadh.out (by rw [hrv]; simp))
                rw [hrv] at hcr hrc
                clear hrv hrc
                go_upto_region 6 with fail
                refine wp_region_plan (fun w' => w'.heap = wr.heap) [(0, true), (1, true), (2, true), (3, true), (4, true), (5, true), (6, true), (7, true), (8, true), (9, true), (10, true), (11, true), (12, true), (13, true), (14, true), (15, true), (16, true), (17, true), (18, true), (19, true), (20, true), (21, true), (22, true), (23, true), (24, true), (25, true), (26, true), (27, true), (28, true), (29, true)] (by kernel_rfl) (by kernel_rfl) (by kernel_rfl) rfl ?_
                repeat first
                  | (refine plan_skip rfl (by rfl) ?_; simp only [Act.put, List.setIfInBounds_toArray, List.set_cons_zero, List.set_cons_succ])
                  | (refine plan_read (v := ?_) rfl (by rfl) ?_ ?_; rotate_left; (focus (intro w' hSw; obtain ⟨p1, p2, p3, p4⟩ := hcs.out _ hSw; obtain ⟨p5, p6⟩ := hcr.out _ hSw; clear hSw; go_simp; all_goals with_reducible rfl)); simp only [Act.put, List.setIfInBounds_toArray, List.set_cons_zero, List.set_cons_succ])
                refine plan_nil (NoPanic.normal ?_)
                go_wp2
                go_ret
                exact ⟨ret_bool hbf.out.symm, bdrew hB⟩
              · have hgood := Lib.hid (And.intro (And.intro r0 r1) hrv)
                rw [hrv] at hcr hrc
                clear hrv hrc
                go_upto_region 6 with fail
                refine wp_region_plan (fun w' => w'.heap = wr.heap) [(0, true), (1, true), (2, true), (3, true), (4, true), (5, true), (6, true), (7, true), (8, true), (9, true), (10, true), (11, true), (12, true), (13, true), (14, true), (15, true), (16, true), (17, true), (18, true), (19, true), (20, true), (21, true), (22, true), (23, true), (24, true), (25, true), (26, true), (27, true), (28, true), (29, true)] (by kernel_rfl) (by kernel_rfl) (by kernel_rfl) rfl ?_
                repeat first
                  | (refine plan_skip rfl (by rfl) ?_; simp only [Act.put, List.setIfInBounds_toArray, List.set_cons_zero, List.set_cons_succ])
                  | (refine plan_read (v := ?_) rfl (by rfl) ?_ ?_; rotate_left; (focus (intro w' hSw; obtain ⟨p1, p2, p3, p4⟩ := hcs.out _ hSw; obtain ⟨p5, p6⟩ := hcr.out _ hSw; clear hSw; go_simp; all_goals with_reducible rfl)); simp only [Act.put, List.setIfInBounds_toArray, List.set_cons_zero, List.set_cons_succ])
                refine plan_nil (NoPanic.normal ?_)
                clear t1 t2 hcr
                by_cases hkz : k = 0
                · have t3 : decide (0 < k) = false := decide_eq_false (by omega)
                  have t4 : decide ((0 : Int) < k) = false := decide_eq_false (by omega)
                  have hkzh := Lib.hid hkz
                  clear hkz
                  have hst := Lib.hid (hPh.out.more hyh.out hgood.out (.inl hkzh.out))
                  go_upto_region 8 with fail
                  refine wp_region_plan (fun w' => w'.heap = wr.heap) [(0, true), (1, true), (2, true), (3, true), (4, true), (5, true), (6, true), (7, true), (8, true), (9, true), (10, true), (11, true), (12, true), (13, true), (14, true), (15, true), (16, true), (17, true), (18, true), (19, true), (20, true), (21, true)] (by kernel_rfl) (by kernel_rfl) (by kernel_rfl) rfl ?_
                  repeat first
                    | (refine plan_skip rfl (by rfl) ?_; simp only [Act.put, List.setIfInBounds_toArray, List.set_cons_zero, List.set_cons_succ])
                    | (refine plan_read (v := ?_) rfl (by rfl) ?_ ?_; rotate_left; (focus (intro w' hSw; skip; clear hSw; go_simp; all_goals with_reducible rfl)); simp only [Act.put, List.setIfInBounds_toArray, List.set_cons_zero, List.set_cons_succ])
                  refine plan_nil (NoPanic.normal ?_)
                  go_wp2
                  go_roundw
                  case rel => exact ⟨k + 1, by omega, by go_num, hst.out, bdrew (bdrew hB)⟩
                  case measure => simp [intOf]; omega
                · obtain ⟨j, hj⟩ : ∃ j, k = j + 1 := ⟨k - 1, by omega⟩
                  have hjl : j < ls.length := by omega
                  have hjl' : (j : Int) < ls.length := by omega
                  have hj0 : (0 : Int) ≤ j := by omega
                  have t3 : decide (0 < k) = true := decide_eq_true (by omega)
                  have t4 : decide ((0 : Int) < k) = true := decide_eq_true (by omega)
                  have t5 : IntKind.i64.wrap ((k : Int) - 1) = (j : Int) := by rw [hj]; push_cast; rw [Int.add_sub_cancel]; exact IntWalk.i64_in _ (by omega)
                  obtain ⟨⟨z0, z1⟩, -⟩ := hPh.out.1 j (by omega)
                  have hlj := hc1h.out wr hsee j hjl
                  have hkj : k - 1 = j := by omega
                  obtain ⟨z2, hz2⟩ : ∃ z2, ls.getD j 0 = z2 := ⟨_, rfl⟩
                  rw [hz2] at z0 z1 hlj
                  obtain ⟨bL, oL, cL', hLe, -, hbL, hrow, -⟩ := hL.blocks (by omega)
                  cases hLe
                  obtain ⟨u, hu, huc⟩ := hrow z2.toNat (by omega)
                  have hnz : (f.blocks.getD z2.toNat default).next = nxB f z2 := rfl
                  rw [hnz] at hu
                  have hlu := (huc wr hsee).2.2
                  have lL := hsee.lt' hbL
                  have hcu := Lib.hid (fun (w' : World) (h : w'.heap = wr.heap) => And.intro ((cell_heap h _).trans hlj) (And.intro ((cell_heap h _).trans hlu) (size_heap h lL)))
                  have hsr : Sees wr.drew H := by exact fun i o e => hsee i o e
                  have hIny := hIn.out y u (nxB f z2) wr.drew.drew (by exact fun i o e => hsee i o e) hu
                  cases hin : inB y (nxB f z2)
                  · have hbf := Lib.hid (show B = false by
                      refine Bool.eq_false_iff.2 fun h => ?_
                      have h1 := (hS.out.1 h).step j (by omega)
                      rw [← hj, hyh.out, hz2] at h1
                      have : inB y (nxB f z2) = true := decide_eq_true h1
                      rw [hin] at this; cases this)
                    rw [hin] at hIny
                    clear hrow huc hlu hlj hz2 hkj hj hkz hin hnz hu
                    go_upto_region 8 with fail
                    refine wp_region_plan (fun w' => w'.heap = wr.heap) [(0, true), (1, true), (2, true), (3, true), (4, true), (5, true), (6, true), (7, true), (8, true), (9, true), (10, true), (11, true), (12, true), (13, true), (14, true), (15, true), (16, true), (17, true), (18, true), (19, false), (20, true), (21, true)] (by kernel_rfl) (by kernel_rfl) (by kernel_rfl) rfl ?_
                    repeat first
                      | (refine plan_skip rfl (by rfl) ?_; simp only [Act.put, List.setIfInBounds_toArray, List.set_cons_zero, List.set_cons_succ])
                      | (refine plan_read (v := ?_) rfl (by rfl) ?_ ?_; rotate_left; (focus (intro w' hSw; obtain ⟨p1, p2, p3, p4⟩ := hcs.out _ hSw; obtain ⟨p5, p6, p7⟩ := hcu.out _ hSw; clear hSw; go_simp; all_goals with_reducible rfl)); simp only [Act.put, List.setIfInBounds_toArray, List.set_cons_zero, List.set_cons_succ])
                    refine plan_step rfl (by rfl) (fun K hK => ?_)
                    go_simp
                    refine hIny.mono ?_
                    rintro e w6 ⟨rfl, rfl⟩
                    refine hK.out _ _ rfl ?_
                    clear hK K
                    repeat first
                      | (refine plan_skip rfl (by rfl) ?_; simp only [Act.put, List.setIfInBounds_toArray, List.set_cons_zero, List.set_cons_succ])
                      | (refine plan_read (v := ?_) rfl (by rfl) ?_ ?_; rotate_left; (focus (intro w' hSw; skip; clear hSw; go_simp; all_goals with_reducible rfl)); simp only [Act.put, List.setIfInBounds_toArray, List.set_cons_zero, List.set_cons_succ])
                    refine plan_nil (NoPanic.normal ?_)
                    clear t3 t4 t5
                    go_wp2
                    go_ret
                    exact ⟨ret_bool hbf.out.symm, bdrew (bdrew hB)⟩
                  · have hst := Lib.hid (hPh.out.more hyh.out hgood.out (.inr (by rw [hkj, hz2]; unfold inB at hin; simpa using hin)))
                    rw [hin] at hIny
                    clear hrow huc hlu hlj hz2 hkj hj hkz hin hnz hu
                    go_upto_region 8 with fail
                    refine wp_region_plan (fun w' => w'.heap = wr.heap) [(0, true), (1, true), (2, true), (3, true), (4, true), (5, true), (6, true), (7, true), (8, true), (9, true), (10, true), (11, true), (12, true), (13, true), (14, true), (15, true), (16, true), (17, true), (18, true), (19, false), (20, true), (21, true)] (by kernel_rfl) (by kernel_rfl) (by kernel_rfl) rfl ?_
                    repeat first
                      | (refine plan_skip rfl (by rfl) ?_; simp only [Act.put, List.setIfInBounds_toArray, List.set_cons_zero, List.set_cons_succ])
                      | (refine plan_read (v := ?_) rfl (by rfl) ?_ ?_; rotate_left; (focus (intro w' hSw; obtain ⟨p1, p2, p3, p4⟩ := hcs.out _ hSw; obtain ⟨p5, p6, p7⟩ := hcu.out _ hSw; clear hSw; go_simp; all_goals with_reducible rfl)); simp only [Act.put, List.setIfInBounds_toArray, List.set_cons_zero, List.set_cons_succ])
                    refine plan_step rfl (by rfl) (fun K hK => ?_)
                    go_simp
                    refine hIny.mono ?_
                    rintro e w6 ⟨rfl, rfl⟩
                    refine hK.out _ _ rfl ?_
                    clear hK K
                    repeat first
                      | (refine plan_skip rfl (by rfl) ?_; simp only [Act.put, List.setIfInBounds_toArray, List.set_cons_zero, List.set_cons_succ])
                      | (refine plan_read (v := ?_) rfl (by rfl) ?_ ?_; rotate_left; (focus (intro w' hSw; skip; clear hSw; go_simp; all_goals with_reducible rfl)); simp only [Act.put, List.setIfInBounds_toArray, List.set_cons_zero, List.set_cons_succ])
                    refine plan_nil (NoPanic.normal ?_)
                    clear t3 t4 t5
                    go_wp2
                    go_roundw
                    case rel => exact ⟨k + 1, by omega, by go_num, hst.out, bdrew (bdrew hB)⟩
                    case measure => simp [intOf]; omega
        · obtain rfl : k = ls.length := by omega
          have hltn : ¬ (ls.length : Int) < ls.length := by omega
          have hbt := Lib.hid (show B = true from hS.out.2 ⟨hpos, by rw [← hmh.out]; rw [hmh.out]; exact hzh.out, hPh.out.1, hPh.out.2⟩)
          clear hlt hpos
          go_wp2
          go_ret
          exact ⟨ret_bool hbt.out.symm, hB⟩
    · have hzz : (z != b) = true := by simpa using hzb
      have hbf := Lib.hid (show B = false by
        refine Bool.eq_false_iff.2 fun h => hzb ?_
        have := (hS.out.1 h).last
        rw [← this]; exact hzh.out.symm)
      clear hzb
      go_enter Tryz.func57, Tryz.ntmps57
      go_upto_region 2 with fail
      clear hw1
      go_wp2
      go_ret
      exact ⟨ret_bool hbf.out.symm, Below.refl _ _⟩
  · have hl0 : ls.length = 0 := by omega
    have hbf := Lib.hid (show B = false from Bool.eq_false_iff.2 fun h => hpos (hS.out.1 h).pos)
    rw [hl0]
    clear hpos hl0 lx
    go_enter Tryz.func57, Tryz.ntmps57
    go_wp2
    go_ret
    exact ⟨ret_bool hbf.out.symm, Below.refl _ _⟩
end Go.Proofs.YtififjlgjmgikaaGreat
namespace Go.Proofs.YtififjlgjmgikaaGreat
set_option linter.all false
open Go.RowKit

theorem domD_eq {f : FlowD} (hl : f.entry.length = f.blocks.length) {a : Int} {k : Nat} {lv : Bool} (h : lv = true ↔ RA f (· = a) k) : domD f a k = (f.reached.getD k false && !lv) := by
  unfold domD
  rw [Int.toNat_natCast]
  congr 2
  rw [Bool.eq_iff_iff, dcd_iff, h, around_iff]
set_option maxHeartbeats 4000000 in
set_option maxRecDepth 100000 in
theorem r19_Dominates (H : PH) (v : Value) (c : CodeD) (a b : Int) (w : World) (hw : Sees w H) (hc : CodeV H v c) :
    Calls Tryz.prog 21 #[v, .int .i64 a, .int .i64 b] w fun e w' => e = .returned (.tuple #[.bool (domV c a b), .int .i64 (domE c a b)]) ∧ Below w.heap.size w w' := by
  have hSm := Lib.hid (fun (w1 : World) (hs : Sees w1 H) => r19_Small H _ c w1 hs hc)
  have hc0 := hc
  obtain ⟨s0, s1, s2, s3, s4, s5, s6, rfl, hc⟩ := hc
  have hx0 := ga_new w (.cells #[s0, s1, s2, s3, s4, s5, s6] 30)
  have hB0 : Below w.heap.size w (w.alloc (.cells #[s0, s1, s2, s3, s4, s5, s6] 30)) := (Below.refl _ _).alloc (Nat.le_refl _) _
  clear hc hc0
  obtain ⟨CE, hE⟩ : ∃ CE, checkedE c = CE := ⟨_, rfl⟩
  have hEh := Lib.hid hE
  by_cases hE0 : CE = 0
  · have hf := checked_fine (hE.trans hE0)
    subst hE0
    have hfh := Lib.hid hf
    cases hb : bothB (theFlow c) a b
    · have hv : domV c a b = false := by simp [domV, domE, hE, hb]
      have he : domE c a b = 5 := by simp [domE, hE, hb]
      rw [hv, he]
      have hbh := Lib.hid hb
      clear hE hf hv he hb
      go_enter Tryz.func21, Tryz.ntmps21
      go_wp2_with (first
        | (go_at_call 35; refine (hSm.out _ (hw.below hB0)).mono ?_; rintro e w1 ⟨⟨t0, t1, t2, t3, t4, t5, t6, L, E, R, rfl, hone, ho3, hrd⟩, hB1⟩; go_must (rw [hEh.out]); have hBa := bstep hB0 hB1; have hsa := extH.sees (hw.below hB0) hB1; have hrdh := Lib.hid hrd; clear hrd)
        | (with_reducible refine wpL_storeG rfl _ _ rfl w1.heap.size t0 t1 t2 t3 t4 t5 t6 L E R _ rfl rfl (ga_new w1 (.cells zeroG 65)) rfl hone ho3 ?_; intro w2 hb2 hg2 hz2; rw [World.size_alloc] at hz2; have hB12 : Below w1.heap.size w1 w2 := (((Below.refl _ _).alloc (Nat.le_refl _) _).grown hg2 (by simp) fun k hk => by injection hk with hk; omega); replace hBa := bstep hBa hB12)
        | (go_at_call 54; obtain ⟨hL, hE, hR⟩ := hrdh.out hfh.out; have hle := extH.step (H := H) (w := w.alloc (.cells #[s0, s1, s2, s3, s4, s5, s6] 30)) hB12; have hG := grB_of hfh.out (extH.new (by have := hB0.size; have := hB1.size; omega) hb2) (hL.mono hle) (hE.mono hle) (hR.mono hle); have hs2 := extH.sees (hw.below hB0) (bstep hB1 hB12); refine (r19_are _ w1.heap.size L E R (theFlow c) a _ w2 hs2 hG).mono ?_; rintro e w7 ⟨rfl, rfl⟩; rw [hbh.out]))
      go_ret2
      exact ⟨rfl, hBa⟩
    · have he : domE c a b = 0 := by simp [domE, hE, hb]
      have hv : domV c a b = domD (theFlow c) a b := by simp [domV, he]
      rw [he, hv]
      obtain ⟨ha1, hb1⟩ := both_range hb
      obtain ⟨k, rfl⟩ : ∃ k : Nat, b = (k : Int) := ⟨b.toNat, by omega⟩
      have hbh := Lib.hid hb
      have hkl : k < (theFlow c).blocks.length := by omega
      obtain ⟨D, hD⟩ : ∃ D, domD (theFlow c) a k = D := ⟨_, rfl⟩
      rw [hD]
      have hDh := Lib.hid hD
      have hklh := Lib.hid hkl
      clear hE hf hv he hb hD hkl ha1 hb1
      go_enter Tryz.func21, Tryz.ntmps21
      go_upto_region 7 with (first
        | (go_at_call 35; refine (hSm.out _ (hw.below hB0)).mono ?_; rintro e w1 ⟨⟨t0, t1, t2, t3, t4, t5, t6, L, E, R, rfl, hone, ho3, hrd⟩, hB1⟩; go_must (rw [hEh.out]); have hBa := bstep hB0 hB1; have hsa := extH.sees (hw.below hB0) hB1; have hrdh := Lib.hid hrd; clear hrd)
        | (with_reducible refine wpL_storeG rfl _ _ rfl w1.heap.size t0 t1 t2 t3 t4 t5 t6 L E R _ rfl rfl (ga_new w1 (.cells zeroG 65)) rfl hone ho3 ?_; intro w2 hb2 hg2 hz2; rw [World.size_alloc] at hz2; have hB12 : Below w1.heap.size w1 w2 := (((Below.refl _ _).alloc (Nat.le_refl _) _).grown hg2 (by simp) fun k hk => by injection hk with hk; omega); replace hBa := bstep hBa hB12)
        | (go_at_call 54; obtain ⟨hL, hE, hR⟩ := hrdh.out hfh.out; have hle := extH.step (H := H) (w := w.alloc (.cells #[s0, s1, s2, s3, s4, s5, s6] 30)) hB12; have hG := grB_of hfh.out (extH.new (by have := hB0.size; have := hB1.size; omega) hb2) (hL.mono hle) (hE.mono hle) (hR.mono hle); have hs2 := extH.sees (hw.below hB0) (bstep hB1 hB12); refine (r19_are _ w1.heap.size L E R (theFlow c) a _ w2 hs2 hG).mono ?_; rintro e w7 ⟨rfl, rfl⟩; rw [hbh.out])
        | (go_at_call 55; refine (r19_spread _ w1.heap.size L E R (theFlow c) a w2 hs2 hG).mono ?_; rintro e w3 ⟨⟨gL, bsL, rfl, hgL, hAL, hMk⟩, hB3⟩; dsimp only))
      have hs3 := hs2.below hB3
      have hcl := hAL.cell (j := k) (by have := hMk.len; have := hklh.out; omega)
      have hcll := hAL.lt
      have hkey := Lib.hid (hMk.iff_ k hklh.out)
      have hkl' : (k : Int) < (theFlow c).blocks.length := by have := hklh.out; omega
      have hk0 : (0 : Int) ≤ k := by omega
      obtain ⟨rb, ro, rc, rfl, -, hrb, hrcell⟩ := hG.reached.bools (by have := hG.lenR; omega)
      have hcr := hrcell w3 hs3 k (by have := hG.lenR; omega)
      have lr := hs3.lt' hrb
      have q9 := (box10 (blk_keep hB3 hb2)).2.2.2.2.2.2.2.2.2
      have l9 := (Array.getElem?_eq_some_iff.1 (blk_keep hB3 hb2)).1
      have hdl := hG.lenR
      have hkR : (k : Int) < (theFlow c).reached.length := by omega
      rw [domD_eq hG.lenE hkey.out] at hDh
      clear hrcell hG hkey hrdh hdl
      generalize (theFlow c).reached.getD k false = rv at *
      generalize bsL.getD k false = lv at *
      cases rv
      · go_wp2
        go_ret2
        exact ⟨by (rw [← hDh.out]; rfl), bstep hBa hB3⟩
      · go_wp2
        go_ret2
        exact ⟨by (rw [← hDh.out]; rfl), bstep hBa hB3⟩
  · have he : domE c a b = CE := by simp [domE, hE, hE0]
    have hv : domV c a b = false := by simp [domV, he, hE0]
    rw [he, hv]
    have hne : (CE != 0) = true := by simpa using hE0
    clear hE he hv
    go_enter Tryz.func21, Tryz.ntmps21
    go_wp2_with (first
      | (go_at_call 35; refine (hSm.out _ (hw.below hB0)).mono ?_; rintro e w1 ⟨⟨t0, t1, t2, t3, t4, t5, t6, L, E, R, rfl, hone, ho3, hrd⟩, hB1⟩; go_must (rw [hEh.out]); have hBa := bstep hB0 hB1; have hsa := extH.sees (hw.below hB0) hB1; have hrdh := Lib.hid hrd; clear hrd)
      | (with_reducible refine wpL_storeG rfl _ _ rfl w1.heap.size t0 t1 t2 t3 t4 t5 t6 L E R _ rfl rfl (ga_new w1 (.cells zeroG 65)) rfl hone ho3 ?_; intro w2 hb2 hg2 hz2; rw [World.size_alloc] at hz2; have hB12 : Below w1.heap.size w1 w2 := (((Below.refl _ _).alloc (Nat.le_refl _) _).grown hg2 (by simp) fun k hk => by injection hk with hk; omega); replace hBa := bstep hBa hB12))
    go_ret2
    exact ⟨rfl, hBa⟩
set_option maxHeartbeats 4000000 in
set_option maxRecDepth 100000 in
theorem r19_AroundError (H : PH) (v : Value) (c : CodeD) (a b : Int) (w : World) (hw : Sees w H) (hc : CodeV H v c) :
    Calls Tryz.prog 23 #[v, .int .i64 a, .int .i64 b] w fun e w' => e = .returned (.int .i64 (arndE c a b)) ∧ Below w.heap.size w w' := by
  have hSm := Lib.hid (fun (w1 : World) (hs : Sees w1 H) => r19_Small H _ c w1 hs hc)
  have hc0 := hc
  obtain ⟨s0, s1, s2, s3, s4, s5, s6, rfl, hc⟩ := hc
  have hx0 := ga_new w (.cells #[s0, s1, s2, s3, s4, s5, s6] 30)
  have hB0 : Below w.heap.size w (w.alloc (.cells #[s0, s1, s2, s3, s4, s5, s6] 30)) := (Below.refl _ _).alloc (Nat.le_refl _) _
  clear hc hc0
  obtain ⟨CE, hE⟩ : ∃ CE, checkedE c = CE := ⟨_, rfl⟩
  have hEh := Lib.hid hE
  by_cases hE0 : CE = 0
  · have hf := checked_fine (hE.trans hE0)
    subst hE0
    have hfh := Lib.hid hf
    cases hb : bothB (theFlow c) a b
    · have he : arndE c a b = 5 := by simp [arndE, hE, hb]
      rw [he]
      have hbh := Lib.hid hb
      clear hE hf he hb
      go_enter Tryz.func23, Tryz.ntmps23
      go_wp2_with (first
        | (go_at_call 35; refine (hSm.out _ (hw.below hB0)).mono ?_; rintro e w1 ⟨⟨t0, t1, t2, t3, t4, t5, t6, L, E, R, rfl, hone, ho3, hrd⟩, hB1⟩; go_must (rw [hEh.out]); have hBa := bstep hB0 hB1; have hsa := extH.sees (hw.below hB0) hB1; have hrdh := Lib.hid hrd; clear hrd)
        | (with_reducible refine wpL_storeG rfl _ _ rfl w1.heap.size t0 t1 t2 t3 t4 t5 t6 L E R _ rfl rfl (ga_new w1 (.cells zeroG 65)) rfl hone ho3 ?_; intro w2 hb2 hg2 hz2; rw [World.size_alloc] at hz2; have hB12 : Below w1.heap.size w1 w2 := (((Below.refl _ _).alloc (Nat.le_refl _) _).grown hg2 (by simp) fun k hk => by injection hk with hk; omega); replace hBa := bstep hBa hB12)
        | (go_at_call 54; obtain ⟨hL, hE, hR⟩ := hrdh.out hfh.out; have hle := extH.step (H := H) (w := w.alloc (.cells #[s0, s1, s2, s3, s4, s5, s6] 30)) hB12; have hG := grB_of hfh.out (extH.new (by have := hB0.size; have := hB1.size; omega) hb2) (hL.mono hle) (hE.mono hle) (hR.mono hle); have hs2 := extH.sees (hw.below hB0) (bstep hB1 hB12); refine (r19_are _ w1.heap.size L E R (theFlow c) a _ w2 hs2 hG).mono ?_; rintro e w7 ⟨rfl, rfl⟩; rw [hbh.out]))
      go_ret
      exact ⟨rfl, hBa⟩
    · obtain ⟨ha1, hb1⟩ := both_range hb
      obtain ⟨k, rfl⟩ : ∃ k : Nat, b = (k : Int) := ⟨b.toNat, by omega⟩
      have hbh := Lib.hid hb
      have hkl : k < (theFlow c).blocks.length := by omega
      obtain ⟨X, hX⟩ : ∃ X, arndE c a k = X := ⟨_, rfl⟩
      rw [hX]
      have hXX : ∀ lv : Bool, (lv = true ↔ RA (theFlow c) (· = a) k) → X = if lv = true then 0 else 4 := by
        intro lv h
        rw [← hX]
        unfold arndE
        rw [if_pos hE, if_pos hb]
        by_cases hl : lv = true
        · rw [if_pos hl, if_pos (dcd_iff.2 (around_iff.2 (h.1 hl)))]
        · rw [if_neg hl, if_neg (fun k => hl (h.2 (around_iff.1 (dcd_iff.1 k))))]
      have hXh := Lib.hid hXX
      have hklh := Lib.hid hkl
      clear hE hf hb hX hXX hkl ha1 hb1
      go_enter Tryz.func23, Tryz.ntmps23
      go_upto_region 7 with (first
        | (go_at_call 35; refine (hSm.out _ (hw.below hB0)).mono ?_; rintro e w1 ⟨⟨t0, t1, t2, t3, t4, t5, t6, L, E, R, rfl, hone, ho3, hrd⟩, hB1⟩; go_must (rw [hEh.out]); have hBa := bstep hB0 hB1; have hsa := extH.sees (hw.below hB0) hB1; have hrdh := Lib.hid hrd; clear hrd)
        | (with_reducible refine wpL_storeG rfl _ _ rfl w1.heap.size t0 t1 t2 t3 t4 t5 t6 L E R _ rfl rfl (ga_new w1 (.cells zeroG 65)) rfl hone ho3 ?_; intro w2 hb2 hg2 hz2; rw [World.size_alloc] at hz2; have hB12 : Below w1.heap.size w1 w2 := (((Below.refl _ _).alloc (Nat.le_refl _) _).grown hg2 (by simp) fun k hk => by injection hk with hk; omega); replace hBa := bstep hBa hB12)
        | (go_at_call 54; obtain ⟨hL, hE, hR⟩ := hrdh.out hfh.out; have hle := extH.step (H := H) (w := w.alloc (.cells #[s0, s1, s2, s3, s4, s5, s6] 30)) hB12; have hG := grB_of hfh.out (extH.new (by have := hB0.size; have := hB1.size; omega) hb2) (hL.mono hle) (hE.mono hle) (hR.mono hle); have hs2 := extH.sees (hw.below hB0) (bstep hB1 hB12); refine (r19_are _ w1.heap.size L E R (theFlow c) a _ w2 hs2 hG).mono ?_; rintro e w7 ⟨rfl, rfl⟩; rw [hbh.out])
        | (go_at_call 55; refine (r19_spread _ w1.heap.size L E R (theFlow c) a w2 hs2 hG).mono ?_; rintro e w3 ⟨⟨gL, bsL, rfl, hgL, hAL, hMk⟩, hB3⟩; dsimp only))
      have hs3 := hs2.below hB3
      have hcl := hAL.cell (j := k) (by have := hMk.len; have := hklh.out; omega)
      have hcll := hAL.lt
      have hkey := Lib.hid (hMk.iff_ k hklh.out)
      have hkl' : (k : Int) < (theFlow c).blocks.length := by have := hklh.out; omega
      have hk0 : (0 : Int) ≤ k := by omega
      have hXl := Lib.hid (hXh.out _ hkey.out)
      clear hG hkey hrdh
      generalize bsL.getD k false = lv at *
      cases lv
      · go_wp2
        go_ret
        exact ⟨by (rw [hXl.out]; rfl), bstep hBa hB3⟩
      · go_wp2
        go_ret
        exact ⟨by (rw [hXl.out]; rfl), bstep hBa hB3⟩
  · have he : arndE c a b = CE := by simp [arndE, hE, hE0]
    rw [he]
    have hne : (CE != 0) = true := by simpa using hE0
    clear hE he
    go_enter Tryz.func23, Tryz.ntmps23
    go_wp2_with (first
      | (go_at_call 35; refine (hSm.out _ (hw.below hB0)).mono ?_; rintro e w1 ⟨⟨t0, t1, t2, t3, t4, t5, t6, L, E, R, rfl, hone, ho3, hrd⟩, hB1⟩; go_must (rw [hEh.out]); have hBa := bstep hB0 hB1; have hsa := extH.sees (hw.below hB0) hB1; have hrdh := Lib.hid hrd; clear hrd)
      | (with_reducible refine wpL_storeG rfl _ _ rfl w1.heap.size t0 t1 t2 t3 t4 t5 t6 L E R _ rfl rfl (ga_new w1 (.cells zeroG 65)) rfl hone ho3 ?_; intro w2 hb2 hg2 hz2; rw [World.size_alloc] at hz2; have hB12 : Below w1.heap.size w1 w2 := (((Below.refl _ _).alloc (Nat.le_refl _) _).grown hg2 (by simp) fun k hk => by injection hk with hk; omega); replace hBa := bstep hBa hB12))
    go_ret
    exact ⟨rfl, hBa⟩
theorem pathTo_reach {n : Nat} {fr : List Int} {nx : Int → List Int} {p : List Int} {x : Int} (h : PathTo n fr nx p x) : ∀ i, i < p.length → Reach (· ∈ fr) (fun a b => b ∈ nx a) (p.getD i 0) := by
  intro i
  induction i with
  | zero =>
    intro hi
    obtain ⟨y, h1, h2⟩ := h.first
    rw [List.getD_eq_getElem?_getD, h1]
    exact .start h2
  | succ i ih =>
    intro hi
    have h1 := h.step i (p.getD i 0) (p.getD (i + 1) 0) (by simp [show i < p.length by omega]) (by simp [hi])
    exact .step (ih (by omega)) h1
/-- What a path of Around tells. -/
theorem around_path {c : CodeD} (hf : fineB c = true) {a b : Int} {p : List Int} (h : PathTo (theFlow c).blocks.length (entriesB (theFlow c) a) (avoidNx (theFlow c) a) p b) :
    PathP (theFlow c) p b ∧ (theFlow c).entry.getD (p.getD 0 0).toNat false = true ∧ inB a p = false ∧ diffB p = true := by
  obtain ⟨y, hy, hye⟩ := h.first
  have hpos : 0 < p.length := (List.getElem?_eq_some_iff.1 hy).1
  have hg : ∀ i, i < p.length → p[i]? = some (p.getD i 0) := fun i hi => by simp [hi]
  have hr : ∀ i, i < p.length → RA (theFlow c) (· = a) (p.getD i 0) := fun i hi => around_iff.1 (pathTo_reach h i hi)
  have hin : ∀ i, i < p.length → 0 ≤ p.getD i 0 ∧ p.getD i 0 < (theFlow c).blocks.length := fun i hi => h.range _ (List.mem_of_getElem? (hg i hi))
  refine ⟨⟨hpos, ?_, fun i hi => ⟨hin i hi, ?_⟩, fun i hi => ?_⟩, ?_, ?_, decide_eq_true h.nodup⟩
  · have h1 := h.last
    rw [List.getLast?_eq_getElem?, hg _ (by omega)] at h1
    injection h1
  · obtain ⟨k, hk⟩ : ∃ k : Nat, p.getD i 0 = (k : Int) := ⟨(p.getD i 0).toNat, by have := hin i hi; omega⟩
    have h1 := hr i hi
    have h2 := hin i hi
    rw [hk] at h1 h2 ⊢
    rw [Int.toNat_natCast]
    exact (reached_iff hf (by omega)).2 (h1.mono fun _ k => k.elim)
  · have h1 := h.step i _ _ (hg i (by omega)) (hg (i + 1) hi)
    exact (List.mem_filter.1 h1).1
  · have e : p.getD 0 0 = y := by rw [List.getD_eq_getElem?_getD, hy]; rfl
    rw [e]
    exact (entriesB_mem.1 hye).2.1
  · refine decide_eq_false fun hm => ?_
    obtain ⟨i, hi⟩ := List.getElem?_of_mem hm
    have hil := (List.getElem?_eq_some_iff.1 hi).1
    rw [hg i hil] at hi
    injection hi with hi
    exact (hr i hil).out hi
set_option maxHeartbeats 4000000 in
set_option maxRecDepth 100000 in
theorem r19_IsAround (H : PH) (v vl : Value) (c : CodeD) (a b : Int) (p : List Int) (w : World) (hw : Sees w H) (hc : CodeV H v c) (hl : SlV rInt H vl p) (hE : checkedE c = 0)
    (hP : PathTo (theFlow c).blocks.length (entriesB (theFlow c) a) (avoidNx (theFlow c) a) p b) :
    Calls Tryz.prog 24 #[v, .int .i64 a, .int .i64 b, vl] w fun e w' => e = .returned (.bool true) ∧ Below w.heap.size w w' := by
  have hSm := Lib.hid (fun (w1 : World) (hs : Sees w1 H) => r19_Small H _ c w1 hs hc)
  have hf := checked_fine hE
  have hfh := Lib.hid hf
  obtain ⟨hPP, hent, hno, hdf⟩ := around_path hf hP
  have hpos := hPP.pos
  obtain ⟨⟨y0, y1⟩, -⟩ := hPP.ok 0 hpos
  have hpb : pathB (theFlow c) p b = true := dcd_iff.2 hPP
  have hll := hl.le
  have hc0 := hc
  obtain ⟨s0, s1, s2, s3, s4, s5, s6, rfl, hc⟩ := hc
  have hx0 := ga_new w (.cells #[s0, s1, s2, s3, s4, s5, s6] 30)
  have hB0 : Below w.heap.size w (w.alloc (.cells #[s0, s1, s2, s3, s4, s5, s6] 30)) := (Below.refl _ _).alloc (Nat.le_refl _) _
  have hl0 := hl
  obtain ⟨bl, ol, cl, rfl, -, hbl, hlc, -⟩ := hl0.ints hpos
  have hEh := Lib.hid hE
  have hpbh := Lib.hid hpb
  have hnoh := Lib.hid hno
  have hdfh := Lib.hid hdf
  have hpos' : decide ((0 : Int) < p.length) = true := decide_eq_true (by omega)
  obtain ⟨y, hy⟩ : ∃ y, p.getD 0 0 = y := ⟨_, rfl⟩
  rw [hy] at hent y0 y1
  have hlch := Lib.hid (fun (w1 : World) (hs : Sees w1 H) => (hlc w1 hs 0 hpos).trans (by rw [hy]))
  have henth := Lib.hid hent
  clear hc hc0 hE hf hPP hent hno hdf hpb hlc hy hl0
  go_enter Tryz.func24, Tryz.ntmps24
  go_upto_region 2 with (first
    | (go_at_call 35; refine (hSm.out _ (hw.below hB0)).mono ?_; rintro e w1 ⟨⟨t0, t1, t2, t3, t4, t5, t6, L, E, R, rfl, hone, ho3, hrd⟩, hB1⟩; go_must (rw [hEh.out]); have hBa := bstep hB0 hB1; have hsa := extH.sees (hw.below hB0) hB1; have hrdh := Lib.hid hrd; clear hrd)
    | (with_reducible refine wpL_storeG rfl _ _ rfl w1.heap.size t0 t1 t2 t3 t4 t5 t6 L E R _ rfl rfl (ga_new w1 (.cells zeroG 65)) rfl hone ho3 ?_; intro w2 hb2 hg2 hz2; rw [World.size_alloc] at hz2; have hB12 : Below w1.heap.size w1 w2 := (((Below.refl _ _).alloc (Nat.le_refl _) _).grown hg2 (by simp) fun k hk => by injection hk with hk; omega); replace hBa := bstep hBa hB12))
  obtain ⟨hL, hEe, hR⟩ := hrdh.out hfh.out
  have hle := extH.step (H := H) (w := w.alloc (.cells #[s0, s1, s2, s3, s4, s5, s6] 30)) hB12
  have hG := grB_of hfh.out (extH.new (by have := hB0.size; have := hB1.size; omega) hb2) (hL.mono hle) (hEe.mono hle) (hR.mono hle)
  have hs2 := extH.sees (hw.below hB0) (bstep hB1 hB12)
  have hlK := hl.mono (extH.le (hw.below hB0) w2)
  have hPa := Lib.hid (fun (w9 : World) (hs : Sees w9 (extH H (w.alloc (.cells #[s0, s1, s2, s3, s4, s5, s6] 30)) w2)) => r19_path _ w1.heap.size L E R _ (theFlow c) p b w9 hs hG hlK)
  have hIn := Lib.hid (fun (w9 : World) (hs : Sees w9 (extH H (w.alloc (.cells #[s0, s1, s2, s3, s4, s5, s6] 30)) w2)) => r19_in _ a _ p w9 hs hlK)
  have hDi := Lib.hid (fun (w9 : World) (hs : Sees w9 (extH H (w.alloc (.cells #[s0, s1, s2, s3, s4, s5, s6] 30)) w2)) => r19_different _ _ p w9 hs hlK)
  obtain ⟨rb, ro, rc, rfl, -, hrb, hrcell⟩ := hG.entry.bools (by have := hG.lenE; omega)
  have hlE := hG.lenE
  have hcr := (hrcell w2 hs2 y.toNat (by omega)).trans (by rw [henth.out])
  have lr := hs2.lt' hrb
  have hlc2 := hlch.out w2 (hw.below hBa)
  have ll := (hw.below hBa).lt' hbl
  have q8 := (box10 hb2).2.2.2.2.2.2.2.2.1
  have l8 := (Array.getElem?_eq_some_iff.1 hb2).1
  have hyE : y < ((theFlow c).entry.length : Int) := by omega
  simp only [Nat.add_zero] at hlc2
  have hcs := Lib.hid (fun (w' : World) (h : ∀ b, b < w2.heap.size → w'.heap[b]? = w2.heap[b]?) => And.intro ((cell_same (h _ lr)).trans hcr) (And.intro ((cell_same (h _ ll)).trans hlc2) (And.intro ((cell_same (h _ l8)).trans q8) (And.intro (lt_same (h _ lr) lr) (And.intro (lt_same (h _ ll) ll) (lt_same (h _ l8) l8))))))
  generalize extH H (w.alloc (.cells #[s0, s1, s2, s3, s4, s5, s6] 30)) w2 = K0 at *
  clear hrcell hG hlE hcr hlc2 q8 hL hEe hR hlK hrdh hSm hP hl
  go_upto_region 2 with fail
  have hsd : ∀ w' : World, (∀ b, b < w2.heap.size → w'.heap[b]? = w2.heap[b]?) → Sees w' K0 := fun w' h i o e => (h i (hs2.lt e)).trans (hs2 i o e)
  refine wp_region_plan (fun w' => ∀ b, b < w2.heap.size → w'.heap[b]? = w2.heap[b]?) [(0, true), (1, true), (2, true), (3, true), (4, true), (5, true), (6, true), (7, true), (8, true), (9, true), (10, false), (11, true), (12, true), (13, true), (14, true), (15, true), (16, true), (17, true), (18, true), (19, true), (20, true), (21, true), (22, true), (23, true), (24, false), (25, true), (26, true), (27, true), (28, true), (29, false), (30, true), (31, true)] (by kernel_rfl) (by kernel_rfl) (by kernel_rfl) (fun _ _ => rfl) ?_
  repeat first
    | (refine plan_skip rfl (by rfl) ?_; simp only [Act.put, List.setIfInBounds_toArray, List.set_cons_zero, List.set_cons_succ])
    | (refine plan_read (v := ?_) rfl (by rfl) ?_ ?_; rotate_left; (focus (intro w' hSw; obtain ⟨p1, p2, p3, p4, p5, p6⟩ := hcs.out _ hSw; clear hSw; go_simp; all_goals with_reducible rfl)); simp only [Act.put, List.setIfInBounds_toArray, List.set_cons_zero, List.set_cons_succ])
  refine plan_step rfl (by rfl) (fun K hK => ?_)
  go_simp
  refine (hPa.out w2.drew (hsd w2.drew fun _ _ => rfl)).mono ?_
  rintro e w6 ⟨rfl, hB6⟩
  rw [hpbh.out]
  have h6 : ∀ b, b < w2.heap.size → w6.heap[b]? = w2.heap[b]? := fun b hb => hB6.block b hb
  refine hK.out _ _ h6 ?_
  clear hK K
  repeat first
    | (refine plan_skip rfl (by rfl) ?_; simp only [Act.put, List.setIfInBounds_toArray, List.set_cons_zero, List.set_cons_succ])
    | (refine plan_read (v := ?_) rfl (by rfl) ?_ ?_; rotate_left; (focus (intro w' hSw; obtain ⟨p1, p2, p3, p4, p5, p6⟩ := hcs.out _ hSw; clear hSw; go_simp; all_goals with_reducible rfl)); simp only [Act.put, List.setIfInBounds_toArray, List.set_cons_zero, List.set_cons_succ])
  refine plan_step rfl (by rfl) (fun K hK => ?_)
  go_simp
  refine (hIn.out _ (hsd _ h6)).mono ?_
  rintro e w7 ⟨rfl, rfl⟩
  rw [hnoh.out]
  refine hK.out _ _ h6 ?_
  clear hK K
  repeat first
    | (refine plan_skip rfl (by rfl) ?_; simp only [Act.put, List.setIfInBounds_toArray, List.set_cons_zero, List.set_cons_succ])
    | (refine plan_read (v := ?_) rfl (by rfl) ?_ ?_; rotate_left; (focus (intro w' hSw; obtain ⟨p1, p2, p3, p4, p5, p6⟩ := hcs.out _ hSw; clear hSw; go_simp; all_goals with_reducible rfl)); simp only [Act.put, List.setIfInBounds_toArray, List.set_cons_zero, List.set_cons_succ])
  refine plan_step rfl (by rfl) (fun K hK => ?_)
  go_simp
  refine (hDi.out _ (hsd _ h6)).mono ?_
  rintro e w8 ⟨rfl, hB8⟩
  rw [hdfh.out]
  refine hK.out _ _ (fun b hb => (hB8.block b (Nat.lt_of_lt_of_le hb hB6.size)).trans (h6 b hb)) ?_
  clear hK K
  repeat first
    | (refine plan_skip rfl (by rfl) ?_; simp only [Act.put, List.setIfInBounds_toArray, List.set_cons_zero, List.set_cons_succ])
    | (refine plan_read (v := ?_) rfl (by rfl) ?_ ?_; rotate_left; (focus (intro w' hSw; skip; clear hSw; go_simp; all_goals with_reducible rfl)); simp only [Act.put, List.setIfInBounds_toArray, List.set_cons_zero, List.set_cons_succ])
  refine plan_nil (NoPanic.normal ?_)
  go_wp2
  go_ret
  exact ⟨rfl, bstep (bstep (bdrew hBa) hB6) hB8⟩
end Go.Proofs.YtififjlgjmgikaaGreat
