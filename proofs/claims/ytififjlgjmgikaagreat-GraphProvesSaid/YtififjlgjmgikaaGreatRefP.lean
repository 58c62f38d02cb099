/- The reference's proofs of immediate dominators: way, apart (seat .Z). The reference's met, fits, Check (seat .Z). The reference's proofs, in plain Lean: what it accepts is what graph.Check accepts. The reference's Check (seat .Z). -/
import Derived.Test.YtififjlgjmgikaaGreatChkX
import Derived.Test.YtififjlgjmgikaaGreatRefU
namespace Go.Proofs.YtififjlgjmgikaaGreat
set_option linter.all false
open Go.RowKit Go.Shelf

def WayP (f : FlowD) (d : DominD) (p : List Int) : Prop := d.block ∉ p.dropLast ∧ (if d.idom = -1 then f.entry.getD (p.getD 0 0).toNat false = true else p.getD 0 0 = d.idom ∧ d.idom ∉ p.tail)
noncomputable def wayB (f : FlowD) (d : DominD) (p : List Int) : Bool := dcd (WayP f d p)
set_option maxHeartbeats 4000000 in
set_option maxRecDepth 100000 in
theorem r19_way (H : PH) (bg : Nat) (L E R vx vl : Value) (f : FlowD) (d : DominD) (p : List Int) (w : World) (hw : Sees w H) (hg : GrB H bg L E R f) (hx : DomV H vx d) (hl : SlV rInt H vl p) (hpl : 0 < p.length) (hr : 0 ≤ p.getD 0 0 ∧ p.getD 0 0 < f.blocks.length) :
    Calls Tryz.prog 108 #[.pointer (some ⟨bg, 0, none⟩), vx, vl] w fun e w' => e = .returned (.bool (wayB f d p)) ∧ Below w.heap.size w w' := by
  have lx := hl.le
  obtain ⟨u1, u2, rfl, -, -⟩ := hx
  obtain ⟨s0, s1, s2, s3, s4, s5, s6, hbk⟩ := hg.blk
  have hS := Lib.hid (show wayB f d p = true ↔ WayP f d p from dcd_iff)
  generalize wayB f d p = B at *
  obtain ⟨db, di, d1, d2⟩ := d
  simp only at *
  obtain ⟨b1, o1, c1, rfl, hc1, hb1, hcl, -⟩ := hl.ints hpl
  have htk := hl.take_ (k := p.length - 1) (by omega)
  rw [← List.dropLast_eq_take] at htk
  have hwr : IntKind.i64.wrap ((p.length : Int) - 1) = ((p.length - 1 : Nat) : Int) := by rw [show (p.length : Int) - 1 = ((p.length - 1 : Nat) : Int) by omega]; exact IntWalk.i64_in _ (by omega)
  have hm1 : ((p.length - 1 : Nat) : Int) ≤ c1 := by omega
  have hm0 : (0 : Int) ≤ ((p.length - 1 : Nat) : Int) := by omega
  have hlE := hg.lenE
  obtain ⟨a, ha⟩ : ∃ a : Nat, p.getD 0 0 = (a : Int) := ⟨(p.getD 0 0).toNat, by omega⟩
  have hal : a < f.blocks.length := by omega
  have ha0 : (0 : Int) ≤ a := by omega
  have ha1 : (a : Int) < f.blocks.length := by omega
  have hpl0 : (0 : Int) < p.length := by omega
  obtain ⟨b2, o2, c2, rfl, -, hb2, hc2⟩ := hg.entry.bools (by omega)
  rw [hlE] at hbk
  go_enter Tryz.func108, Tryz.ntmps108
  go_upto_region 1 with fail
  refine wp_name fun W hW => ?_
  have x4 : W.heap[w.heap.size]? = some (.cells #[.int .i64 db, .int .i64 di, u1, u2] 106 (0, 0)) := by rw [hW]; exact ga_new _ _
  have hBW : Below w.heap.size w W := by rw [hW]; exact (Below.refl _ _).alloc (Nat.le_refl _) _
  clear hW
  have hsW := hw.below hBW
  have q := boxD4 x4
  have p0 := hcl W hsW 0 hpl
  rw [ha, Nat.add_zero] at p0
  have lp := hsW.lt' hb1
  have pE := hc2 W hsW a (by omega)
  have lE := hsW.lt' hb2
  have qg := (box10 (hsW _ _ hbk)).2.2.2.2.2.2.2.2.1
  have lg := hsW.lt hbk
  have hcs := Lib.hid (fun (w' : World) (h : w'.heap = W.heap) => And.intro ((hp_cell h _).trans q.1) (And.intro ((hp_cell h _).trans q.2.1) (And.intro (hp_lt h q.2.2.2.2) (And.intro ((hp_cell h _).trans p0) (And.intro (hp_lt h lp) (And.intro ((hp_cell h _).trans pE) (And.intro (hp_lt h lE) (And.intro ((hp_cell h _).trans qg) (hp_lt h lg)))))))))
  have hIn1 := Lib.hid (fun (w1 : World) (hs : Sees w1 H) => r19_in H db _ p.dropLast w1 hs htk)
  have hout := Lib.hid (show B = true ↔ db ∉ p.dropLast ∧ (if di = -1 then f.entry.getD a false = true else (a : Int) = di ∧ di ∉ p.tail) from by
    rw [hS.out]
    unfold WayP
    rw [ha, Int.toNat_natCast])
  have htl := Lib.hid (hl.tail_ hpl)
  have hlh := Lib.hid hl
  clear hS htk hcl hc2 q p0 lp pE lE qg lg x4 hg hbk ha hr hl hlE
  cases hin : inB db p.dropLast
  · have hin' : db ∉ p.dropLast := by unfold inB at hin; simpa using hin
    rw [hin] at hIn1
    have hout2 := Lib.hid (show B = true ↔ (if di = -1 then f.entry.getD a false = true else (a : Int) = di ∧ di ∉ p.tail) from hout.out.trans ⟨fun h => h.2, fun h => ⟨hin', h⟩⟩)
    clear hin hin' hout
    refine wp_region_plan (fun w' => w'.heap = W.heap) [(0, true), (1, true), (2, true), (3, true), (4, true), (5, true), (6, true), (7, false)] (by kernel_rfl) (by kernel_rfl) (by kernel_rfl) rfl ?_
    repeat first
      | (refine plan_skip rfl (by rfl) ?_; simp only [Act.put, List.setIfInBounds_toArray, List.set_cons_zero, List.set_cons_succ])
      | (refine plan_read (v := ?_) rfl (by rfl) ?_ ?_; rotate_left; (focus (intro w' hSw; obtain ⟨r1, r2, r3, r4, r5, r6, r7, r8, r9⟩ := hcs.out _ hSw; clear hSw; go_simp; all_goals with_reducible rfl)); simp only [Act.put, List.setIfInBounds_toArray, List.set_cons_zero, List.set_cons_succ])
    refine plan_step rfl (by kernel_rfl) (fun K hK => ?_)
    go_simp
    refine (hIn1.out _ (hp_sees hsW)).mono ?_
    rintro e w6 ⟨rfl, rfl⟩
    refine hK.out _ _ rfl ?_
    clear hK K
    refine plan_nil (NoPanic.normal ?_)
    by_cases hdi : di = -1
    · have t1 : (di == -1) = true := by simp [hdi]
      have hb := Lib.hid (show B = f.entry.getD a false from by
        have := hout2.out
        rw [if_pos hdi] at this
        cases h9 : f.entry.getD a false
        · rw [h9] at this; exact Bool.eq_false_iff.2 fun h => by have := this.1 h; cases this
        · exact this.2 h9)
      clear hdi hout2
      generalize f.entry.getD a false = G at *
      obtain ⟨r1, r2, r3, r4, r5, r6, r7, r8, r9⟩ := hcs.out W.drew rfl
      go_upto_region 4 with fail
      clear r1 r2 r3 r4 r5 r6 r7 r8 r9
      refine wp_region_plan (fun w' => w'.heap = W.heap) [(0, true), (1, true), (2, true), (3, true), (4, true), (5, true), (6, true), (7, true), (8, true), (9, true)] (by kernel_rfl) (by kernel_rfl) (by kernel_rfl) rfl ?_
      repeat first
        | (refine plan_skip rfl (by rfl) ?_; simp only [Act.put, List.setIfInBounds_toArray, List.set_cons_zero, List.set_cons_succ])
        | (refine plan_read (v := ?_) rfl (by rfl) ?_ ?_; rotate_left; (focus (intro w' hSw; obtain ⟨r1, r2, r3, r4, r5, r6, r7, r8, r9⟩ := hcs.out _ hSw; clear hSw; go_simp; all_goals with_reducible rfl)); simp only [Act.put, List.setIfInBounds_toArray, List.set_cons_zero, List.set_cons_succ])
      refine plan_nil (NoPanic.normal ?_)
      go_wp2
      go_ret
      exact ⟨ret_bool hb.out.symm, hp_drew (hp_drew hBW)⟩
    · have t1 : (di == -1) = false := by simp [hdi]
      have hal2 := hout2.out
      rw [if_neg hdi] at hal2
      clear hdi hout2
      cases t2 : ((a : Int) == di)
      · have hb := Lib.hid (show B = false from Bool.eq_false_iff.2 fun h => by
          have := (hal2.1 h).1
          rw [this] at t2
          simp at t2)
        clear hal2
        obtain ⟨r1, r2, r3, r4, r5, r6, r7, r8, r9⟩ := hcs.out W.drew rfl
        go_upto_region 5 with fail
        clear r1 r2 r3 r4 r5 r6 r7 r8 r9
        refine wp_region_plan (fun w' => w'.heap = W.heap) [(0, true), (1, true), (2, true), (3, true), (4, true), (5, true), (6, true), (7, true), (8, true), (9, true), (10, true), (11, false), (12, true), (13, true), (14, true)] (by kernel_rfl) (by kernel_rfl) (by kernel_rfl) rfl ?_
        repeat first
          | (refine plan_skip rfl (by rfl) ?_; simp only [Act.put, List.setIfInBounds_toArray, List.set_cons_zero, List.set_cons_succ])
          | (refine plan_read (v := ?_) rfl (by rfl) ?_ ?_; rotate_left; (focus (intro w' hSw; obtain ⟨r1, r2, r3, r4, r5, r6, r7, r8, r9⟩ := hcs.out _ hSw; clear hSw; go_simp; all_goals with_reducible rfl)); simp only [Act.put, List.setIfInBounds_toArray, List.set_cons_zero, List.set_cons_succ])
        refine plan_pass rfl (by kernel_rfl) rfl ?_
        simp only [Act.put, List.setIfInBounds_toArray, List.set_cons_zero, List.set_cons_succ]
        repeat first
          | (refine plan_skip rfl (by rfl) ?_; simp only [Act.put, List.setIfInBounds_toArray, List.set_cons_zero, List.set_cons_succ])
          | (refine plan_read (v := ?_) rfl (by rfl) ?_ ?_; rotate_left; (focus (intro w' hSw; skip; clear hSw; go_simp; all_goals with_reducible rfl)); simp only [Act.put, List.setIfInBounds_toArray, List.set_cons_zero, List.set_cons_succ])
        refine plan_nil (NoPanic.normal ?_)
        go_wp2
        go_ret
        exact ⟨ret_bool hb.out.symm, hp_drew (hp_drew hBW)⟩
      · have hb := Lib.hid (show B = !inB di p.tail from by
          have h9 : (a : Int) = di := by simpa using t2
          unfold inB
          by_cases h8 : di ∈ p.tail
          · simp only [h8, decide_true, Bool.not_true]
            exact Bool.eq_false_iff.2 fun h => (hal2.1 h).2 h8
          · simp only [h8, decide_false, Bool.not_false]
            exact hal2.2 ⟨h9, h8⟩)
        have hslr := slice_tail b1 o1 p.length hpl
        have hsl2 : SlV rInt H (.slice (if c1 = 1 then some ⟨b1, o1, none⟩ else some ⟨b1, o1 + 1, none⟩) (p.length - 1) (c1 - 1)) p.tail := by
          by_cases h1 : c1 = 1
          · have hnil : p.tail = [] := List.eq_nil_of_length_eq_zero (by rw [List.length_tail]; omega)
            have h9 : p.length - 1 = 0 := by omega
            rw [if_pos h1, hnil, h9]
            exact ⟨_, _, rfl, by simp, by simp, fun i x hi => by simp at hi⟩
          · rw [if_neg h1]; exact htl.out
        have hIn2 := Lib.hid (fun (w1 : World) (hs : Sees w1 H) => r19_in H di _ p.tail w1 hs hsl2)
        clear hal2 hsl2
        obtain ⟨A9, hA9⟩ : ∃ A9, (if c1 = 1 then some (⟨b1, o1, none⟩ : Addr) else some ⟨b1, o1 + 1, none⟩) = A9 := ⟨_, rfl⟩
        have hslr2 := fun w => hslr c1 w
        rw [hA9] at hIn2 hslr2
        clear hslr hA9
        generalize inB di p.tail = G at *
        obtain ⟨r1, r2, r3, r4, r5, r6, r7, r8, r9⟩ := hcs.out W.drew rfl
        go_upto_region 5 with fail
        clear r1 r2 r3 r4 r5 r6 r7 r8 r9
        refine wp_region_plan (fun w' => w'.heap = W.heap) [(0, true), (1, true), (2, true), (3, true), (4, true), (5, true), (6, true), (7, true), (8, true), (9, true), (10, true), (11, false), (12, true), (13, true), (14, true)] (by kernel_rfl) (by kernel_rfl) (by kernel_rfl) rfl ?_
        repeat first
          | (refine plan_skip rfl (by rfl) ?_; simp only [Act.put, List.setIfInBounds_toArray, List.set_cons_zero, List.set_cons_succ])
          | (refine plan_read (v := ?_) rfl (by rfl) ?_ ?_; rotate_left; (focus (intro w' hSw; obtain ⟨r1, r2, r3, r4, r5, r6, r7, r8, r9⟩ := hcs.out _ hSw; clear hSw; go_simp; all_goals with_reducible rfl)); simp only [Act.put, List.setIfInBounds_toArray, List.set_cons_zero, List.set_cons_succ])
        refine plan_step rfl (by kernel_rfl) (fun K' hK' => ?_)
        go_simp
        refine (hIn2.out _ (hp_sees (hp_sees hsW))).mono ?_
        rintro e w6 ⟨rfl, rfl⟩
        refine hK'.out _ _ rfl ?_
        clear hK' K'
        repeat first
          | (refine plan_skip rfl (by rfl) ?_; simp only [Act.put, List.setIfInBounds_toArray, List.set_cons_zero, List.set_cons_succ])
          | (refine plan_read (v := ?_) rfl (by rfl) ?_ ?_; rotate_left; (focus (intro w' hSw; skip; clear hSw; go_simp; all_goals with_reducible rfl)); simp only [Act.put, List.setIfInBounds_toArray, List.set_cons_zero, List.set_cons_succ])
        refine plan_nil (NoPanic.normal ?_)
        go_wp2
        go_ret
        exact ⟨ret_bool hb.out.symm, hp_drew (hp_drew hBW)⟩
  · have hin' : db ∈ p.dropLast := by unfold inB at hin; simpa using hin
    rw [hin] at hIn1
    have hb := Lib.hid (show B = false from Bool.eq_false_iff.2 fun h => (hout.out.1 h).1 hin')
    clear hin hin' hout
    refine wp_region_plan (fun w' => w'.heap = W.heap) [(0, true), (1, true), (2, true), (3, true), (4, true), (5, true), (6, true), (7, false)] (by kernel_rfl) (by kernel_rfl) (by kernel_rfl) rfl ?_
    repeat first
      | (refine plan_skip rfl (by rfl) ?_; simp only [Act.put, List.setIfInBounds_toArray, List.set_cons_zero, List.set_cons_succ])
      | (refine plan_read (v := ?_) rfl (by rfl) ?_ ?_; rotate_left; (focus (intro w' hSw; obtain ⟨r1, r2, r3, r4, r5, r6, r7, r8, r9⟩ := hcs.out _ hSw; clear hSw; go_simp; all_goals with_reducible rfl)); simp only [Act.put, List.setIfInBounds_toArray, List.set_cons_zero, List.set_cons_succ])
    refine plan_step rfl (by kernel_rfl) (fun K hK => ?_)
    go_simp
    refine (hIn1.out _ (hp_sees hsW)).mono ?_
    rintro e w6 ⟨rfl, rfl⟩
    refine hK.out _ _ rfl ?_
    clear hK K
    refine plan_nil (NoPanic.normal ?_)
    go_wp2
    go_ret
    exact ⟨ret_bool hb.out.symm, hp_drew hBW⟩
def ApP (idom : Int) (one two : List Int) : Prop := ∀ i, i + 1 < one.length → one.getD i 0 ≠ idom → one.getD i 0 ∉ two.dropLast
noncomputable def apB (idom : Int) (one two : List Int) : Bool := dcd (ApP idom one two)
set_option maxHeartbeats 4000000 in
set_option maxRecDepth 100000 in
theorem r19_apart (H : PH) (di : Int) (v1 v2 : Value) (one two : List Int) (w : World) (hw : Sees w H) (h1 : SlV rInt H v1 one) (h2 : SlV rInt H v2 two) (hp2 : 0 < two.length) :
    Calls Tryz.prog 109 #[.int .i64 di, v1, v2] w fun e w' => e = .returned (.bool (apB di one two)) ∧ Below w.heap.size w w' := by
  have lx := h1.le
  have lx2 := h2.le
  obtain ⟨A1, c1, rfl, -, -⟩ := h1.open_
  have hS := Lib.hid (show apB di one two = true ↔ ApP di one two from dcd_iff)
  generalize apB di one two = B at *
  obtain ⟨b2, o2, c2, rfl, hc2, hb2, -, -⟩ := h2.ints hp2
  have htk := h2.take_ (k := two.length - 1) (by omega)
  rw [← List.dropLast_eq_take] at htk
  have hwr2 : IntKind.i64.wrap ((two.length : Int) - 1) = ((two.length - 1 : Nat) : Int) := by rw [show (two.length : Int) - 1 = ((two.length - 1 : Nat) : Int) by omega]; exact IntWalk.i64_in _ (by omega)
  have hm1 : ((two.length - 1 : Nat) : Int) ≤ c2 := by omega
  have hm0 : (0 : Int) ≤ ((two.length - 1 : Nat) : Int) := by omega
  have hIn := Lib.hid (fun (y : Int) (w1 : World) (hs : Sees w1 H) => r19_in H y _ two.dropLast w1 hs htk)
  clear h2 htk
  go_enter Tryz.func109, Tryz.ntmps109
  go_wp2
  go_loopw [7] (fun i wr => ∃ k : Nat, k ≤ one.length ∧ i = .int .i64 k ∧ Aside (∀ i, i < k → i + 1 < one.length → one.getD i 0 ≠ di → one.getD i 0 ∉ two.dropLast) ∧ Below w.heap.size w wr) (fun i _ => one.length - (intOf i).toNat)
  case atStart => exact ⟨0, Nat.zero_le _, rfl, fun j h => by omega, Below.refl _ _⟩
  case round =>
    obtain ⟨k, hk, rfl, hno, hB⟩ := hrel
    have hnoh := Lib.hid hno
    clear hno
    have hs := hw.below hB
    have hwk : IntKind.i64.wrap ((k : Int) + 1) = (k : Int) + 1 := IntWalk.i64_in _ (by omega)
    by_cases hlt : k + 1 < one.length
    · have t1 : decide ((k : Int) + 1 < one.length) = true := decide_eq_true (by omega)
      have hk1 : (k : Int) + 1 < one.length := by omega
      have hkl : (k : Int) < one.length := by omega
      have hk0 : (0 : Int) ≤ k := by omega
      obtain ⟨b1, o1, c1', e1, -, hb1, hcl, -⟩ := h1.ints (by omega)
      cases e1
      have p1 := hcl wr hs k (by omega)
      have l1 := hs.lt' hb1
      clear hcl
      obtain ⟨y, hy⟩ : ∃ y, one.getD k 0 = y := ⟨_, rfl⟩
      rw [hy] at p1
      have hst := Lib.hid (show (y ≠ di → y ∉ two.dropLast) → ∀ i, i < k + 1 → i + 1 < one.length → one.getD i 0 ≠ di → one.getD i 0 ∉ two.dropLast from fun h i hi => by
        by_cases e : i = k
        · subst e; rw [hy]; exact fun _ => h
        · exact hnoh.out i (by omega))
      have hbad := Lib.hid (fun (ha : y ≠ di) (hb : y ∈ two.dropLast) => (show B = false from Bool.eq_false_iff.2 fun h => hS.out.1 h k hlt (by rw [hy]; exact ha) (by rw [hy]; exact hb)))
      clear hy hlt
      have hcs := Lib.hid (fun (w' : World) (h : w'.heap = wr.heap) => And.intro ((hp_cell h _).trans p1) (hp_lt h l1))
      go_upto_region 4 with fail
      by_cases hyd : y = di
      · have t2 : (y != di) = false := by simp [hyd]
        have hst2 := Lib.hid (hst.out fun h => absurd hyd h)
        clear hyd hst hbad
        refine wp_region_plan (fun w' => w'.heap = wr.heap) [(0, true), (1, true), (2, true), (3, true), (4, true), (5, true), (6, true), (7, true), (8, true), (9, true), (10, true), (11, true), (12, true), (13, true), (14, true), (15, true), (16, false), (17, true)] (by kernel_rfl) (by kernel_rfl) (by kernel_rfl) rfl ?_
        repeat first
          | (refine plan_skip rfl (by rfl) ?_; simp only [Act.put, List.setIfInBounds_toArray, List.set_cons_zero, List.set_cons_succ])
          | (refine plan_read (v := ?_) rfl (by rfl) ?_ ?_; rotate_left; (focus (intro w' hSw; obtain ⟨r1, r2⟩ := hcs.out _ hSw; clear hSw; go_simp; all_goals with_reducible rfl)); simp only [Act.put, List.setIfInBounds_toArray, List.set_cons_zero, List.set_cons_succ])
        refine plan_pass rfl (by kernel_rfl) rfl ?_
        simp only [Act.put, List.setIfInBounds_toArray, List.set_cons_zero, List.set_cons_succ]
        repeat first
          | (refine plan_skip rfl (by rfl) ?_; simp only [Act.put, List.setIfInBounds_toArray, List.set_cons_zero, List.set_cons_succ])
          | (refine plan_read (v := ?_) rfl (by rfl) ?_ ?_; rotate_left; (focus (intro w' hSw; skip; clear hSw; go_simp; all_goals with_reducible rfl)); simp only [Act.put, List.setIfInBounds_toArray, List.set_cons_zero, List.set_cons_succ])
        refine plan_nil (NoPanic.normal ?_)
        go_wp2
        go_roundw
        case rel => exact ⟨k + 1, by omega, by go_num, hst2.out, hp_drew hB⟩
        case measure => simp [intOf]; omega
      · have t2 : (y != di) = true := by simpa using hyd
        have hIy := hIn.out y wr.drew (hp_sees hs)
        have hin : inB y two.dropLast = true ↔ y ∈ two.dropLast := by unfold inB; simp
        generalize inB y two.dropLast = G at *
        cases G
        · have hst2 := Lib.hid (hst.out fun _ h => by have := hin.2 h; cases this)
          clear hyd hst hbad hin
          refine wp_region_plan (fun w' => w'.heap = wr.heap) [(0, true), (1, true), (2, true), (3, true), (4, true), (5, true), (6, true), (7, true), (8, true), (9, true), (10, true), (11, true), (12, true), (13, true), (14, true), (15, true), (16, false), (17, true)] (by kernel_rfl) (by kernel_rfl) (by kernel_rfl) rfl ?_
          repeat first
            | (refine plan_skip rfl (by rfl) ?_; simp only [Act.put, List.setIfInBounds_toArray, List.set_cons_zero, List.set_cons_succ])
            | (refine plan_read (v := ?_) rfl (by rfl) ?_ ?_; rotate_left; (focus (intro w' hSw; obtain ⟨r1, r2⟩ := hcs.out _ hSw; clear hSw; go_simp; all_goals with_reducible rfl)); simp only [Act.put, List.setIfInBounds_toArray, List.set_cons_zero, List.set_cons_succ])
          refine plan_step rfl (by kernel_rfl) (fun K' hK' => ?_)
          go_simp
          refine hIy.mono ?_
          rintro e w6 ⟨rfl, rfl⟩
          refine hK'.out _ _ rfl ?_
          clear hK' K'
          repeat first
            | (refine plan_skip rfl (by rfl) ?_; simp only [Act.put, List.setIfInBounds_toArray, List.set_cons_zero, List.set_cons_succ])
            | (refine plan_read (v := ?_) rfl (by rfl) ?_ ?_; rotate_left; (focus (intro w' hSw; skip; clear hSw; go_simp; all_goals with_reducible rfl)); simp only [Act.put, List.setIfInBounds_toArray, List.set_cons_zero, List.set_cons_succ])
          refine plan_nil (NoPanic.normal ?_)
          go_wp2
          go_roundw
          case rel => exact ⟨k + 1, by omega, by go_num, hst2.out, hp_drew hB⟩
          case measure => simp [intOf]; omega
        · have hb := Lib.hid (hbad.out hyd (hin.1 rfl))
          clear hyd hst hbad hin
          refine wp_region_plan (fun w' => w'.heap = wr.heap) [(0, true), (1, true), (2, true), (3, true), (4, true), (5, true), (6, true), (7, true), (8, true), (9, true), (10, true), (11, true), (12, true), (13, true), (14, true), (15, true), (16, false), (17, true)] (by kernel_rfl) (by kernel_rfl) (by kernel_rfl) rfl ?_
          repeat first
            | (refine plan_skip rfl (by rfl) ?_; simp only [Act.put, List.setIfInBounds_toArray, List.set_cons_zero, List.set_cons_succ])
            | (refine plan_read (v := ?_) rfl (by rfl) ?_ ?_; rotate_left; (focus (intro w' hSw; obtain ⟨r1, r2⟩ := hcs.out _ hSw; clear hSw; go_simp; all_goals with_reducible rfl)); simp only [Act.put, List.setIfInBounds_toArray, List.set_cons_zero, List.set_cons_succ])
          refine plan_step rfl (by kernel_rfl) (fun K' hK' => ?_)
          go_simp
          refine hIy.mono ?_
          rintro e w6 ⟨rfl, rfl⟩
          refine hK'.out _ _ rfl ?_
          clear hK' K'
          repeat first
            | (refine plan_skip rfl (by rfl) ?_; simp only [Act.put, List.setIfInBounds_toArray, List.set_cons_zero, List.set_cons_succ])
            | (refine plan_read (v := ?_) rfl (by rfl) ?_ ?_; rotate_left; (focus (intro w' hSw; skip; clear hSw; go_simp; all_goals with_reducible rfl)); simp only [Act.put, List.setIfInBounds_toArray, List.set_cons_zero, List.set_cons_succ])
          refine plan_nil (NoPanic.normal ?_)
          go_wp2
          go_ret
          exact ⟨ret_bool hb.out.symm, hp_drew hB⟩
    · have t1 : decide ((k : Int) + 1 < one.length) = false := decide_eq_false (by omega)
      have hk1 : ¬ (k : Int) + 1 < one.length := by omega
      have hb := Lib.hid (show B = true from hS.out.2 fun i hi => hnoh.out i (by omega) hi)
      clear hlt
      go_wp2
      go_ret
      exact ⟨ret_bool hb.out.symm, hB⟩
/-- A proof, as the reference wants it. -/
structure ProofQ (f : FlowD) (d : DominD) : Prop where
  ent : f.entry.getD d.block.toNat false = true → d.idom = -1
  p1 : PathP f d.one d.block
  p2 : PathP f d.two d.block
  ne : d.idom ≠ d.block
  rng : -1 ≤ d.idom ∧ d.idom < f.blocks.length
  w1 : WayP f d d.one
  w2 : WayP f d d.two
  ap : ApP d.idom d.one d.two
noncomputable def proofB (f : FlowD) (d : DominD) : Bool := dcd (ProofQ f d)
set_option maxHeartbeats 4000000 in
set_option maxRecDepth 100000 in
theorem r19_proof (H : PH) (bg : Nat) (L E R vx : Value) (f : FlowD) (d : DominD) (w : World) (hw : Sees w H) (hg : GrB H bg L E R f) (hx : DomV H vx d) (hb : 0 ≤ d.block ∧ d.block < f.blocks.length) (hbr : rchB f d.block = true) :
    Calls Tryz.prog 73 #[.pointer (some ⟨bg, 0, none⟩), vx] w fun e w' => e = .returned (.bool (proofB f d)) ∧ Below w.heap.size w w' := by
  have hx' := hx
  obtain ⟨u1, u2, rfl, h1, h2⟩ := hx
  have hg0 := hg
  obtain ⟨s0, s1, s2, s3, s4, s5, s6, hbk⟩ := hg.blk
  have hS := Lib.hid (show proofB f d = true ↔ ProofQ f d from dcd_iff)
  generalize proofB f d = B at *
  obtain ⟨db, di, d1, d2⟩ := d
  simp only at *
  have hle := hg.le
  have hlE := hg.lenE
  have hlR := hg.lenR
  obtain ⟨m, rfl⟩ : ∃ m : Nat, db = (m : Int) := ⟨db.toNat, by omega⟩
  have hm : m < f.blocks.length := by omega
  have hm0 : (0 : Int) ≤ m := by omega
  have hm1 : (m : Int) < f.blocks.length := by omega
  have t9 : decide ((m : Int) < 0) = false := decide_eq_false (by omega)
  have t10 : decide ((f.blocks.length : Int) ≤ m) = false := decide_eq_false (by omega)
  have t11 : decide (f.blocks.length ≤ m) = false := decide_eq_false (by omega)
  obtain ⟨AL, cL, rfl, -, -⟩ := hg.blocks.open_
  obtain ⟨b2, o2, c2, rfl, -, hb2, hc2⟩ := hg.entry.bools (by omega)
  rw [hlE] at hbk
  obtain ⟨b3, o3, c3, rfl, -, hb3, hc3⟩ := hg.reached.bools (by omega)
  rw [hlR] at hbk
  go_enter Tryz.func73, Tryz.ntmps73
  go_upto_region 1 with fail
  refine wp_name fun W hW => ?_
  have x3 : W.heap[w.heap.size]? = some (.cells #[.int .i64 (m : Int), .int .i64 di, u1, u2] 106 (0, 0)) := by rw [hW]; exact ga_new _ _
  have hBW : Below w.heap.size w W := by rw [hW]; exact (Below.refl _ _).alloc (Nat.le_refl _) _
  clear hW
  have hsW := extH.sees hw hBW
  have hleW := extH.le hw W
  have k3 := extH.new (H := H) (Nat.le_refl _) x3
  have hg1 := hg0.mono hleW
  have hX1 := hx'.mono hleW
  have g1 := h1.mono hleW
  have g2 := h2.mono hleW
  have pE := hc2 W (fun j o e => hsW j o (hleW j o e)) m (by omega)
  have pR := hc3 W (fun j o e => hsW j o (hleW j o e)) m (by omega)
  rw [show f.reached.getD m false = true from by simpa [rchB] using hbr] at pR
  have lE := hsW.lt' (b := b2) (fun e => hb2 (by cases h9 : H b2 with | none => rfl | some o => rw [hleW _ _ h9] at e; cases e))
  have lR := hsW.lt' (b := b3) (fun e => hb3 (by cases h9 : H b3 with | none => rfl | some o => rw [hleW _ _ h9] at e; cases e))
  have hqK := Lib.hid (fun (w' : World) (hs : Sees w' (extH H w W)) => boxD4 (hs _ _ k3))
  have hgK := Lib.hid (fun (w' : World) (hs : Sees w' (extH H w W)) => And.intro (box10 (hs _ _ (hleW _ _ hbk))).2.2.2.2.2.2.2.1 (hs.lt (hleW _ _ hbk)))
  have q10 := box10 (hsW _ _ (hleW _ _ hbk))
  have hWs := Lib.hid (fun (u : Value) (p : List Int) (w' : World) (hs : Sees w' (extH H w W)) (hu : SlV rInt (extH H w W) u p) (h3 : 0 < p.length) (h4 : 0 ≤ p.getD 0 0 ∧ p.getD 0 0 < f.blocks.length) => r19_way _ bg _ _ _ _ u f ⟨(m : Int), di, d1, d2⟩ p w' hs hg1 hX1 hu h3 h4)
  have hP1 := Lib.hid (fun (w' : World) (hs : Sees w' (extH H w W)) => r19_path _ bg _ _ _ u1 f d1 m w' hs hg1 g1)
  have hP2 := Lib.hid (fun (w' : World) (hs : Sees w' (extH H w W)) => r19_path _ bg _ _ _ u2 f d2 m w' hs hg1 g2)
  have hAp0 := Lib.hid (fun (w' : World) (hs : Sees w' (extH H w W)) (h3 : 0 < d2.length) => r19_apart _ di u1 u2 d1 d2 w' hs g1 g2 h3)
  have lg := hsW.lt (hleW _ _ hbk)
  have q := boxD4 x3
  clear hc2 hc3 hg hg0 hg1 hX1 hx' h1 h2 hb hbr x3 hb2 hb3 hbk hleW
  generalize extH H w W = K at *
  obtain ⟨e, he⟩ : ∃ e, f.entry.getD m false = e := ⟨_, rfl⟩
  rw [he] at pE
  have heh := Lib.hid he
  clear he
  cases e
  · have hent := Lib.hid (show f.entry.getD m false = true → di = -1 from fun h => by rw [heh.out] at h; cases h)
    cases hb1 : pathB f d1 m
    · have hb := Lib.hid (show B = false from Bool.eq_false_iff.2 fun h => by
        have := dcd_iff.2 (hS.out.1 h).p1
        rw [show dcd (PathP f d1 (m : Int)) = pathB f d1 m from rfl, hb1] at this
        cases this)
      rw [hb1] at hP1
      clear hb1 hS hWs hP2 hAp0
      go_wp2_with (first
        | (go_at_call 57; refine (hP1.out _ hsW).mono ?_; rintro e w3 ⟨rfl, hB3⟩))
      go_ret
      exact ⟨ret_bool hb.out.symm, bstep hBW hB3⟩
    · have hq1 := dcd_iff.1 hb1
      rw [hb1] at hP1
      clear hb1
      cases hb2 : pathB f d2 m
      · have hb := Lib.hid (show B = false from Bool.eq_false_iff.2 fun h => by
          have := dcd_iff.2 (hS.out.1 h).p2
          rw [show dcd (PathP f d2 (m : Int)) = pathB f d2 m from rfl, hb2] at this
          cases this)
        rw [hb2] at hP2
        clear hb2 hS hWs hAp0 hq1
        go_wp2_with (first
          | (go_at_call 57; have h9 := hs3; clear h9; refine (hP2.out _ hs3).mono ?_; rintro e w4 ⟨rfl, hB4⟩; have hs4 := hs3.below hB4; obtain ⟨r1, r2, r3, r4, r5⟩ := hqK.out _ hs4; obtain ⟨r6, r7⟩ := hgK.out _ hs4)
            | (go_at_call 57; refine (hP1.out _ hsW).mono ?_; rintro e w3 ⟨rfl, hB3⟩; have hs3 := hsW.below hB3; obtain ⟨r1, r2, r3, r4, r5⟩ := hqK.out _ hs3; obtain ⟨r6, r7⟩ := hgK.out _ hs3)
            | (go_at_call 108; have h9 := hs5; clear h9; refine (hW2.out _ hs5).mono ?_; rintro e w6 ⟨rfl, hB6⟩; have hs6 := hs5.below hB6; obtain ⟨r1, r2, r3, r4, r5⟩ := hqK.out _ hs6)
            | (go_at_call 108; refine (hW1.out _ hs4d).mono ?_; rintro e w5 ⟨rfl, hB5⟩; have hs5 := hs4d.below hB5; obtain ⟨r1, r2, r3, r4, r5⟩ := hqK.out _ hs5)
            | (go_at_call 109; refine (hAp.out _ hs6).mono ?_; rintro e w7 ⟨rfl, hB7⟩))
        go_ret
        exact ⟨ret_bool hb.out.symm, bstep hBW (bstep hB3 hB4)⟩
      · have hq2 := dcd_iff.1 hb2
        rw [hb2] at hP2
        have hW1 := Lib.hid (fun (w1 : World) (hs : Sees w1 K) => hWs.out u1 d1 w1 hs g1 hq1.pos (hq1.ok 0 hq1.pos).1)
        have hW2 := Lib.hid (fun (w1 : World) (hs : Sees w1 K) => hWs.out u2 d2 w1 hs g2 hq2.pos (hq2.ok 0 hq2.pos).1)
        have hAp := Lib.hid (fun (w1 : World) (hs : Sees w1 K) => hAp0.out w1 hs hq2.pos)
        have hq1h := Lib.hid hq1
        have hq2h := Lib.hid hq2
        clear hb2 hWs hAp0 hq1 hq2
        go_upto_region 4 with (first
          | (go_at_call 57; have h9 := hs3; clear h9; refine (hP2.out _ hs3).mono ?_; rintro e w4 ⟨rfl, hB4⟩; have hs4 := hs3.below hB4; obtain ⟨r1, r2, r3, r4, r5⟩ := hqK.out _ hs4; obtain ⟨r6, r7⟩ := hgK.out _ hs4)
            | (go_at_call 57; refine (hP1.out _ hsW).mono ?_; rintro e w3 ⟨rfl, hB3⟩; have hs3 := hsW.below hB3; obtain ⟨r1, r2, r3, r4, r5⟩ := hqK.out _ hs3; obtain ⟨r6, r7⟩ := hgK.out _ hs3)
            | (go_at_call 108; have h9 := hs5; clear h9; refine (hW2.out _ hs5).mono ?_; rintro e w6 ⟨rfl, hB6⟩; have hs6 := hs5.below hB6; obtain ⟨r1, r2, r3, r4, r5⟩ := hqK.out _ hs6)
            | (go_at_call 108; refine (hW1.out _ hs4d).mono ?_; rintro e w5 ⟨rfl, hB5⟩; have hs5 := hs4d.below hB5; obtain ⟨r1, r2, r3, r4, r5⟩ := hqK.out _ hs5)
            | (go_at_call 109; refine (hAp.out _ hs6).mono ?_; rintro e w7 ⟨rfl, hB7⟩))
        clear hP1 hP2
        have hB24 := bstep hBW (bstep hB3 hB4)
        have hs4d := hp_sees hs4
        clear r1 r2 r3 r4 r5 r6 r7
        by_cases hdm : di = m
        · have hb := Lib.hid (show B = false from Bool.eq_false_iff.2 fun h => (hS.out.1 h).ne hdm)
          have t1 : (di == (m : Int)) = true := by simp [hdm]
          clear hdm hS
          refine wp_region_plan (fun w' => w'.heap = w4.heap) [(0, true), (1, true), (2, true), (3, true), (4, true), (5, true), (6, true), (7, true), (8, true), (9, true), (10, true), (11, true), (12, true), (13, true), (14, true), (15, true), (16, true), (17, true), (18, true)] (by kernel_rfl) (by kernel_rfl) (by kernel_rfl) rfl ?_
          repeat first
            | (refine plan_skip rfl (by rfl) ?_; simp only [Act.put, List.setIfInBounds_toArray, List.set_cons_zero, List.set_cons_succ])
            | (refine plan_read (v := ?_) rfl (by rfl) ?_ ?_; rotate_left; (focus (intro w' hSw; obtain ⟨r1, r2, r3, r4, r5⟩ := hqK.out _ (show Sees w' K from fun i o e => by rw [hSw]; exact hs4 i o e); obtain ⟨r6, r7⟩ := hgK.out _ (show Sees w' K from fun i o e => by rw [hSw]; exact hs4 i o e); clear hSw; go_simp; all_goals with_reducible rfl)); simp only [Act.put, List.setIfInBounds_toArray, List.set_cons_zero, List.set_cons_succ])
          refine plan_nil (NoPanic.normal ?_)
          go_wp2
          go_ret
          exact ⟨ret_bool hb.out.symm, hp_drew hB24⟩
        · have t1 : (di == (m : Int)) = false := by simpa using hdm
          by_cases hd1 : di < -1
          · have hb := Lib.hid (show B = false from Bool.eq_false_iff.2 fun h => by have := (hS.out.1 h).rng.1; simp only at this; omega)
            have t2 : decide (di < -1) = true := decide_eq_true hd1
            clear hdm hS hd1
            refine wp_region_plan (fun w' => w'.heap = w4.heap) [(0, true), (1, true), (2, true), (3, true), (4, true), (5, true), (6, true), (7, true), (8, true), (9, true), (10, true), (11, true), (12, true), (13, true), (14, true), (15, true), (16, true), (17, true), (18, true)] (by kernel_rfl) (by kernel_rfl) (by kernel_rfl) rfl ?_
            repeat first
              | (refine plan_skip rfl (by rfl) ?_; simp only [Act.put, List.setIfInBounds_toArray, List.set_cons_zero, List.set_cons_succ])
              | (refine plan_read (v := ?_) rfl (by rfl) ?_ ?_; rotate_left; (focus (intro w' hSw; obtain ⟨r1, r2, r3, r4, r5⟩ := hqK.out _ (show Sees w' K from fun i o e => by rw [hSw]; exact hs4 i o e); obtain ⟨r6, r7⟩ := hgK.out _ (show Sees w' K from fun i o e => by rw [hSw]; exact hs4 i o e); clear hSw; go_simp; all_goals with_reducible rfl)); simp only [Act.put, List.setIfInBounds_toArray, List.set_cons_zero, List.set_cons_succ])
            refine plan_nil (NoPanic.normal ?_)
            go_wp2
            go_ret
            exact ⟨ret_bool hb.out.symm, hp_drew hB24⟩
          · have t2 : decide (di < -1) = false := decide_eq_false hd1
            by_cases hdn : (f.blocks.length : Int) ≤ di
            · have hb := Lib.hid (show B = false from Bool.eq_false_iff.2 fun h => by have := (hS.out.1 h).rng.2; simp only at this; omega)
              have t3 : decide ((f.blocks.length : Int) ≤ di) = true := decide_eq_true hdn
              clear hdm hS hd1 hdn
              refine wp_region_plan (fun w' => w'.heap = w4.heap) [(0, true), (1, true), (2, true), (3, true), (4, true), (5, true), (6, true), (7, true), (8, true), (9, true), (10, true), (11, true), (12, true), (13, true), (14, true), (15, true), (16, true), (17, true), (18, true)] (by kernel_rfl) (by kernel_rfl) (by kernel_rfl) rfl ?_
              repeat first
                | (refine plan_skip rfl (by rfl) ?_; simp only [Act.put, List.setIfInBounds_toArray, List.set_cons_zero, List.set_cons_succ])
                | (refine plan_read (v := ?_) rfl (by rfl) ?_ ?_; rotate_left; (focus (intro w' hSw; obtain ⟨r1, r2, r3, r4, r5⟩ := hqK.out _ (show Sees w' K from fun i o e => by rw [hSw]; exact hs4 i o e); obtain ⟨r6, r7⟩ := hgK.out _ (show Sees w' K from fun i o e => by rw [hSw]; exact hs4 i o e); clear hSw; go_simp; all_goals with_reducible rfl)); simp only [Act.put, List.setIfInBounds_toArray, List.set_cons_zero, List.set_cons_succ])
              refine plan_nil (NoPanic.normal ?_)
              go_wp2
              go_ret
              exact ⟨ret_bool hb.out.symm, hp_drew hB24⟩
            · have t3 : decide ((f.blocks.length : Int) ≤ di) = false := decide_eq_false hdn
              have hfin : Hid (B = (wayB f ⟨(m : Int), di, d1, d2⟩ d1 && (wayB f ⟨(m : Int), di, d1, d2⟩ d2 && apB di d1 d2))) := Lib.hid (by
                rw [Bool.eq_iff_iff, hS.out]
                simp only [Bool.and_eq_true]
                constructor
                · intro h; exact ⟨dcd_iff.2 h.w1, dcd_iff.2 h.w2, dcd_iff.2 h.ap⟩
                · rintro ⟨k1, k2, k3⟩
                  exact ⟨fun h => hent.out (by simpa using h), hq1h.out, hq2h.out, hdm, ⟨by simp only; omega, by simp only; omega⟩, dcd_iff.1 k1, dcd_iff.1 k2, dcd_iff.1 k3⟩)
              generalize wayB f ⟨(m : Int), di, d1, d2⟩ d1 = V1 at *
              generalize wayB f ⟨(m : Int), di, d1, d2⟩ d2 = V2 at *
              generalize apB di d1 d2 = V3 at *
              clear hdm hS hd1 hdn
              refine wp_region_plan (fun w' => w'.heap = w4.heap) [(0, true), (1, true), (2, true), (3, true), (4, true), (5, true), (6, true), (7, true), (8, true), (9, true), (10, true), (11, true), (12, true), (13, true), (14, true), (15, true), (16, true), (17, true), (18, true)] (by kernel_rfl) (by kernel_rfl) (by kernel_rfl) rfl ?_
              repeat first
                | (refine plan_skip rfl (by rfl) ?_; simp only [Act.put, List.setIfInBounds_toArray, List.set_cons_zero, List.set_cons_succ])
                | (refine plan_read (v := ?_) rfl (by rfl) ?_ ?_; rotate_left; (focus (intro w' hSw; obtain ⟨r1, r2, r3, r4, r5⟩ := hqK.out _ (show Sees w' K from fun i o e => by rw [hSw]; exact hs4 i o e); obtain ⟨r6, r7⟩ := hgK.out _ (show Sees w' K from fun i o e => by rw [hSw]; exact hs4 i o e); clear hSw; go_simp; all_goals with_reducible rfl)); simp only [Act.put, List.setIfInBounds_toArray, List.set_cons_zero, List.set_cons_succ])
              refine plan_nil (NoPanic.normal ?_)
              obtain ⟨r1, r2, r3, r4, r5⟩ := hqK.out _ hs4d
              cases V1
              · go_wp2_with (first
                  | (go_at_call 57; have h9 := hs3; clear h9; refine (hP2.out _ hs3).mono ?_; rintro e w4 ⟨rfl, hB4⟩; have hs4 := hs3.below hB4; obtain ⟨r1, r2, r3, r4, r5⟩ := hqK.out _ hs4; obtain ⟨r6, r7⟩ := hgK.out _ hs4)
                    | (go_at_call 57; refine (hP1.out _ hsW).mono ?_; rintro e w3 ⟨rfl, hB3⟩; have hs3 := hsW.below hB3; obtain ⟨r1, r2, r3, r4, r5⟩ := hqK.out _ hs3; obtain ⟨r6, r7⟩ := hgK.out _ hs3)
                    | (go_at_call 108; have h9 := hs5; clear h9; refine (hW2.out _ hs5).mono ?_; rintro e w6 ⟨rfl, hB6⟩; have hs6 := hs5.below hB6; obtain ⟨r1, r2, r3, r4, r5⟩ := hqK.out _ hs6)
                    | (go_at_call 108; refine (hW1.out _ hs4d).mono ?_; rintro e w5 ⟨rfl, hB5⟩; have hs5 := hs4d.below hB5; obtain ⟨r1, r2, r3, r4, r5⟩ := hqK.out _ hs5)
                    | (go_at_call 109; refine (hAp.out _ hs6).mono ?_; rintro e w7 ⟨rfl, hB7⟩))
                go_ret
                exact ⟨ret_bool hfin.out.symm, bstep (hp_drew hB24) hB5⟩
              · cases V2
                · go_wp2_with (first
                    | (go_at_call 57; have h9 := hs3; clear h9; refine (hP2.out _ hs3).mono ?_; rintro e w4 ⟨rfl, hB4⟩; have hs4 := hs3.below hB4; obtain ⟨r1, r2, r3, r4, r5⟩ := hqK.out _ hs4; obtain ⟨r6, r7⟩ := hgK.out _ hs4)
                      | (go_at_call 57; refine (hP1.out _ hsW).mono ?_; rintro e w3 ⟨rfl, hB3⟩; have hs3 := hsW.below hB3; obtain ⟨r1, r2, r3, r4, r5⟩ := hqK.out _ hs3; obtain ⟨r6, r7⟩ := hgK.out _ hs3)
                      | (go_at_call 108; have h9 := hs5; clear h9; refine (hW2.out _ hs5).mono ?_; rintro e w6 ⟨rfl, hB6⟩; have hs6 := hs5.below hB6; obtain ⟨r1, r2, r3, r4, r5⟩ := hqK.out _ hs6)
                      | (go_at_call 108; refine (hW1.out _ hs4d).mono ?_; rintro e w5 ⟨rfl, hB5⟩; have hs5 := hs4d.below hB5; obtain ⟨r1, r2, r3, r4, r5⟩ := hqK.out _ hs5)
                      | (go_at_call 109; refine (hAp.out _ hs6).mono ?_; rintro e w7 ⟨rfl, hB7⟩))
                  go_ret
                  exact ⟨ret_bool hfin.out.symm, bstep (hp_drew hB24) (bstep hB5 hB6)⟩
                · go_wp2_with (first
                    | (go_at_call 57; have h9 := hs3; clear h9; refine (hP2.out _ hs3).mono ?_; rintro e w4 ⟨rfl, hB4⟩; have hs4 := hs3.below hB4; obtain ⟨r1, r2, r3, r4, r5⟩ := hqK.out _ hs4; obtain ⟨r6, r7⟩ := hgK.out _ hs4)
                      | (go_at_call 57; refine (hP1.out _ hsW).mono ?_; rintro e w3 ⟨rfl, hB3⟩; have hs3 := hsW.below hB3; obtain ⟨r1, r2, r3, r4, r5⟩ := hqK.out _ hs3; obtain ⟨r6, r7⟩ := hgK.out _ hs3)
                      | (go_at_call 108; have h9 := hs5; clear h9; refine (hW2.out _ hs5).mono ?_; rintro e w6 ⟨rfl, hB6⟩; have hs6 := hs5.below hB6; obtain ⟨r1, r2, r3, r4, r5⟩ := hqK.out _ hs6)
                      | (go_at_call 108; refine (hW1.out _ hs4d).mono ?_; rintro e w5 ⟨rfl, hB5⟩; have hs5 := hs4d.below hB5; obtain ⟨r1, r2, r3, r4, r5⟩ := hqK.out _ hs5)
                      | (go_at_call 109; refine (hAp.out _ hs6).mono ?_; rintro e w7 ⟨rfl, hB7⟩))
                  go_ret
                  exact ⟨ret_bool (by rw [hfin.out]; simp), bstep (hp_drew hB24) (bstep hB5 (bstep hB6 hB7))⟩
  · by_cases hdi : di = -1
    · have t0 : (di != -1) = false := by simp [hdi]
      have hent := Lib.hid (show f.entry.getD m false = true → di = -1 from fun _ => hdi)
      clear hdi
      cases hb1 : pathB f d1 m
      · have hb := Lib.hid (show B = false from Bool.eq_false_iff.2 fun h => by
          have := dcd_iff.2 (hS.out.1 h).p1
          rw [show dcd (PathP f d1 (m : Int)) = pathB f d1 m from rfl, hb1] at this
          cases this)
        rw [hb1] at hP1
        clear hb1 hS hWs hP2 hAp0
        go_wp2_with (first
          | (go_at_call 57; refine (hP1.out _ hsW).mono ?_; rintro e w3 ⟨rfl, hB3⟩))
        go_ret
        exact ⟨ret_bool hb.out.symm, bstep hBW hB3⟩
      · have hq1 := dcd_iff.1 hb1
        rw [hb1] at hP1
        clear hb1
        cases hb2 : pathB f d2 m
        · have hb := Lib.hid (show B = false from Bool.eq_false_iff.2 fun h => by
            have := dcd_iff.2 (hS.out.1 h).p2
            rw [show dcd (PathP f d2 (m : Int)) = pathB f d2 m from rfl, hb2] at this
            cases this)
          rw [hb2] at hP2
          clear hb2 hS hWs hAp0 hq1
          go_wp2_with (first
            | (go_at_call 57; have h9 := hs3; clear h9; refine (hP2.out _ hs3).mono ?_; rintro e w4 ⟨rfl, hB4⟩; have hs4 := hs3.below hB4; obtain ⟨r1, r2, r3, r4, r5⟩ := hqK.out _ hs4; obtain ⟨r6, r7⟩ := hgK.out _ hs4)
              | (go_at_call 57; refine (hP1.out _ hsW).mono ?_; rintro e w3 ⟨rfl, hB3⟩; have hs3 := hsW.below hB3; obtain ⟨r1, r2, r3, r4, r5⟩ := hqK.out _ hs3; obtain ⟨r6, r7⟩ := hgK.out _ hs3)
              | (go_at_call 108; have h9 := hs5; clear h9; refine (hW2.out _ hs5).mono ?_; rintro e w6 ⟨rfl, hB6⟩; have hs6 := hs5.below hB6; obtain ⟨r1, r2, r3, r4, r5⟩ := hqK.out _ hs6)
              | (go_at_call 108; refine (hW1.out _ hs4d).mono ?_; rintro e w5 ⟨rfl, hB5⟩; have hs5 := hs4d.below hB5; obtain ⟨r1, r2, r3, r4, r5⟩ := hqK.out _ hs5)
              | (go_at_call 109; refine (hAp.out _ hs6).mono ?_; rintro e w7 ⟨rfl, hB7⟩))
          go_ret
          exact ⟨ret_bool hb.out.symm, bstep hBW (bstep hB3 hB4)⟩
        · have hq2 := dcd_iff.1 hb2
          rw [hb2] at hP2
          have hW1 := Lib.hid (fun (w1 : World) (hs : Sees w1 K) => hWs.out u1 d1 w1 hs g1 hq1.pos (hq1.ok 0 hq1.pos).1)
          have hW2 := Lib.hid (fun (w1 : World) (hs : Sees w1 K) => hWs.out u2 d2 w1 hs g2 hq2.pos (hq2.ok 0 hq2.pos).1)
          have hAp := Lib.hid (fun (w1 : World) (hs : Sees w1 K) => hAp0.out w1 hs hq2.pos)
          have hq1h := Lib.hid hq1
          have hq2h := Lib.hid hq2
          clear hb2 hWs hAp0 hq1 hq2
          go_upto_region 4 with (first
            | (go_at_call 57; have h9 := hs3; clear h9; refine (hP2.out _ hs3).mono ?_; rintro e w4 ⟨rfl, hB4⟩; have hs4 := hs3.below hB4; obtain ⟨r1, r2, r3, r4, r5⟩ := hqK.out _ hs4; obtain ⟨r6, r7⟩ := hgK.out _ hs4)
              | (go_at_call 57; refine (hP1.out _ hsW).mono ?_; rintro e w3 ⟨rfl, hB3⟩; have hs3 := hsW.below hB3; obtain ⟨r1, r2, r3, r4, r5⟩ := hqK.out _ hs3; obtain ⟨r6, r7⟩ := hgK.out _ hs3)
              | (go_at_call 108; have h9 := hs5; clear h9; refine (hW2.out _ hs5).mono ?_; rintro e w6 ⟨rfl, hB6⟩; have hs6 := hs5.below hB6; obtain ⟨r1, r2, r3, r4, r5⟩ := hqK.out _ hs6)
              | (go_at_call 108; refine (hW1.out _ hs4d).mono ?_; rintro e w5 ⟨rfl, hB5⟩; have hs5 := hs4d.below hB5; obtain ⟨r1, r2, r3, r4, r5⟩ := hqK.out _ hs5)
              | (go_at_call 109; refine (hAp.out _ hs6).mono ?_; rintro e w7 ⟨rfl, hB7⟩))
          clear hP1 hP2
          have hB24 := bstep hBW (bstep hB3 hB4)
          have hs4d := hp_sees hs4
          clear r1 r2 r3 r4 r5 r6 r7
          by_cases hdm : di = m
          · have hb := Lib.hid (show B = false from Bool.eq_false_iff.2 fun h => (hS.out.1 h).ne hdm)
            have t1 : (di == (m : Int)) = true := by simp [hdm]
            clear hdm hS
            refine wp_region_plan (fun w' => w'.heap = w4.heap) [(0, true), (1, true), (2, true), (3, true), (4, true), (5, true), (6, true), (7, true), (8, true), (9, true), (10, true), (11, true), (12, true), (13, true), (14, true), (15, true), (16, true), (17, true), (18, true)] (by kernel_rfl) (by kernel_rfl) (by kernel_rfl) rfl ?_
            repeat first
              | (refine plan_skip rfl (by rfl) ?_; simp only [Act.put, List.setIfInBounds_toArray, List.set_cons_zero, List.set_cons_succ])
              | (refine plan_read (v := ?_) rfl (by rfl) ?_ ?_; rotate_left; (focus (intro w' hSw; obtain ⟨r1, r2, r3, r4, r5⟩ := hqK.out _ (show Sees w' K from fun i o e => by rw [hSw]; exact hs4 i o e); obtain ⟨r6, r7⟩ := hgK.out _ (show Sees w' K from fun i o e => by rw [hSw]; exact hs4 i o e); clear hSw; go_simp; all_goals with_reducible rfl)); simp only [Act.put, List.setIfInBounds_toArray, List.set_cons_zero, List.set_cons_succ])
            refine plan_nil (NoPanic.normal ?_)
            go_wp2
            go_ret
            exact ⟨ret_bool hb.out.symm, hp_drew hB24⟩
          · have t1 : (di == (m : Int)) = false := by simpa using hdm
            by_cases hd1 : di < -1
            · have hb := Lib.hid (show B = false from Bool.eq_false_iff.2 fun h => by have := (hS.out.1 h).rng.1; simp only at this; omega)
              have t2 : decide (di < -1) = true := decide_eq_true hd1
              clear hdm hS hd1
              refine wp_region_plan (fun w' => w'.heap = w4.heap) [(0, true), (1, true), (2, true), (3, true), (4, true), (5, true), (6, true), (7, true), (8, true), (9, true), (10, true), (11, true), (12, true), (13, true), (14, true), (15, true), (16, true), (17, true), (18, true)] (by kernel_rfl) (by kernel_rfl) (by kernel_rfl) rfl ?_
              repeat first
                | (refine plan_skip rfl (by rfl) ?_; simp only [Act.put, List.setIfInBounds_toArray, List.set_cons_zero, List.set_cons_succ])
                | (refine plan_read (v := ?_) rfl (by rfl) ?_ ?_; rotate_left; (focus (intro w' hSw; obtain ⟨r1, r2, r3, r4, r5⟩ := hqK.out _ (show Sees w' K from fun i o e => by rw [hSw]; exact hs4 i o e); obtain ⟨r6, r7⟩ := hgK.out _ (show Sees w' K from fun i o e => by rw [hSw]; exact hs4 i o e); clear hSw; go_simp; all_goals with_reducible rfl)); simp only [Act.put, List.setIfInBounds_toArray, List.set_cons_zero, List.set_cons_succ])
              refine plan_nil (NoPanic.normal ?_)
              go_wp2
              go_ret
              exact ⟨ret_bool hb.out.symm, hp_drew hB24⟩
            · have t2 : decide (di < -1) = false := decide_eq_false hd1
              by_cases hdn : (f.blocks.length : Int) ≤ di
              · have hb := Lib.hid (show B = false from Bool.eq_false_iff.2 fun h => by have := (hS.out.1 h).rng.2; simp only at this; omega)
                have t3 : decide ((f.blocks.length : Int) ≤ di) = true := decide_eq_true hdn
                clear hdm hS hd1 hdn
                refine wp_region_plan (fun w' => w'.heap = w4.heap) [(0, true), (1, true), (2, true), (3, true), (4, true), (5, true), (6, true), (7, true), (8, true), (9, true), (10, true), (11, true), (12, true), (13, true), (14, true), (15, true), (16, true), (17, true), (18, true)] (by kernel_rfl) (by kernel_rfl) (by kernel_rfl) rfl ?_
                repeat first
                  | (refine plan_skip rfl (by rfl) ?_; simp only [Act.put, List.setIfInBounds_toArray, List.set_cons_zero, List.set_cons_succ])
                  | (refine plan_read (v := ?_) rfl (by rfl) ?_ ?_; rotate_left; (focus (intro w' hSw; obtain ⟨r1, r2, r3, r4, r5⟩ := hqK.out _ (show Sees w' K from fun i o e => by rw [hSw]; exact hs4 i o e); obtain ⟨r6, r7⟩ := hgK.out _ (show Sees w' K from fun i o e => by rw [hSw]; exact hs4 i o e); clear hSw; go_simp; all_goals with_reducible rfl)); simp only [Act.put, List.setIfInBounds_toArray, List.set_cons_zero, List.set_cons_succ])
                refine plan_nil (NoPanic.normal ?_)
                go_wp2
                go_ret
                exact ⟨ret_bool hb.out.symm, hp_drew hB24⟩
              · have t3 : decide ((f.blocks.length : Int) ≤ di) = false := decide_eq_false hdn
                have hfin : Hid (B = (wayB f ⟨(m : Int), di, d1, d2⟩ d1 && (wayB f ⟨(m : Int), di, d1, d2⟩ d2 && apB di d1 d2))) := Lib.hid (by
                  rw [Bool.eq_iff_iff, hS.out]
                  simp only [Bool.and_eq_true]
                  constructor
                  · intro h; exact ⟨dcd_iff.2 h.w1, dcd_iff.2 h.w2, dcd_iff.2 h.ap⟩
                  · rintro ⟨k1, k2, k3⟩
                    exact ⟨fun h => hent.out (by simpa using h), hq1h.out, hq2h.out, hdm, ⟨by simp only; omega, by simp only; omega⟩, dcd_iff.1 k1, dcd_iff.1 k2, dcd_iff.1 k3⟩)
                generalize wayB f ⟨(m : Int), di, d1, d2⟩ d1 = V1 at *
                generalize wayB f ⟨(m : Int), di, d1, d2⟩ d2 = V2 at *
                generalize apB di d1 d2 = V3 at *
                clear hdm hS hd1 hdn
                refine wp_region_plan (fun w' => w'.heap = w4.heap) [(0, true), (1, true), (2, true), (3, true), (4, true), (5, true), (6, true), (7, true), (8, true), (9, true), (10, true), (11, true), (12, true), (13, true), (14, true), (15, true), (16, true), (17, true), (18, true)] (by kernel_rfl) (by kernel_rfl) (by kernel_rfl) rfl ?_
                repeat first
                  | (refine plan_skip rfl (by rfl) ?_; simp only [Act.put, List.setIfInBounds_toArray, List.set_cons_zero, List.set_cons_succ])
                  | (refine plan_read (v := ?_) rfl (by rfl) ?_ ?_; rotate_left; (focus (intro w' hSw; obtain ⟨r1, r2, r3, r4, r5⟩ := hqK.out _ (show Sees w' K from fun i o e => by rw [hSw]; exact hs4 i o e); obtain ⟨r6, r7⟩ := hgK.out _ (show Sees w' K from fun i o e => by rw [hSw]; exact hs4 i o e); clear hSw; go_simp; all_goals with_reducible rfl)); simp only [Act.put, List.setIfInBounds_toArray, List.set_cons_zero, List.set_cons_succ])
                refine plan_nil (NoPanic.normal ?_)
                obtain ⟨r1, r2, r3, r4, r5⟩ := hqK.out _ hs4d
                cases V1
                · go_wp2_with (first
                    | (go_at_call 57; have h9 := hs3; clear h9; refine (hP2.out _ hs3).mono ?_; rintro e w4 ⟨rfl, hB4⟩; have hs4 := hs3.below hB4; obtain ⟨r1, r2, r3, r4, r5⟩ := hqK.out _ hs4; obtain ⟨r6, r7⟩ := hgK.out _ hs4)
                      | (go_at_call 57; refine (hP1.out _ hsW).mono ?_; rintro e w3 ⟨rfl, hB3⟩; have hs3 := hsW.below hB3; obtain ⟨r1, r2, r3, r4, r5⟩ := hqK.out _ hs3; obtain ⟨r6, r7⟩ := hgK.out _ hs3)
                      | (go_at_call 108; have h9 := hs5; clear h9; refine (hW2.out _ hs5).mono ?_; rintro e w6 ⟨rfl, hB6⟩; have hs6 := hs5.below hB6; obtain ⟨r1, r2, r3, r4, r5⟩ := hqK.out _ hs6)
                      | (go_at_call 108; refine (hW1.out _ hs4d).mono ?_; rintro e w5 ⟨rfl, hB5⟩; have hs5 := hs4d.below hB5; obtain ⟨r1, r2, r3, r4, r5⟩ := hqK.out _ hs5)
                      | (go_at_call 109; refine (hAp.out _ hs6).mono ?_; rintro e w7 ⟨rfl, hB7⟩))
                  go_ret
                  exact ⟨ret_bool hfin.out.symm, bstep (hp_drew hB24) hB5⟩
                · cases V2
                  · go_wp2_with (first
                      | (go_at_call 57; have h9 := hs3; clear h9; refine (hP2.out _ hs3).mono ?_; rintro e w4 ⟨rfl, hB4⟩; have hs4 := hs3.below hB4; obtain ⟨r1, r2, r3, r4, r5⟩ := hqK.out _ hs4; obtain ⟨r6, r7⟩ := hgK.out _ hs4)
                        | (go_at_call 57; refine (hP1.out _ hsW).mono ?_; rintro e w3 ⟨rfl, hB3⟩; have hs3 := hsW.below hB3; obtain ⟨r1, r2, r3, r4, r5⟩ := hqK.out _ hs3; obtain ⟨r6, r7⟩ := hgK.out _ hs3)
                        | (go_at_call 108; have h9 := hs5; clear h9; refine (hW2.out _ hs5).mono ?_; rintro e w6 ⟨rfl, hB6⟩; have hs6 := hs5.below hB6; obtain ⟨r1, r2, r3, r4, r5⟩ := hqK.out _ hs6)
                        | (go_at_call 108; refine (hW1.out _ hs4d).mono ?_; rintro e w5 ⟨rfl, hB5⟩; have hs5 := hs4d.below hB5; obtain ⟨r1, r2, r3, r4, r5⟩ := hqK.out _ hs5)
                        | (go_at_call 109; refine (hAp.out _ hs6).mono ?_; rintro e w7 ⟨rfl, hB7⟩))
                    go_ret
                    exact ⟨ret_bool hfin.out.symm, bstep (hp_drew hB24) (bstep hB5 hB6)⟩
                  · go_wp2_with (first
                      | (go_at_call 57; have h9 := hs3; clear h9; refine (hP2.out _ hs3).mono ?_; rintro e w4 ⟨rfl, hB4⟩; have hs4 := hs3.below hB4; obtain ⟨r1, r2, r3, r4, r5⟩ := hqK.out _ hs4; obtain ⟨r6, r7⟩ := hgK.out _ hs4)
                        | (go_at_call 57; refine (hP1.out _ hsW).mono ?_; rintro e w3 ⟨rfl, hB3⟩; have hs3 := hsW.below hB3; obtain ⟨r1, r2, r3, r4, r5⟩ := hqK.out _ hs3; obtain ⟨r6, r7⟩ := hgK.out _ hs3)
                        | (go_at_call 108; have h9 := hs5; clear h9; refine (hW2.out _ hs5).mono ?_; rintro e w6 ⟨rfl, hB6⟩; have hs6 := hs5.below hB6; obtain ⟨r1, r2, r3, r4, r5⟩ := hqK.out _ hs6)
                        | (go_at_call 108; refine (hW1.out _ hs4d).mono ?_; rintro e w5 ⟨rfl, hB5⟩; have hs5 := hs4d.below hB5; obtain ⟨r1, r2, r3, r4, r5⟩ := hqK.out _ hs5)
                        | (go_at_call 109; refine (hAp.out _ hs6).mono ?_; rintro e w7 ⟨rfl, hB7⟩))
                    go_ret
                    exact ⟨ret_bool (by rw [hfin.out]; simp), bstep (hp_drew hB24) (bstep hB5 (bstep hB6 hB7))⟩
    · have t0 : (di != -1) = true := by simpa using hdi
      have hb := Lib.hid (show B = false from Bool.eq_false_iff.2 fun h => hdi ((hS.out.1 h).ent (by simpa using heh.out)))
      clear hdi hS hWs hP1 hP2 hAp0
      go_wp2
      go_ret
      exact ⟨ret_bool hb.out.symm, hBW⟩
end Go.Proofs.YtififjlgjmgikaaGreat
namespace Go.Proofs.YtififjlgjmgikaaGreat
set_option linter.all false
open Go.RowKit Go.Shelf

/-- Immediate dominators that lead on within the blocks of a list of proofs. -/
structure ClosedI (n : Nat) (l : List DominD) (il : List Int) : Prop where
  len : il.length = n
  rng : ∀ y : Int, y ∈ l.map (·.block) → 0 ≤ y ∧ y < n
  at_ : ∀ y : Int, y ∈ l.map (·.block) → il.getD y.toNat 0 = stepI l y
  next : ∀ y : Int, y ∈ l.map (·.block) → stepI l y = -1 ∨ stepI l y ∈ l.map (·.block)
  le : l.length ≤ n
def MtRes (l : List DominD) (v a : Int) (e : Ending) : Prop := ∃ F E : Bool, e = .returned (.tuple #[.bool F, .bool E]) ∧ (E = true ↔ metP l v (-1)) ∧ (metP l v (-1) → a ≠ -1 → (F = true ↔ metP l v a))
set_option maxHeartbeats 4000000 in
set_option maxRecDepth 100000 in
theorem r19_met (H : PH) (u : Value) (il : List Int) (n : Nat) (l : List DominD) (v a : Int) (w : World) (hw : Sees w H) (hu : SlV rInt H u il) (hc : ClosedI n l il) (hv : v ∈ l.map (·.block)) :
    Calls Tryz.prog 110 #[u, .int .i64 v, .int .i64 a] w fun e w' => MtRes l v a e ∧ w = w' := by
  have hle := hu.le
  have hlen := hc.len
  have hch := Lib.hid hc
  obtain ⟨A0, c0, rfl, -, -⟩ := hu.open_
  rw [hlen] at hu hle ⊢
  have hlenh := Lib.hid hlen
  have hvh := Lib.hid hv
  clear hc hlen hv
  go_enter Tryz.func110, Tryz.ntmps110
  go_wp2
  go_loop [1, 8, 9] (fun y fd i => ∃ (k : Nat) (z : Int) (F : Bool), k ≤ n + 1 ∧ i = .int .i64 k ∧ y = .int .i64 z ∧ fd = .bool F ∧ Aside (z = itI l k v ∧ (∀ j, j < k → itI l j v ≠ -1) ∧ (F = true ↔ ∃ j, j < k ∧ itI l j v = a) ∧ (z = -1 ∨ z ∈ l.map (·.block)))) (fun _ _ i => n + 1 - (intOf i).toNat)
  case atStart => exact ⟨0, v, false, by omega, rfl, rfl, rfl, rfl, fun j h => by omega, ⟨fun h => by simp at h, fun ⟨j, h, _⟩ => by omega⟩, .inr hvh.out⟩
  case round =>
    obtain ⟨k, z, F, hk, rfl, rfl, rfl, hI⟩ := hrel
    have hIh := Lib.hid hI
    have hz := hI.2.2.2
    clear hI
    by_cases hkn : k ≤ n
    · have t1 : decide ((k : Int) ≤ n) = true := decide_eq_true (by omega)
      have t2 : (k : Int) ≤ n := by omega
      by_cases hz1 : z = -1
      · have t3 : (z == -1) = true := by simp [hz1]
        have hm := Lib.hid (show metP l v (-1) from ⟨k, by rw [← hIh.out.1, hz1]⟩)
        have hres := Lib.hid (show MtRes l v a (.returned (.tuple #[.bool F, .bool true])) from ⟨F, true, rfl, by simp [hm.out], fun _ ha => hIh.out.2.2.1.trans ⟨fun ⟨j, _, h⟩ => ⟨j, h⟩, fun ⟨j, h⟩ => by
          by_cases e : j < k
          · exact ⟨j, e, h⟩
          · exfalso
            rw [show j = k + (j - k) by omega, itI_add, ← hIh.out.1, hz1, itI_no] at h
            exact ha h.symm⟩⟩)
        clear hz1 hz
        go_wp2
        go_ret2
        exact ⟨hres.out, rfl⟩
      · have t3 : (z == -1) = false := by simpa using hz1
        have hzm : z ∈ l.map (·.block) := hz.resolve_left hz1
        have hzr := hch.out.rng z hzm
        obtain ⟨m, rfl⟩ : ∃ m : Nat, z = (m : Int) := ⟨z.toNat, by omega⟩
        have hm0 : (0 : Int) ≤ m := by omega
        have hm1 : (m : Int) < n := by omega
        have hml : m < n := by omega
        obtain ⟨b1, o1, c1, e1, -, hb1, hcl, -⟩ := hu.ints (by rw [hlenh.out]; omega)
        rw [hlenh.out] at e1
        cases e1
        have p1 := hcl w hw m (by rw [hlenh.out]; exact hml)
        have l1 := hw.lt' hb1
        have hat := hch.out.at_ _ hzm
        have hnx := hch.out.next _ hzm
        rw [Int.toNat_natCast] at hat
        rw [hat] at p1
        have hstep := Lib.hid (show stepI l m = itI l (k + 1) v from by rw [itI_snoc, ← hIh.out.1])
        have hne := Lib.hid (show ∀ j, j < k + 1 → itI l j v ≠ -1 from fun j hj => by
          by_cases e : j = k
          · subst e; rw [← hIh.out.1]; omega
          · exact hIh.out.2.1 j (by omega))
        have hnxh := Lib.hid hnx
        have hF : (F || ((m : Int) == a)) = true ↔ ∃ j, j < k + 1 ∧ itI l j v = a := by
          rw [Bool.or_eq_true, hIh.out.2.2.1, beq_iff_eq]
          constructor
          · rintro (⟨j, h1, h2⟩ | h)
            · exact ⟨j, by omega, h2⟩
            · exact ⟨k, by omega, by rw [← hIh.out.1]; exact h⟩
          · rintro ⟨j, h1, h2⟩
            by_cases e : j = k
            · subst e; exact .inr (by rw [hIh.out.1]; exact h2)
            · exact .inl ⟨j, by omega, h2⟩
        have hFh := Lib.hid hF
        clear hcl hat hnx hz hz1 hF hzm hzr
        generalize stepI l m = s at *
        cases F
        · cases t4 : ((m : Int) == a)
          · rw [t4] at hFh
            go_wp2
            go_round
            case rel => exact ⟨k + 1, s, false, by omega, by go_num, rfl, rfl, hstep.out, hne.out, hFh.out, hnxh.out⟩
            case measure => simp [intOf]; omega
          · rw [t4] at hFh
            go_wp2
            go_round
            case rel => exact ⟨k + 1, s, true, by omega, by go_num, rfl, rfl, hstep.out, hne.out, hFh.out, hnxh.out⟩
            case measure => simp [intOf]; omega
        · have hFh2 := Lib.hid (show true = true ↔ ∃ j, j < k + 1 ∧ itI l j v = a from by have := hFh.out; rwa [Bool.true_or] at this)
          clear hFh
          go_wp2
          go_round
          case rel => exact ⟨k + 1, s, true, by omega, by go_num, rfl, rfl, hstep.out, hne.out, hFh2.out, hnxh.out⟩
          case measure => simp [intOf]; omega
    · obtain rfl : k = n + 1 := by omega
      have t1 : decide (((n + 1 : Nat) : Int) ≤ n) = false := decide_eq_false (by omega)
      have t2 : ¬ ((n + 1 : Nat) : Int) ≤ n := by omega
      have hno := Lib.hid (show ¬ metP l v (-1) from fun h => by
        have h1 := hIh.out.2.1 n (by omega)
        have := ends_len hch.out.next hvh.out h h1
        have := hch.out.le
        omega)
      have hres := Lib.hid (show MtRes l v a (.returned (.tuple #[.bool F, .bool false])) from ⟨F, false, rfl, by simp [hno.out], fun h => absurd h hno.out⟩)
      clear hkn hz
      go_wp2
      go_ret2
      exact ⟨hres.out, rfl⟩
def FitV (f : FlowD) (l : List DominD) (v : Int) : Prop := metP l v (-1) ∧ ∀ y ∈ nxB f v, stepI l y ≠ -1 → metP l v (stepI l y)
def FitP (f : FlowD) (l : List DominD) : Prop := ∀ v ∈ wantL f, FitV f l v
noncomputable def fitB (f : FlowD) (l : List DominD) : Bool := dcd (FitP f l)
set_option maxHeartbeats 4000000 in
set_option maxRecDepth 100000 in
theorem r19_fits (H : PH) (bg : Nat) (L E R u : Value) (f : FlowD) (il : List Int) (l : List DominD) (w : World) (hw : Sees w H) (hg : GrB H bg L E R f) (hu : SlV rInt H u il) (hc : ClosedI f.blocks.length l il) (hbl : l.map (·.block) = wantL f) (hrn : ∀ v ∈ wantL f, ∀ y ∈ nxB f v, y ∈ wantL f) :
    Calls Tryz.prog 74 #[.pointer (some ⟨bg, 0, none⟩), u] w fun e w' => e = .returned (.bool (fitB f l)) ∧ w = w' := by
  have hle := hg.le
  have hnl := Lib.hid (fun x => hg.nxl x)
  have hMt := Lib.hid (fun (v a : Int) (hv : v ∈ wantL f) => r19_met H u il f.blocks.length l v a w hw hu hc (by rw [hbl]; exact hv))
  have hS := Lib.hid (show fitB f l = true ↔ FitP f l from dcd_iff)
  generalize fitB f l = B at *
  have hlen := hc.len
  have hat := Lib.hid (fun (y : Int) (hy : y ∈ wantL f) => hc.at_ y (by rw [hbl]; exact hy))
  have hrnh := Lib.hid hrn
  obtain ⟨s0, s1, s2, s3, s4, s5, s6, hbk⟩ := hg.blk
  obtain ⟨A0, c0, rfl, -, -⟩ := hu.open_
  rw [hlen] at hMt ⊢
  have hlR := hg.lenR
  obtain ⟨AL, cL, rfl, -, -⟩ := hg.blocks.open_
  obtain ⟨AR, cR, rfl, -, -⟩ := hg.reached.open_
  rw [hlR] at hbk
  have hL := hg.blocks
  have hRe := hg.reached
  have q := box10 (hw _ _ hbk)
  have lg := hw.lt hbk
  have hlenh := Lib.hid hlen
  have hlRh := Lib.hid hlR
  rw [hlen] at hu
  clear hc hbl hrn hg hbk hlen hlR
  go_enter Tryz.func74, Tryz.ntmps74
  go_wp2
  go_loop [5] (fun i => ∃ k : Nat, k ≤ f.blocks.length ∧ i = .int .i64 k ∧ Aside (∀ v : Nat, v < k → (v : Int) ∈ wantL f → FitV f l v)) (fun i => f.blocks.length - (intOf i).toNat)
  case atStart => exact ⟨0, Nat.zero_le _, rfl, fun j h => by omega⟩
  case round =>
    obtain ⟨k, hk, rfl, hno⟩ := hrel
    have hnoh := Lib.hid hno
    clear hno
    by_cases hlt : k < f.blocks.length
    · have hlt' : (k : Int) < f.blocks.length := by omega
      have hk0 : (0 : Int) ≤ k := by omega
      obtain ⟨b3, o3, c3, e3, -, hb3, hc3⟩ := hRe.bools (by rw [hlRh.out]; omega)
      rw [hlRh.out] at e3
      cases e3
      have pR := hc3 w hw k (by rw [hlRh.out]; exact hlt)
      have lR := hw.lt' hb3
      obtain ⟨bL, oL, cL', e4, -, hbL, hrow, -⟩ := hL.blocks (by omega)
      cases e4
      obtain ⟨un, hun, huc⟩ := hrow k hlt
      rw [show (f.blocks.getD k default).next = nxB f (k : Int) from rfl] at hun
      have p6 := (huc w hw).2.2
      have lL := hw.lt' hbL
      have hkw : (k : Int) ∈ wantL f ↔ f.reached.getD k false = true := by
        rw [wantL_mem]
        exact ⟨fun h => by have := h.2; simpa [rchB] using this, fun h => ⟨⟨hk0, hlt'⟩, by simpa [rchB] using h⟩⟩
      have hnln := hnl.out (k : Int)
      clear hc3 hrow huc
      cases hr : f.reached.getD k false
      · rw [hr] at pR hkw
        have hst := Lib.hid (show ∀ v : Nat, v < k + 1 → (v : Int) ∈ wantL f → FitV f l v from fun v hv hw' => by
          by_cases e : v = k
          · subst e; have := hkw.1 hw'; cases this
          · exact hnoh.out v (by omega) hw')
        clear hr hkw
        go_wp2
        go_round
        case rel => exact ⟨k + 1, by omega, by go_num, hst.out⟩
        case measure => simp [intOf]; omega
      · rw [hr] at pR hkw
        have hkm := hkw.2 rfl
        have hM1 := hMt.out k k hkm
        have hM2 := Lib.hid (fun a => hMt.out k a hkm)
        have hbadk := Lib.hid (fun (h : ¬ FitV f l k) => (show B = false from Bool.eq_false_iff.2 fun hB => h (hS.out.1 hB k hkm)))
        have hyw := Lib.hid (fun y (hy : y ∈ nxB f (k : Int)) => And.intro (hrnh.out k hkm y hy) (hat.out y (hrnh.out k hkm y hy)))
        clear hr hkw hkm
        by_cases hme : metP l k (-1)
        · have hmeh := Lib.hid hme
          clear hme
          obtain ⟨Au, cu, rfl, -, -⟩ := hun.open_
          go_wp2_with (go_at_call 110; refine hM1.mono ?_; rintro e w1 ⟨⟨F, E9, rfl, hE, -⟩, rfl⟩; obtain rfl := hE.2 hmeh.out; clear hE)
          clear hM1
          go_loop [8] (fun i => ∃ j : Nat, j ≤ (nxB f (k : Int)).length ∧ i = .int .i64 j ∧ Aside (∀ i, i < j → stepI l ((nxB f (k : Int)).getD i 0) ≠ -1 → metP l k (stepI l ((nxB f (k : Int)).getD i 0)))) (fun i => (nxB f (k : Int)).length - (intOf i).toNat)
          case atStart => exact ⟨0, Nat.zero_le _, rfl, fun j h => by omega⟩
          case round =>
            obtain ⟨j, hj, rfl, hn2⟩ := hrel
            have hn2h := Lib.hid hn2
            clear hn2
            by_cases hjl : j < (nxB f (k : Int)).length
            · have hjl' : (j : Int) < (nxB f (k : Int)).length := by omega
              have hj0 : (0 : Int) ≤ j := by omega
              obtain ⟨bu, ou, cu2, eu, -, hbu, hucell, -⟩ := hun.ints (by omega)
              cases eu
              have d1 := hucell w hw j hjl
              have lu := hw.lt' hbu
              have hym : (nxB f (k : Int)).getD j 0 ∈ nxB f (k : Int) := by rw [List.getD_eq_getElem?_getD, List.getElem?_eq_getElem hjl]; exact List.getElem_mem _
              obtain ⟨hyw1, hyw2⟩ := hyw.out _ hym
              have hyr := (wantL_mem.1 hyw1).1
              obtain ⟨y, hy⟩ : ∃ y : Nat, (nxB f (k : Int)).getD j 0 = (y : Int) := ⟨((nxB f (k : Int)).getD j 0).toNat, by omega⟩
              rw [hy] at d1 hyw2 hyr
              have hyl : y < f.blocks.length := by omega
              have hy0 : (0 : Int) ≤ y := by omega
              have hy1 : (y : Int) < f.blocks.length := by omega
              have t9 : decide ((y : Int) < 0) = false := decide_eq_false (by omega)
              rw [Int.toNat_natCast] at hyw2
              obtain ⟨b1, o1, c1, e1, -, hb1, hcl, -⟩ := (show SlV rInt H _ il from by have := hu; rw [← hlenh.out] at this; exact this).ints (by rw [hlenh.out]; omega)
              rw [hlenh.out] at e1
              cases e1
              have p1 := hcl w hw y (by rw [hlenh.out]; exact hyl)
              have l1 := hw.lt' hb1
              rw [hyw2] at p1
              have hst := Lib.hid (show (stepI l y ≠ -1 → metP l k (stepI l y)) → ∀ i, i < j + 1 → stepI l ((nxB f (k : Int)).getD i 0) ≠ -1 → metP l k (stepI l ((nxB f (k : Int)).getD i 0)) from fun h i hi => by
                by_cases e : i = j
                · subst e; rw [hy]; exact h
                · exact hn2h.out i (by omega))
              have hbad := Lib.hid (fun (h1 : stepI l y ≠ -1) (h2 : ¬ metP l k (stepI l y)) => hbadk.out fun h => h2 (h.2 y (by rw [← hy]; exact hym) h1))
              have hMs := hM2.out (stepI l y)
              clear hucell hcl hym hyw1 hyw2 hyr hy
              generalize stepI l (y : Int) = s at *
              by_cases hs1 : s = -1
              · have t3 : (s != -1) = false := by simp [hs1]
                have hst2 := Lib.hid (hst.out fun h => absurd hs1 h)
                clear hs1 hst hbad
                go_wp2_with (go_at_call 110; refine hMs.mono ?_; rintro e w1 ⟨⟨F9, E9, rfl, -, -⟩, rfl⟩)
                go_round
                case rel => exact ⟨j + 1, by omega, by go_num, hst2.out⟩
                case measure => simp [intOf]; omega
              · have t3 : (s != -1) = true := by simpa using hs1
                by_cases hm2 : metP l k s
                · have hst2 := Lib.hid (hst.out fun _ => hm2)
                  have hm2h := Lib.hid (And.intro hs1 hm2)
                  clear hs1 hst hbad hm2
                  go_wp2_with (go_at_call 110; refine hMs.mono ?_; rintro e w1 ⟨⟨F9, E9, rfl, -, hF⟩, rfl⟩; obtain rfl := (hF hmeh.out hm2h.out.1).2 hm2h.out.2; clear hF)
                  go_round
                  case rel => exact ⟨j + 1, by omega, by go_num, hst2.out⟩
                  case measure => simp [intOf]; omega
                · have hb := Lib.hid (hbad.out hs1 hm2)
                  have hm2h := Lib.hid (And.intro hs1 hm2)
                  clear hs1 hst hbad hm2
                  go_wp2_with (go_at_call 110; refine hMs.mono ?_; rintro e w1 ⟨⟨F9, E9, rfl, -, hF⟩, rfl⟩; obtain rfl : F9 = false := (Bool.eq_false_iff.2 fun h9 => hm2h.out.2 ((hF hmeh.out hm2h.out.1).1 h9)); clear hF)
                  go_ret
                  exact ⟨ret_bool hb.out.symm, rfl⟩
            · obtain rfl : j = (nxB f (k : Int)).length := by omega
              have hjn : ¬ ((nxB f (k : Int)).length : Int) < (nxB f (k : Int)).length := by omega
              have hst := Lib.hid (show ∀ v : Nat, v < k + 1 → (v : Int) ∈ wantL f → FitV f l v from fun v hv hw' => by
                by_cases e : v = k
                · subst e
                  refine ⟨hmeh.out, fun y hy => ?_⟩
                  obtain ⟨i, hi, rfl⟩ := List.getElem_of_mem hy
                  have := hn2h.out i hi
                  rw [List.getD_eq_getElem?_getD, List.getElem?_eq_getElem hi] at this
                  exact this
                · exact hnoh.out v (by omega) hw')
              clear hjl
              go_wp2
              go_round
              case rel => exact ⟨k + 1, by omega, by go_num, hst.out⟩
              case measure => simp [intOf]; omega
        · have hb := Lib.hid (hbadk.out fun h => hme h.1)
          have hmeh := Lib.hid hme
          clear hme
          go_wp2_with (go_at_call 110; refine hM1.mono ?_; rintro e w1 ⟨⟨F, E9, rfl, hE, -⟩, rfl⟩; obtain rfl : E9 = false := (Bool.eq_false_iff.2 fun h9 => hmeh.out (hE.1 h9)); clear hE)
          go_ret
          exact ⟨ret_bool hb.out.symm, rfl⟩
    · obtain rfl : k = f.blocks.length := by omega
      have hltn : ¬ (f.blocks.length : Int) < f.blocks.length := by omega
      have hb := Lib.hid (show B = true from hS.out.2 fun v hv => by
        have h9 := (wantL_mem.1 hv).1
        have := hnoh.out v.toNat (by omega)
        rw [show ((v.toNat : Nat) : Int) = v by omega] at this
        exact this hv)
      clear hlt
      go_wp2
      go_ret
      exact ⟨ret_bool hb.out.symm, rfl⟩
end Go.Proofs.YtififjlgjmgikaaGreat
namespace Go.Proofs.YtififjlgjmgikaaGreat
set_option linter.all false
open Go.RowKit Go.Shelf

theorem last_iff {p : List Int} {x : Int} (hl : 0 < p.length) : p.getLast? = some x ↔ p.getD (p.length - 1) 0 = x := by
  rw [List.getLast?_eq_getElem?, List.getD_eq_getElem?_getD, List.getElem?_eq_getElem (by omega)]
  simp
section
variable {c : CodeD} (hf : fineB c = true) {d : DominD}
include hf
theorem leads_path {p : List Int} (h : LeadsP (theFlow c) d p) (hi : d.idom ≠ -1 → rchB (theFlow c) d.idom = true) : PathP (theFlow c) p d.block := by
  have hl := List.length_pos_iff.2 h.ne
  have hin : ∀ i, i < p.length → p.getD i 0 ∈ p := fun i hi => by rw [List.getD_eq_getElem?_getD, List.getElem?_eq_getElem hi]; exact List.getElem_mem _
  have hst : ∀ i, i + 1 < p.length → p.getD (i + 1) 0 ∈ nxB (theFlow c) (p.getD i 0) := fun i hi => h.step i _ _ (by rw [List.getD_eq_getElem?_getD, List.getElem?_eq_getElem (by omega)]; rfl) (by rw [List.getD_eq_getElem?_getD, List.getElem?_eq_getElem hi]; rfl)
  have hra : ∀ i, i < p.length → RA (theFlow c) (fun _ => False) (p.getD i 0) := by
    intro i
    induction i with
    | zero =>
      intro h0
      have hr := h.range _ (hin 0 h0)
      have hfr := h.from_
      by_cases e : d.idom = -1
      · rw [if_pos e] at hfr
        exact .start ⟨⟨hr, hfr⟩, fun k => k⟩
      · rw [if_neg e] at hfr
        rw [hfr.1] at hr ⊢
        exact (reached_dom hf hr).1 (hi e)
    | succ i ih => intro h0; exact (ih (by omega)).more (hst i h0) (fun k => k)
  refine ⟨hl, (last_iff hl).1 h.last, fun i hi => ?_, hst⟩
  have hr := h.range _ (hin i hi)
  exact ⟨hr, (reached_dom hf hr).2 (hra i hi)⟩
omit hf in
theorem path_leads {f : FlowD} {p : List Int} (h : PathP f p d.block) (hw : WayP f d p) : LeadsP f d p := by
  refine ⟨List.ne_nil_of_length_pos h.pos, fun b hb => ?_, (last_iff h.pos).2 h.last, hw.1, fun i a b ha hb => ?_, hw.2⟩
  · obtain ⟨i, hi, rfl⟩ := List.getElem_of_mem hb
    have := (h.ok i hi).1
    rwa [List.getD_eq_getElem?_getD, List.getElem?_eq_getElem hi] at this
  · have hi := (List.getElem?_eq_some_iff.1 hb).1
    have := h.step i hi
    rwa [List.getD_eq_getElem?_getD, List.getD_eq_getElem?_getD, ha, hb] at this
theorem prov_iff : ProvesP (theFlow c) d ↔ ProofQ (theFlow c) d := by
  constructor
  · intro h
    have hi : d.idom ≠ -1 → rchB (theFlow c) d.idom = true := fun e => (h.own e).2.1
    have p1 := leads_path hf h.one hi
    have p2 := leads_path hf h.two hi
    have hbr := p1.ok (d.one.length - 1) (by have := p1.pos; omega)
    rw [p1.last] at hbr
    refine ⟨h.ent, p1, p2, fun e => ?_, ?_, ⟨h.one.once, h.one.from_⟩, ⟨h.two.once, h.two.from_⟩, fun i hi1 hne hm => ?_⟩
    · by_cases e1 : d.idom = -1
      · omega
      · exact (h.own e1).2.2 e
    · by_cases e1 : d.idom = -1
      · omega
      · have := (h.own e1).1; omega
    · have hmem : d.one.getD i 0 ∈ d.one.dropLast := by
        rw [List.getD_eq_getElem?_getD, List.getElem?_eq_getElem (by omega), Option.getD_some]
        have h9 : d.one.dropLast[i]'(by rw [List.length_dropLast]; omega) = d.one[i] := List.getElem_dropLast _
        rw [← h9]
        exact List.getElem_mem _
      exact h.apart _ ((List.dropLast_subset _)  hmem) (fun e => h.one.once (e ▸ hmem)) hne ((List.dropLast_subset _)  hm)
  · intro h
    have l1 := path_leads h.p1 h.w1
    have l2 := path_leads h.p2 h.w2
    refine ⟨h.ent, fun e => ?_, l1, l2, fun b hb h1 h2 h3 => ?_⟩
    · have hw := h.w1.2
      rw [if_neg e] at hw
      have := h.p1.ok 0 h.p1.pos
      rw [hw.1] at this
      exact ⟨this.1, this.2, h.ne⟩
    · obtain ⟨i, hi, rfl⟩ := List.getElem_of_mem hb
      have hgd : d.one.getD i 0 = d.one[i] := by rw [List.getD_eq_getElem?_getD, List.getElem?_eq_getElem hi]; rfl
      have hlast := h.p1.last
      have hi1 : i + 1 < d.one.length := by
        apply Classical.byContradiction
        intro hn
        apply h1
        rw [← hlast, ← hgd, show d.one.length - 1 = i by omega]
      refine h.ap i hi1 (by rw [hgd]; exact h2) ?_
      rw [hgd]
      have hl2 := List.length_pos_iff.2 l2.ne
      have hsp := List.dropLast_concat_getLast l2.ne
      rw [← hsp] at h3
      rcases List.mem_append.1 h3 with k | k
      · exact k
      · exfalso
        simp at k
        apply h1
        have := l2.last
        rw [List.getLast?_eq_some_getLast l2.ne] at this
        injection this with this
        rw [k, this]
end
theorem want_next {c : CodeD} (hf : fineB c = true) : ∀ v ∈ wantL (theFlow c), ∀ y ∈ nxB (theFlow c) v, y ∈ wantL (theFlow c) := by
  intro v hv y hy
  obtain ⟨h1, h2⟩ := wantL_mem.1 hv
  have hr := ((reached_dom hf h1).1 h2).more hy (fun k => k)
  obtain ⟨k, rfl, hk⟩ := reach_in hf hr
  exact wantL_mem.2 ⟨by omega, (reached_dom hf (by omega)).2 hr⟩
theorem stepI_want {f : FlowD} {l : List DominD} {y : Int} (hy : y ∈ wantL f) : stepI l y = idomAt l y := by
  have := (wantL_mem.1 hy).1
  unfold stepI
  rw [if_neg (by omega)]
theorem fit_iff {c : CodeD} (hf : fineB c = true) {l : List DominD} (hb : l.map (·.block) = wantL (theFlow c)) : FitP (theFlow c) l ↔ (∀ d ∈ l, metP l d.block (-1)) ∧ ∀ e ∈ edgesR (theFlow c), idomAt l e.2 ≠ -1 → metP l e.1 (idomAt l e.2) := by
  constructor
  · intro h
    refine ⟨fun d hd => (h _ (by rw [← hb]; exact List.mem_map_of_mem hd)).1, fun e he hne => ?_⟩
    obtain ⟨h1, h2, h3⟩ := edgesR_mem.1 he
    have hv : e.1 ∈ wantL (theFlow c) := wantL_mem.2 ⟨h1, h2⟩
    have hy := want_next hf _ hv _ h3
    have := (h _ hv).2 _ h3
    rw [stepI_want hy] at this
    exact this hne
  · rintro ⟨h1, h2⟩ v hv
    have hv' := hv
    rw [← hb] at hv'
    obtain ⟨d, hd, rfl⟩ := List.mem_map.1 hv'
    refine ⟨h1 d hd, fun y hy => ?_⟩
    have hyw := want_next hf _ hv y hy
    rw [stepI_want hyw]
    obtain ⟨k1, k2⟩ := wantL_mem.1 hv
    exact h2 (d.block, y) (edgesR_mem.2 ⟨k1, k2, hy⟩)
theorem prf_iff {c : CodeD} (hf : fineB c = true) {l : List DominD} : PrfP (theFlow c) l ↔ l.map (·.block) = wantL (theFlow c) ∧ (∀ d ∈ l, ProofQ (theFlow c) d) ∧ FitP (theFlow c) l := by
  constructor
  · intro h
    exact ⟨h.want, fun d hd => (prov_iff hf).1 (h.all d hd), (fit_iff hf h.want).2 ⟨h.ends, h.fit⟩⟩
  · rintro ⟨h1, h2, h3⟩
    obtain ⟨h4, h5⟩ := (fit_iff hf h1).1 h3
    exact ⟨h1, fun d hd => (prov_iff hf).2 (h2 d hd), h4, h5⟩
theorem closedI_of {f : FlowD} {l : List DominD} {il : List Int} (hl : il.length = f.blocks.length) (hb : l.map (·.block) = wantL f) (hq : ∀ d ∈ l, ProofQ f d) (hi : ∀ d ∈ l, il.getD d.block.toNat 0 = d.idom) : ClosedI f.blocks.length l il := by
  have hnd : (l.map (·.block)).Nodup := by rw [hb]; exact wantL_nodup f
  have hst : ∀ d ∈ l, stepI l d.block = d.idom := fun d hd => by rw [stepI_want (f := f) (by rw [← hb]; exact List.mem_map_of_mem hd), idomAt_of hnd hd]
  refine ⟨hl, fun y hy => (wantL_mem.1 (by rw [← hb]; exact hy)).1, fun y hy => ?_, fun y hy => ?_, ?_⟩
  · obtain ⟨d, hd, rfl⟩ := List.mem_map.1 hy
    rw [hi d hd, hst d hd]
  · obtain ⟨d, hd, rfl⟩ := List.mem_map.1 hy
    rw [hst d hd]
    by_cases e : d.idom = -1
    · exact .inl e
    · have h1 := hq d hd
      have hw := h1.w1.2
      rw [if_neg e] at hw
      have := h1.p1.ok 0 h1.p1.pos
      rw [hw.1] at this
      exact .inr (by rw [hb]; exact wantL_mem.2 this)
  · have : l.length = (wantL f).length := by have := congrArg List.length hb; rwa [List.length_map] at this
    rw [this]
    unfold wantL; rw [List.length_map]; exact Nat.le_trans (List.length_filter_le _ _) (by simp)
def GoodAt (f : FlowD) (l : List DominD) (b : Nat) (xs : List Int) : Prop := (wantK f b).length < l.length ∧ (l.getD (wantK f b).length default).block = (b : Int) ∧ ProofQ f (l.getD (wantK f b).length default) ∧ xs.getD b 0 = (l.getD (wantK f b).length default).idom
def IlI (f : FlowD) (l : List DominD) (k : Nat) (xs : List Int) : Prop := xs.length = f.blocks.length ∧ ∀ b, b < k → f.reached.getD b false = true → GoodAt f l b xs
theorem wantK_pref (f : FlowD) {k n : Nat} (h : k ≤ n) : wantK f k <+: wantK f n := by
  induction n with
  | zero => obtain rfl : k = 0 := by omega
            exact List.prefix_rfl
  | succ n ih =>
    by_cases e : k = n + 1
    · subst e; exact List.prefix_rfl
    · rw [wantK_succ]
      exact (ih (by omega)).trans (List.prefix_append _ _)
theorem want_here {f : FlowD} {k : Nat} (hk : k < f.blocks.length) (hr : f.reached.getD k false = true) : (wantL f)[(wantK f k).length]? = some (k : Int) := by
  have h1 : wantK f (k + 1) <+: wantL f := wantK_pref f (by omega)
  rw [wantK_succ, if_pos hr] at h1
  obtain ⟨t, ht⟩ := h1
  rw [← ht]
  simp
theorem getD_of {α : Type} [Inhabited α] {l : List α} {j : Nat} {x : α} (h : l[j]? = some x) : l.getD j default = x := by rw [List.getD_eq_getElem?_getD, h]; rfl
theorem IlI.done {f : FlowD} {l : List DominD} {xs : List Int} (h : IlI f l f.blocks.length xs) (hl : l.length = (wantL f).length) : l.map (·.block) = wantL f ∧ (∀ d ∈ l, ProofQ f d) ∧ ∀ d ∈ l, xs.getD d.block.toNat 0 = d.idom := by
  have key : ∀ (j : Nat) (d : DominD), l[j]? = some d → (wantL f)[j]? = some d.block ∧ ProofQ f d ∧ xs.getD d.block.toNat 0 = d.idom := by
    intro j d hd
    have hj := (List.getElem?_eq_some_iff.1 hd).1
    obtain ⟨y, hy⟩ : ∃ y, (wantL f)[j]? = some y := ⟨_, List.getElem?_eq_getElem (by omega)⟩
    obtain ⟨h1, h2⟩ := wantL_mem.1 (List.mem_of_getElem? hy)
    obtain ⟨k, rfl⟩ : ∃ k : Nat, y = (k : Int) := ⟨y.toNat, by omega⟩
    have hk : k < f.blocks.length := by omega
    have hr : f.reached.getD k false = true := by simpa [rchB] using h2
    have hw := want_here hk hr
    have hjk : j = (wantK f k).length := (List.getElem?_inj (by omega) (wantL_nodup f)).1 (hy.trans hw.symm)
    obtain ⟨_, g2, g3, g4⟩ := h.2 k hk hr
    rw [← hjk, getD_of hd] at g2 g3 g4
    rw [g2]
    exact ⟨hy, g3, by rw [Int.toNat_natCast]; exact g4⟩
  refine ⟨List.ext_getElem? fun j => ?_, fun d hd => ?_, fun d hd => ?_⟩
  · rw [List.getElem?_map]
    by_cases hj : j < l.length
    · rw [List.getElem?_eq_getElem hj, (key j _ (List.getElem?_eq_getElem hj)).1]; rfl
    · rw [List.getElem?_eq_none (by omega), List.getElem?_eq_none (by omega)]; rfl
  · obtain ⟨j, hj, rfl⟩ := List.getElem_of_mem hd
    exact (key j _ (List.getElem?_eq_getElem hj)).2.1
  · obtain ⟨j, hj, rfl⟩ := List.getElem_of_mem hd
    exact (key j _ (List.getElem?_eq_getElem hj)).2.2
theorem IlI.of_all {f : FlowD} {l : List DominD} {k : Nat} (h : l.map (·.block) = wantL f) (hk : k < f.blocks.length) (hr : f.reached.getD k false = true) : (wantK f k).length < l.length ∧ (l.getD (wantK f k).length default).block = (k : Int) := by
  have h1 := want_here hk hr
  rw [← h, List.getElem?_map] at h1
  obtain ⟨d, hd, h2⟩ := Option.map_eq_some_iff.1 h1
  exact ⟨(List.getElem?_eq_some_iff.1 hd).1, by rw [getD_of hd]; exact h2⟩
theorem IlI.skip {f : FlowD} {l : List DominD} {k : Nat} {xs : List Int} (h : IlI f l k xs) (hr : f.reached.getD k false = false) (v : Int) : IlI f l (k + 1) (xs.set k v) := by
  refine ⟨by simp [h.1], fun b hb hbr => ?_⟩
  by_cases e : b = k
  · subst e; rw [hr] at hbr; cases hbr
  · obtain ⟨h1, h2, h3, h4⟩ := h.2 b (by omega) hbr
    exact ⟨h1, h2, h3, by rw [List.getD_eq_getElem?_getD, List.getElem?_set_ne (fun k' => e k'.symm), ← List.getD_eq_getElem?_getD]; exact h4⟩
theorem IlI.more {f : FlowD} {l : List DominD} {k : Nat} {xs : List Int} (h : IlI f l k xs) (hk : k < f.blocks.length) (h1 : (wantK f k).length < l.length) (h2 : (l.getD (wantK f k).length default).block = (k : Int)) (h3 : ProofQ f (l.getD (wantK f k).length default)) : IlI f l (k + 1) (xs.set k (l.getD (wantK f k).length default).idom) := by
  refine ⟨by simp [h.1], fun b hb hbr => ?_⟩
  by_cases e : b = k
  · subst e
    exact ⟨h1, h2, h3, by rw [List.getD_eq_getElem?_getD, List.getElem?_set_self (by rw [h.1]; exact hk)]; rfl⟩
  · obtain ⟨h1, h2, h3, h4⟩ := h.2 b (by omega) hbr
    exact ⟨h1, h2, h3, by rw [List.getD_eq_getElem?_getD, List.getElem?_set_ne (fun k' => e k'.symm), ← List.getD_eq_getElem?_getD]; exact h4⟩
end Go.Proofs.YtififjlgjmgikaaGreat
