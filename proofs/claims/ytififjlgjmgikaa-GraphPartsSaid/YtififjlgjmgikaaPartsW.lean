/- GraphParts, walked. -/
import Derived.Test.YtififjlgjmgikaaPartsM
namespace Go.Proofs.Ytififjlgjmgikaa
set_option linter.all false
open Go.RowKit

theorem SlV.i64 {H : PH} {v : Value} {xs : List Int} (h : SlV rInt H v xs) (i : Nat) : I64 (xs.getD i 0) := by
  by_cases hx : 0 < xs.length
  · obtain ⟨_, _, _, _, _, _, _, h2⟩ := h.ints hx
    exact h2 i
  · rw [getD_out (by omega)]; exact ⟨by omega, by omega⟩
theorem undrew {w w1 : World} {f : Option Nat} (h : w.drew.grownBy w1 f) : w.grownBy w1 f := ⟨h.os, h.tape, h.output, h.size, h.block⟩
/-- Live, whatever the sets. -/
def LiveAll (base : Nat) (c : CodeD) (us ds : List Int) (w' : World) (e : Ending) : Prop :=
  ∃ v xs, e = .returned (.tuple #[v, .int .i64 (setsE c [us, ds])]) ∧ (setsE c [us, ds] = 0 → OwnI w' base v xs ∧ LiveL c.instrs.length (nextL c) us ds xs) ∧ ∃ A n cap, v = .slice A n cap
theorem graph_Live_all (H : PH) (v vu vd : Value) (c : CodeD) (us ds : List Int) (w : World) (hw : Sees w H) (hc : CodeV H v c) (hu : SlV rInt H vu us) (hd : SlV rInt H vd ds) :
    Calls Try.prog 17 #[v, vu, vd] w fun e w' => LiveAll w.heap.size c us ds w' e ∧ Below w.heap.size w w' := by
  by_cases h : setsE c [us, ds] = 0
  · refine (graph_Live_ok H v vu vd c us ds w hw hc hu hd h).mono ?_
    rintro e w' ⟨⟨v', xs, rfl, h1, h2⟩, hB⟩
    obtain ⟨A, cap, e, _⟩ := h1.len_form
    exact ⟨⟨v', xs, by rw [h], fun _ => ⟨h1, h2⟩, A, _, cap, e⟩, hB⟩
  · refine (graph_Live_no H v vu vd c us ds w hw hc hu hd h).mono ?_
    rintro e w' ⟨rfl, hB⟩
    exact ⟨⟨_, [], rfl, fun k => absurd k h, none, 0, 0, rfl⟩, hB⟩
set_option maxHeartbeats 4000000 in
set_option maxRecDepth 100000 in
theorem law_Parts (H : PH) (v vu vo vd : Value) (c : CodeD) (us ot ds : List Int) (w : World) (hw : Sees w H) (hc : CodeV H v c) (hu : SlV rInt H vu us) (ho : SlV rInt H vo ot) (hd : SlV rInt H vd ds) :
    Calls Try.prog 5 #[v, vu, vo, vd] w fun e w' => e = .returned (.bool true) ∧ Below w.heap.size w w' := by
  have hc0 := hc
  obtain ⟨s0, s1, s2, s3, s4, s5, s6, rfl, hc⟩ := hc
  have b0 := hc.instrs.le
  have bu := hu.le
  have bo := ho.le
  have bd := hd.le
  obtain ⟨A0, c0, rfl, k0, -⟩ := hc.instrs.open_
  have hu0 := hu
  have ho0 := ho
  have hd0 := hd
  obtain ⟨Au, cu, rfl, -, -⟩ := hu0.open_
  obtain ⟨Ao, co, rfl, -, -⟩ := ho0.open_
  obtain ⟨Ad, cd, rfl, -, -⟩ := hd0.open_
  have hx0 := ga_new w (.cells #[.slice A0 c.instrs.length c0, s1, s2, s3, s4, s5, s6] 30)
  have hB0 : Below w.heap.size w (w.alloc (.cells #[.slice A0 c.instrs.length c0, s1, s2, s3, s4, s5, s6] 30)) := (Below.refl _ _).alloc (Nat.le_refl _) _
  have hA := law_awake (w.alloc (.cells #[.slice A0 c.instrs.length c0, s1, s2, s3, s4, s5, s6] 30))
  by_cases hgo : c.instrs.length ≤ 400 ∧ us.length = c.instrs.length ∧ ot.length = us.length ∧ ds.length = us.length
  · obtain ⟨g1, g2, g3, g4⟩ := hgo
    rw [g2] at g3 g4
    have hIu := fun i => hu.i64 i
    have hIo := fun i => ho.i64 i
    have hId := fun i => hd.i64 i
    rw [g2] at hu ⊢
    rw [g3] at ho ⊢
    rw [g4] at hd ⊢
    have g1' : ¬ (400 : Int) < c.instrs.length := by omega
    have g2h := Lib.hid g2
    have g3h := Lib.hid g3
    have g4h := Lib.hid g4
    have hcc := Lib.hid hc0
    have hIuh := Lib.hid hIu
    have hIoh := Lib.hid hIo
    have hIdh := Lib.hid hId
    clear g2 g3 g4 hc hc0 hIu hIo hId
    go_enter Try.func5, Try.ntmps5
    go_wp2_with (go_at_call 10; refine hA.mono ?_; rintro e w1 ⟨rfl, hB1⟩; have hBa := bstep hB0 hB1; have hx1 := blk_keep hB1 hx0; have q := box7 hx1; have hl1 : w.heap.size < w1.heap.size := (Array.getElem?_eq_some_iff.1 hx1).1)
    have hs1 := hw.below hBa
    clear q hA hB1 hB0 hx0
    go_loopw [10, 11, 12] (fun o1 o2 i wr => ∃ k : Nat, k ≤ c.instrs.length ∧ i = .int .i64 k ∧ OwnI wr w1.heap.size o1 (zipL uni k us ot) ∧ OwnI wr w1.heap.size o2 (zipL dif k ds ot) ∧ Aside (∀ j, o1.ownBlock = some j → o2.ownBlock ≠ some j) ∧ Below w1.heap.size w1 wr) (fun _ _ i _ => c.instrs.length - (intOf i).toNat)
    case atStart => exact ⟨0, Nat.zero_le _, rfl, OwnI.nil _ _, OwnI.nil _ _, (fun j hj => by cases hj), Below.refl _ _⟩
    case round =>
      obtain ⟨k, hk, rfl, hob, hof, hdj, hB⟩ := hrel
      have hdjh := Lib.hid hdj
      clear hdj
      by_cases hlt : k < c.instrs.length
      · obtain ⟨bu, ou, cu2, eu, -, hbu, hucell, -⟩ := hu.ints (by rw [g2h.out]; omega)
        obtain ⟨bo, oo, co2, eo, -, hbo, hocell, -⟩ := ho.ints (by rw [g3h.out]; omega)
        obtain ⟨bd, od, cd2, ed, -, hbd, hdcell, -⟩ := hd.ints (by rw [g4h.out]; omega)
        rw [g2h.out] at eu hucell
        rw [g3h.out] at eo hocell
        rw [g4h.out] at ed hdcell
        injection eu with eu1 eu2 eu3
        injection eo with eo1 eo2 eo3
        injection ed with ed1 ed2 ed3
        subst eu1 eo1 ed1
        have hltc : (k : Int) < c.instrs.length := by omega
        have hk0 : (0 : Int) ≤ (k : Int) := Int.natCast_nonneg _
        have hsr := hs1.below hB
        have q1 := hucell wr hsr k hlt
        have q2 := hocell wr hsr k hlt
        have hw1w := hBa.size
        have hltu := hw.lt' hbu
        have hlto := hw.lt' hbo
        have hltd := hw.lt' hbd
        have hwr := hB.size
        have hc1 : ∀ b, b < w1.heap.size → some b ≠ u10.ownBlock := fun b hb e => by have := (hob.lt e.symm).1; omega
        have hc2 : ∀ b, b < w1.heap.size → some b ≠ u11.ownBlock := fun b hb e => by have := (hof.lt e.symm).1; omega
        have hc1h := Lib.hid hc1
        have hc2h := Lib.hid hc2
        have hzl := zipL_len uni k us ot
        have hzl2 := zipL_len dif k ds ot
        have hwk : IntKind.i64.wrap ((k : Int) + 1) = (k : Int) + 1 := IntWalk.i64_in _ (by omega)
        clear hc1 hc2
        go_upto_region 8 with fail
        go_region_held3 (fun w' => w'.cell? ⟨bu, ou + k, none⟩ = some (.int .i64 (us.getD k 0)) ∧ w'.cell? ⟨bo, oo + k, none⟩ = some (.int .i64 (ot.getD k 0)))
          (first
            | go_keep
            | (go_split_ands
               refine ⟨?_, ?_⟩
               · (rw [hg6.cell_far _ (by simp; omega) (hc1h.out bu (by omega))]; assumption)
               · (rw [hg6.cell_far _ (by simp; omega) (hc1h.out bo (by omega))]; assumption)))
          ((refine step_appI (by rfl) _ _ (by rfl) w1.heap.size u10 (zipL uni k us ot) (by rfl) (hob.al _) wr.heap.size 1 (uni (us.getD k 0) (ot.getD k 0)) (by rfl) (ga_new wr _) (by omega) (by simp; omega) ?_; intro g2 cap2 w6 hvo6 hg6 hat6 hlt6; have t1 := hg6.cell_far ⟨bu, ou + k, none⟩ (by simp; omega) (hc1h.out bu (by omega)); have t2 := hg6.cell_far ⟨bo, oo + k, none⟩ (by simp; omega) (hc1h.out bo (by omega))))
        clear t1 t2
        replace hg6 := undrew hg6
        have hsz6 : wr.heap.size + 1 ≤ w6.heap.size := by have h0 := hg6.size; simpa using h0
        rw [hzl] at hvo6 ⊢
        rw [← zipL_succ] at hvo6
        have hof6 : OwnI w6 w1.heap.size u11 (zipL dif k ds ot) := (hof.al _).of_block (w1 := w6) fun i hi => hg6.block i (by have := (hof.lt hi).2; simp; omega) (fun e => hdjh.out i e.symm hi)
        have hB6 : Below w1.heap.size w1 w6 := below_app (hB.alloc hwr _) (by simp; omega) (hob.al _) hg6
        have hdj6 : u11.ownBlock ≠ some g2 := by
          intro e
          rcases hat6 with h | h
          · exact hdjh.out g2 h e
          · have h1 := (hof.lt e).2
            have h2 : g2 = (wr.alloc (.cells #[.int .i64 (uni (us.getD k 0) (ot.getD k 0))] 3)).heap.size := h
            rw [World.size_alloc] at h2
            omega
        have hs6 := hs1.below hB6
        have q3 := hdcell w6 hs6 k hlt
        have q4 := hocell w6 hs6 k hlt
        clear q1 q2 hg6 hat6 hob hof hB hc1h
        go_upto_region 9 with fail
        go_region_held3 (fun w' => w'.cell? ⟨bd, od + k, none⟩ = some (.int .i64 (ds.getD k 0)) ∧ w'.cell? ⟨bo, oo + k, none⟩ = some (.int .i64 (ot.getD k 0)))
          (first
            | go_keep
            | (go_split_ands
               refine ⟨?_, ?_⟩
               · (rw [hg9.cell_far _ (by simp; omega) (hc2h.out bd (by omega))]; assumption)
               · (rw [hg9.cell_far _ (by simp; omega) (hc2h.out bo (by omega))]; assumption)))
          ((refine step_appI (by rfl) _ _ (by rfl) w1.heap.size u11 (zipL dif k ds ot) (by rfl) (hof6.al _) w6.heap.size 1 (dif (ds.getD k 0) (ot.getD k 0)) (by rfl) (ga_new w6 _) (by omega) (by simp; omega) ?_; intro g3 cap3 w9 hvo9 hg9 hat9 hlt9; have t1 := hg9.cell_far ⟨bd, od + k, none⟩ (by simp; omega) (hc2h.out bd (by omega)); have t2 := hg9.cell_far ⟨bo, oo + k, none⟩ (by simp; omega) (hc2h.out bo (by omega))))
        clear t1 t2
        replace hg9 := undrew hg9
        rw [hzl2] at hvo9 ⊢
        rw [← zipL_succ] at hvo9
        have hB9 : Below w1.heap.size w1 w9 := below_app (hB6.alloc (by omega) _) (by simp; omega) (hof6.al _) hg9
        have hvo69 : OwnI w9 w1.heap.size (.slice (some ⟨g2, 0, none⟩) (k + 1) cap2) (zipL uni (k + 1) us ot) := (hvo6.al _).of_block (w1 := w9) fun i hi => hg9.block i (by have := (hvo6.lt hi).2; simp; omega) (fun e => by have h1 : g2 = i := Option.some.inj hi; rw [← h1] at e; exact hdj6 e.symm)
        have hdj9 : g3 ≠ g2 := by
          intro e
          rcases hat9 with h | h
          · rw [e] at h; exact hdj6 h
          · have h1 := (hvo6.lt (k := g2) rfl).2
            have h2 : g3 = (w6.alloc (.cells #[.int .i64 (dif (ds.getD k 0) (ot.getD k 0))] 3)).heap.size := h
            rw [World.size_alloc] at h2
            omega
        clear q3 q4 hg9 hat9 hof6 hvo6 hs6 hB6 hc2h
        go_wp2_with fail
        go_roundw
        case rel =>
          refine ⟨_, _, _, ⟨k + 1, by omega, rfl, hvo69, hvo9, ?_⟩, rfl, rfl, by go_num⟩
          exact fun j hj e => by (have h1 : g2 = j := Option.some.inj hj; have h2 : g3 = j := Option.some.inj e; omega)
        case measure => simp [intOf]; omega
      · obtain rfl : k = c.instrs.length := by omega
        have hltn : ¬ (c.instrs.length : Int) < c.instrs.length := by omega
        clear hlt hk
        have hsK : Sees wr (extH H w1 wr) := extH.sees hs1 hB
        have hle : PH.le H (extH H w1 wr) := extH.le hs1 wr
        have hx := blk_keep hB hx1
        have rb := hob.read (H := H) (zipL_i64 (bits_i64 _) _ _ _) (by rw [zipL_len]; unfold maxN; omega)
        have rf := hof.read (H := H) (zipL_i64 (bits_i64 _) _ _ _) (by rw [zipL_len]; unfold maxN; omega)
        have hcK := hcc.out.mono hle
        have huK := hu.mono hle
        have hoK := ho.mono hle
        have hdK := hd.mono hle
        have hBr := bstep hBa hB
        have hl1w : w.heap.size < wr.heap.size := by have := hB.size; omega
        clear hob hof hdjh hcc
        generalize extH H w1 wr = K at *
        by_cases hgood : setsE c [us, ds] = 0 ∧ setsE c [ot, ds] = 0
        · obtain ⟨e1, e2⟩ := hgood
          obtain ⟨f1, f2, f3⟩ := setsE_two.1 e1
          obtain ⟨_, f4, _⟩ := setsE_two.1 e2
          have e3 := setsE_two.2 ⟨f1, setB_zip_uni f2 f4, f3⟩
          have e4 := setsE_two.2 ⟨f1, f2, setB_zip_dif f3 f4⟩
          have fu := (setB_iff.1 f2).2
          have fo := (setB_iff.1 f4).2
          have fd := (setB_iff.1 f3).2
          have hn1 := (fine_bounds f1).i0
          have m1 := fun p i => zipL_fb_or (n := c.instrs.length) (us := us) (ot := ot) g2h.out g3h.out fu fo p i
          have m2 := fun p i => zipL_fb_dif (n := c.instrs.length) (ds := ds) (ot := ot) g4h.out g3h.out fd fo p i
          have hL1 := Lib.hid (graph_Live_ok K _ _ _ c us ds wr hsK hcK huK hdK e1)
          have hL2 := Lib.hid (fun w' (h : Sees w' K) => graph_Live_ok K _ _ _ c ot ds w' h hcK hoK hdK e2)
          have hL3 := Lib.hid (fun w' (h : Sees w' K) => graph_Live_ok K _ _ _ c _ ds w' h hcK rb hdK e3)
          have hL4 := Lib.hid (fun w' (h : Sees w' K) => graph_Live_ok K _ _ _ c us _ w' h hcK huK rf e4)
          have m1h := Lib.hid m1
          have m2h := Lib.hid m2
          clear e1 e2 e3 e4 f1 f2 f3 f4 fu fo fd m1 m2 hIuh hIoh hIdh hx1 hcK huK hoK hdK rb rf hu ho hd hu0 ho0 hd0
          have q := box7 hx
          go_wp2_with fail
          refine hL1.out.mono ?_
          rintro e wa ⟨⟨va, xa, rfl, oa, La⟩, hBA⟩
          replace hx := blk_keep hBA hx
          have hsA := hsK.below hBA
          replace hl1w : w.heap.size < wa.heap.size := by have := hBA.size; omega
          clear q
          have q := box7 hx
          have Lah := Lib.hid La
          have ra := oa.read (H := K) (liveL_i64 La) (by have h3 := La.len; unfold maxN; omega)
          obtain ⟨ga, oa2, capa, rfl, -, hga, hacell, -⟩ := ra.ints (by have h3 := La.len; omega)
          rw [La.len]
          have hach := Lib.hid hacell
          clear La oa hacell ra
          go_wp2_with fail
          refine (hL2.out _ hsA).mono ?_
          rintro e wb ⟨⟨vb, xb, rfl, ob, Lb⟩, hBB⟩
          replace hx := blk_keep hBB hx
          have hsB := hsA.below hBB
          replace hl1w : w.heap.size < wb.heap.size := by have := hBB.size; omega
          clear q
          have q := box7 hx
          have Lbh := Lib.hid Lb
          have rb := ob.read (H := K) (liveL_i64 Lb) (by have h3 := Lb.len; unfold maxN; omega)
          obtain ⟨gb, ob2, capb, rfl, -, hgb, hbcell, -⟩ := rb.ints (by have h3 := Lb.len; omega)
          rw [Lb.len]
          have hbch := Lib.hid hbcell
          clear Lb ob hbcell rb
          go_wp2_with fail
          refine (hL3.out _ hsB).mono ?_
          rintro e wc ⟨⟨vc, xc, rfl, oc, Lc⟩, hBC⟩
          replace hx := blk_keep hBC hx
          have hsC := hsB.below hBC
          replace hl1w : w.heap.size < wc.heap.size := by have := hBC.size; omega
          clear q
          have q := box7 hx
          have Lch := Lib.hid Lc
          have rc := oc.read (H := K) (liveL_i64 Lc) (by have h3 := Lc.len; unfold maxN; omega)
          obtain ⟨gc, oc2, capc, rfl, -, hgc, hccell, -⟩ := rc.ints (by have h3 := Lc.len; omega)
          rw [Lc.len]
          have hcch := Lib.hid hccell
          clear Lc oc hccell rc
          go_wp2_with fail
          refine (hL4.out _ hsC).mono ?_
          rintro e we ⟨⟨ve, xe, rfl, oe, Le⟩, hBD⟩
          clear q
          have Leh := Lib.hid Le
          have re := oe.read (H := K) (liveL_i64 Le) (by have h3 := Le.len; unfold maxN; omega)
          obtain ⟨ge, oe2, cape, rfl, -, hge, hecell, -⟩ := re.ints (by have h3 := Le.len; omega)
          rw [Le.len]
          have hech := Lib.hid hecell
          clear Le oe hecell re
          have sA : Sees we (extH K wr wa) := ((((extH.sees hsK hBA).below hBB).below hBC).below hBD)
          have sB : Sees we (extH K wa wb) := (((extH.sees hsA hBB).below hBC).below hBD)
          have sC : Sees we (extH K wb wc) := ((extH.sees hsB hBC).below hBD)
          have sD : Sees we (extH K wc we) := extH.sees hsC hBD
          have hBt := bstep (bstep (bstep (bstep hBr hBA) hBB) hBC) hBD
          clear hL1 hL2 hL3 hL4 hBA hBB hBC hBD hsA hsB hsC hx
          go_wp2_with fail
          go_loopw [21] (fun i wi => ∃ k : Nat, k ≤ c.instrs.length ∧ i = .int .i64 k ∧ Below we.heap.size we wi) (fun i _ => c.instrs.length - (intOf i).toNat)
          case atStart => exact ⟨0, Nat.zero_le _, rfl, Below.refl _ _⟩
          case round =>
            obtain ⟨k, hk, rfl, hBi⟩ := hrel
            by_cases hlt : k < c.instrs.length
            · have c1 := hach.out wr (sA.below hBi) k (by rw [Lah.out.len]; exact hlt)
              have c2 := hbch.out wr (sB.below hBi) k (by rw [Lbh.out.len]; exact hlt)
              have c3 := hcch.out wr (sC.below hBi) k (by rw [Lch.out.len]; exact hlt)
              have c4 := hech.out wr (sD.below hBi) k (by rw [Leh.out.len]; exact hlt)
              have l1 := (sA.below hBi).lt' hga
              have l2 := (sB.below hBi).lt' hgb
              have l3 := (sC.below hBi).lt' hgc
              have l4 := (sD.below hBi).lt' hge
              have z1 : (xc.getD k 0 != bits .or .i64 (xa.getD k 0) (xb.getD k 0)) = false := by
                have := parts_or m1h.out Lah.out Lbh.out Lch.out hlt
                simpa [uni] using this
              have z2 : (bits .andNot .i64 (xa.getD k 0) (xe.getD k 0) != 0) = false := by
                have := parts_dif m2h.out Lah.out Leh.out hlt
                simpa [dif] using this
              generalize xa.getD k 0 = y1 at *
              generalize xb.getD k 0 = y2 at *
              generalize xc.getD k 0 = y3 at *
              generalize xe.getD k 0 = y4 at *
              go_wp2_with fail
              go_quiet (fail)
              go_wp2
              go_roundw
              case rel => exact ⟨k + 1, by omega, by go_num, ⟨hBi.os, hBi.tape, hBi.output, hBi.size, hBi.block⟩⟩
              case measure => simp [intOf]; omega
            · obtain rfl : k = c.instrs.length := by omega
              have hltn : ¬ (c.instrs.length : Int) < c.instrs.length := by omega
              clear hlt
              go_wp2
              go_ret
              exact ⟨rfl, bstep hBt hBi⟩
        · have e3 : setsE c [zipL uni c.instrs.length us ot, ds] ≠ 0 := by
            intro e
            obtain ⟨f1, f2, f3⟩ := setsE_two.1 e
            obtain ⟨f4, f5⟩ := setB_uni g2h.out g3h.out hIuh.out hIoh.out f2
            exact hgood ⟨setsE_two.2 ⟨f1, f4, f3⟩, setsE_two.2 ⟨f1, f5, f3⟩⟩
          have hL1 := Lib.hid (graph_Live_all K _ _ _ c us ds wr hsK hcK huK hdK)
          have hL2 := Lib.hid (fun w' (h : Sees w' K) => graph_Live_all K _ _ _ c ot ds w' h hcK hoK hdK)
          have hL3 := Lib.hid (fun w' (h : Sees w' K) => graph_Live_no K _ _ _ c _ ds w' h hcK rb hdK e3)
          have hL4 := Lib.hid (fun w' (h : Sees w' K) => graph_Live_all K _ _ _ c us _ w' h hcK huK rf)
          have ne3 : (setsE c [zipL uni c.instrs.length us ot, ds] != 0) = true := by simpa using e3
          have hor : setsE c [us, ds] ≠ 0 ∨ (setsE c [us, ds] = 0 ∧ setsE c [ot, ds] ≠ 0) := by
            by_cases h : setsE c [us, ds] = 0
            · exact .inr ⟨h, fun h2 => hgood ⟨h, h2⟩⟩
            · exact .inl h
          have q := box7 hx
          clear e3 hgood hIuh hIoh hIdh hx1 hcK huK hoK hdK rb rf hu ho hd hu0 ho0 hd0
          obtain ⟨E1, hE1⟩ : ∃ E, setsE c [us, ds] = E := ⟨_, rfl⟩
          obtain ⟨E2, hE2⟩ : ∃ E, setsE c [ot, ds] = E := ⟨_, rfl⟩
          obtain ⟨E3, hE3⟩ : ∃ E, setsE c [zipL uni c.instrs.length us ot, ds] = E := ⟨_, rfl⟩
          rw [hE1, hE2] at hor
          rw [hE3] at ne3
          have h1h := Lib.hid hE1
          have h2h := Lib.hid hE2
          have h3h := Lib.hid hE3
          clear hE1 hE2 hE3
          have hor2 : (E1 != 0) = true ∨ (E1 = 0 ∧ (E2 != 0) = true) := hor.imp (by simp) (fun h => ⟨h.1, by simpa using h.2⟩)
          clear hor
          rcases hor2 with z | ⟨rfl, z⟩
          all_goals
            go_wp2_with fail
            refine hL1.out.mono ?_
            rintro e wa ⟨⟨va, xa, rfl, -, A1, n1, cap1, rfl⟩, hBA⟩
            rw [h1h.out]
            replace hx := blk_keep hBA hx
            have hsA := hsK.below hBA
            replace hl1w : w.heap.size < wa.heap.size := by have := hBA.size; omega
            clear q
            have q := box7 hx
            go_wp2_with fail
            refine (hL2.out _ hsA).mono ?_
            rintro e wb ⟨⟨vb, xb, rfl, -, A2, n2, cap2, rfl⟩, hBB⟩
            rw [h2h.out]
            replace hx := blk_keep hBB hx
            have hsB := hsA.below hBB
            replace hl1w : w.heap.size < wb.heap.size := by have := hBB.size; omega
            clear q
            have q := box7 hx
            go_wp2_with fail
            refine (hL3.out _ hsB).mono ?_
            rintro e wc ⟨rfl, hBC⟩
            rw [h3h.out]
            replace hx := blk_keep hBC hx
            have hsC := hsB.below hBC
            replace hl1w : w.heap.size < wc.heap.size := by have := hBC.size; omega
            clear q
            have q := box7 hx
            go_wp2_with fail
            refine (hL4.out _ hsC).mono ?_
            rintro e we ⟨⟨ve, xe, rfl, -, A4, n4, cap4, rfl⟩, hBD⟩
            clear q
            generalize setsE c [us, zipL dif c.instrs.length ds ot] = E4
            go_wp2
            go_ret
            exact ⟨rfl, bstep (bstep (bstep (bstep hBr hBA) hBB) hBC) hBD⟩
  · clear hc hc0 hu hu0 ho ho0 hd hd0
    by_cases g1 : c.instrs.length ≤ 400
    · by_cases g2 : us.length = c.instrs.length
      · by_cases g3 : ot.length = us.length
        · have g4 : ((ds.length : Int) != (us.length : Int)) = true := by simp; omega
          have g2' : ((us.length : Int) != (c.instrs.length : Int)) = false := by simp; omega
          have g3' : ((ot.length : Int) != (us.length : Int)) = false := by simp; omega
          have g1' : ¬ (400 : Int) < c.instrs.length := by omega
          clear g2 g3 hgo
          go_enter Try.func5, Try.ntmps5
          go_wp2_with (go_at_call 10; refine hA.mono ?_; rintro e w1 ⟨rfl, hB1⟩; have hBa := bstep hB0 hB1; have hx1 := blk_keep hB1 hx0; have q := box7 hx1; have hl1 : w.heap.size < w1.heap.size := (Array.getElem?_eq_some_iff.1 hx1).1)
          go_ret
          exact ⟨rfl, hBa⟩
        · have g2' : ((us.length : Int) != (c.instrs.length : Int)) = false := by simp; omega
          have g3' : ((ot.length : Int) != (us.length : Int)) = true := by simp; omega
          have g1' : ¬ (400 : Int) < c.instrs.length := by omega
          clear g2 g3 hgo
          go_enter Try.func5, Try.ntmps5
          go_wp2_with (go_at_call 10; refine hA.mono ?_; rintro e w1 ⟨rfl, hB1⟩; have hBa := bstep hB0 hB1; have hx1 := blk_keep hB1 hx0; have q := box7 hx1; have hl1 : w.heap.size < w1.heap.size := (Array.getElem?_eq_some_iff.1 hx1).1)
          go_ret
          exact ⟨rfl, hBa⟩
      · have g2' : ((us.length : Int) != (c.instrs.length : Int)) = true := by simp; omega
        have g1' : ¬ (400 : Int) < c.instrs.length := by omega
        clear g2 hgo
        go_enter Try.func5, Try.ntmps5
        go_wp2_with (go_at_call 10; refine hA.mono ?_; rintro e w1 ⟨rfl, hB1⟩; have hBa := bstep hB0 hB1; have hx1 := blk_keep hB1 hx0; have q := box7 hx1; have hl1 : w.heap.size < w1.heap.size := (Array.getElem?_eq_some_iff.1 hx1).1)
        go_ret
        exact ⟨rfl, hBa⟩
    · have g1' : (400 : Int) < c.instrs.length := by omega
      clear g1 hgo
      go_enter Try.func5, Try.ntmps5
      go_wp2_with (go_at_call 10; refine hA.mono ?_; rintro e w1 ⟨rfl, hB1⟩; have hBa := bstep hB0 hB1; have hx1 := blk_keep hB1 hx0; have q := box7 hx1; have hl1 : w.heap.size < w1.heap.size := (Array.getElem?_eq_some_iff.1 hx1).1)
      go_ret
      exact ⟨rfl, hBa⟩
end Go.Proofs.Ytififjlgjmgikaa
