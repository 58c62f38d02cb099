/- GraphBlocks, walked (seat .Z). -/
import Derived.Test.YtififjlgjmgikaaGreatRefT
import Derived.Test.YtififjlgjmgikaaGreatAwake
namespace Go.Proofs.YtififjlgjmgikaaGreat
set_option linter.all false
open Go.RowKit

def blkL (c : CodeD) (bs : List BlockD) : List BlockD := if fineB c = true then bs else []
/-- The blocks, or an error. -/
def BkRes (H : PH) (w w' : World) (c : CodeD) (e : Ending) : Prop := ∃ u, e = .returned (.tuple #[u, .int .i64 (validE c)]) ∧ SlV rBlock (extH H w w') u (blkL c (theFlow c).blocks)
theorem graph_Blocks_rd (H : PH) (v : Value) (c : CodeD) (w : World) (hw : Sees w H) (hc : CodeV H v c) :
    Calls Tryz.prog 16 #[v] w fun e w' => BkRes H w w' c e ∧ Below w.heap.size w w' := by
  cases hf : fineB c
  · refine (graph_Blocks_no H v c w hw hc hf).mono ?_
    rintro e w' ⟨rfl, hB⟩
    exact ⟨⟨.slice none 0 0, by simp [validE, hf], by simp only [blkL, hf]; exact SlV.nil _ _⟩, hB⟩
  · refine (graph_Blocks_ok H v c w hw hc hf).mono ?_
    rintro e w' ⟨⟨u, rfl, hu⟩, hB⟩
    exact ⟨⟨u, by simp [validE, hf], by simp only [blkL, hf, if_true]; exact hu⟩, hB⟩
set_option maxHeartbeats 4000000 in
set_option maxRecDepth 100000 in
theorem r19_Blocks_rd (H : PH) (v : Value) (c : CodeD) (w : World) (hw : Sees w H) (hc : CodeV H v c) :
    Calls Tryz.prog 17 #[v] w fun e w' => BkRes H w w' c e ∧ Below w.heap.size w w' := by
  have hV := Lib.hid (fun (w1 : World) (hs : Sees w1 H) => r19_valid H _ c w1 hs hc)
  cases hf : fineB c
  · have hv1 : validE c = 1 := by simp [validE, hf]
    unfold BkRes blkL
    rw [hf, hv1]
    rw [hv1] at hV
    have hc0 := hc
    obtain ⟨s0, s1, s2, s3, s4, s5, s6, rfl, hc⟩ := hc
    have hx0 := ga_new w (.cells #[s0, s1, s2, s3, s4, s5, s6] 30)
    have hB0 : Below w.heap.size w (w.alloc (.cells #[s0, s1, s2, s3, s4, s5, s6] 30)) := (Below.refl _ _).alloc (Nat.le_refl _) _
    clear hc hc0 hf hv1
    have q := box7 hx0
    go_enter Tryz.func17, Tryz.ntmps17
    go_wp2_with (go_at_call 48; refine (hV.out _ (hw.below hB0)).mono ?_; rintro e w3 ⟨rfl, hB3⟩)
    go_ret2
    exact ⟨⟨_, rfl, SlV.nil _ _⟩, bstep hB0 hB3⟩
  · have hv1 : validE c = 0 := by simp [validE, hf]
    have hO := Lib.hid (fun (w1 : World) (hs : Sees w1 H) => r19_Of H _ c w1 hs hc hf)
    unfold BkRes blkL
    rw [hf, hv1]
    rw [hv1] at hV
    have hc0 := hc
    obtain ⟨s0, s1, s2, s3, s4, s5, s6, rfl, hc⟩ := hc
    have hx0 := ga_new w (.cells #[s0, s1, s2, s3, s4, s5, s6] 30)
    have hB0 : Below w.heap.size w (w.alloc (.cells #[s0, s1, s2, s3, s4, s5, s6] 30)) := (Below.refl _ _).alloc (Nat.le_refl _) _
    clear hc hc0 hf hv1
    generalize theFlow c = f at *
    have q := box7 hx0
    go_enter Tryz.func17, Tryz.ntmps17
    go_wp2_with (first
      | (go_at_call 48; refine (hV.out _ (hw.below hB0)).mono ?_; rintro e w3 ⟨rfl, hB3⟩; have hBa := bstep hB0 hB3; have hx3 := blk_keep hB3 hx0; clear q; have q := box7 hx3; have l0 := (Array.getElem?_eq_some_iff.1 hx3).1)
      | (go_at_call 49; refine (hO.out _ (hw.below hBa)).mono ?_; rintro e w4 ⟨⟨vg, rfl, t0, t1, t2, t3, t4, t5, t6, L, E, R, rfl, hone, hL, hE, hR⟩, hB4⟩; have hs3 := hw.below hBa; have hBb := bstep hBa hB4; obtain ⟨AL, cL, rfl, -, -⟩ := hL.open_; (try clear q l0))
      | (with_reducible refine wpL_storeG rfl _ _ rfl w4.heap.size t0 t1 t2 t3 t4 t5 t6 (.slice AL _ cL) E R _ rfl rfl (ga_new w4 (.cells zeroG 65)) rfl hone ⟨rfl, hE.one, hR.one⟩ ?_; intro w5 hb5 hg5 hz5; rw [World.size_alloc] at hz5; have hB45 : Below w4.heap.size w4 w5 := (((Below.refl _ _).alloc (Nat.le_refl _) _).grown hg5 (by simp) fun k hk => by injection hk with hk; omega); have q5 := box10 hb5; have l5 := (Array.getElem?_eq_some_iff.1 hb5).1))
    go_ret2
    refine ⟨⟨_, rfl, ?_⟩, bstep hBb hB45⟩
    simp only [if_true]
    exact hL.mono (extH.over hw hBa.size fun i h1 h2 => hB45.block i h2)
def baE (c : CodeD) (p : Int) : Int := if fineB c = true then (if 0 ≤ p ∧ p < c.instrs.length then 0 else 5) else 1
noncomputable def baV (c : CodeD) (p : Int) : Int := if baE c p = 0 then ofI (leadB c) p else 0
theorem flow_rows (c : CodeD) : (theFlow c).blocks.map (fun b => (b.from_, b.to_)) = rowsK (leadB c) c.instrs.length := by
  show (blocksF c (leadB c)).map _ = _
  unfold blocksF
  rw [List.map_map]
  refine List.ext_getElem (by simp [rowsK_len]) fun i h1 h2 => ?_
  simp only [List.length_map, List.length_range] at h1
  simp [List.getD_eq_getElem?_getD, List.getElem?_eq_getElem h2]
set_option maxHeartbeats 4000000 in
set_option maxRecDepth 100000 in
theorem r19_BlockAt (H : PH) (v : Value) (c : CodeD) (p : Int) (w : World) (hw : Sees w H) (hc : CodeV H v c) :
    Calls Tryz.prog 19 #[v, .int .i64 p] w fun e w' => e = .returned (.tuple #[.int .i64 (baV c p), .int .i64 (baE c p)]) ∧ Below w.heap.size w w' := by
  have hV := Lib.hid (fun (w1 : World) (hs : Sees w1 H) => r19_valid H _ c w1 hs hc)
  cases hf : fineB c
  · have hv1 : validE c = 1 := by simp [validE, hf]
    have e1 : baE c p = 1 := by simp [baE, hf]
    have e2 : baV c p = 0 := by simp [baV, e1]
    rw [e1, e2]
    rw [hv1] at hV
    have hc0 := hc
    obtain ⟨s0, s1, s2, s3, s4, s5, s6, rfl, hc⟩ := hc
    have hx0 := ga_new w (.cells #[s0, s1, s2, s3, s4, s5, s6] 30)
    have hB0 : Below w.heap.size w (w.alloc (.cells #[s0, s1, s2, s3, s4, s5, s6] 30)) := (Below.refl _ _).alloc (Nat.le_refl _) _
    clear hc hc0 hf hv1 e1 e2
    have q := box7 hx0
    go_enter Tryz.func19, Tryz.ntmps19
    go_wp2_with (go_at_call 48; refine (hV.out _ (hw.below hB0)).mono ?_; rintro e w3 ⟨rfl, hB3⟩)
    go_ret2
    exact ⟨rfl, bstep hB0 hB3⟩
  · have hv1 : validE c = 0 := by simp [validE, hf]
    have n0 := (fine_bounds hf).i1
    have n1 := (fine_bounds hf).i0
    rw [hv1] at hV
    by_cases hp : 0 ≤ p ∧ p < c.instrs.length
    · have e1 : baE c p = 0 := by simp [baE, hf, hp]
      have e2 : baV c p = ofI (leadB c) p := by simp [baV, e1]
      rw [e1, e2]
      have hO := Lib.hid (fun (w1 : World) (hs : Sees w1 H) => r19_Of H _ c w1 hs hc hf)
      obtain ⟨k, rfl⟩ : ∃ k : Nat, p = (k : Int) := ⟨p.toNat, by omega⟩
      have hat := at_of (bs := leadB c) (lead_zero c n1) (show k < c.instrs.length by omega)
      have hfl := flow_le hf
      have hfr := flow_rows c
      have hcp := cnt_pos (lead_zero c n1) (show 0 < c.instrs.length by omega)
      rw [← hat, ← hfr]
      have hfp : 0 < (theFlow c).blocks.length := by rw [flow_len]; exact hcp
      have hc0 := hc
      obtain ⟨s0, s1, s2, s3, s4, s5, s6, rfl, hc⟩ := hc
      have hx0 := ga_new w (.cells #[s0, s1, s2, s3, s4, s5, s6] 30)
      have hB0 : Below w.heap.size w (w.alloc (.cells #[s0, s1, s2, s3, s4, s5, s6] 30)) := (Below.refl _ _).alloc (Nat.le_refl _) _
      obtain ⟨A0, cA, rfl, -, -⟩ := hc.instrs.open_
      have hp2 : (k : Int) < c.instrs.length := hp.2
      clear hc hc0 hf hv1 e1 e2 hat hfr hcp
      generalize theFlow c = f at *
      have q := box7 hx0
      go_enter Tryz.func19, Tryz.ntmps19
      go_wp2_with (first
        | (go_at_call 48; refine (hV.out _ (hw.below hB0)).mono ?_; rintro e w3 ⟨rfl, hB3⟩; have hBa := bstep hB0 hB3; have hx3 := blk_keep hB3 hx0; clear q; have q := box7 hx3; have l0 := (Array.getElem?_eq_some_iff.1 hx3).1)
        | (go_at_call 49; refine (hO.out _ (hw.below hBa)).mono ?_; rintro e w4 ⟨⟨vg, rfl, t0, t1, t2, t3, t4, t5, t6, L, E, R, rfl, hone, hL, hE, hR⟩, hB4⟩; have hs3 := hw.below hBa; have hBb := bstep hBa hB4; obtain ⟨AL, cL, rfl, -, -⟩ := hL.open_; (try clear q l0))
        | (with_reducible refine wpL_storeG rfl _ _ rfl w4.heap.size t0 t1 t2 t3 t4 t5 t6 (.slice AL _ cL) E R _ rfl rfl (ga_new w4 (.cells zeroG 65)) rfl hone ⟨rfl, hE.one, hR.one⟩ ?_; intro w5 hb5 hg5 hz5; rw [World.size_alloc] at hz5; have hB45 : Below w4.heap.size w4 w5 := (((Below.refl _ _).alloc (Nat.le_refl _) _).grown hg5 (by simp) fun k hk => by injection hk with hk; omega); have q5 := box10 hb5; have l5 := (Array.getElem?_eq_some_iff.1 hb5).1)
        | (go_at_call 51; obtain ⟨bg, off, cap, hLv, -, hbg, hcell, -⟩ := hL.blocks hfp; cases hLv; have hsk := extH.sees hs3 (bstep hB4 hB45); have hL5 := extH.step (H := H) (w := w3) hB45; have hbg5 := (extH.sees hs3 hB4).lt' hbg; refine (r19_at w4.heap.size bg off cL t0 t1 t2 t3 t4 t5 t6 E R (f.blocks.map (fun b => (b.from_, b.to_))) (k : Int) w5 (by rw [List.length_map]; exact hb5) (by rw [List.length_map]; exact hfl) (fun i hi => by (rw [List.length_map] at hi; obtain ⟨u, hu, hcu⟩ := hcell i hi; have h9 := (hcu w5 ((extH.sees hs3 hB4).below hB45)).2.1; rw [h9]; simp [hi])) (by have := hB45.size; omega)).mono ?_; rintro e w6 ⟨rfl, rfl⟩))
      go_ret2
      exact ⟨rfl, bstep hBb hB45⟩
    · have e1 : baE c p = 5 := by simp [baE, hf, hp]
      have e2 : baV c p = 0 := by simp [baV, e1]
      rw [e1, e2]
      have hc0 := hc
      obtain ⟨s0, s1, s2, s3, s4, s5, s6, rfl, hc⟩ := hc
      have hx0 := ga_new w (.cells #[s0, s1, s2, s3, s4, s5, s6] 30)
      have hB0 : Below w.heap.size w (w.alloc (.cells #[s0, s1, s2, s3, s4, s5, s6] 30)) := (Below.refl _ _).alloc (Nat.le_refl _) _
      obtain ⟨A0, cA, rfl, -, -⟩ := hc.instrs.open_
      clear hc hc0 hf hv1 e1 e2
      have q := box7 hx0
      by_cases hp0 : p < 0
      · clear hp
        go_enter Tryz.func19, Tryz.ntmps19
        go_wp2_with (go_at_call 48; refine (hV.out _ (hw.below hB0)).mono ?_; rintro e w3 ⟨rfl, hB3⟩; have hBa := bstep hB0 hB3; have hx3 := blk_keep hB3 hx0; clear q; have q := box7 hx3; have l0 := (Array.getElem?_eq_some_iff.1 hx3).1)
        go_ret2
        exact ⟨rfl, hBa⟩
      · have hp1 : (c.instrs.length : Int) ≤ p := by omega
        clear hp
        go_enter Tryz.func19, Tryz.ntmps19
        go_wp2_with (go_at_call 48; refine (hV.out _ (hw.below hB0)).mono ?_; rintro e w3 ⟨rfl, hB3⟩; have hBa := bstep hB0 hB3; have hx3 := blk_keep hB3 hx0; clear q; have q := box7 hx3; have l0 := (Array.getElem?_eq_some_iff.1 hx3).1)
        go_ret2
        exact ⟨rfl, hBa⟩
set_option maxHeartbeats 4000000 in
set_option maxRecDepth 100000 in
theorem graph_BlockAt (H : PH) (v : Value) (c : CodeD) (p : Int) (w : World) (hw : Sees w H) (hc : CodeV H v c) :
    Calls Tryz.prog 18 #[v, .int .i64 p] w fun e w' => e = .returned (.tuple #[.int .i64 (baV c p), .int .i64 (baE c p)]) ∧ Below w.heap.size w w' := by
  have hC := Lib.hid (fun (w1 : World) (hs : Sees w1 H) => graph_fine H _ c w1 hs hc)
  cases hf : fineB c
  · have e1 : baE c p = 1 := by simp [baE, hf]
    have e2 : baV c p = 0 := by simp [baV, e1]
    rw [e1, e2]
    rw [hf] at hC
    have hc0 := hc
    obtain ⟨s0, s1, s2, s3, s4, s5, s6, rfl, hc⟩ := hc
    have hx0 := ga_new w (.cells #[s0, s1, s2, s3, s4, s5, s6] 30)
    have hB0 : Below w.heap.size w (w.alloc (.cells #[s0, s1, s2, s3, s4, s5, s6] 30)) := (Below.refl _ _).alloc (Nat.le_refl _) _
    clear hc hc0 hf e1 e2
    have q := box7 hx0
    go_enter Tryz.func18, Tryz.ntmps18
    go_wp2_with (go_at_call 46; refine (hC.out _ (hw.below hB0)).mono ?_; rintro e w3 ⟨rfl, hB3⟩)
    go_ret2
    exact ⟨rfl, bstep hB0 hB3⟩
  · have n0 := (fine_bounds hf).i1
    have n1 := (fine_bounds hf).i0
    rw [hf] at hC
    by_cases hp : 0 ≤ p ∧ p < c.instrs.length
    · have e1 : baE c p = 0 := by simp [baE, hf, hp]
      have e2 : baV c p = ofI (leadB c) p := by simp [baV, e1]
      rw [e1, e2]
      have hF := Lib.hid (fun (w1 : World) (hs : Sees w1 H) => graph_flowOf2 H _ c w1 hs hc hf)
      have hwi : withinB p 0 ((c.instrs.length : Int) - 1) = true := by simp [withinB]; omega
      have hwih := Lib.hid hwi
      obtain ⟨k, rfl⟩ : ∃ k : Nat, p = (k : Int) := ⟨p.toNat, by omega⟩
      have hol : (theFlow c).of_.length = c.instrs.length := ofK_len _ _
      have hov := Lib.hid (ofK_at (leadB c) (show k < c.instrs.length by omega))
      have hp2 := hp.2
      have hp0 := hp.1
      have hc0 := hc
      obtain ⟨s0, s1, s2, s3, s4, s5, s6, rfl, hc⟩ := hc
      have hx0 := ga_new w (.cells #[s0, s1, s2, s3, s4, s5, s6] 30)
      have hB0 : Below w.heap.size w (w.alloc (.cells #[s0, s1, s2, s3, s4, s5, s6] 30)) := (Below.refl _ _).alloc (Nat.le_refl _) _
      obtain ⟨A0, cA, rfl, -, -⟩ := hc.instrs.open_
      clear hc hc0 hf e1 e2 hwi hp
      have q := box7 hx0
      have hofE : (theFlow c).of_ = ofK (leadB c) c.instrs.length := rfl
      have hofEh := Lib.hid hofE
      clear hofE
      go_enter Tryz.func18, Tryz.ntmps18
      go_wp2_with (first
        | (go_at_call 46; refine (hC.out _ (hw.below hB0)).mono ?_; rintro e w3 ⟨rfl, hB3⟩; have hBa := bstep hB0 hB3; have hx3 := blk_keep hB3 hx0; clear q; have q := box7 hx3; have l0 := (Array.getElem?_eq_some_iff.1 hx3).1)
        | (go_at_call 50; refine (graph_within _ _ _ _).mono ?_; rintro e w4 ⟨rfl, rfl⟩; go_must (rw [hwih.out]))
        | (go_at_call 47; refine (hF.out _ (hw.below hBa)).mono ?_; rintro e w5 ⟨⟨v2, rfl, b5, t0, t1, t2, t3, m, rfl, hb5, hfc⟩, hB5⟩; have hs5 := extH.sees (hw.below hBa) hB5; have hBb := bstep hBa hB5; obtain ⟨bo, oo, co, rfl, -, hbo, hoc, -⟩ := hfc.of_.ints (by rw [hol]; omega); have hck := (hoc w5 hs5 k (by rw [hol]; omega)).trans (by rw [hofEh.out, hov.out]); clear q l0; have q5 := box5 (hs5 _ _ hb5); have l5 := hs5.lt hb5; have lo := hs5.lt' hbo; clear hoc hfc; rw [hol] at q5))
      go_ret2
      exact ⟨rfl, hBb⟩
    · have e1 : baE c p = 5 := by simp [baE, hf, hp]
      have e2 : baV c p = 0 := by simp [baV, e1]
      rw [e1, e2]
      have hwi : withinB p 0 ((c.instrs.length : Int) - 1) = false := by simp [withinB]; omega
      have hwih := Lib.hid hwi
      have hc0 := hc
      obtain ⟨s0, s1, s2, s3, s4, s5, s6, rfl, hc⟩ := hc
      have hx0 := ga_new w (.cells #[s0, s1, s2, s3, s4, s5, s6] 30)
      have hB0 : Below w.heap.size w (w.alloc (.cells #[s0, s1, s2, s3, s4, s5, s6] 30)) := (Below.refl _ _).alloc (Nat.le_refl _) _
      obtain ⟨A0, cA, rfl, -, -⟩ := hc.instrs.open_
      clear hc hc0 hf e1 e2 hwi hp
      have q := box7 hx0
      go_enter Tryz.func18, Tryz.ntmps18
      go_wp2_with (first
        | (go_at_call 46; refine (hC.out _ (hw.below hB0)).mono ?_; rintro e w3 ⟨rfl, hB3⟩; have hBa := bstep hB0 hB3; have hx3 := blk_keep hB3 hx0; clear q; have q := box7 hx3; have l0 := (Array.getElem?_eq_some_iff.1 hx3).1)
        | (go_at_call 50; refine (graph_within _ _ _ _).mono ?_; rintro e w4 ⟨rfl, rfl⟩; go_must (rw [hwih.out])))
      go_ret2
      exact ⟨rfl, hBa⟩
set_option maxHeartbeats 8000000 in
set_option maxRecDepth 100000 in
theorem law_Blocks (H : PH) (v : Value) (p : Int) (c : CodeD) (w : World) (hw : Sees w H) (hc : CodeV H v c) (_ : I64 p) :
    Calls Tryz.prog 4 #[v, .int .i64 p] w fun e w' => e = .returned (.bool true) ∧ Below w.heap.size w w' := by
  have hc0 := hc
  obtain ⟨s0, s1, s2, s3, s4, s5, s6, rfl, hc⟩ := hc
  have hx0 := ga_new w (.cells #[s0, s1, s2, s3, s4, s5, s6] 30)
  have hB0 : Below w.heap.size w (w.alloc (.cells #[s0, s1, s2, s3, s4, s5, s6] 30)) := (Below.refl _ _).alloc (Nat.le_refl _) _
  have hA := law_awake (w.alloc (.cells #[s0, s1, s2, s3, s4, s5, s6] 30))
  have hG := Lib.hid (fun (w1 : World) (hs : Sees w1 H) => graph_Blocks_rd H _ c w1 hs hc0)
  have hR := Lib.hid (fun (w1 : World) (hs : Sees w1 H) => r19_Blocks_rd H _ c w1 hs hc0)
  have hGa := Lib.hid (fun (w1 : World) (hs : Sees w1 H) => graph_BlockAt H _ c p w1 hs hc0)
  have hRa := Lib.hid (fun (w1 : World) (hs : Sees w1 H) => r19_BlockAt H _ c p w1 hs hc0)
  obtain ⟨A0, cA, rfl, -, -⟩ := hc.instrs.open_
  have hbl : (blkL c (theFlow c).blocks).length ≤ 20000 := by
    unfold blkL
    split
    · rename_i h; exact flow_le h
    · simp
  by_cases hm : 400 < c.instrs.length
  · have hm' : (400 : Int) < c.instrs.length := by omega
    clear hm hc hc0
    go_enter Tryz.func4, Tryz.ntmps4
    go_wp2_with (go_at_call 11; refine hA.mono ?_; rintro e w1 ⟨rfl, hB1⟩; have hBa := bstep hB0 hB1; have hx1 := blk_keep hB1 hx0; have q := box7 hx1; have hl1 : w.heap.size < w1.heap.size := (Array.getElem?_eq_some_iff.1 hx1).1)
    go_ret
    exact ⟨rfl, hBa⟩
  · have hm' : ¬ (400 : Int) < c.instrs.length := by omega
    clear hm hc hc0
    obtain ⟨bs, hbsE⟩ : ∃ bs, blkL c (theFlow c).blocks = bs := ⟨_, rfl⟩
    rw [hbsE] at hbl
    have hbsh := Lib.hid hbsE
    clear hbsE
    obtain ⟨E, hE⟩ : ∃ E, validE c = E := ⟨_, rfl⟩
    have hEh := Lib.hid hE
    have hEE : (E != E) = false := by simp
    obtain ⟨E2, hE2⟩ : ∃ E2, baE c p = E2 := ⟨_, rfl⟩
    have hE2h := Lib.hid hE2
    have hEE2 : (E2 == E2) = true := by simp
    obtain ⟨V2, hV2⟩ : ∃ V2, baV c p = V2 := ⟨_, rfl⟩
    have hV2h := Lib.hid hV2
    have hVV2 : (V2 == V2) = true := by simp
    clear hE hE2 hV2
    go_enter Tryz.func4, Tryz.ntmps4
    go_upto_region 8 with (first
      | (go_at_call 11; refine hA.mono ?_; rintro e w1 ⟨rfl, hB1⟩; have hBa := bstep hB0 hB1; have hx1 := blk_keep hB1 hx0; have q := box7 hx1; have hl1 : w.heap.size < w1.heap.size := (Array.getElem?_eq_some_iff.1 hx1).1)
      | (go_at_call 16; refine (hG.out _ (hw.below hBa)).mono ?_; rintro e w3 ⟨⟨va, rfl, ha⟩, hB3⟩; rw [hEh.out]; rw [hbsh.out] at ha; have hKa := extH.sees (hw.below hBa) hB3; replace hBa := bstep hBa hB3; replace hx1 := blk_keep hB3 hx1; clear q; have q := box7 hx1; replace hl1 : w.heap.size < w3.heap.size := (Array.getElem?_eq_some_iff.1 hx1).1)
      | (go_at_call 17; refine (hR.out _ (hw.below hBa)).mono ?_; rintro e w4 ⟨⟨vb, rfl, hb⟩, hB4⟩; rw [hEh.out]; rw [hbsh.out] at hb; have hKb := extH.sees (hw.below hBa) hB4; replace hKa := hKa.below hB4; replace hBa := bstep hBa hB4; replace hx1 := blk_keep hB4 hx1; clear q; have q := box7 hx1; replace hl1 : w.heap.size < w4.heap.size := (Array.getElem?_eq_some_iff.1 hx1).1; replace ha := ha.mono (full.le hKa); replace hb := hb.mono (full.le hKb); have ha0 := ha; have hb0 := hb; obtain ⟨Aa, ca, rfl, -, -⟩ := ha0.open_; obtain ⟨Ab, cb, rfl, -, -⟩ := hb0.open_; clear ha0 hb0))
    clear q hA hG hR hKa hKb hEE hB1 hB3 hB4 hx0 hB0
    have hbl' : ((bs.length : Int) != (bs.length : Int)) = false := by simp
    go_wp2_with fail
    go_loopw [10] (fun i wr => ∃ k : Nat, k ≤ bs.length ∧ i = .int .i64 k ∧ Below w4.heap.size w4 wr) (fun i _ => bs.length - (intOf i).toNat)
    case atStart => exact ⟨0, Nat.zero_le _, rfl, Below.refl _ _⟩
    case round =>
      obtain ⟨k, hk, rfl, hB⟩ := hrel
      have hsee := (full.sees w4).below hB
      by_cases hlt : k < bs.length
      · have hlt' : (k : Int) < bs.length := by omega
        have hk0 : (0 : Int) ≤ k := by omega
        obtain ⟨b1, o1, c1, e1, -, hb1, hr1, -⟩ := ha.blocks (by omega)
        obtain ⟨b2, o2, c2, e2, -, hb2, hr2, -⟩ := hb.blocks (by omega)
        cases e1
        cases e2
        obtain ⟨u1, hu1, hc1⟩ := hr1 k hlt
        obtain ⟨u2, hu2, hc2⟩ := hr2 k hlt
        obtain ⟨x1, x2, x3⟩ := hc1 wr hsee
        obtain ⟨y1, y2, y3⟩ := hc2 wr hsee
        have l1 := hsee.lt' hb1
        have l2 := hsee.lt' hb2
        have hcs := Lib.hid (fun (w' : World) (h : ∀ b, b < wr.heap.size → w'.heap[b]? = wr.heap[b]?) => And.intro ((cell_same (h _ l1)).trans x1) (And.intro ((cell_same (h _ l1)).trans x2) (And.intro ((cell_same (h _ l1)).trans x3) (And.intro ((cell_same (h _ l2)).trans y1) (And.intro ((cell_same (h _ l2)).trans y2) (And.intro ((cell_same (h _ l2)).trans y3) (And.intro (lt_same (h _ l1) l1) (lt_same (h _ l2) l2))))))))
        clear hr1 hr2 hc1 hc2 x1 x2 x3 y1 y2 y3
        generalize (bs.getD k default).from_ = X at *
        generalize (bs.getD k default).to_ = Y at *
        generalize (bs.getD k default).next = Z at *
        have hXX : (X != X) = false := by simp
        have hYY : (Y != Y) = false := by simp
        have hZZ : sameB Z Z = true := by simp [sameB]
        have hZh := Lib.hid hZZ
        clear hZZ
        go_upto_region 11 with fail
        refine wp_region_plan (fun w' => ∀ b, b < wr.heap.size → w'.heap[b]? = wr.heap[b]?) [(0, true), (1, true), (2, true), (3, true), (4, true), (5, true), (6, true), (7, true), (8, true), (9, true), (10, true), (11, true), (12, true), (13, true), (14, true), (15, true), (16, true), (17, true), (18, true), (19, true), (20, true), (21, true), (22, true), (23, true), (24, true), (25, true), (26, true), (27, true), (28, true), (29, true), (30, true), (31, true), (32, true), (33, true), (34, true), (35, false), (36, true), (37, true)] (by kernel_rfl) (by kernel_rfl) (by kernel_rfl) (fun _ _ => rfl) ?_
        repeat first
          | (refine plan_skip rfl (by rfl) ?_; simp only [Act.put, List.setIfInBounds_toArray, List.set_cons_zero, List.set_cons_succ])
          | (refine plan_read (v := ?_) rfl (by rfl) ?_ ?_; rotate_left; (focus (intro w' hSw; obtain ⟨p1, p2, p3, p4, p5, p6, p7, p8⟩ := hcs.out _ hSw; clear hSw; go_simp; all_goals with_reducible rfl)); simp only [Act.put, List.setIfInBounds_toArray, List.set_cons_zero, List.set_cons_succ])
        refine plan_step rfl (by rfl) (fun K hK => ?_)
        go_simp
        refine (r14_SameInts (full w4) u1 u2 Z Z _ (by exact fun i o e => hsee i o e) hu1 hu2).mono ?_
        rintro e w6 ⟨rfl, hB6⟩
        rw [hZh.out]
        refine hK.out _ _ (fun b hb => hB6.block b hb) ?_
        clear hK K
        repeat first
          | (refine plan_skip rfl (by rfl) ?_; simp only [Act.put, List.setIfInBounds_toArray, List.set_cons_zero, List.set_cons_succ])
          | (refine plan_read (v := ?_) rfl (by rfl) ?_ ?_; rotate_left; (focus (intro w' hSw; skip; clear hSw; go_simp; all_goals with_reducible rfl)); simp only [Act.put, List.setIfInBounds_toArray, List.set_cons_zero, List.set_cons_succ])
        refine plan_nil (NoPanic.normal ?_)
        go_wp2
        go_roundw
        case rel => exact ⟨k + 1, by omega, by go_num, bstep (bdrew hB) hB6⟩
        case measure => simp [intOf]; omega
      · obtain rfl : k = bs.length := by omega
        have hltn : ¬ (bs.length : Int) < bs.length := by omega
        have hxr := blk_keep hB hx1
        have hBr := bstep hBa hB
        have q := box7 hxr
        have l0 := (Array.getElem?_eq_some_iff.1 hxr).1
        clear hlt ha hb hsee hB hBa hx1
        go_wp2_with (first
          | (go_at_call 18; refine (hGa.out _ (hw.below hBr)).mono ?_; rintro e w5 ⟨rfl, hB5⟩; rw [hE2h.out, hV2h.out]; replace hBr := bstep hBr hB5; replace hxr := blk_keep hB5 hxr; clear q l0; have q := box7 hxr; have l0 := (Array.getElem?_eq_some_iff.1 hxr).1)
          | (go_at_call 19; refine (hRa.out _ (hw.below hBr)).mono ?_; rintro e w6 ⟨rfl, hB6⟩; rw [hE2h.out, hV2h.out]; replace hBr := bstep hBr hB6; clear q l0))
        go_ret
        exact ⟨rfl, hBr⟩
end Go.Proofs.YtififjlgjmgikaaGreat
