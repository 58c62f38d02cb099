/- graph.checked, Blocks, Idoms, Dominates, Around. -/
import Derived.Test.YtififjlgjmgikaaGreatFlowOf
import Derived.Test.YtififjlgjmgikaaGreatFlowJ
import Derived.Test.YtififjlgjmgikaaGreatIdom
namespace Go.Proofs.YtififjlgjmgikaaGreat
set_option linter.all false
open Go.RowKit

noncomputable def checkedE (c : CodeD) : Int := if fineB c = true then (if 400 < (theFlow c).blocks.length then 2 else 0) else 1
def FlowRes2 (H : PH) (w : World) (c : CodeD) (w' : World) (e : Ending) : Prop := ∃ v, e = .returned v ∧ FlowV (extH H w w') v (theFlow c)
def FlowErr (H : PH) (w : World) (c : CodeD) (w' : World) (e : Ending) : Prop := ∃ v, e = .returned (.tuple #[v, .int .i64 0]) ∧ FlowV (extH H w w') v (theFlow c)
theorem graph_flowOf2 (H : PH) (v : Value) (c : CodeD) (w : World) (hw : Sees w H) (hc : CodeV H v c) (hf : fineB c = true) :
    Calls Tryz.prog 47 #[v] w fun e w' => FlowRes2 H w c w' e ∧ Below w.heap.size w w' := by
  refine (graph_flowOf H v c w hw hc hf).mono ?_
  rintro e w' ⟨⟨v, f, rfl, hv, hi⟩, hB⟩
  rw [hi.eq] at hv
  exact ⟨⟨v, rfl, hv⟩, hB⟩
section
variable (H : PH) (v : Value) (c : CodeD) (w : World)
set_option maxHeartbeats 2000000 in
set_option maxRecDepth 100000 in
theorem graph_checked_no (hw : Sees w H) (hc : CodeV H v c) (hE : checkedE c ≠ 0) :
    Calls Tryz.prog 43 #[v] w fun e w' => e = .returned (.tuple #[.pointer none, .int .i64 (checkedE c)]) ∧ Below w.heap.size w w' := by
  have hc0 := hc
  obtain ⟨s0, s1, s2, s3, s4, s5, s6, rfl, hc⟩ := hc
  have hx0 := ga_new w (.cells #[s0, s1, s2, s3, s4, s5, s6] 30)
  have hB0 : Below w.heap.size w (w.alloc (.cells #[s0, s1, s2, s3, s4, s5, s6] 30)) := (Below.refl _ _).alloc (Nat.le_refl _) _
  have hC := Lib.hid (fun (w1 : World) (hs : Sees w1 H) => graph_fine H _ c w1 hs hc0)
  cases hf : fineB c
  · have he : checkedE c = 1 := by simp [checkedE, hf]
    rw [he]
    have hfh := Lib.hid hf
    clear hf he hE hc0 hc
    go_enter Tryz.func43, Tryz.ntmps43
    go_wp2_with (go_at_call 46; refine (hC.out _ (hw.below hB0)).mono ?_; rintro e w1 ⟨rfl, hB1⟩; rw [hfh.out]; have hBa := bstep hB0 hB1)
    go_ret2
    exact ⟨rfl, hBa⟩
  · have hl : 400 < (theFlow c).blocks.length := by
      apply Classical.byContradiction
      intro hn
      exact hE (by simp [checkedE, hf, hn])
    have he : checkedE c = 2 := by simp [checkedE, hf, hl]
    rw [he]
    have hF := Lib.hid (fun (w1 : World) (hs : Sees w1 H) => graph_flowOf2 H _ c w1 hs hc0 hf)
    have hfh := Lib.hid hf
    clear hf he hE hc0 hc
    go_enter Tryz.func43, Tryz.ntmps43
    go_wp2_with (first
      | (go_at_call 46; refine (hC.out _ (hw.below hB0)).mono ?_; rintro e w1 ⟨rfl, hB1⟩; rw [hfh.out]; have hBa := bstep hB0 hB1; have hx1 := blk_keep hB1 hx0; have q := box7 hx1; have hl1 : w.heap.size < w1.heap.size := (Array.getElem?_eq_some_iff.1 hx1).1)
      | (go_at_call 47; refine (hF.out _ (hw.below hBa)).mono ?_; rintro e w2 ⟨⟨v2, rfl, b5, t0, t1, t2, t3, m, rfl, hb5, hfc⟩, hB2⟩; clear q; have hBb := bstep hBa hB2; obtain ⟨A5, c5, rfl, -, -⟩ := hfc.blocks.open_; have q := box5 ((extH.sees (hw.below hBa) hB2) _ _ hb5); have hl5 := (extH.sees (hw.below hBa) hB2).lt hb5))
    go_ret2
    exact ⟨rfl, hBb⟩
set_option maxHeartbeats 2000000 in
set_option maxRecDepth 100000 in
theorem graph_checked_ok (hw : Sees w H) (hc : CodeV H v c) (hE : checkedE c = 0) :
    Calls Tryz.prog 43 #[v] w fun e w' => FlowErr H w c w' e ∧ Below w.heap.size w w' := by
  have hc0 := hc
  obtain ⟨s0, s1, s2, s3, s4, s5, s6, rfl, hc⟩ := hc
  have hx0 := ga_new w (.cells #[s0, s1, s2, s3, s4, s5, s6] 30)
  have hB0 : Below w.heap.size w (w.alloc (.cells #[s0, s1, s2, s3, s4, s5, s6] 30)) := (Below.refl _ _).alloc (Nat.le_refl _) _
  have hC := Lib.hid (fun (w1 : World) (hs : Sees w1 H) => graph_fine H _ c w1 hs hc0)
  have hf : fineB c = true := by
    cases h : fineB c
    · simp [checkedE, h] at hE
    · rfl
  have hl : ¬ 400 < (theFlow c).blocks.length := by
    intro hn
    simp [checkedE, hf, hn] at hE
  have hF := Lib.hid (fun (w1 : World) (hs : Sees w1 H) => graph_flowOf2 H _ c w1 hs hc0 hf)
  have hfh := Lib.hid hf
  clear hf hE hc0 hc
  go_enter Tryz.func43, Tryz.ntmps43
  go_wp2_with (first
    | (go_at_call 46; refine (hC.out _ (hw.below hB0)).mono ?_; rintro e w1 ⟨rfl, hB1⟩; rw [hfh.out]; have hBa := bstep hB0 hB1; have hx1 := blk_keep hB1 hx0; have q := box7 hx1; have hl1 : w.heap.size < w1.heap.size := (Array.getElem?_eq_some_iff.1 hx1).1)
    | (go_at_call 47; refine (hF.out _ (hw.below hBa)).mono ?_; rintro e w2 ⟨⟨v2, rfl, hfv⟩, hB2⟩; have hfvh := Lib.hid hfv; obtain ⟨b5, t0, t1, t2, t3, m, rfl, hb5, hfc⟩ := hfv; clear q; have hBb := bstep hBa hB2; obtain ⟨A5, c5, rfl, -, -⟩ := hfc.blocks.open_; have q := box5 ((extH.sees (hw.below hBa) hB2) _ _ hb5); have hl5 := (extH.sees (hw.below hBa) hB2).lt hb5))
  go_ret2
  exact ⟨⟨_, rfl, hfvh.out.mono (extH.lower hw hBa.size)⟩, hBb⟩
def IntsErr (H : PH) (w : World) (xs : List Int) (w' : World) (e : Ending) : Prop := ∃ u, e = .returned (.tuple #[u, .int .i64 0]) ∧ SlV rInt (extH H w w') u xs
def BlocksErr (H : PH) (w : World) (c : CodeD) (w' : World) (e : Ending) : Prop := ∃ u, e = .returned (.tuple #[u, .int .i64 0]) ∧ SlV rBlock (extH H w w') u (theFlow c).blocks
set_option maxHeartbeats 2000000 in
set_option maxRecDepth 100000 in
theorem graph_Blocks_ok (hw : Sees w H) (hc : CodeV H v c) (hf : fineB c = true) :
    Calls Tryz.prog 16 #[v] w fun e w' => BlocksErr H w c w' e ∧ Below w.heap.size w w' := by
  have hc0 := hc
  obtain ⟨s0, s1, s2, s3, s4, s5, s6, rfl, hc⟩ := hc
  have hx0 := ga_new w (.cells #[s0, s1, s2, s3, s4, s5, s6] 30)
  have hB0 : Below w.heap.size w (w.alloc (.cells #[s0, s1, s2, s3, s4, s5, s6] 30)) := (Below.refl _ _).alloc (Nat.le_refl _) _
  have hC := Lib.hid (fun (w1 : World) (hs : Sees w1 H) => graph_fine H _ c w1 hs hc0)
  have hF := Lib.hid (fun (w1 : World) (hs : Sees w1 H) => graph_flowOf2 H _ c w1 hs hc0 hf)
  have hfh := Lib.hid hf
  clear hf hc0 hc
  go_enter Tryz.func16, Tryz.ntmps16
  go_wp2_with (first
    | (go_at_call 46; refine (hC.out _ (hw.below hB0)).mono ?_; rintro e w1 ⟨rfl, hB1⟩; rw [hfh.out]; have hBa := bstep hB0 hB1; have hx1 := blk_keep hB1 hx0; have q := box7 hx1; have hl1 : w.heap.size < w1.heap.size := (Array.getElem?_eq_some_iff.1 hx1).1)
    | (go_at_call 47; refine (hF.out _ (hw.below hBa)).mono ?_; rintro e w2 ⟨⟨v2, rfl, hfv⟩, hB2⟩; obtain ⟨b5, t0, t1, t2, t3, m, rfl, hb5, hfc⟩ := hfv; clear q; have hBb := bstep hBa hB2; have hfch := Lib.hid hfc.blocks; clear hfc; have q := box5 ((extH.sees (hw.below hBa) hB2) _ _ hb5); have hl5 := (extH.sees (hw.below hBa) hB2).lt hb5))
  go_ret2
  exact ⟨⟨_, rfl, hfch.out.mono (extH.lower hw hBa.size)⟩, hBb⟩
set_option maxHeartbeats 2000000 in
set_option maxRecDepth 100000 in
theorem graph_Idoms_ok (hw : Sees w H) (hc : CodeV H v c) (hE : checkedE c = 0) :
    Calls Tryz.prog 13 #[v] w fun e w' => IntsErr H w (idomL (theFlow c)) w' e ∧ Below w.heap.size w w' := by
  have hc0 := hc
  obtain ⟨s0, s1, s2, s3, s4, s5, s6, rfl, hc⟩ := hc
  have hB0 : Below w.heap.size w (w.alloc (.cells #[s0, s1, s2, s3, s4, s5, s6] 30)) := (Below.refl _ _).alloc (Nat.le_refl _) _
  have hC := graph_checked_ok H _ c _ (hw.below hB0) hc0 hE
  have hL : PH.le (extH H (w.alloc (.cells #[s0, s1, s2, s3, s4, s5, s6] 30)) (w.alloc (.cells #[s0, s1, s2, s3, s4, s5, s6] 30))) (extH H w (w.alloc (.cells #[s0, s1, s2, s3, s4, s5, s6] 30))) := extH.lower hw hB0.size
  clear hE hc0 hc
  go_enter Tryz.func13, Tryz.ntmps13
  go_wp2_with (first
    | (go_at_call 43; refine hC.mono ?_; rintro e w1 ⟨⟨v1, rfl, hfv⟩, hB1⟩)
    | (go_at_call 44; refine (flow_idoms _ _ _ _ (extH.sees (hw.below hB0) hB1) hfv).mono ?_; rintro e w2 ⟨⟨u, rfl, hu⟩, hB2⟩))
  go_ret2
  refine ⟨⟨_, rfl, hu.mono ?_⟩, bstep (bstep hB0 hB1) hB2⟩
  intro i o e
  unfold extH at e ⊢
  split at e
  · split at e
    · have := hw.lt e
      rw [if_pos this]; exact e
    · rename_i h1 h2
      have h3 := hB0.size
      rw [if_neg (by omega), hB2.block i h1]; exact e
  · rename_i h1
    have h3 := hB0.size
    have h4 := hB1.size
    rw [if_neg (by omega)]; exact e
end
end Go.Proofs.YtififjlgjmgikaaGreat
