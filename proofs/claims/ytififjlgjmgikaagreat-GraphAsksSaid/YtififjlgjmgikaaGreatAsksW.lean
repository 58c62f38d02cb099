/- GraphAsks, walked (seat .Z). -/
import Derived.Test.YtififjlgjmgikaaGreatRefU
import Derived.Test.YtififjlgjmgikaaGreatAwake
namespace Go.Proofs.YtififjlgjmgikaaGreat
set_option linter.all false
open Go.RowKit

set_option maxHeartbeats 4000000 in
set_option maxRecDepth 100000 in
theorem law_Asks (H : PH) (v : Value) (a b : Int) (c : CodeD) (w : World) (hw : Sees w H) (hc : CodeV H v c) (_ : I64 a) (_ : I64 b) :
    Calls Tryz.prog 5 #[v, .int .i64 a, .int .i64 b] w fun e w' => e = .returned (.bool true) ∧ Below w.heap.size w w' := by
  have hc0 := hc
  obtain ⟨s0, s1, s2, s3, s4, s5, s6, rfl, hc⟩ := hc
  have hx0 := ga_new w (.cells #[s0, s1, s2, s3, s4, s5, s6] 30)
  have hB0 : Below w.heap.size w (w.alloc (.cells #[s0, s1, s2, s3, s4, s5, s6] 30)) := (Below.refl _ _).alloc (Nat.le_refl _) _
  have hA := law_awake (w.alloc (.cells #[s0, s1, s2, s3, s4, s5, s6] 30))
  have hFw := Lib.hid (fun (w1 : World) => law_few H _ c w1 hc0)
  have hGd := Lib.hid (fun (w1 : World) (hs : Sees w1 H) => graph_Dominates H _ c a b w1 hs hc0)
  have hRd := Lib.hid (fun (w1 : World) (hs : Sees w1 H) => r19_Dominates H _ c a b w1 hs hc0)
  have hGa := Lib.hid (fun (w1 : World) (hs : Sees w1 H) => graph_Around H _ c a b w1 hs hc0)
  have hRa := Lib.hid (fun (w1 : World) (hs : Sees w1 H) => r19_AroundError H _ c a b w1 hs hc0)
  cases hfew : decide (c.instrs.length ≤ 120)
  · have hfh := Lib.hid hfew
    clear hfew hc hc0
    go_enter Tryz.func5, Tryz.ntmps5
    go_wp2_with (first
      | (go_at_call 11; refine hA.mono ?_; rintro e w1 ⟨rfl, hB1⟩; have hBa := bstep hB0 hB1; have hx1 := blk_keep hB1 hx0; have q := box7 hx1; have hl1 : w.heap.size < w1.heap.size := (Array.getElem?_eq_some_iff.1 hx1).1)
      | (go_at_call 12; refine (hFw.out _).mono ?_; rintro e w2 ⟨rfl, hB2⟩; rw [hfh.out]; replace hBa := bstep hBa hB2; replace hx1 := blk_keep hB2 hx1; clear q; have q := box7 hx1; replace hl1 : w.heap.size < w2.heap.size := (Array.getElem?_eq_some_iff.1 hx1).1))
    go_ret
    exact ⟨rfl, hBa⟩
  · have hfh := Lib.hid hfew
    clear hfew
    obtain ⟨E1, hE1⟩ : ∃ E1, domE c a b = E1 := ⟨_, rfl⟩
    have hE1h := Lib.hid hE1
    have hEE1 : (E1 != E1) = false := by simp
    obtain ⟨V1, hV1⟩ : ∃ V1, domV c a b = V1 := ⟨_, rfl⟩
    have hV1h := Lib.hid hV1
    have hVV1 : (V1 != V1) = false := by simp
    obtain ⟨E2, hE2⟩ : ∃ E2, arndE c a b = E2 := ⟨_, rfl⟩
    have hE2h := Lib.hid hE2
    have hEE2 : (E2 != E2) = false := by simp
    clear hE1 hV1
    by_cases hz : E2 = 0
    · subst hz
      have hEc : checkedE c = 0 := by
        apply Classical.byContradiction
        intro hn
        unfold arndE at hE2
        rw [if_neg hn] at hE2
        exact hn hE2
      have hI := Lib.hid (fun (K : PH) (w1 : World) (hK : PH.le H K) (hs : Sees w1 K) (vl : Value) (p : List Int) (hl : SlV rInt K vl p) (hP : PathTo (theFlow c).blocks.length (entriesB (theFlow c) a) (avoidNx (theFlow c) a) p b) => r19_IsAround K _ vl c a b p w1 hs (hc0.mono hK) hl hEc hP)
      clear hE2 hEc hc hc0
      go_enter Tryz.func5, Tryz.ntmps5
      go_wp2_with (first
        | (go_at_call 11; refine hA.mono ?_; rintro e w1 ⟨rfl, hB1⟩; have hBa := bstep hB0 hB1; have hx1 := blk_keep hB1 hx0; have q := box7 hx1; have hl1 : w.heap.size < w1.heap.size := (Array.getElem?_eq_some_iff.1 hx1).1)
        | (go_at_call 12; refine (hFw.out _).mono ?_; rintro e w2 ⟨rfl, hB2⟩; rw [hfh.out]; replace hBa := bstep hBa hB2; replace hx1 := blk_keep hB2 hx1; clear q; have q := box7 hx1; replace hl1 : w.heap.size < w2.heap.size := (Array.getElem?_eq_some_iff.1 hx1).1)
        | (go_at_call 20; refine (hGd.out _ (hw.below hBa)).mono ?_; rintro e w3 ⟨rfl, hB3⟩; rw [hE1h.out, hV1h.out]; replace hBa := bstep hBa hB3; replace hx1 := blk_keep hB3 hx1; clear q; have q := box7 hx1; replace hl1 : w.heap.size < w3.heap.size := (Array.getElem?_eq_some_iff.1 hx1).1)
        | (go_at_call 21; refine (hRd.out _ (hw.below hBa)).mono ?_; rintro e w4 ⟨rfl, hB4⟩; rw [hE1h.out, hV1h.out]; replace hBa := bstep hBa hB4; replace hx1 := blk_keep hB4 hx1; clear q; have q := box7 hx1; replace hl1 : w.heap.size < w4.heap.size := (Array.getElem?_eq_some_iff.1 hx1).1)
        | (go_at_call 22; refine (hGa.out _ (hw.below hBa)).mono ?_; rintro e w5 ⟨⟨vl, rfl, hla⟩, hB5⟩; rw [hE2h.out] at hla; rw [hE2h.out]; have hlah := Lib.hid hla; have hKa := extH.sees (hw.below hBa) hB5; have hHK := extH.le (hw.below hBa) w5; replace hBa := bstep hBa hB5; replace hx1 := blk_keep hB5 hx1; clear q hla; have q := box7 hx1; replace hl1 : w.heap.size < w5.heap.size := (Array.getElem?_eq_some_iff.1 hx1).1)
        | (go_at_call 23; refine (hRa.out _ (hw.below hBa)).mono ?_; rintro e w6 ⟨rfl, hB6⟩; rw [hE2h.out]; replace hKa := hKa.below hB6; replace hBa := bstep hBa hB6; replace hx1 := blk_keep hB6 hx1; clear q; have q := box7 hx1; replace hl1 : w.heap.size < w6.heap.size := (Array.getElem?_eq_some_iff.1 hx1).1)
        | (go_at_call 24; rcases hlah.out with ⟨hno, _⟩ | ⟨_, p, hp, hP⟩; exact absurd rfl hno; refine (hI.out _ _ hHK hKa _ p hp hP).mono ?_; rintro e w7 ⟨rfl, hB7⟩; replace hBa := bstep hBa hB7))
      go_ret
      exact ⟨rfl, hBa⟩
    · have hne : (E2 != 0) = true := by simpa using hz
      have hzh := Lib.hid hz
      clear hE2 hz hc hc0
      go_enter Tryz.func5, Tryz.ntmps5
      go_wp2_with (first
        | (go_at_call 11; refine hA.mono ?_; rintro e w1 ⟨rfl, hB1⟩; have hBa := bstep hB0 hB1; have hx1 := blk_keep hB1 hx0; have q := box7 hx1; have hl1 : w.heap.size < w1.heap.size := (Array.getElem?_eq_some_iff.1 hx1).1)
        | (go_at_call 12; refine (hFw.out _).mono ?_; rintro e w2 ⟨rfl, hB2⟩; rw [hfh.out]; replace hBa := bstep hBa hB2; replace hx1 := blk_keep hB2 hx1; clear q; have q := box7 hx1; replace hl1 : w.heap.size < w2.heap.size := (Array.getElem?_eq_some_iff.1 hx1).1)
        | (go_at_call 20; refine (hGd.out _ (hw.below hBa)).mono ?_; rintro e w3 ⟨rfl, hB3⟩; rw [hE1h.out, hV1h.out]; replace hBa := bstep hBa hB3; replace hx1 := blk_keep hB3 hx1; clear q; have q := box7 hx1; replace hl1 : w.heap.size < w3.heap.size := (Array.getElem?_eq_some_iff.1 hx1).1)
        | (go_at_call 21; refine (hRd.out _ (hw.below hBa)).mono ?_; rintro e w4 ⟨rfl, hB4⟩; rw [hE1h.out, hV1h.out]; replace hBa := bstep hBa hB4; replace hx1 := blk_keep hB4 hx1; clear q; have q := box7 hx1; replace hl1 : w.heap.size < w4.heap.size := (Array.getElem?_eq_some_iff.1 hx1).1)
        | (go_at_call 22; refine (hGa.out _ (hw.below hBa)).mono ?_; rintro e w5 ⟨⟨vl, rfl, hla⟩, hB5⟩; have hvl : vl = .slice none 0 0 := (by rcases hla with ⟨_, h⟩ | ⟨h, _⟩; exact h; exact absurd (hE2h.out.symm.trans h) hzh.out); subst hvl; rw [hE2h.out]; replace hBa := bstep hBa hB5; replace hx1 := blk_keep hB5 hx1; clear q hla; have q := box7 hx1; replace hl1 : w.heap.size < w5.heap.size := (Array.getElem?_eq_some_iff.1 hx1).1)
        | (go_at_call 23; refine (hRa.out _ (hw.below hBa)).mono ?_; rintro e w6 ⟨rfl, hB6⟩; rw [hE2h.out]; replace hBa := bstep hBa hB6; replace hx1 := blk_keep hB6 hx1; clear q; have q := box7 hx1; replace hl1 : w.heap.size < w6.heap.size := (Array.getElem?_eq_some_iff.1 hx1).1))
      go_ret
      exact ⟨rfl, hBa⟩
end Go.Proofs.YtififjlgjmgikaaGreat
