/- GraphIdoms, walked (seat .Z). -/
import Derived.Test.YtififjlgjmgikaaGreatRefT
import Derived.Test.YtififjlgjmgikaaGreatAwake
namespace Go.Proofs.YtififjlgjmgikaaGreat
set_option linter.all false
open Go.RowKit

theorem id_same {c : CodeD} {xs ys : List Int} (hx : (checkedE c = 0 ∧ xs = idomL (theFlow c)) ∨ (checkedE c ≠ 0 ∧ xs = [])) (hy : (checkedE c = 0 ∧ ys = idomL (theFlow c)) ∨ (checkedE c ≠ 0 ∧ ys = [])) : sameB xs ys = true := by
  refine decide_eq_true ?_
  rcases hx with ⟨h1, h2⟩ | ⟨h1, h2⟩ <;> rcases hy with ⟨h3, h4⟩ | ⟨h3, h4⟩
  · rw [h2, h4]
  · exact absurd h1 h3
  · exact absurd h3 h1
  · rw [h2, h4]
set_option maxHeartbeats 4000000 in
set_option maxRecDepth 100000 in
theorem law_Idoms (H : PH) (v : Value) (c : CodeD) (w : World) (hw : Sees w H) (hc : CodeV H v c) :
    Calls Tryz.prog 3 #[v] w fun e w' => e = .returned (.bool true) ∧ Below w.heap.size w w' := by
  have hc0 := hc
  obtain ⟨s0, s1, s2, s3, s4, s5, s6, rfl, hc⟩ := hc
  have hx0 := ga_new w (.cells #[s0, s1, s2, s3, s4, s5, s6] 30)
  have hB0 : Below w.heap.size w (w.alloc (.cells #[s0, s1, s2, s3, s4, s5, s6] 30)) := (Below.refl _ _).alloc (Nat.le_refl _) _
  have hA := law_awake (w.alloc (.cells #[s0, s1, s2, s3, s4, s5, s6] 30))
  have hFw := Lib.hid (fun (w1 : World) => law_few H _ c w1 hc0)
  have hG := Lib.hid (fun (w1 : World) (hs : Sees w1 H) => graph_Idoms_rd H _ c w1 hs hc0)
  have hR := Lib.hid (fun (w1 : World) (hs : Sees w1 H) => r19_Idoms_rd H _ c w1 hs hc0)
  cases hfew : decide (c.instrs.length ≤ 120)
  · have hfh := Lib.hid hfew
    clear hfew hc hc0
    go_enter Tryz.func3, Tryz.ntmps3
    go_wp2_with (first
      | (go_at_call 11; refine hA.mono ?_; rintro e w1 ⟨rfl, hB1⟩; have hBa := bstep hB0 hB1; have hx1 := blk_keep hB1 hx0; have q := box7 hx1; have hl1 : w.heap.size < w1.heap.size := (Array.getElem?_eq_some_iff.1 hx1).1)
      | (go_at_call 12; refine (hFw.out _).mono ?_; rintro e w2 ⟨rfl, hB2⟩; rw [hfh.out]; replace hBa := bstep hBa hB2))
    go_ret
    exact ⟨rfl, hBa⟩
  · have hfh := Lib.hid hfew
    clear hfew hc hc0
    obtain ⟨E, hE⟩ : ∃ E, checkedE c = E := ⟨_, rfl⟩
    have hEh := Lib.hid hE
    have hEE : (E == E) = true := by simp
    clear hE
    go_enter Tryz.func3, Tryz.ntmps3
    go_wp2_with (first
      | (go_at_call 11; refine hA.mono ?_; rintro e w1 ⟨rfl, hB1⟩; have hBa := bstep hB0 hB1; have hx1 := blk_keep hB1 hx0; have q := box7 hx1; have hl1 : w.heap.size < w1.heap.size := (Array.getElem?_eq_some_iff.1 hx1).1)
      | (go_at_call 12; refine (hFw.out _).mono ?_; rintro e w2 ⟨rfl, hB2⟩; rw [hfh.out]; replace hBa := bstep hBa hB2; replace hx1 := blk_keep hB2 hx1; clear q; have q := box7 hx1; replace hl1 : w.heap.size < w2.heap.size := (Array.getElem?_eq_some_iff.1 hx1).1)
      | (go_at_call 13; refine (hG.out _ (hw.below hBa)).mono ?_; rintro e w3 ⟨⟨va, xa, rfl, ha, hla⟩, hB3⟩; rw [hEh.out]; have hKa := extH.sees (hw.below hBa) hB3; have hlah := Lib.hid hla; replace hBa := bstep hBa hB3; replace hx1 := blk_keep hB3 hx1; clear q hla; have q := box7 hx1; replace hl1 : w.heap.size < w3.heap.size := (Array.getElem?_eq_some_iff.1 hx1).1)
      | (go_at_call 14; refine (hR.out _ (hw.below hBa)).mono ?_; rintro e w4 ⟨⟨vb, xb, rfl, hb, hlb⟩, hB4⟩; rw [hEh.out]; have hKb := extH.sees (hw.below hBa) hB4; replace hKa := hKa.below hB4; have hlbh := Lib.hid hlb; replace hBa := bstep hBa hB4; replace hx1 := blk_keep hB4 hx1; clear q hlb; have q := box7 hx1; replace hl1 : w.heap.size < w4.heap.size := (Array.getElem?_eq_some_iff.1 hx1).1)
      | (go_at_call 15; refine (r14_SameInts (full w4) _ _ xa xb _ (full.sees _) (ha.mono (full.le hKa)) (hb.mono (full.le hKb))).mono ?_; rintro e w5 ⟨rfl, hB5⟩; rw [id_same hlah.out hlbh.out]; replace hBa := bstep hBa hB5))
    go_ret
    exact ⟨rfl, hBa⟩
end Go.Proofs.YtififjlgjmgikaaGreat
