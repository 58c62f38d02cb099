/- GraphLives, walked (seat .Z). -/
import Derived.Test.YtififjlgjmgikaaGreatRefG
import Derived.Test.YtififjlgjmgikaaGreatDomW
namespace Go.Proofs.YtififjlgjmgikaaGreat
set_option linter.all false
open Go.RowKit

theorem liveL_i64' {n : Nat} {nx : Nat → List Int} {us ds xs : List Int} (h : LiveL n nx us ds xs) : ∀ x ∈ xs, I64 x := by
  intro y hy
  obtain ⟨i, hi⟩ := List.getElem?_of_mem hy
  have h1 := h.fs i (by have h2 := (List.getElem?_eq_some_iff.1 hi).1; have h3 := h.len; omega)
  rw [List.getD_eq_getElem?_getD, hi, Option.getD_some] at h1
  exact fs_i64 h1
set_option maxHeartbeats 2000000 in
theorem r19_Live_no (H : PH) (v vu vd : Value) (c : CodeD) (us ds : List Int) (w : World) (hw : Sees w H) (hc : CodeV H v c) (hu : SlV rInt H vu us) (hd : SlV rInt H vd ds) (hE : setsE c [us, ds] ≠ 0) :
    Calls Tryz.prog 26 #[v, vu, vd] w fun e w' => e = .returned (.tuple #[.slice none 0 0, .int .i64 (setsE c [us, ds])]) ∧ Below w.heap.size w w' := by
  have hc0 := hc
  obtain ⟨s0, s1, s2, s3, s4, s5, s6, rfl, hc⟩ := hc
  have hx0 := ga_new w (.cells #[s0, s1, s2, s3, s4, s5, s6] 30)
  have hB0 : Below w.heap.size w (w.alloc (.cells #[s0, s1, s2, s3, s4, s5, s6] 30)) := (Below.refl _ _).alloc (Nat.le_refl _) _
  have hFa := Lib.hid (fun (w1 : World) (hs : Sees w1 H) => r19_facts H _ vu vd c us ds w1 hs hc0 hu hd)
  have hne : (setsE c [us, ds] != 0) = true := by simpa using hE
  generalize setsE c [us, ds] = E at *
  clear hE hc hc0 hx0
  go_enter Tryz.func26, Tryz.ntmps26
  go_wp2_with (go_at_call 63; refine (hFa.out _ (hw.below hB0)).mono ?_; rintro e w1 ⟨rfl, hB1⟩)
  go_ret2
  exact ⟨rfl, bstep hB0 hB1⟩
theorem liveL_eq {n : Nat} {nx : Nat → List Int} {us ds xs ys : List Int} (hx : LiveL n nx us ds xs) (hy : LiveL n nx us ds ys) : xs = ys := by
  refine List.ext_getElem (by rw [hx.len, hy.len]) fun i h1 h2 => ?_
  have hi : i < n := by rw [← hx.len]; exact h1
  have := fs_ext (hx.fs i hi) (hy.fs i hi) fun j => Bool.eq_iff_iff.2 ((hx.iff_ i j hi).trans (hy.iff_ i j hi).symm)
  rw [List.getD_eq_getElem?_getD, List.getD_eq_getElem?_getD, List.getElem?_eq_getElem h1, List.getElem?_eq_getElem h2] at this
  exact this
/-- Live, whatever the sets, both sides: a list with an error. -/
def LvRes (c : CodeD) (us ds : List Int) (w w' : World) (K : PH) (e : Ending) : Prop :=
  ∃ v xs, e = .returned (.tuple #[v, .int .i64 (setsE c [us, ds])]) ∧ SlV rInt (extH K w w') v xs ∧ ((setsE c [us, ds] = 0 ∧ LiveL c.instrs.length (nextL c) us ds xs) ∨ (setsE c [us, ds] ≠ 0 ∧ xs = []))
theorem graph_Live_rd (H : PH) (v vu vd : Value) (c : CodeD) (us ds : List Int) (w : World) (hw : Sees w H) (hc : CodeV H v c) (hu : SlV rInt H vu us) (hd : SlV rInt H vd ds) :
    Calls Tryz.prog 25 #[v, vu, vd] w fun e w' => LvRes c us ds w w' H e ∧ Below w.heap.size w w' := by
  by_cases h : setsE c [us, ds] = 0
  · refine (graph_Live_ok H v vu vd c us ds w hw hc hu hd h).mono ?_
    rintro e w' ⟨⟨v', xs, rfl, h1, h2⟩, hB⟩
    have hn := (fine_bounds (setsE_ok h).1).i1
    exact ⟨⟨v', xs, by rw [h], h1.read (liveL_i64' h2) (by have := h2.len; unfold maxN; omega), .inl ⟨h, h2⟩⟩, hB⟩
  · refine (graph_Live_no H v vu vd c us ds w hw hc hu hd h).mono ?_
    rintro e w' ⟨rfl, hB⟩
    exact ⟨⟨_, [], rfl, SlV.nil _ _, .inr ⟨h, rfl⟩⟩, hB⟩
theorem r19_Live_rd (H : PH) (v vu vd : Value) (c : CodeD) (us ds : List Int) (w : World) (hw : Sees w H) (hc : CodeV H v c) (hu : SlV rInt H vu us) (hd : SlV rInt H vd ds) :
    Calls Tryz.prog 26 #[v, vu, vd] w fun e w' => LvRes c us ds w w' H e ∧ Below w.heap.size w w' := by
  by_cases h : setsE c [us, ds] = 0
  · refine (r19_Live_ok H v vu vd c us ds w hw hc hu hd h).mono ?_
    rintro e w' ⟨⟨v', xs, rfl, h1, h2⟩, hB⟩
    have hn := (fine_bounds (setsE_ok h).1).i1
    exact ⟨⟨v', xs, by rw [h], h1.read (liveL_i64' h2) (by have := h2.len; unfold maxN; omega), .inl ⟨h, h2⟩⟩, hB⟩
  · refine (r19_Live_no H v vu vd c us ds w hw hc hu hd h).mono ?_
    rintro e w' ⟨rfl, hB⟩
    exact ⟨⟨_, [], rfl, SlV.nil _ _, .inr ⟨h, rfl⟩⟩, hB⟩
theorem lv_same {c : CodeD} {us ds xs ys : List Int} (hx : (setsE c [us, ds] = 0 ∧ LiveL c.instrs.length (nextL c) us ds xs) ∨ (setsE c [us, ds] ≠ 0 ∧ xs = [])) (hy : (setsE c [us, ds] = 0 ∧ LiveL c.instrs.length (nextL c) us ds ys) ∨ (setsE c [us, ds] ≠ 0 ∧ ys = [])) : sameB xs ys = true := by
  refine decide_eq_true ?_
  rcases hx with ⟨h1, h2⟩ | ⟨h1, h2⟩ <;> rcases hy with ⟨h3, h4⟩ | ⟨h3, h4⟩
  · exact liveL_eq h2 h4
  · exact absurd h1 h3
  · exact absurd h3 h1
  · rw [h2, h4]
set_option maxHeartbeats 4000000 in
set_option maxRecDepth 100000 in
theorem law_Lives (H : PH) (v vu vd vl : Value) (c : CodeD) (us ds ls : List Int) (w : World) (hw : Sees w H) (hc : CodeV H v c) (hu : SlV rInt H vu us) (hd : SlV rInt H vd ds) (hl : SlV rInt H vl ls) :
    Calls Tryz.prog 6 #[v, vu, vd, vl] w fun e w' => e = .returned (.bool true) ∧ Below w.heap.size w w' := by
  have hc0 := hc
  obtain ⟨s0, s1, s2, s3, s4, s5, s6, rfl, hc⟩ := hc
  have hx0 := ga_new w (.cells #[s0, s1, s2, s3, s4, s5, s6] 30)
  have hB0 : Below w.heap.size w (w.alloc (.cells #[s0, s1, s2, s3, s4, s5, s6] 30)) := (Below.refl _ _).alloc (Nat.le_refl _) _
  have hA := law_awake (w.alloc (.cells #[s0, s1, s2, s3, s4, s5, s6] 30))
  have hFw := Lib.hid (fun (w1 : World) => law_few H _ c w1 hc0)
  have hG := Lib.hid (fun (w1 : World) (hs : Sees w1 H) => graph_Live_rd H _ vu vd c us ds w1 hs hc0 hu hd)
  have hR := Lib.hid (fun (w1 : World) (hs : Sees w1 H) => r19_Live_rd H _ vu vd c us ds w1 hs hc0 hu hd)
  have hGc := Lib.hid (fun (w1 : World) (hs : Sees w1 H) => graph_CheckLive_all H _ vu vd vl c us ds ls w1 hs hc0 hu hd hl)
  have hRc := Lib.hid (fun (w1 : World) (hs : Sees w1 H) => r19_CheckLive H _ vu vd vl c us ds ls w1 hs hc0 hu hd hl)
  cases hfew : decide (c.instrs.length ≤ 120)
  · have hfh := Lib.hid hfew
    clear hfew hc hc0
    go_enter Tryz.func6, Tryz.ntmps6
    go_wp2_with (first
      | (go_at_call 11; refine hA.mono ?_; rintro e w1 ⟨rfl, hB1⟩; have hBa := bstep hB0 hB1; have hx1 := blk_keep hB1 hx0; have q := box7 hx1; have hl1 : w.heap.size < w1.heap.size := (Array.getElem?_eq_some_iff.1 hx1).1)
      | (go_at_call 12; refine (hFw.out _).mono ?_; rintro e w2 ⟨rfl, hB2⟩; rw [hfh.out]; replace hBa := bstep hBa hB2))
    go_ret
    exact ⟨rfl, hBa⟩
  · have hfh := Lib.hid hfew
    clear hfew hc hc0
    have hxx : ((setsE c [us, ds] : Int) != setsE c [us, ds]) = false := by simp
    obtain ⟨E, hE⟩ : ∃ E, setsE c [us, ds] = E := ⟨_, rfl⟩
    have hEh := Lib.hid hE
    have hEE : (E != E) = false := by simp
    clear hE hxx
    go_enter Tryz.func6, Tryz.ntmps6
    go_upto_region 8 with (first
      | (go_at_call 11; refine hA.mono ?_; rintro e w1 ⟨rfl, hB1⟩; have hBa := bstep hB0 hB1; have hx1 := blk_keep hB1 hx0; have q := box7 hx1; have hl1 : w.heap.size < w1.heap.size := (Array.getElem?_eq_some_iff.1 hx1).1)
      | (go_at_call 12; refine (hFw.out _).mono ?_; rintro e w2 ⟨rfl, hB2⟩; rw [hfh.out]; replace hBa := bstep hBa hB2; replace hx1 := blk_keep hB2 hx1; clear q; have q := box7 hx1; replace hl1 : w.heap.size < w2.heap.size := (Array.getElem?_eq_some_iff.1 hx1).1)
      | (go_at_call 25; refine (hG.out _ (hw.below hBa)).mono ?_; rintro e w3 ⟨⟨va, xa, rfl, ha, hla⟩, hB3⟩; rw [hEh.out]; have hKa := extH.sees (hw.below hBa) hB3; have hlah := Lib.hid hla; replace hBa := bstep hBa hB3; replace hx1 := blk_keep hB3 hx1; clear q hla; have q := box7 hx1; replace hl1 : w.heap.size < w3.heap.size := (Array.getElem?_eq_some_iff.1 hx1).1)
      | (go_at_call 26; refine (hR.out _ (hw.below hBa)).mono ?_; rintro e w4 ⟨⟨vb, xb, rfl, hb, hlb⟩, hB4⟩; rw [hEh.out]; have hKb := extH.sees (hw.below hBa) hB4; replace hKa := hKa.below hB4; have hlbh := Lib.hid hlb; replace hBa := bstep hBa hB4; replace hx1 := blk_keep hB4 hx1; clear q hlb; have q := box7 hx1; replace hl1 : w.heap.size < w4.heap.size := (Array.getElem?_eq_some_iff.1 hx1).1)
      | (go_at_call 15; refine (r14_SameInts (full w4) _ _ xa xb _ (full.sees _) (ha.mono (full.le hKa)) (hb.mono (full.le hKb))).mono ?_; rintro e w5 ⟨rfl, hB5⟩; rw [lv_same hlah.out hlbh.out]; replace hBa := bstep hBa hB5; replace hx1 := blk_keep hB5 hx1; clear q; have q := box7 hx1; replace hl1 : w.heap.size < w5.heap.size := (Array.getElem?_eq_some_iff.1 hx1).1))
    have hs5 := hw.below hBa
    obtain ⟨E2, hE2⟩ : ∃ E2, ckAll c us ds ls = E2 := ⟨_, rfl⟩
    have hE2h := Lib.hid hE2
    clear hE2 q hA hFw hG hR
    refine wp_region_plan (fun w' => Sees w' H ∧ w'.heap[w.heap.size]? = w5.heap[w.heap.size]?) [(0, true), (1, true), (2, true), (3, true), (4, true), (5, true), (7, true), (8, true), (9, true), (10, true), (6, false), (11, false), (12, true), (13, true), (14, true)] (by kernel_rfl) (by kernel_rfl) (by kernel_rfl) ⟨fun i o e => hs5 i o e, rfl⟩ ?_
    repeat first
      | (refine plan_skip rfl (by rfl) ?_; simp only [Act.put, List.setIfInBounds_toArray, List.set_cons_zero, List.set_cons_succ])
      | (refine plan_read (v := ?_) rfl (by rfl) ?_ ?_; rotate_left; (focus (intro w' hSw; have q' := box7 (hSw.2.trans hx1); have l' := (Array.getElem?_eq_some_iff.1 (hSw.2.trans hx1)).1; clear hSw; go_simp; all_goals with_reducible rfl)); simp only [Act.put, List.setIfInBounds_toArray, List.set_cons_zero, List.set_cons_succ])
    refine plan_step rfl (by rfl) (fun K hK => ?_)
    go_simp
    (go_at_call 27; refine (hGc.out _ (by exact fun i o e => hs5 i o e)).mono ?_; rintro e w6 ⟨rfl, hB6⟩; rw [hE2h.out])
    have hs6 := (by exact fun i o e => hs5 i o e : Sees w5.drew H).below hB6
    have hx6 := blk_keep hB6 hx1
    refine hK.out _ _ ⟨hs6, hx6.trans hx1.symm⟩ ?_
    clear hK K
    refine plan_step rfl (by rfl) (fun K hK => ?_)
    go_simp
    (go_at_call 28; refine (hRc.out _ hs6).mono ?_; rintro e w7 ⟨rfl, hB7⟩; rw [hE2h.out])
    refine hK.out _ _ ⟨hs6.below hB7, (blk_keep hB7 hx6).trans hx1.symm⟩ ?_
    clear hK K
    repeat first
      | (refine plan_skip rfl (by rfl) ?_; simp only [Act.put, List.setIfInBounds_toArray, List.set_cons_zero, List.set_cons_succ])
      | (refine plan_read (v := ?_) rfl (by rfl) ?_ ?_; rotate_left; (focus (intro w' hSw; skip; clear hSw; go_simp; all_goals with_reducible rfl)); simp only [Act.put, List.setIfInBounds_toArray, List.set_cons_zero, List.set_cons_succ])
    refine plan_nil (NoPanic.normal ?_)
    go_wp2
    go_ret
    have hBz : Below w5.heap.size w5 w7 := bstep (drewB hB6) hB7
    exact ⟨rfl, bstep hBa hBz⟩
end Go.Proofs.YtififjlgjmgikaaGreat
