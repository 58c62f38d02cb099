/- GraphOrder, walked. -/
import Derived.Test.YtififjlgjmgikaaDomW
namespace Go.Proofs.Ytififjlgjmgikaa
set_option linter.all false
open Go.RowKit

theorem domE_ok {c : CodeD} {a b : Int} (h : domE c a b = 0) : checkedE c = 0 ∧ fineB c = true ∧ bothB (theFlow c) a b = true := by
  have hE : checkedE c = 0 := by
    apply Classical.byContradiction
    intro hn
    simp [domE, hn] at h
  refine ⟨hE, ?_, ?_⟩
  · cases hf : fineB c
    · simp [checkedE, hf] at hE
    · rfl
  · apply Classical.byContradiction
    intro hn
    simp [domE, hE, hn] at h
/-- A block dominates itself if it is reached; its immediate dominator tells that. -/
theorem dom_self {c : CodeD} {k : Nat} (h : domE c k k = 0) : ((idomL (theFlow c)).getD k 0 != -2) = domV c k k ∧ k < (idomL (theFlow c)).length := by
  obtain ⟨hE, hf, hb⟩ := domE_ok h
  obtain ⟨hk, _⟩ := both_range hb
  have hkl : k < (theFlow c).blocks.length := by omega
  have e : (idomL (theFlow c)).getD k 0 = idomB (theFlow c) k := by
    unfold idomL
    rw [List.getD_eq_getElem?_getD, List.getElem?_map, List.getElem?_range hkl]
    rfl
  refine ⟨?_, by simp [idomL]; exact hkl⟩
  rw [e]
  have h1 := domV_iff h hf
  have h2 : DomP (theFlow c) k k ↔ (theFlow c).reached.getD k false = true := by
    rw [reached_iff hf hkl]
    exact ⟨fun h => h.1, DomP.refl⟩
  rw [h2] at h1
  have hr := bestK_range (theFlow c) k (theFlow c).blocks.length
  unfold idomB
  cases hd : (theFlow c).reached.getD k false
  · have : domV c k k = false := by
      cases hv : domV c k k
      · rfl
      · rw [h1.1 hv] at hd; cases hd
    rw [this]
    rfl
  · rw [h1.2 hd, if_pos rfl]
    simp
    omega
set_option maxHeartbeats 8000000 in
set_option maxRecDepth 100000 in
theorem law_Order (H : PH) (v : Value) (x y z : Int) (c : CodeD) (w : World) (hw : Sees w H) (hc : CodeV H v c) (bx : I64 x) (b_y : I64 y) (bz : I64 z) :
    Calls Try.prog 4 #[v, .int .i64 x, .int .i64 y, .int .i64 z] w fun e w' => e = .returned (.bool true) ∧ Below w.heap.size w w' := by
  have hc0 := hc
  obtain ⟨s0, s1, s2, s3, s4, s5, s6, rfl, hc⟩ := hc
  have hx0 := ga_new w (.cells #[s0, s1, s2, s3, s4, s5, s6] 30)
  have hB0 : Below w.heap.size w (w.alloc (.cells #[s0, s1, s2, s3, s4, s5, s6] 30)) := (Below.refl _ _).alloc (Nat.le_refl _) _
  have hA := law_awake (w.alloc (.cells #[s0, s1, s2, s3, s4, s5, s6] 30))
  have hFw := Lib.hid (fun (w1 : World) => law_few H _ c w1 hc0)
  have hD := Lib.hid (fun (a b : Int) (w1 : World) (hs : Sees w1 H) => graph_Dominates H _ c a b w1 hs hc0)
  by_cases hfew : c.instrs.length ≤ 120
  · have hfh := Lib.hid (decide_eq_true hfew)
    clear hfew
    have m1 : ∀ (_ : domE c x y = 0) (_ : domE c y x = 0), domV c x y = true → domV c y x = true → x = y := fun h1 h2 a b => ((domV_iff h1 (domE_ok h1).2.1).1 a).antisym ((domV_iff h2 (domE_ok h1).2.1).1 b)
    have m2 : ∀ (_ : domE c x y = 0) (_ : domE c y z = 0) (_ : domE c x z = 0), domV c x y = true → domV c y z = true → domV c x z = true := fun h1 h2 h3 a b => (domV_iff h3 (domE_ok h1).2.1).2 (((domV_iff h1 (domE_ok h1).2.1).1 a).trans ((domV_iff h2 (domE_ok h1).2.1).1 b))
    have m3 : ∀ (_ : domE c x y = 0) (_ : domE c y x = 0) (_ : domE c y z = 0) (_ : domE c x z = 0), domV c x z = true → domV c y z = true → domV c x y = true ∨ domV c y x = true := fun h1 h2 h3 h4 a b => by
      have hf := (domE_ok h1).2.1
      rcases ((domV_iff h4 hf).1 a).chain ((domV_iff h3 hf).1 b) with k | k
      · exact .inl ((domV_iff h1 hf).2 k)
      · exact .inr ((domV_iff h2 hf).2 k)
    have m4 : domE c x x = 0 → checkedE c = 0 ∧ ∃ k : Nat, x = (k : Int) ∧ ((idomL (theFlow c)).getD k 0 != -2) = domV c x x ∧ k < (idomL (theFlow c)).length := fun h => by
      have h1 := (both_range (domE_ok h).2.2).1
      obtain ⟨k, rfl⟩ : ∃ k : Nat, x = (k : Int) := ⟨x.toNat, by omega⟩
      exact ⟨(domE_ok h).1, k, rfl, dom_self h⟩
    have hId := Lib.hid (fun (hE : checkedE c = 0) (w1 : World) (hs : Sees w1 H) => graph_Idoms_ok H _ c w1 hs hc0 hE)
    obtain ⟨V1, hV1⟩ : ∃ V, domV c x x = V := ⟨_, rfl⟩
    obtain ⟨V2, hV2⟩ : ∃ V, domV c x y = V := ⟨_, rfl⟩
    obtain ⟨V3, hV3⟩ : ∃ V, domV c y x = V := ⟨_, rfl⟩
    obtain ⟨V4, hV4⟩ : ∃ V, domV c y z = V := ⟨_, rfl⟩
    obtain ⟨V5, hV5⟩ : ∃ V, domV c x z = V := ⟨_, rfl⟩
    obtain ⟨E1, hE1⟩ : ∃ V, domE c x x = V := ⟨_, rfl⟩
    obtain ⟨E2, hE2⟩ : ∃ V, domE c x y = V := ⟨_, rfl⟩
    obtain ⟨E3, hE3⟩ : ∃ V, domE c y x = V := ⟨_, rfl⟩
    obtain ⟨E4, hE4⟩ : ∃ V, domE c y z = V := ⟨_, rfl⟩
    obtain ⟨E5, hE5⟩ : ∃ V, domE c x z = V := ⟨_, rfl⟩
    rw [hV2, hV3, hE2, hE3] at m1
    rw [hV2, hV4, hV5, hE2, hE4, hE5] at m2
    rw [hV2, hV3, hV4, hV5, hE2, hE3, hE4, hE5] at m3
    rw [hV1, hE1] at m4
    have h1 := Lib.hid (And.intro hV1 hE1)
    have h2 := Lib.hid (And.intro hV2 hE2)
    have h3 := Lib.hid (And.intro hV3 hE3)
    have h4 := Lib.hid (And.intro hV4 hE4)
    have h5 := Lib.hid (And.intro hV5 hE5)
    clear hV1 hV2 hV3 hV4 hV5 hE1 hE2 hE3 hE4 hE5 hc hc0
    by_cases z1 : E1 = 0
    · subst z1
      by_cases z2 : E2 = 0
      · subst z2
        by_cases z3 : E3 = 0
        · subst z3
          by_cases z4 : E4 = 0
          · subst z4
            by_cases z5 : E5 = 0
            · subst z5
              have n1 := m1 rfl rfl
              have n2 := m2 rfl rfl rfl
              have n3 := m3 rfl rfl rfl rfl
              obtain ⟨hE, k, rfl, n4, n5⟩ := m4 rfl
              have hIdd := Lib.hid (hId.out hE)
              have n4h := Lib.hid n4
              have n5h := Lib.hid n5
              clear m1 m2 m3 m4 hId hE n4
              generalize idomL (theFlow c) = ds at *
              have n4' : (ds[k]'n5 != -2) = V1 := by have h := n4h.out; rw [List.getD_eq_getElem?_getD, List.getElem?_eq_getElem n5] at h; exact h
              clear n4h
              cases V1 <;> cases V2 <;> cases V3 <;> cases V4 <;> cases V5
              all_goals first
                | (exfalso; simp at n3; done)
                | (exfalso; simp at n2; done)
                | skip
              all_goals first
                  | (exfalso; have e := n1 rfl rfl; subst e; exact absurd (h1.out.1.symm.trans h2.out.1) (by decide))
                  | (have e := n1 rfl rfl; subst e)
                  | skip
              all_goals
                clear n1 n2 n3
                have hkk : ((k : Int) != (k : Int)) = false := by simp
                go_enter Try.func4, Try.ntmps4
                go_wp2_with (first
                  | (go_at_call 10; refine hA.mono ?_; rintro e w1 ⟨rfl, hB1⟩; have hBa := bstep hB0 hB1; have hx1 := blk_keep hB1 hx0; have q := box7 hx1; have hl1 : w.heap.size < w1.heap.size := (Array.getElem?_eq_some_iff.1 hx1).1)
                  | (go_at_call 14; refine (hFw.out _).mono ?_; rintro e w2 ⟨rfl, hB2⟩; rw [hfh.out]; replace hBa := bstep hBa hB2; replace hx1 := blk_keep hB2 hx1; clear q; have q := box7 hx1; replace hl1 : w.heap.size < w2.heap.size := (Array.getElem?_eq_some_iff.1 hx1).1)
                  | (go_at_call 15; refine (hD.out _ _ _ (hw.below hBa)).mono ?_; rintro e w3 ⟨rfl, hB3⟩; (first | rw [h1.out.1, h1.out.2] | rw [h2.out.1, h2.out.2] | rw [h3.out.1, h3.out.2] | rw [h4.out.1, h4.out.2] | rw [h5.out.1, h5.out.2]); replace hBa := bstep hBa hB3; replace hx1 := blk_keep hB3 hx1; clear q; have q := box7 hx1; replace hl1 : w.heap.size < w3.heap.size := (Array.getElem?_eq_some_iff.1 hx1).1)
                  | (go_at_call 16; refine (hIdd.out _ (hw.below hBa)).mono ?_; rintro e w4 ⟨⟨ud, rfl, hud⟩, hB4⟩; obtain ⟨gd, od, cd, rfl, -, hgd, hdcell, -⟩ := hud.ints (by omega); have hK4 := extH.sees (hw.below hBa) hB4; have q4 := hdcell _ hK4 k n5; have l4 := hK4.lt' hgd; replace hBa := bstep hBa hB4; clear hdcell))
                go_ret
                exact ⟨rfl, hBa⟩
            · have hne : (E5 != 0) = true := by simpa using z5
              clear m1 m2 m3 m4 z5 hId
              go_enter Try.func4, Try.ntmps4
              go_wp2_with (first
                | (go_at_call 10; refine hA.mono ?_; rintro e w1 ⟨rfl, hB1⟩; have hBa := bstep hB0 hB1; have hx1 := blk_keep hB1 hx0; have q := box7 hx1; have hl1 : w.heap.size < w1.heap.size := (Array.getElem?_eq_some_iff.1 hx1).1)
                | (go_at_call 14; refine (hFw.out _).mono ?_; rintro e w2 ⟨rfl, hB2⟩; rw [hfh.out]; replace hBa := bstep hBa hB2; replace hx1 := blk_keep hB2 hx1; clear q; have q := box7 hx1; replace hl1 : w.heap.size < w2.heap.size := (Array.getElem?_eq_some_iff.1 hx1).1)
                | (go_at_call 15; refine (hD.out _ _ _ (hw.below hBa)).mono ?_; rintro e w3 ⟨rfl, hB3⟩; (first | rw [h1.out.1, h1.out.2] | rw [h2.out.1, h2.out.2] | rw [h3.out.1, h3.out.2] | rw [h4.out.1, h4.out.2] | rw [h5.out.1, h5.out.2]); replace hBa := bstep hBa hB3; replace hx1 := blk_keep hB3 hx1; clear q; have q := box7 hx1; replace hl1 : w.heap.size < w3.heap.size := (Array.getElem?_eq_some_iff.1 hx1).1))
              go_ret
              exact ⟨rfl, hBa⟩
          · have hne : (E4 != 0) = true := by simpa using z4
            clear m1 m2 m3 m4 z4 hId
            go_enter Try.func4, Try.ntmps4
            go_wp2_with (first
              | (go_at_call 10; refine hA.mono ?_; rintro e w1 ⟨rfl, hB1⟩; have hBa := bstep hB0 hB1; have hx1 := blk_keep hB1 hx0; have q := box7 hx1; have hl1 : w.heap.size < w1.heap.size := (Array.getElem?_eq_some_iff.1 hx1).1)
              | (go_at_call 14; refine (hFw.out _).mono ?_; rintro e w2 ⟨rfl, hB2⟩; rw [hfh.out]; replace hBa := bstep hBa hB2; replace hx1 := blk_keep hB2 hx1; clear q; have q := box7 hx1; replace hl1 : w.heap.size < w2.heap.size := (Array.getElem?_eq_some_iff.1 hx1).1)
              | (go_at_call 15; refine (hD.out _ _ _ (hw.below hBa)).mono ?_; rintro e w3 ⟨rfl, hB3⟩; (first | rw [h1.out.1, h1.out.2] | rw [h2.out.1, h2.out.2] | rw [h3.out.1, h3.out.2] | rw [h4.out.1, h4.out.2] | rw [h5.out.1, h5.out.2]); replace hBa := bstep hBa hB3; replace hx1 := blk_keep hB3 hx1; clear q; have q := box7 hx1; replace hl1 : w.heap.size < w3.heap.size := (Array.getElem?_eq_some_iff.1 hx1).1))
            go_ret
            exact ⟨rfl, hBa⟩
        · have hne : (E3 != 0) = true := by simpa using z3
          clear m1 m2 m3 m4 z3 hId
          go_enter Try.func4, Try.ntmps4
          go_wp2_with (first
            | (go_at_call 10; refine hA.mono ?_; rintro e w1 ⟨rfl, hB1⟩; have hBa := bstep hB0 hB1; have hx1 := blk_keep hB1 hx0; have q := box7 hx1; have hl1 : w.heap.size < w1.heap.size := (Array.getElem?_eq_some_iff.1 hx1).1)
            | (go_at_call 14; refine (hFw.out _).mono ?_; rintro e w2 ⟨rfl, hB2⟩; rw [hfh.out]; replace hBa := bstep hBa hB2; replace hx1 := blk_keep hB2 hx1; clear q; have q := box7 hx1; replace hl1 : w.heap.size < w2.heap.size := (Array.getElem?_eq_some_iff.1 hx1).1)
            | (go_at_call 15; refine (hD.out _ _ _ (hw.below hBa)).mono ?_; rintro e w3 ⟨rfl, hB3⟩; (first | rw [h1.out.1, h1.out.2] | rw [h2.out.1, h2.out.2] | rw [h3.out.1, h3.out.2] | rw [h4.out.1, h4.out.2] | rw [h5.out.1, h5.out.2]); replace hBa := bstep hBa hB3; replace hx1 := blk_keep hB3 hx1; clear q; have q := box7 hx1; replace hl1 : w.heap.size < w3.heap.size := (Array.getElem?_eq_some_iff.1 hx1).1))
          go_ret
          exact ⟨rfl, hBa⟩
      · have hne : (E2 != 0) = true := by simpa using z2
        clear m1 m2 m3 m4 z2 hId
        go_enter Try.func4, Try.ntmps4
        go_wp2_with (first
          | (go_at_call 10; refine hA.mono ?_; rintro e w1 ⟨rfl, hB1⟩; have hBa := bstep hB0 hB1; have hx1 := blk_keep hB1 hx0; have q := box7 hx1; have hl1 : w.heap.size < w1.heap.size := (Array.getElem?_eq_some_iff.1 hx1).1)
          | (go_at_call 14; refine (hFw.out _).mono ?_; rintro e w2 ⟨rfl, hB2⟩; rw [hfh.out]; replace hBa := bstep hBa hB2; replace hx1 := blk_keep hB2 hx1; clear q; have q := box7 hx1; replace hl1 : w.heap.size < w2.heap.size := (Array.getElem?_eq_some_iff.1 hx1).1)
          | (go_at_call 15; refine (hD.out _ _ _ (hw.below hBa)).mono ?_; rintro e w3 ⟨rfl, hB3⟩; (first | rw [h1.out.1, h1.out.2] | rw [h2.out.1, h2.out.2] | rw [h3.out.1, h3.out.2] | rw [h4.out.1, h4.out.2] | rw [h5.out.1, h5.out.2]); replace hBa := bstep hBa hB3; replace hx1 := blk_keep hB3 hx1; clear q; have q := box7 hx1; replace hl1 : w.heap.size < w3.heap.size := (Array.getElem?_eq_some_iff.1 hx1).1))
        go_ret
        exact ⟨rfl, hBa⟩
    · have hne : (E1 != 0) = true := by simpa using z1
      clear m1 m2 m3 m4 z1 hId
      go_enter Try.func4, Try.ntmps4
      go_wp2_with (first
        | (go_at_call 10; refine hA.mono ?_; rintro e w1 ⟨rfl, hB1⟩; have hBa := bstep hB0 hB1; have hx1 := blk_keep hB1 hx0; have q := box7 hx1; have hl1 : w.heap.size < w1.heap.size := (Array.getElem?_eq_some_iff.1 hx1).1)
        | (go_at_call 14; refine (hFw.out _).mono ?_; rintro e w2 ⟨rfl, hB2⟩; rw [hfh.out]; replace hBa := bstep hBa hB2; replace hx1 := blk_keep hB2 hx1; clear q; have q := box7 hx1; replace hl1 : w.heap.size < w2.heap.size := (Array.getElem?_eq_some_iff.1 hx1).1)
        | (go_at_call 15; refine (hD.out _ _ _ (hw.below hBa)).mono ?_; rintro e w3 ⟨rfl, hB3⟩; (first | rw [h1.out.1, h1.out.2] | rw [h2.out.1, h2.out.2] | rw [h3.out.1, h3.out.2] | rw [h4.out.1, h4.out.2] | rw [h5.out.1, h5.out.2]); replace hBa := bstep hBa hB3; replace hx1 := blk_keep hB3 hx1; clear q; have q := box7 hx1; replace hl1 : w.heap.size < w3.heap.size := (Array.getElem?_eq_some_iff.1 hx1).1))
      go_ret
      exact ⟨rfl, hBa⟩
  · have hfh := Lib.hid (decide_eq_false hfew)
    clear hfew hc hc0 hD
    go_enter Try.func4, Try.ntmps4
    go_wp2_with (first
      | (go_at_call 10; refine hA.mono ?_; rintro e w1 ⟨rfl, hB1⟩; have hBa := bstep hB0 hB1; have hx1 := blk_keep hB1 hx0; have q := box7 hx1; have hl1 : w.heap.size < w1.heap.size := (Array.getElem?_eq_some_iff.1 hx1).1)
      | (go_at_call 14; refine (hFw.out _).mono ?_; rintro e w2 ⟨rfl, hB2⟩; rw [hfh.out]; replace hBa := bstep hBa hB2))
    go_ret
    exact ⟨rfl, hBa⟩
end Go.Proofs.Ytififjlgjmgikaa
