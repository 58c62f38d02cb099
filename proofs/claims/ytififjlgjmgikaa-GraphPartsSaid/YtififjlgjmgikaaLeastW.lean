/- GraphLeast, walked. -/
import Derived.Test.YtififjlgjmgikaaAwake
import Derived.Test.YtififjlgjmgikaaLive3
namespace Go.Proofs.Ytififjlgjmgikaa
set_option linter.all false
open Go.RowKit

theorem setB_of {n : Nat} {l : List Int} (hl : l.length = n) (h : ∀ p, p < n → FS (l.getD p 0)) : setB n l = true := by
  unfold setB
  simp only [Bool.and_eq_true, decide_eq_true_eq, Bool.not_eq_true', List.any_eq_false]
  refine ⟨hl, fun x hx => ?_⟩
  obtain ⟨i, hi⟩ := List.getElem?_of_mem hx
  have h1 := h i (by have := (List.getElem?_eq_some_iff.1 hi).1; omega)
  rw [List.getD_eq_getElem?_getD, hi, Option.getD_some] at h1
  have h2 := h1.1
  have h3 := h1.2
  simp [badS, withinB]
  omega
theorem setsE_mk {c : CodeD} {ls : List (List Int)} (hf : fineB c = true) (h : ∀ l ∈ ls, setB c.instrs.length l = true) : setsE c ls = 0 := by
  unfold setsE
  rw [if_pos hf, if_pos (List.all_eq_true.2 h)]
theorem setsE_set {c : CodeD} {ls : List (List Int)} (h : setsE c ls = 0) : ∀ l ∈ ls, setB c.instrs.length l = true := by
  unfold setsE at h
  split at h
  · split at h
    · rename_i ha; exact List.all_eq_true.1 ha
    · cases h
  · cases h
theorem liveL_closed {n : Nat} {nx : Nat → List Int} {us ds xs : List Int} (h : LiveL n nx us ds xs) (hN : ∀ p, p < n → ∀ q ∈ nx p, 0 ≤ q ∧ q < n) (p : Nat) (hp : p < n) : CkP nx us ds xs p := by
  refine ⟨fun i hi => (h.iff_ p i hp).2 (.use hi), fun q hq i hi hd => ?_⟩
  have h1 := hN p hp q hq
  exact (h.iff_ p i hp).2 (.step hq hd ((h.iff_ q.toNat i (by omega)).1 hi))
theorem ckE_zero {n : Nat} {nx : Nat → List Int} {us ds ls : List Int} : ckE n nx us ds ls = 0 ↔ ∀ p, p < n → CkP nx us ds ls p := by
  unfold ckE
  split
  · rename_i h; exact ⟨fun _ => h, fun _ => rfl⟩
  · rename_i h; exact ⟨fun e => by omega, fun e => absurd e h⟩
noncomputable def ckAll (c : CodeD) (us ds ls : List Int) : Int := if setsE c [us, ds, ls] = 0 then ckE c.instrs.length (nextL c) us ds ls else setsE c [us, ds, ls]
theorem graph_CheckLive_all (H : PH) (v vu vd vl : Value) (c : CodeD) (us ds ls : List Int) (w : World) (hw : Sees w H) (hc : CodeV H v c) (hu : SlV rInt H vu us) (hd : SlV rInt H vd ds) (hl : SlV rInt H vl ls) :
    Calls Try.prog 18 #[v, vu, vd, vl] w fun e w' => e = .returned (.int .i64 (ckAll c us ds ls)) ∧ Below w.heap.size w w' := by
  unfold ckAll
  by_cases h : setsE c [us, ds, ls] = 0
  · rw [if_pos h]; exact graph_CheckLive_ok H v vu vd vl c us ds ls w hw hc hu hd hl h
  · rw [if_neg h]; exact graph_CheckLive_no H v vu vd vl c us ds ls w hw hc hu hd hl h
theorem ckAll_zero {c : CodeD} {us ds ls : List Int} : ckAll c us ds ls = 0 ↔ setsE c [us, ds, ls] = 0 ∧ ∀ p, p < c.instrs.length → CkP (nextL c) us ds ls p := by
  unfold ckAll
  split
  · rename_i h; rw [ckE_zero]; exact ⟨fun k => ⟨h, k⟩, fun k => k.2⟩
  · rename_i h; exact ⟨fun k => absurd k h, fun k => absurd k.1 h⟩
set_option maxHeartbeats 4000000 in
set_option maxRecDepth 100000 in
theorem law_Least (H : PH) (v vu vd vl : Value) (c : CodeD) (us ds ls : List Int) (w : World) (hw : Sees w H) (hc : CodeV H v c) (hu : SlV rInt H vu us) (hd : SlV rInt H vd ds) (hl : SlV rInt H vl ls) :
    Calls Try.prog 6 #[v, vu, vd, vl] w fun e w' => e = .returned (.bool true) ∧ Below w.heap.size w w' := by
  have hc0 := hc
  obtain ⟨s0, s1, s2, s3, s4, s5, s6, rfl, hc⟩ := hc
  have b0 := hc.instrs.le
  obtain ⟨A0, c0, rfl, k0, -⟩ := hc.instrs.open_
  have hx0 := ga_new w (.cells #[.slice A0 c.instrs.length c0, s1, s2, s3, s4, s5, s6] 30)
  have hB0 : Below w.heap.size w (w.alloc (.cells #[.slice A0 c.instrs.length c0, s1, s2, s3, s4, s5, s6] 30)) := (Below.refl _ _).alloc (Nat.le_refl _) _
  have hA := law_awake (w.alloc (.cells #[.slice A0 c.instrs.length c0, s1, s2, s3, s4, s5, s6] 30))
  by_cases hE : setsE c [us, ds] = 0
  · have hL := Lib.hid (fun (w1 : World) (hs : Sees w1 H) => graph_Live_ok H _ vu vd c us ds w1 hs hc0 hu hd hE)
    obtain ⟨hf, hls⟩ := setsE_ok hE
    have hset := setsE_set hE
    have hn1 := (fine_bounds hf).i0
    have n0 := (fine_bounds hf).i1
    have hNin := Lib.hid (fun (j : Nat) (hj : j < c.instrs.length) => next_in hf hj)
    have hfh := Lib.hid hf
    have hseth := Lib.hid hset
    have hlsh := Lib.hid hls
    clear hE hf hset hls
    by_cases hbig : 400 < c.instrs.length
    · have hu' := hu
      have hd' := hd
      clear hc hc0
      go_enter Try.func6, Try.ntmps6
      go_wp2_with (first
        | (go_at_call 10; refine hA.mono ?_; rintro e w1 ⟨rfl, hB1⟩; have hBa := bstep hB0 hB1; have hx1 := blk_keep hB1 hx0; have q := box7 hx1; have hl1 : w.heap.size < w1.heap.size := (Array.getElem?_eq_some_iff.1 hx1).1)
        | (go_at_call 17; refine (hL.out _ (hw.below hBa)).mono ?_; rintro e w2 ⟨⟨vx, xs, rfl, hown, hLL⟩, hB2⟩; have hBb := bstep hBa hB2; have hx2 := blk_keep hB2 hx1; clear q; have q := box7 hx2; have hl2 : w.heap.size < w2.heap.size := (Array.getElem?_eq_some_iff.1 hx2).1))
      go_ret
      exact ⟨rfl, hBb⟩
    · have hNi := hNin.out
      have hcases : ckAll c us ds ls = 0 ∨ ckAll c us ds ls ≠ 0 := Classical.em _
      have hx1f : ∀ xs, LiveL c.instrs.length (nextL c) us ds xs → ckAll c us ds xs = 0 := fun xs h => ckAll_zero.2 ⟨setsE_mk hfh.out (fun l hm => by
        rcases List.mem_cons.1 hm with rfl | hm
        · exact hseth.out _ (by simp)
        · rcases List.mem_cons.1 hm with rfl | hm
          · exact hseth.out _ (by simp)
          · rcases List.mem_cons.1 hm with rfl | hm
            · exact setB_of h.len h.fs
            · cases hm), liveL_closed h hNi⟩
      have hx1h := Lib.hid hx1f
      clear hx1f hNi
      rcases hcases with hk | hk
      · obtain ⟨hk1, hk2⟩ := ckAll_zero.1 hk
        obtain ⟨_, hls3⟩ := setsE_ok hk1
        obtain ⟨hll, hlf⟩ := hls3 ls (by simp)
        have hlfh := Lib.hid hlf
        have hk2h := Lib.hid hk2
        have hkh := Lib.hid hk
        have hllh := Lib.hid hll
        have hl0 := hl
        obtain ⟨bl, ol, cl, rfl, -, hbl, hlcell, -⟩ := hl.ints (by omega)
        rw [hll] at hl0 ⊢
        have hlch := Lib.hid hlcell
        clear hk hk1 hk2 hls3 hlf hll hlcell hl
        have hcc := hc0
        clear hc
        go_enter Try.func6, Try.ntmps6
        go_wp2_with (first
          | (go_at_call 10; refine hA.mono ?_; rintro e w1 ⟨rfl, hB1⟩; have hBa := bstep hB0 hB1; have hx1 := blk_keep hB1 hx0; have q := box7 hx1; have hl1 : w.heap.size < w1.heap.size := (Array.getElem?_eq_some_iff.1 hx1).1)
          | (go_at_call 17; refine (hL.out _ (hw.below hBa)).mono ?_; rintro e w2 ⟨⟨vx, xs, rfl, hown, hLL⟩, hB2⟩; have hBb := bstep hBa hB2; have hx2 := blk_keep hB2 hx1; clear q; have q := box7 hx2; have hl2 : w.heap.size < w2.heap.size := (Array.getElem?_eq_some_iff.1 hx2).1; have hLLh := Lib.hid hLL; have hrd := hown.read (H := H) (fun y hy => by (obtain ⟨i, hi⟩ := List.getElem?_of_mem hy; have h1 := hLLh.out.fs i (by have h2 := (List.getElem?_eq_some_iff.1 hi).1; have h3 := hLLh.out.len; omega); rw [List.getD_eq_getElem?_getD, hi, Option.getD_some] at h1; exact fs_i64 h1)) (by have h3 := hLLh.out.len; unfold maxN; omega); have hKs := extH.sees (hw.below hBa) hB2; have hKl := extH.le (hw.below hBa) w2; obtain ⟨gx, ox, capx, rfl, -, hgx, hxcell, -⟩ := hrd.ints (by have h3 := hLLh.out.len; omega); rw [hLLh.out.len] at hrd ⊢; have hxch := Lib.hid hxcell; clear hxcell hLL hown)
          | (go_at_call_of 18 (Value.slice (some ⟨gx, ox, none⟩) c.instrs.length capx); refine (graph_CheckLive_all _ _ _ _ _ c us ds xs w2 hKs (hcc.mono hKl) (hu.mono hKl) (hd.mono hKl) hrd).mono ?_; rintro e w3 ⟨rfl, hB3⟩; rw [hx1h.out _ hLLh.out]; have hBc := bstep hBb hB3; have hx3 := blk_keep hB3 hx2; clear q; have q := box7 hx3; have hl3 : w.heap.size < w3.heap.size := (Array.getElem?_eq_some_iff.1 hx3).1)
          | (go_at_call_of 18 (Value.slice (some ⟨bl, ol, none⟩) c.instrs.length cl); refine (graph_CheckLive_all _ _ _ _ _ c us ds ls w3 (hw.below hBc) hcc hu hd hl0).mono ?_; rintro e w4 ⟨rfl, hB4⟩; rw [hkh.out]; have hBd := bstep hBc hB4))
        have hs4 := (hKs.below hB3).below hB4
        clear q hx1 hx2 hx3 hB1 hB2 hB3 hB4 hA hL
        go_loopw [12] (fun i wr => ∃ k : Nat, k ≤ c.instrs.length ∧ i = .int .i64 k ∧ Below w4.heap.size w4 wr) (fun i _ => c.instrs.length - (intOf i).toNat)
        case atStart => exact ⟨0, Nat.zero_le _, rfl, Below.refl _ _⟩
        case round =>
          obtain ⟨k, hk, rfl, hB⟩ := hrel
          by_cases hlt : k < c.instrs.length
          · have hs := hs4.below hB
            have hsH := (hw.below hBd).below hB
            have c1 := hxch.out _ hs k (by rw [hLLh.out.len]; exact hlt)
            have c2 := hlch.out _ hsH k (by rw [hllh.out]; exact hlt)
            have l1 := hs.lt' hgx
            have l2 := hsH.lt' hbl
            have hz : dif (xs.getD k 0) (ls.getD k 0) = 0 := (dif_zero (hLLh.out.fs k hlt) (hlfh.out k hlt)).2 fun i hi => LiveR.least hNin.out (fun p i hp hi => (hk2h.out p hp).1 i hi) (fun p hp => (hk2h.out p hp).2) hlt ((hLLh.out.iff_ k i hlt).1 hi)
            have hb : (bits .andNot .i64 (xs.getD k 0) (ls.getD k 0) != 0) = false := by simpa [dif] using hz
            generalize xs.getD k 0 = x at *
            generalize ls.getD k 0 = y at *
            clear hz
            go_wp2_with fail
            go_quiet (fail)
            go_wp2
            go_roundw
            case rel => exact ⟨k + 1, by omega, by go_num, ⟨hB.os, hB.tape, hB.output, hB.size, hB.block⟩⟩
            case measure => simp [intOf]; omega
          · obtain rfl : k = c.instrs.length := by omega
            have hltn : ¬ (c.instrs.length : Int) < c.instrs.length := by omega
            clear hlt
            go_wp2
            go_ret
            exact ⟨rfl, bstep hBd hB⟩
      · have hne : (ckAll c us ds ls != 0) = true := by simpa using hk
        have hkh := Lib.hid hk
        have hcc := hc0
        clear hc hk
        obtain ⟨E4, hE4⟩ : ∃ E4, E4 = ckAll c us ds ls := ⟨_, rfl⟩
        rw [← hE4] at hne
        have hE4h := Lib.hid hE4
        clear hE4
        go_enter Try.func6, Try.ntmps6
        go_wp2_with (first
          | (go_at_call 10; refine hA.mono ?_; rintro e w1 ⟨rfl, hB1⟩; have hBa := bstep hB0 hB1; have hx1 := blk_keep hB1 hx0; have q := box7 hx1; have hl1 : w.heap.size < w1.heap.size := (Array.getElem?_eq_some_iff.1 hx1).1)
          | (go_at_call 17; refine (hL.out _ (hw.below hBa)).mono ?_; rintro e w2 ⟨⟨vx, xs, rfl, hown, hLL⟩, hB2⟩; have hBb := bstep hBa hB2; have hx2 := blk_keep hB2 hx1; clear q; have q := box7 hx2; have hl2 : w.heap.size < w2.heap.size := (Array.getElem?_eq_some_iff.1 hx2).1; have hLLh := Lib.hid hLL; have hrd := hown.read (H := H) (fun y hy => by (obtain ⟨i, hi⟩ := List.getElem?_of_mem hy; have h1 := hLLh.out.fs i (by have h2 := (List.getElem?_eq_some_iff.1 hi).1; have h3 := hLLh.out.len; omega); rw [List.getD_eq_getElem?_getD, hi, Option.getD_some] at h1; exact fs_i64 h1)) (by have h3 := hLLh.out.len; unfold maxN; omega); have hKs := extH.sees (hw.below hBa) hB2; have hKl := extH.le (hw.below hBa) w2; obtain ⟨gx, ox, capx, rfl, -, hgx, hxcell, -⟩ := hrd.ints (by have h3 := hLLh.out.len; omega); rw [hLLh.out.len] at hrd ⊢; clear hxcell hLL hown)
          | (go_at_call_of 18 (Value.slice (some ⟨gx, ox, none⟩) c.instrs.length capx); refine (graph_CheckLive_all _ _ _ _ _ c us ds xs w2 hKs (hcc.mono hKl) (hu.mono hKl) (hd.mono hKl) hrd).mono ?_; rintro e w3 ⟨rfl, hB3⟩; rw [hx1h.out _ hLLh.out]; have hBc := bstep hBb hB3; have hx3 := blk_keep hB3 hx2; clear q; have q := box7 hx3; have hl3 : w.heap.size < w3.heap.size := (Array.getElem?_eq_some_iff.1 hx3).1)
          | (go_at_call_of 18 vl; refine (graph_CheckLive_all _ _ _ _ _ c us ds ls w3 (hw.below hBc) hcc hu hd hl).mono ?_; rintro e w4 ⟨rfl, hB4⟩; rw [← hE4h.out]; have hBd := bstep hBc hB4))
        go_ret
        exact ⟨rfl, hBd⟩
  · have hL := Lib.hid (fun (w1 : World) (hs : Sees w1 H) => graph_Live_no H _ vu vd c us ds w1 hs hc0 hu hd hE)
    have hne : (setsE c [us, ds] != 0) = true := by simpa using hE
    generalize setsE c [us, ds] = E at *
    clear hE hc hc0
    go_enter Try.func6, Try.ntmps6
    go_wp2_with (first
      | (go_at_call 10; refine hA.mono ?_; rintro e w1 ⟨rfl, hB1⟩; have hBa := bstep hB0 hB1; have hx1 := blk_keep hB1 hx0; have q := box7 hx1; have hl1 : w.heap.size < w1.heap.size := (Array.getElem?_eq_some_iff.1 hx1).1)
      | (go_at_call 17; refine (hL.out _ (hw.below hBa)).mono ?_; rintro e w2 ⟨rfl, hB2⟩; have hBb := bstep hBa hB2))
    go_ret
    exact ⟨rfl, hBb⟩
end Go.Proofs.Ytififjlgjmgikaa
