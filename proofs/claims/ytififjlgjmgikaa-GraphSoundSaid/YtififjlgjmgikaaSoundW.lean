/- GraphSound, walked (seat Try). -/
import Derived.Test.YtififjlgjmgikaaChkX
import Derived.Test.YtififjlgjmgikaaAroundW
import Derived.Test.YtififjlgjmgikaaLawB
namespace Go.Proofs.Ytififjlgjmgikaa
set_option linter.all false
open Go.RowKit Go.Shelf

theorem wantK_pre (f : FlowD) {k n : Nat} (h : k ≤ n) : wantK f k <+: wantK f n := by
  induction n with
  | zero => obtain rfl : k = 0 := by omega
            exact List.prefix_rfl
  | succ n ih =>
    by_cases e : k = n + 1
    · subst e; exact List.prefix_rfl
    · rw [wantK_succ]
      exact (ih (by omega)).trans (List.prefix_append _ _)
theorem want_at {f : FlowD} {k : Nat} (hk : k < f.blocks.length) (hr : f.reached.getD k false = true) : (wantL f)[(wantK f k).length]? = some (k : Int) := by
  have h1 : wantK f (k + 1) <+: wantL f := wantK_pre f (by omega)
  rw [wantK_succ, if_pos hr] at h1
  obtain ⟨t, ht⟩ := h1
  rw [← ht]
  simp
theorem domD_not {f : FlowD} {a : Int} {k : Nat} (hr : f.reached.getD k false = true) : domD f a (k : Int) = !dcd (AroundR f a (k : Int)) := by
  unfold domD
  rw [Int.toNat_natCast, hr]
  simp
set_option maxHeartbeats 8000000 in
set_option maxRecDepth 100000 in
theorem law_Sound (H : PH) (v vl : Value) (a b : Int) (c : CodeD) (l : List DominD) (w : World) (hw : Sees w H) (hc : CodeV H v c) (hl : SlV rDomin H vl l) (ha64 : I64 a) (hb64 : I64 b) :
    Calls Try.prog 9 #[v, vl, .int .i64 a, .int .i64 b] w fun e w' => e = .returned (.bool true) ∧ Below w.heap.size w w' := by
  have hc0 := hc
  obtain ⟨s0, s1, s2, s3, s4, s5, s6, rfl, hc⟩ := hc
  have hx0 := ga_new w (.cells #[s0, s1, s2, s3, s4, s5, s6] 30)
  have hB0 : Below w.heap.size w (w.alloc (.cells #[s0, s1, s2, s3, s4, s5, s6] 30)) := (Below.refl _ _).alloc (Nat.le_refl _) _
  have hA := law_awake (w.alloc (.cells #[s0, s1, s2, s3, s4, s5, s6] 30))
  have hFw := Lib.hid (fun (w1 : World) => law_few H _ c w1 hc0)
  by_cases hfew : c.instrs.length ≤ 120
  · have hfh := Lib.hid (show decide (c.instrs.length ≤ 120) = true from decide_eq_true hfew)
    have hfc := few_checked hfew
    cases hf : fineB c
    · rw [hf] at hfc
      have hne : checkedE c = 1 := by rw [hfc]; rfl
      have hId := fun (w1 : World) (hs : Sees w1 H) => graph_Idoms_no H _ c w1 hs hc0 (by omega)
      simp only [hne] at hId
      have hIdh := Lib.hid hId
      clear hf hc hc0 hfew hfc hId hne
      go_enter Try.func9, Try.ntmps9
      go_wp2_with (first
        | (go_at_call 10; refine hA.mono ?_; rintro e w1 ⟨rfl, hB1⟩; have hBa := bstep hB0 hB1; have hx1 := blk_keep hB1 hx0; have q := box7 hx1; have hl1 : w.heap.size < w1.heap.size := (Array.getElem?_eq_some_iff.1 hx1).1)
        | (go_at_call 14; refine (hFw.out _).mono ?_; rintro e w2 ⟨rfl, hB2⟩; rw [hfh.out]; replace hBa := bstep hBa hB2; replace hx1 := blk_keep hB2 hx1; clear q; have q := box7 hx1; replace hl1 : w.heap.size < w2.heap.size := (Array.getElem?_eq_some_iff.1 hx1).1)
        | (go_at_call 16; refine (hIdh.out _ (hw.below hBa)).mono ?_; rintro e w3 ⟨rfl, hB3⟩; replace hBa := bstep hBa hB3; replace hx1 := blk_keep hB3 hx1; clear q; have q := box7 hx1; replace hl1 : w.heap.size < w3.heap.size := (Array.getElem?_eq_some_iff.1 hx1).1))
      go_ret
      exact ⟨rfl, hBa⟩
    · rw [hf, if_pos rfl] at hfc
      have hIdh := Lib.hid (fun (w1 : World) (hs : Sees w1 H) => graph_Idoms_ok H _ c w1 hs hc0 hfc)
      have hCk := Lib.hid (fun (w1 : World) (hs : Sees w1 H) => graph_Check_ok H _ _ c l w1 hs hc0 hl hfc)
      have hDm := Lib.hid (fun (w1 : World) (hs : Sees w1 H) => graph_Dominates H _ c a b w1 hs hc0)
      have hAr := Lib.hid (fun (w1 : World) (hs : Sees w1 H) => graph_Around H _ c a b w1 hs hc0)
      have hlo := lpOk hfc
      have hfle := hlo.le
      have hil : (idomL (theFlow c)).length = (theFlow c).blocks.length := by simp [idomL]
      unfold IntsErr at hIdh
      have hspec : Hid (∀ k : Nat, k < (theFlow c).blocks.length → ((theFlow c).reached.getD k false = false ∧ (idomL (theFlow c)).getD k 0 = -2) ∨ ((theFlow c).reached.getD k false = true ∧ (idomL (theFlow c)).getD k 0 ≠ -2)) := Lib.hid fun k hk => by
        rw [idomL_at _ hk]
        rcases idom_spec hf hk with ⟨h1, h2⟩ | ⟨h1, h2, _⟩ | ⟨h1, m, h2, _⟩
        · exact .inl ⟨h1, h2⟩
        · exact .inr ⟨h1, by omega⟩
        · exact .inr ⟨h1, by omega⟩
      obtain ⟨X, hX⟩ : ∃ X : Int, (if dcd (PrfP (theFlow c) l) = true then 0 else 8) = X := ⟨_, rfl⟩
      rw [hX] at hCk
      have hX0 : Hid (X = 0 ∨ X = 8) := Lib.hid (by rw [← hX]; split; exact .inl rfl; exact .inr rfl)
      have hPr : Hid (X = 0 → PrfP (theFlow c) l) := Lib.hid (fun h => by
        rw [← hX] at h
        split at h
        · rename_i h9; exact dcd_iff.1 h9
        · cases h)
      have hRt : Hid (PrfP (theFlow c) l → ∀ d ∈ l, d.idom = (idomL (theFlow c)).getD d.block.toNat 0) := Lib.hid (fun h d hd => ck_right hf h hd)
      clear hX
      have hmain : Hid (∀ kb : Nat, kb < (theFlow c).blocks.length → (theFlow c).reached.getD kb false = true → 0 ≤ a → a < (theFlow c).blocks.length → ∃ A : Bool, (domV c a kb = !A ∧ domE c a kb = 0) ∧ arndE c a kb = (if A = true then 0 else 4) ∧ aboveB (idomL (theFlow c)) a kb = !A) := Lib.hid (fun kb hkb hr ha0 haN => by
        have hboth : bothB (theFlow c) a kb = true := by simp [bothB, withinB]; omega
        have hdE : domE c a kb = 0 := by unfold domE; rw [if_pos hfc, if_pos hboth]
        obtain ⟨ka, rfl⟩ : ∃ ka : Nat, a = (ka : Int) := ⟨a.toNat, by omega⟩
        refine ⟨dcd (AroundR (theFlow c) ka kb), ⟨?_, hdE⟩, ?_, ?_⟩
        · unfold domV
          rw [hdE, domD_not hr]
          simp
        · unfold arndE
          rw [if_pos hfc, if_pos hboth]
        · unfold aboveB
          have h1 := above_dom (a := ka) hf hkb hr
          have h2 := (reached_iff hf hkb).1 hr
          rw [Bool.eq_iff_iff, h1]
          simp only [Bool.not_eq_true', Bool.eq_false_iff, ne_eq, dcd_iff, around_iff]
          exact ⟨fun h => h.2, fun h => ⟨h2, h⟩⟩)
      have hwant : Hid (PrfP (theFlow c) l → ∀ k : Nat, k < (theFlow c).blocks.length → (theFlow c).reached.getD k false = true → (wantK (theFlow c) k).length < l.length ∧ (l.getD (wantK (theFlow c) k).length default).block = (k : Int) ∧ (l.getD (wantK (theFlow c) k).length default).idom = (idomL (theFlow c)).getD k 0) := Lib.hid (fun h k hk hr => by
        have h1 := want_at hk hr
        rw [← h.want, List.getElem?_map] at h1
        obtain ⟨d, hd, h2⟩ := Option.map_eq_some_iff.1 h1
        have h3 := (List.getElem?_eq_some_iff.1 hd).1
        have h4 : l.getD (wantK (theFlow c) k).length default = d := by rw [List.getD_eq_getElem?_getD, hd]; rfl
        have h5 := hRt.out h d (List.mem_of_getElem? hd)
        rw [h2, Int.toNat_natCast] at h5
        rw [h4]
        exact ⟨h3, h2, h5⟩)
      have hwl : Hid (PrfP (theFlow c) l → l.length = (wantK (theFlow c) (theFlow c).blocks.length).length) := Lib.hid (fun h => by have := congrArg List.length h.want; rw [List.length_map] at this; exact this)
      clear hRt
      generalize idomL (theFlow c) = idom at *
      obtain ⟨f, hfe⟩ : ∃ f, theFlow c = f := ⟨_, rfl⟩
      rw [hfe] at hfle hil hspec hPr hmain hwant hwl
      clear hfe hlo hf hc hc0 hfew hfc
      have hilh := Lib.hid hil
      go_enter Try.func9, Try.ntmps9
      go_upto_region 7 with (first
        | (go_at_call 10; refine hA.mono ?_; rintro e w1 ⟨rfl, hB1⟩; have hBa := bstep hB0 hB1; have hx1 := blk_keep hB1 hx0; have q := box7 hx1; have hl1 : w.heap.size < w1.heap.size := (Array.getElem?_eq_some_iff.1 hx1).1)
        | (go_at_call 14; refine (hFw.out _).mono ?_; rintro e w2 ⟨rfl, hB2⟩; rw [hfh.out]; replace hBa := bstep hBa hB2; replace hx1 := blk_keep hB2 hx1; clear q; have q := box7 hx1; replace hl1 : w.heap.size < w2.heap.size := (Array.getElem?_eq_some_iff.1 hx1).1)
        | (go_at_call 16; refine (hIdh.out _ (hw.below hBa)).mono ?_; rintro e w3 ⟨⟨ui, rfl, hui⟩, hB3⟩; obtain ⟨Ai, ci, rfl, -, -⟩ := hui.open_; rw [hil]; replace hBa := bstep hBa hB3; replace hx1 := blk_keep hB3 hx1; clear q; have q := box7 hx1; replace hl1 : w.heap.size < w3.heap.size := (Array.getElem?_eq_some_iff.1 hx1).1))
      rw [hil] at hui
      clear hil
      have hwz : w.heap.size ≤ w2.heap.size := by have := hB1.size; have := hB2.size; rw [World.size_alloc] at *; omega
      have hui3 : SlV rInt (extH H w w3) _ idom := hui.mono (extH.lower hw hwz)
      have hCk3 := hCk.out w3 (hw.below hBa)
      have kC3 := extH.new (H := H) (Nat.le_refl _) hx1
      have hs3 := extH.sees hw hBa
      have hlK := hl.mono (extH.le hw w3)
      have hBa3 := hBa
      obtain ⟨Al, cl, rfl, -, -⟩ := hl.open_
      clear hIdh hCk hui hx0 hB0 hA hFw hfh hB1 hB2 hB3 hwz hx1 hBa
      generalize hKe : extH H w w3 = K at *
      have huiK := hui3
      have kC := kC3
      clear hui3 kC3 hKe hl
      rcases hX0.out with rfl | rfl
      · have hP := hPr.out rfl
        have hwt := Lib.hid (hwant.out hP)
        have hwe := Lib.hid (hwl.out hP)
        clear hP hPr hwant hwl hX0
        go_wp2_with (go_at_call 27; refine hCk3.mono ?_; rintro e w4 ⟨rfl, hB4⟩)
        clear q hl1 hCk3
        go_loopw [12, 13] (fun m i wr => ∃ k : Nat, k ≤ f.blocks.length ∧ i = .int .i64 k ∧ m = .int .i64 (wantK f k).length ∧ Below w3.heap.size w3 wr) (fun _ i _ => f.blocks.length - (intOf i).toNat)
        case atStart => exact ⟨0, Nat.zero_le _, rfl, rfl, hB4⟩
        case round =>
          obtain ⟨k, hk, rfl, rfl, hB⟩ := hrel
          have hs := hs3.below hB
          by_cases hkn : k < f.blocks.length
          · have hkn' : (k : Int) < f.blocks.length := by omega
            have hk0 : (0 : Int) ≤ k := by omega
            obtain ⟨bi, oi, ci', ei, -, hbi, hci, -⟩ := huiK.ints (by rw [hilh.out]; omega)
            rw [hilh.out] at ei
            cases ei
            have pi := hci wr hs k (by rw [hilh.out]; exact hkn)
            have li := hs.lt' hbi
            clear hci
            obtain ⟨y, hy⟩ : ∃ y, idom.getD k 0 = y := ⟨_, rfl⟩
            have hsp := hspec.out k hkn
            rw [hy] at pi hsp
            rcases hsp with ⟨hr, rfl⟩ | ⟨hr, hy2⟩
            · have hst := Lib.hid (show wantK f (k + 1) = wantK f k by rw [wantK_succ, hr]; simp)
              have t1 : ((-2 : Int) == -2) = true := by decide
              clear hy hr
              go_wp2
              go_roundw
              case rel => exact ⟨k + 1, by omega, by go_num, by rw [hst.out], hB⟩
              case measure => simp [intOf]; omega
            · have t1 : (y == -2) = false := by simpa using hy2
              have hst := Lib.hid (show (wantK f (k + 1)).length = (wantK f k).length + 1 by rw [wantK_succ, hr]; simp)
              obtain ⟨h1, h2, h3⟩ := hwt.out k hkn hr
              rw [hy] at h3
              have hwle := wantK_len f k
              clear hy hr hy2
              generalize (wantK f k).length = m at *
              have hm' : (m : Int) < l.length := by omega
              have hm0 : (0 : Int) ≤ m := by omega
              have t2 : decide ((l.length : Int) ≤ m) = false := decide_eq_false (by omega)
              have t3 : decide (l.length ≤ m) = false := decide_eq_false (by omega)
              obtain ⟨bl, ol, cl', e9, hbl, hrow⟩ := hlK.domins (by omega)
              cases e9
              obtain ⟨v1, v2, -, -, -, -, hcell⟩ := hrow m h1
              obtain ⟨p0, p1, -, -⟩ := hcell wr hs
              have ll := hs.lt' hbl
              rw [h2] at p0
              rw [h3] at p1
              have t4 : ((k : Int) != k) = false := by simp
              have t5 : (y != y) = false := by simp
              clear hrow hcell h2 h3
              have hcs := Lib.hid (fun (w' : World) (h : w'.heap = wr.heap) => And.intro ((hp_cell h _).trans p0) (And.intro ((hp_cell h _).trans p1) (And.intro (hp_lt h ll) (And.intro ((hp_cell h _).trans pi) (hp_lt h li)))))
              go_upto_region 13 with fail
              refine wp_region_plan (fun w' => w'.heap = wr.heap) [(0, true), (1, true), (2, true), (3, true), (4, true), (5, true), (6, true), (7, true), (8, true), (9, true), (10, true), (11, true), (12, true), (13, true), (14, true), (15, true), (16, true), (17, true), (18, true), (19, true), (20, true), (21, true), (22, true), (23, true), (24, true)] (by kernel_rfl) (by kernel_rfl) (by kernel_rfl) rfl ?_
              repeat first
                | (refine plan_skip rfl (by rfl) ?_; simp only [Act.put, List.setIfInBounds_toArray, List.set_cons_zero, List.set_cons_succ])
                | (refine plan_read (v := ?_) rfl (by rfl) ?_ ?_; rotate_left; (focus (intro w' hSw; obtain ⟨r1, r2, r3, r4, r5⟩ := hcs.out _ hSw; clear hSw; go_simp; all_goals with_reducible rfl)); simp only [Act.put, List.setIfInBounds_toArray, List.set_cons_zero, List.set_cons_succ])
              refine plan_nil (NoPanic.normal ?_)
              go_wp2
              go_roundw
              case rel => exact ⟨k + 1, by omega, by go_num, by rw [hst.out]; go_num, hp_drew hB⟩
              case measure => simp [intOf]; omega
          · obtain rfl : k = f.blocks.length := by omega
            have hkf : ¬ (f.blocks.length : Int) < f.blocks.length := by omega
            rw [← hwe.out]
            have t1 : ((l.length : Int) != l.length) = false := by simp
            have t2 : (l.length != l.length) = false := by simp
            go_upto_region 18 with fail
            refine wp_name fun W hW => ?_
            have hBW : Below w.heap.size w W := by rw [hW]; exact bstep hBa3 hB
            have hsW : Sees W K := by rw [hW]; exact hs
            clear hW hs hB hkn
            have q := box7 (hsW _ _ kC)
            have hl1 := hsW.lt kC
            by_cases ha0 : a < 0
            · have t1 : decide (a < 0) = true := decide_eq_true ha0
              clear ha0
              go_wp2
              go_ret
              exact ⟨rfl, hBW⟩
            · have t1 : decide (a < 0) = false := decide_eq_false ha0
              by_cases hb0 : b < 0
              · have t2 : decide (b < 0) = true := decide_eq_true hb0
                clear ha0 hb0
                go_wp2
                go_ret
                exact ⟨rfl, hBW⟩
              · have t2 : decide (b < 0) = false := decide_eq_false hb0
                by_cases haN : (f.blocks.length : Int) ≤ a
                · have t3 : decide ((f.blocks.length : Int) ≤ a) = true := decide_eq_true haN
                  clear ha0 hb0 haN
                  go_wp2
                  go_ret
                  exact ⟨rfl, hBW⟩
                · have t3 : decide ((f.blocks.length : Int) ≤ a) = false := decide_eq_false haN
                  by_cases hbN : (f.blocks.length : Int) ≤ b
                  · have t4 : decide ((f.blocks.length : Int) ≤ b) = true := decide_eq_true hbN
                    clear ha0 hb0 haN hbN
                    go_wp2
                    go_ret
                    exact ⟨rfl, hBW⟩
                  · have t4 : decide ((f.blocks.length : Int) ≤ b) = false := decide_eq_false hbN
                    obtain ⟨kb, rfl⟩ : ∃ kb : Nat, b = (kb : Int) := ⟨b.toNat, by omega⟩
                    have hkb : kb < f.blocks.length := by omega
                    have hkb0 : (0 : Int) ≤ kb := by omega
                    have hkb1 : (kb : Int) < f.blocks.length := by omega
                    have t5 : decide (f.blocks.length ≤ kb) = false := decide_eq_false (by omega)
                    have t6 : decide ((kb : Int) < 0) = false := decide_eq_false (by omega)
                    obtain ⟨bi, oi, ci', ei, -, hbi, hci, -⟩ := huiK.ints (by rw [hilh.out]; omega)
                    rw [hilh.out] at ei
                    cases ei
                    have pi := hci W hsW kb (by rw [hilh.out]; exact hkb)
                    have li := hsW.lt' hbi
                    clear hci
                    obtain ⟨y, hy⟩ : ∃ y, idom.getD kb 0 = y := ⟨_, rfl⟩
                    have hsp := hspec.out kb hkb
                    rw [hy] at pi hsp
                    have hyh := Lib.hid hy
                    clear hy
                    by_cases hy2 : y = -2
                    · have t7 : (y == -2) = true := by simp [hy2]
                      clear hy2 ha0 hb0 haN hbN hsp
                      go_wp2
                      go_ret
                      exact ⟨rfl, hBW⟩
                    · have t7 : (y == -2) = false := by simpa using hy2
                      have hr : f.reached.getD kb false = true := by
                        rcases hsp with ⟨_, h9⟩ | ⟨h9, _⟩
                        · exact absurd h9 hy2
                        · exact h9
                      obtain ⟨A, hm1, hm2, hm3⟩ := hmain.out kb hkb hr (by omega) (by omega)
                      have hDm2 := hDm.out
                      have hAr2 := hAr.out
                      unfold ArRes at hAr2
                      rw [hm1.1, hm1.2] at hDm2
                      rw [hm2] at hAr2
                      have hDmh := Lib.hid hDm2
                      have hArh := Lib.hid hAr2
                      have hAb := Lib.hid (fun (w' : World) (hs : Sees w' K) => law_above K a kb _ idom w' hs huiK)
                      rw [hm3] at hAb
                      clear hDm hAr hDm2 hAr2 ha0 hb0 haN hbN hsp hy2 hm1 hm2 hm3
                      cases A
                      all_goals
                        simp only [Bool.false_eq_true, if_false, if_true, Bool.not_true, Bool.not_false] at hDmh hArh hAb
                        go_wp2_with (first
                          | (go_at_call 15; refine (hDmh.out _ (hw.below hBW)).mono ?_; rintro e w5 ⟨rfl, hB5⟩; have hs5 := hsW.below hB5; clear q; have q := box7 (hs5 _ _ kC); have hl5 := hs5.lt kC)
                          | (go_at_call 28; refine (hArh.out _ (hw.below (bstep hBW hB5))).mono ?_; rintro e w6 ⟨⟨v6, rfl, -⟩, hB6⟩)
                          | (go_at_call 23; refine (hAb.out _ ((hsW.below hB5).below hB6)).mono ?_; rintro e w7 ⟨rfl, rfl⟩))
                        go_ret
                        exact ⟨rfl, bstep hBW (bstep hB5 hB6)⟩
      · clear hPr hwant hwl hX0
        go_upto_region 18 with (go_at_call 27; refine hCk3.mono ?_; rintro e w4 ⟨rfl, hB4⟩)
        clear q hl1
        refine wp_name fun W hW => ?_
        have hBW : Below w.heap.size w W := by rw [hW]; exact bstep hBa3 hB4
        have hsW : Sees W K := by rw [hW]; exact hs3.below hB4
        clear hW hB4 hCk3
        have q := box7 (hsW _ _ kC)
        have hl1 := hsW.lt kC
        by_cases ha0 : a < 0
        · have t1 : decide (a < 0) = true := decide_eq_true ha0
          clear ha0
          go_wp2
          go_ret
          exact ⟨rfl, hBW⟩
        · have t1 : decide (a < 0) = false := decide_eq_false ha0
          by_cases hb0 : b < 0
          · have t2 : decide (b < 0) = true := decide_eq_true hb0
            clear ha0 hb0
            go_wp2
            go_ret
            exact ⟨rfl, hBW⟩
          · have t2 : decide (b < 0) = false := decide_eq_false hb0
            by_cases haN : (f.blocks.length : Int) ≤ a
            · have t3 : decide ((f.blocks.length : Int) ≤ a) = true := decide_eq_true haN
              clear ha0 hb0 haN
              go_wp2
              go_ret
              exact ⟨rfl, hBW⟩
            · have t3 : decide ((f.blocks.length : Int) ≤ a) = false := decide_eq_false haN
              by_cases hbN : (f.blocks.length : Int) ≤ b
              · have t4 : decide ((f.blocks.length : Int) ≤ b) = true := decide_eq_true hbN
                clear ha0 hb0 haN hbN
                go_wp2
                go_ret
                exact ⟨rfl, hBW⟩
              · have t4 : decide ((f.blocks.length : Int) ≤ b) = false := decide_eq_false hbN
                obtain ⟨kb, rfl⟩ : ∃ kb : Nat, b = (kb : Int) := ⟨b.toNat, by omega⟩
                have hkb : kb < f.blocks.length := by omega
                have hkb0 : (0 : Int) ≤ kb := by omega
                have hkb1 : (kb : Int) < f.blocks.length := by omega
                have t5 : decide (f.blocks.length ≤ kb) = false := decide_eq_false (by omega)
                have t6 : decide ((kb : Int) < 0) = false := decide_eq_false (by omega)
                obtain ⟨bi, oi, ci', ei, -, hbi, hci, -⟩ := huiK.ints (by rw [hilh.out]; omega)
                rw [hilh.out] at ei
                cases ei
                have pi := hci W hsW kb (by rw [hilh.out]; exact hkb)
                have li := hsW.lt' hbi
                clear hci
                obtain ⟨y, hy⟩ : ∃ y, idom.getD kb 0 = y := ⟨_, rfl⟩
                have hsp := hspec.out kb hkb
                rw [hy] at pi hsp
                have hyh := Lib.hid hy
                clear hy
                by_cases hy2 : y = -2
                · have t7 : (y == -2) = true := by simp [hy2]
                  clear hy2 ha0 hb0 haN hbN hsp
                  go_wp2
                  go_ret
                  exact ⟨rfl, hBW⟩
                · have t7 : (y == -2) = false := by simpa using hy2
                  have hr : f.reached.getD kb false = true := by
                    rcases hsp with ⟨_, h9⟩ | ⟨h9, _⟩
                    · exact absurd h9 hy2
                    · exact h9
                  obtain ⟨A, hm1, hm2, hm3⟩ := hmain.out kb hkb hr (by omega) (by omega)
                  have hDm2 := hDm.out
                  have hAr2 := hAr.out
                  unfold ArRes at hAr2
                  rw [hm1.1, hm1.2] at hDm2
                  rw [hm2] at hAr2
                  have hDmh := Lib.hid hDm2
                  have hArh := Lib.hid hAr2
                  have hAb := Lib.hid (fun (w' : World) (hs : Sees w' K) => law_above K a kb _ idom w' hs huiK)
                  rw [hm3] at hAb
                  clear hDm hAr hDm2 hAr2 ha0 hb0 haN hbN hsp hy2 hm1 hm2 hm3
                  cases A
                  all_goals
                    simp only [Bool.false_eq_true, if_false, if_true, Bool.not_true, Bool.not_false] at hDmh hArh hAb
                    go_wp2_with (first
                      | (go_at_call 15; refine (hDmh.out _ (hw.below hBW)).mono ?_; rintro e w5 ⟨rfl, hB5⟩; have hs5 := hsW.below hB5; clear q; have q := box7 (hs5 _ _ kC); have hl5 := hs5.lt kC)
                      | (go_at_call 28; refine (hArh.out _ (hw.below (bstep hBW hB5))).mono ?_; rintro e w6 ⟨⟨v6, rfl, -⟩, hB6⟩)
                      | (go_at_call 23; refine (hAb.out _ ((hsW.below hB5).below hB6)).mono ?_; rintro e w7 ⟨rfl, rfl⟩))
                    go_ret
                    exact ⟨rfl, bstep hBW (bstep hB5 hB6)⟩
  · have hfh := Lib.hid (show decide (c.instrs.length ≤ 120) = false from decide_eq_false hfew)
    clear hfew hc hc0
    go_enter Try.func9, Try.ntmps9
    go_wp2_with (first
      | (go_at_call 10; refine hA.mono ?_; rintro e w1 ⟨rfl, hB1⟩; have hBa := bstep hB0 hB1; have hx1 := blk_keep hB1 hx0; have q := box7 hx1; have hl1 : w.heap.size < w1.heap.size := (Array.getElem?_eq_some_iff.1 hx1).1)
      | (go_at_call 14; refine (hFw.out _).mono ?_; rintro e w2 ⟨rfl, hB2⟩; rw [hfh.out]; replace hBa := bstep hBa hB2; replace hx1 := blk_keep hB2 hx1; clear q; have q := box7 hx1; replace hl1 : w.heap.size < w2.heap.size := (Array.getElem?_eq_some_iff.1 hx1).1))
    go_ret
    exact ⟨rfl, hBa⟩
end Go.Proofs.Ytififjlgjmgikaa
