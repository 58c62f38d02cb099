/- The reference's layer 19: CheckLive (seat .Z). The reference's layer 19: Live (seat .Z). -/
import Derived.Test.YtififjlgjmgikaaGreatRefD
import Derived.Test.YtififjlgjmgikaaGreatLive2
import Derived.Laws.CopyOwn
namespace Go.Proofs.YtififjlgjmgikaaGreat
set_option linter.all false
open Go.RowKit

theorem setsE_three (c : CodeD) (a b d : List Int) : setsE c [a, b, d] = if setsE c [a, b] = 0 then (if setB c.instrs.length d = true then 0 else 7) else setsE c [a, b] := by
  unfold setsE
  simp only [List.all_cons, List.all_nil, Bool.and_true]
  generalize fineB c = f
  generalize setB c.instrs.length a = x
  generalize setB c.instrs.length b = y
  generalize setB c.instrs.length d = z
  cases f <;> cases x <;> cases y <;> cases z <;> rfl
theorem ckE_8 {n : Nat} {nx : Nat → List Int} {us ds ls : List Int} {p : Nat} (hp : p < n) (h : ¬ CkP nx us ds ls p) : ckE n nx us ds ls = 8 := by
  unfold ckE
  exact if_neg fun h2 => h (h2 p hp)
set_option maxHeartbeats 8000000 in
set_option maxRecDepth 100000 in
theorem r19_CheckLive (H : PH) (v vu vd vl : Value) (c : CodeD) (us ds ls : List Int) (w : World) (hw : Sees w H) (hc : CodeV H v c) (hu : SlV rInt H vu us) (hd : SlV rInt H vd ds) (hl : SlV rInt H vl ls) :
    Calls Tryz.prog 28 #[v, vu, vd, vl] w fun e w' => e = .returned (.int .i64 (ckAll c us ds ls)) ∧ Below w.heap.size w w' := by
  have hc0 := hc
  obtain ⟨s0, s1, s2, s3, s4, s5, s6, rfl, hc⟩ := hc
  have hx0 := ga_new w (.cells #[s0, s1, s2, s3, s4, s5, s6] 30)
  have hB0 : Below w.heap.size w (w.alloc (.cells #[s0, s1, s2, s3, s4, s5, s6] 30)) := (Below.refl _ _).alloc (Nat.le_refl _) _
  have hFa := Lib.hid (fun (w1 : World) (hs : Sees w1 H) => r19_facts H _ vu vd c us ds w1 hs hc0 hu hd)
  have hSe := Lib.hid (fun (w1 : World) (hs : Sees w1 H) => r19_sets H _ vl c ls w1 hs hc0 hl)
  have h3 := setsE_three c us ds ls
  have hck := Lib.hid (show ckAll c us ds ls = if setsE c [us, ds, ls] = 0 then ckE c.instrs.length (nextL c) us ds ls else setsE c [us, ds, ls] from rfl)
  by_cases hE : setsE c [us, ds] = 0
  · rw [if_pos hE] at h3
    have hEh := Lib.hid hE
    obtain ⟨hf, hsets⟩ := setsE_ok hE
    cases hB : setB c.instrs.length ls
    · rw [hB] at h3
      simp only [Bool.false_eq_true, if_false] at h3
      have hr := hck.out
      rw [h3] at hr
      rw [hr]
      have hBh := Lib.hid hB
      clear hE hf hsets hB h3 hr hc hc0
      have q := box7 hx0
      go_enter Tryz.func28, Tryz.ntmps28
      go_wp2_with (first
        | (go_at_call 63; refine (hFa.out _ (hw.below hB0)).mono ?_; rintro e w1 ⟨rfl, hB1⟩; rw [hEh.out]; have hB2 := bstep hB0 hB1; have hx1 := blk_keep hB1 hx0; clear q; have q := box7 hx1; have l1 := (Array.getElem?_eq_some_iff.1 hx1).1)
        | (go_at_call 65; refine (hSe.out _ (hw.below hB2)).mono ?_; rintro e w3 ⟨rfl, hB3⟩; rw [hBh.out]; replace hB2 := bstep hB2 hB3))
      go_ret
      exact ⟨rfl, hB2⟩
    · rw [hB] at h3
      simp only [if_true] at h3
      have hr := hck.out
      rw [h3, if_pos rfl] at hr
      rw [hr]
      obtain ⟨hul, huf⟩ := hsets us (by simp)
      obtain ⟨hdl, hdf⟩ := hsets ds (by simp)
      obtain ⟨hll, hlf⟩ := setB_fs hB
      have n1 := (fine_bounds hf).i0
      have n0 := (fine_bounds hf).i1
      have hN := Lib.hid (fun (w1 : World) (hs : Sees w1 H) => r14_Next H _ c w1 hs hc0 hf)
      have hNl := Lib.hid (fun (p : Nat) (hp : p < c.instrs.length) => next_in hf hp)
      obtain ⟨bu, ou, cu, rfl, -, hbu, hucell, -⟩ := hu.ints (by omega)
      obtain ⟨bd, od, cd, rfl, -, hbd, hdcell, -⟩ := hd.ints (by omega)
      obtain ⟨bl, ol, cl, rfl, -, hbl, hlcell, -⟩ := hl.ints (by omega)
      rw [hul] at hFa hucell ⊢
      rw [hdl] at hFa hdcell ⊢
      rw [hll] at hSe hlcell ⊢
      have huc := Lib.hid hucell
      have hdc := Lib.hid hdcell
      have hlc := Lib.hid hlcell
      have hufh := Lib.hid huf
      have hdfh := Lib.hid hdf
      have hlfh := Lib.hid hlf
      have hBh := Lib.hid hB
      have hwit := Lib.hid (fun (p : Nat) (hp : p < c.instrs.length) (h : ¬ CkP (nextL c) us ds ls p) => ckE_8 hp h)
      have hyes := Lib.hid (fun (h : ∀ p, p < c.instrs.length → CkP (nextL c) us ds ls p) => ckE_zero.2 h)
      generalize ckE c.instrs.length (nextL c) us ds ls = E at *
      clear hE hf hsets hB h3 hr hc hc0 hul hdl hll huf hdf hlf hucell hdcell hlcell hu hd hl hck
      have q := box7 hx0
      go_enter Tryz.func28, Tryz.ntmps28
      go_wp2_with (first
        | (go_at_call 63; refine (hFa.out _ (hw.below hB0)).mono ?_; rintro e w1 ⟨rfl, hB1⟩; rw [hEh.out]; have hB2 := bstep hB0 hB1; have hx1 := blk_keep hB1 hx0; clear q; have q := box7 hx1; have l1 := (Array.getElem?_eq_some_iff.1 hx1).1)
        | (go_at_call 65; refine (hSe.out _ (hw.below hB2)).mono ?_; rintro e w3 ⟨rfl, hB3⟩; rw [hBh.out]; replace hB2 := bstep hB2 hB3; replace hx1 := blk_keep hB3 hx1))
      have hs3 := hw.below hB2
      clear q l1 hB0 hx0 hFa hSe hB1 hB3
      go_loopw [10] (fun i wr => ∃ k : Nat, k ≤ c.instrs.length ∧ i = .int .i64 k ∧ Aside (∀ p, p < k → CkP (nextL c) us ds ls p) ∧ Below w3.heap.size w3 wr) (fun i _ => c.instrs.length - (intOf i).toNat)
      case atStart => exact ⟨0, Nat.zero_le _, rfl, fun p h => by omega, Below.refl _ _⟩
      case round =>
        obtain ⟨k, hk, rfl, hno, hB⟩ := hrel
        have hnoh := Lib.hid hno
        clear hno
        have hxr := blk_keep hB hx1
        have hsr := hs3.below hB
        by_cases hlt : k < c.instrs.length
        · have hlt' : (k : Int) < c.instrs.length := by omega
          have q1 := huc.out wr hsr k hlt
          have q2 := hlc.out wr hsr k hlt
          have l1 := hsr.lt' hbu
          have l2 := hsr.lt' hbl
          have hz := Lib.hid (dif_zero (hufh.out k hlt) (hlfh.out k hlt))
          have hk0 : (0 : Int) ≤ (k : Int) := by omega
          obtain ⟨yu, hyu⟩ : ∃ y, us.getD k 0 = y := ⟨_, rfl⟩
          obtain ⟨yl, hyl⟩ : ∃ y, ls.getD k 0 = y := ⟨_, rfl⟩
          rw [hyu] at q1
          rw [hyl] at q2
          rw [hyu, hyl] at hz
          have hyuh := Lib.hid hyu
          have hylh := Lib.hid hyl
          clear hyu hyl
          by_cases hd0 : dif yu yl = 0
          · have hA := Lib.hid (hz.out.1 hd0)
            have hb : (bits .andNot .i64 yu yl != 0) = false := by simpa [dif] using hd0
            clear hd0
            go_wp2_with fail
            go_quiet (fail)
            have hxq : (wr.drewN nq).heap[w.heap.size]? = _ := hxr
            have hsq : Sees (wr.drewN nq) H := fun i o e => hsr i o e
            have hBq : Below w3.heap.size w3 (wr.drewN nq) := ⟨hB.os, hB.tape, hB.output, hB.size, hB.block⟩
            have q := box7 hxq
            have l0 := (Array.getElem?_eq_some_iff.1 hxq).1
            generalize wr.drewN nq = wq at *
            clear hB hxr hsr q1 q2 l1 l2
            go_wp2_with fail
            refine (hN.out _ hsq k hlt).mono ?_
            rintro e wN ⟨⟨vn, rfl, hown⟩, hBN⟩
            have hx := hown.read (H := H) (fun y hy => by have := hNl.out k hlt y hy; exact ⟨by omega, by omega⟩) (by have h1 := nextL_len c k; unfold maxN; omega)
            have hKN := extH.sees hsq hBN
            have hBN2 := bstep hBq hBN
            have hsN := hsq.below hBN
            have hn2 := nextL_len c k
            generalize extH H wq wN = K3 at *
            clear q l0 hown hBN hBq hsq hxq
            obtain ⟨An, cn, rfl, -, -⟩ := hx.open_
            go_wp2_with fail
            obtain ⟨wi, rfl⟩ : ∃ wi : World, wi = wN := ⟨_, rfl⟩
            go_loopw [12] (fun i wj => ∃ m : Nat, m ≤ (nextL c k).length ∧ i = .int .i64 m ∧ Aside (∀ j, j < m → ∀ i, fb (ls.getD ((nextL c k).getD j 0).toNat 0) i = true → fb (ds.getD k 0) i = false → fb (ls.getD k 0) i = true) ∧ Below wi.heap.size wi wj) (fun i _ => (nextL c k).length - (intOf i).toNat)
            case atStart => exact ⟨0, Nat.zero_le _, rfl, fun j h => by omega, Below.refl _ _⟩
            case round =>
              obtain ⟨m, hm, rfl, hcl, hBj⟩ := hrel
              have hclh := Lib.hid hcl
              clear hcl
              by_cases hmt : m < (nextL c k).length
              · have hmt' : (m : Int) < (nextL c k).length := by omega
                have hm0 : (0 : Int) ≤ (m : Int) := by omega
                obtain ⟨bm, om, cm2, em, -, hbm, hmcell, -⟩ := hx.ints (by omega)
                cases em
                have hsj := hKN.below hBj
                have hsH := hsN.below hBj
                have d1 := hmcell wr hsj m hmt
                have lm := hsj.lt' hbm
                have hy : (nextL c k)[m]? = some ((nextL c k).getD m 0) := by simp [hmt]
                obtain ⟨hi0, hi1⟩ := hNl.out k hlt _ (List.mem_of_getElem? hy)
                clear hmcell hy
                obtain ⟨q, hq⟩ : ∃ q : Nat, (nextL c k).getD m 0 = (q : Int) := ⟨((nextL c k).getD m 0).toNat, by omega⟩
                rw [hq] at d1 hi0 hi1
                have hqh := Lib.hid hq
                clear hq
                have hqn : q < c.instrs.length := by omega
                have e1 := hlc.out wr hsH q hqn
                have e2 := hdc.out wr hsH k hlt
                have e3 := hlc.out wr hsH k hlt
                rw [hylh.out] at e3
                have l4 := hsH.lt' hbd
                have l5 := hsH.lt' hbl
                have hfd := dif_fs (hlfh.out q hqn) (hdfh.out k hlt)
                have hz2 := Lib.hid (dif_zero hfd (by rw [← hylh.out]; exact hlfh.out k hlt : FS yl))
                have hfb := Lib.hid (dif_fb (hlfh.out q hqn) (hdfh.out k hlt))
                obtain ⟨xq, hxq⟩ : ∃ y, ls.getD q 0 = y := ⟨_, rfl⟩
                obtain ⟨dp, hdp⟩ : ∃ y, ds.getD k 0 = y := ⟨_, rfl⟩
                rw [hxq] at e1 hz2 hfb
                rw [hdp] at e2 hz2 hfb
                have hxqh := Lib.hid hxq
                have hdph := Lib.hid hdp
                clear hxq hdp hfd
                by_cases hd1 : dif (dif xq dp) yl = 0
                · have hA1 := Lib.hid (hz2.out.1 hd1)
                  have hb1 : (bits .andNot .i64 (bits .andNot .i64 xq dp) yl != 0) = false := by simpa [dif] using hd1
                  clear hd1
                  go_wp2_with fail
                  go_quiet (fail)
                  go_wp2
                  go_roundw
                  case rel =>
                    refine ⟨m + 1, by omega, by go_num, fun j hj i h1 h2 => ?_, ⟨hBj.os, hBj.tape, hBj.output, hBj.size, hBj.block⟩⟩
                    by_cases e : j = m
                    · rw [e, hqh.out, Int.toNat_natCast, hxqh.out] at h1
                      rw [hdph.out] at h2
                      rw [hylh.out]
                      exact hA1.out i (by rw [hfb.out, h1, h2]; rfl)
                    · exact hclh.out j (by omega) i h1 h2
                  case measure => simp [intOf]; omega
                · have hb1 : (bits .andNot .i64 (bits .andNot .i64 xq dp) yl != 0) = true := by simpa [dif] using hd1
                  have h8 := Lib.hid (hwit.out k hlt fun hck => hd1 (hz2.out.2 fun i hi => by
                    rw [hfb.out, Bool.and_eq_true, Bool.not_eq_true'] at hi
                    rw [← hylh.out]
                    have hmem : (q : Int) ∈ nextL c k := by rw [← hqh.out, List.getD_eq_getElem?_getD, List.getElem?_eq_getElem hmt]; simp
                    exact hck.2 q hmem i (by rw [Int.toNat_natCast, hxqh.out]; exact hi.1) (by rw [hdph.out]; exact hi.2)))
                  clear hd1
                  go_wp2_with fail
                  go_quiet (fail)
                  go_wp2
                  go_ret
                  have hBz := bstep hB2 (bstep hBN2 hBj)
                  exact ⟨ret_num h8.out.symm, ⟨hBz.os, hBz.tape, hBz.output, hBz.size, hBz.block⟩⟩
              · have hltn2 : ¬ (m : Int) < (nextL c k).length := by omega
                have hcP := Lib.hid (show CkP (nextL c) us ds ls k from ⟨fun i hi => by rw [hylh.out]; exact hA.out i (by rw [← hyuh.out]; exact hi), fun x hx i h1 h2 => by
                  obtain ⟨j, hj, rfl⟩ := List.getElem_of_mem hx
                  have e : (nextL c k).getD j 0 = (nextL c k)[j] := by simp [hj]
                  exact hclh.out j (by omega) i (by rw [e]; exact h1) h2⟩)
                clear hmt
                go_wp2
                go_roundw
                case rel =>
                  refine ⟨k + 1, by omega, by go_num, fun p hp => ?_, bstep hBN2 hBj⟩
                  by_cases e : p = k
                  · rw [e]; exact hcP.out
                  · exact hnoh.out p (by omega)
                case measure => simp [intOf]; omega
          · have hb : (bits .andNot .i64 yu yl != 0) = true := by simpa [dif] using hd0
            have h8 := Lib.hid (hwit.out k hlt fun hck => hd0 (hz.out.2 fun i hi => by rw [← hylh.out]; exact hck.1 i (by rw [hyuh.out]; exact hi)))
            clear hd0
            go_wp2_with fail
            go_quiet (fail)
            go_wp2
            go_ret
            have hBz := bstep hB2 hB
            exact ⟨ret_num h8.out.symm, ⟨hBz.os, hBz.tape, hBz.output, hBz.size, hBz.block⟩⟩
        · have hltn : ¬ (k : Int) < c.instrs.length := by omega
          obtain rfl : k = c.instrs.length := by omega
          have hy := Lib.hid (hyes.out hnoh.out)
          clear hlt
          go_wp2
          go_ret
          exact ⟨ret_num hy.out.symm, bstep hB2 hB⟩
  · rw [if_neg hE] at h3
    have hr := hck.out
    rw [h3, if_neg hE] at hr
    rw [hr]
    have hne : (setsE c [us, ds] != 0) = true := by simpa using hE
    generalize setsE c [us, ds] = E at *
    clear hE h3 hr hc hc0 hck
    go_enter Tryz.func28, Tryz.ntmps28
    go_wp2_with (go_at_call 63; refine (hFa.out _ (hw.below hB0)).mono ?_; rintro e w1 ⟨rfl, hB1⟩; have hB2 := bstep hB0 hB1)
    go_ret
    exact ⟨rfl, hB2⟩
end Go.Proofs.YtififjlgjmgikaaGreat
namespace Go.Proofs.YtififjlgjmgikaaGreat
set_option linter.all false
open Go.RowKit

/-- The reference's pass: place p, behind j of its next places; all later places are closed. -/
def PassR (n : Nat) (nx : Nat → List Int) (us ds xs0 xs : List Int) (more : Bool) (p j : Nat) : Prop :=
  LiveI n nx us ds xs ∧ ((more = false ∧ xs = xs0 ∧ (∀ k, p < k → k < n → ClosedAt nx ds xs k) ∧ ∀ q ∈ (nx p).take j, ∀ i, fb (xs.getD q.toNat 0) i = true → fb (ds.getD p 0) i = false → fb (xs.getD p 0) i = true) ∨ (more = true ∧ room xs < room xs0))
section
variable {n : Nat} {nx : Nat → List Int} {us ds xs xs0 : List Int}
theorem PassI.start2 {more : Bool} {p : Nat} (h : PassI n nx us ds xs0 xs more (p + 1)) : PassR n nx us ds xs0 xs more p 0 := by
  refine ⟨h.1, ?_⟩
  rcases h.2 with ⟨h1, h2, h3⟩ | h2
  · exact .inl ⟨h1, h2, fun k hk => h3 k hk, fun q hq => by simp at hq⟩
  · exact .inr h2
theorem PassR.done {more : Bool} {p : Nat} (h : PassR n nx us ds xs0 xs more p (nx p).length) : PassI n nx us ds xs0 xs more p := by
  refine ⟨h.1, ?_⟩
  rcases h.2 with ⟨h1, h2, h3, h4⟩ | h2
  · refine .inl ⟨h1, h2, fun k hk hkn => ?_⟩
    by_cases e : k = p
    · subst e
      intro q hq i h5 h6
      exact h4 q (by rw [List.take_length]; exact hq) i h5 h6
    · exact h3 k (by omega) hkn
  · exact .inr h2
theorem PassR.next {more : Bool} {p j : Nat} {q : Int} (h : PassR n nx us ds xs0 xs more p j) (hp : p < n) (hd : FS (ds.getD p 0)) (hq : (nx p)[j]? = some q) (hr : 0 ≤ q ∧ q < n) :
    (uni (xs.getD p 0) (dif (xs.getD q.toNat 0) (ds.getD p 0)) = xs.getD p 0 → PassR n nx us ds xs0 xs more p (j + 1)) ∧
    (uni (xs.getD p 0) (dif (xs.getD q.toNat 0) (ds.getD p 0)) ≠ xs.getD p 0 → PassR n nx us ds xs0 (xs.set p (uni (xs.getD p 0) (dif (xs.getD q.toNat 0) (ds.getD p 0)))) true p (j + 1)) := by
  obtain ⟨hI, h2⟩ := h
  have hqn : q.toNat < n := by omega
  have hxp := hI.fs p hp
  have hxq := hI.fs _ hqn
  have hdf := dif_fs hxq hd
  have hpl : p < xs.length := by rw [hI.len]; exact hp
  have hle := uni_le hxp hdf
  constructor
  · intro e
    refine ⟨hI, ?_⟩
    rcases h2 with ⟨h1, h3, h4, h5⟩ | h2
    · refine .inl ⟨h1, h3, h4, fun z hz i hi hdi => ?_⟩
      rw [List.take_add_one, hq] at hz
      simp at hz
      rcases hz with hz | rfl
      · exact h5 z hz i hi hdi
      · rw [← e, uni_fb hxp hdf, dif_fb hxq hd, hi, hdi]; simp
    · exact .inr h2
  · intro e
    have hfs := uni_fs hxp hdf
    refine ⟨⟨by simp [hI.len], fun k hk => ?_, fun k i hk hb => ?_, fun k i hk hb => ?_⟩, .inr ⟨rfl, ?_⟩⟩
    · rw [getD_set_int hpl]
      split
      · exact hfs
      · exact hI.fs k hk
    · rw [getD_set_int hpl] at hb
      split at hb
      · rename_i e2
        subst e2
        rw [uni_fb hxp hdf, dif_fb hxq hd] at hb
        cases hs : fb (xs.getD k 0) i
        · rw [hs] at hb
          simp at hb
          exact .step (List.mem_of_getElem? hq) hb.2 (hI.sound _ _ hqn hb.1)
        · exact hI.sound k i hk hs
      · exact hI.sound k i hk hb
    · rw [getD_set_int hpl]
      split
      · rename_i e2; subst e2; rw [uni_fb hxp hdf, hI.uses _ i hk hb]; rfl
      · exact hI.uses k i hk hb
    · have h1 := room_set hpl (s := uni (xs.getD p 0) (dif (xs.getD q.toNat 0) (ds.getD p 0))) (by omega) hfs.2
      rcases h2 with ⟨_, e2, _⟩ | ⟨_, h2⟩
      · rw [← e2]; exact h1
      · omega
end
theorem mk_ints (n : Nat) (hn : n ≤ 17592186044416) (w : World) : (Instr.makeSlice 28 (.int .i64 n) (.int .i64 n)).run Tryz.prog w =
    .ok (.slice (some ⟨w.heap.size, 0, none⟩) n n) (w.alloc (.cells (Array.replicate n (.int .i64 0)) 3)) := by
  obtain ⟨i0, hi, hz0, hz1, hz2⟩ := info_parts infoInt
  have h := run_make (P := Tryz.prog) w 28 3 i0 (.int .i64 0) Tryz.underlying28 hi hz0 .i64 .i64 n n (by omega) (by omega) (by rw [hz2]; omega) (by omega)
  have e : madeCells (Value.int .i64 0).cells (n * 1) = Array.replicate n (.int .i64 0) := by
    apply Array.ext
    · simp [madeCells]
    · intro j h1 h2
      have h3 : j % 1 = 0 := by omega
      simp [madeCells, Value.cells, h3]
  rw [hz1, Int.toNat_natCast, e] at h
  exact h
theorem own_of {w : World} {base g n : Nat} {xs : List Int} (h : w.heap[g]? = some (.cells (ints xs).toArray 3 (0, 0))) (hb : base ≤ g) (hn : xs.length = n) (hm : n ≤ 20000) : OwnI w base (.slice (some ⟨g, 0, none⟩) n n) xs := by
  subst hn
  exact ⟨by simp [ints], .inr ⟨g, _, _, rfl, hb, h, Nat.le_refl _, by unfold maxLen; omega, by simp [ints], by rw [Nat.mul_one, List.take_of_length_le (by simp [ints])]⟩⟩
theorem sizeInt : (Tryz.prog.info? 3).map (·.size) = some 1 := by kernel_rfl
set_option maxHeartbeats 8000000 in
set_option maxRecDepth 100000 in
theorem r19_Live_ok (H : PH) (v vu vd : Value) (c : CodeD) (us ds : List Int) (w : World) (hw : Sees w H) (hc : CodeV H v c) (hu : SlV rInt H vu us) (hd : SlV rInt H vd ds) (hE : setsE c [us, ds] = 0) :
    Calls Tryz.prog 26 #[v, vu, vd] w fun e w' => LiveRes w.heap.size c.instrs.length (nextL c) us ds w' e ∧ Below w.heap.size w w' := by
  obtain ⟨hf, hls⟩ := setsE_ok hE
  obtain ⟨hul, huf⟩ := hls us (by simp)
  obtain ⟨hdl, hdf⟩ := hls ds (by simp)
  have n0 := (fine_bounds hf).i1
  have n1 := (fine_bounds hf).i0
  have hc0 := hc
  obtain ⟨s0, s1, s2, s3, s4, s5, s6, rfl, hc⟩ := hc
  have hx0 := ga_new w (.cells #[s0, s1, s2, s3, s4, s5, s6] 30)
  have hB0 : Below w.heap.size w (w.alloc (.cells #[s0, s1, s2, s3, s4, s5, s6] 30)) := (Below.refl _ _).alloc (Nat.le_refl _) _
  have hFa := Lib.hid (fun (w1 : World) (hs : Sees w1 H) => r19_facts H _ vu vd c us ds w1 hs hc0 hu hd)
  have hEh := Lib.hid hE
  have hN := Lib.hid (fun (w1 : World) (hs : Sees w1 H) => r14_Next H _ c w1 hs hc0 hf)
  have hNin := Lib.hid (fun (j : Nat) (hj : j < c.instrs.length) => next_in hf hj)
  obtain ⟨bu, ou, cu, rfl, -, hbu, hucell, -⟩ := hu.ints (by omega)
  obtain ⟨bd, od, cd, rfl, -, hbd, hdcell, -⟩ := hd.ints (by omega)
  rw [hul] at hFa hucell ⊢
  rw [hdl] at hFa hdcell ⊢
  have huc := Lib.hid hucell
  have hdch := Lib.hid hdcell
  have hulh := Lib.hid hul
  have hufh := Lib.hid huf
  have hdfh := Lib.hid hdf
  have hst := Lib.hid (LiveI.start (nx := nextL c) (ds := ds) hul huf)
  have hmk := mk_ints c.instrs.length (by omega)
  clear hE hf hls hul huf hdl hdf hucell hdcell hu hd hc hc0
  have q := box7 hx0
  go_enter Tryz.func26, Tryz.ntmps26
  go_upto_region 5 with (go_at_call 63; refine (hFa.out _ (hw.below hB0)).mono ?_; rintro e w1 ⟨rfl, hB1⟩; rw [hEh.out]; have hB2 := bstep hB0 hB1; have hx1 := blk_keep hB1 hx0; clear q)
  have hs1 := hw.below hB2
  refine wp_name fun W hW => ?_
  have hBW : Below w1.heap.size w1 W := by rw [hW]; exact (Below.refl _ _).alloc (Nat.le_refl _) _
  have hgW : W.heap[w1.heap.size]? = some (.cells (List.replicate c.instrs.length (Value.int .i64 0)).toArray 3 (0, 0)) := by rw [hW, ga_new]; simp
  have hcu := hs1.below hBW
  clear hW hmk
  go_wp2_with (with_reducible refine wpList_copy_splice rfl (.tmp 25) (.tmp 26) 28 28 rfl 3 Tryz.underlying28 sizeInt _ _ _ _ _ _ rfl rfl w1.heap.size 0 _ _ hgW (ints us) ?c1 ?c2 ?c3 ?c4 w1.heap.size w1 hBW (Nat.le_refl _) ?_)
  case c1 => simp [ints, hulh.out]
  case c2 =>
    intro _ j u hj
    have hjl := (List.getElem?_eq_some_iff.1 hj).1
    simp only [ints, List.length_map] at hjl
    rw [huc.out W hcu j (by first | exact hjl | (have := hulh.out; omega))]
    simp only [ints, List.getElem?_map, List.getElem?_eq_getElem hjl, Option.map_some] at hj
    rw [← hj, List.getD_eq_getElem?_getD, List.getElem?_eq_getElem hjl]
    rfl
  case c3 => simp [ints, hulh.out]
  case c4 =>
    intro u hu
    obtain ⟨x, _, rfl⟩ := List.mem_map.1 hu
    rfl
  intro w2 hc2 hB3
  have e2 : splice (List.replicate c.instrs.length (Value.int .i64 0)) 0 (ints us) = ints us := by simp [splice, ints, hulh.out]
  have hg2 := hc2.out
  rw [e2] at hg2
  have hown : OwnI w2 w1.heap.size (.slice (some ⟨w1.heap.size, 0, none⟩) c.instrs.length c.instrs.length) us := own_of hg2 (Nat.le_refl _) hulh.out n0
  have hs2 := hs1.below hB3
  have hx2 := blk_keep hB3 hx1
  have hBc := bstep hB2 hB3
  have hl1w : w.heap.size < w1.heap.size := (Array.getElem?_eq_some_iff.1 hx1).1
  have hgl := (Array.getElem?_eq_some_iff.1 hg2).1
  have hHg : H w1.heap.size = none := hs1.fresh (Nat.le_refl _)
  obtain ⟨g, hg⟩ : ∃ g, w1.heap.size = g := ⟨_, rfl⟩
  rw [hg] at hown hl1w hgl hHg ⊢
  have hgh := Lib.hid hg
  clear hc2 e2 hg2 hg hgW hcu hBW hs1 hx1 hB1 hB0 hx0
  go_wp2
  go_loopg [10] (room us + 1) (fun gk a wr => ∃ (xs : List Int) (again : Bool), a = .bool again ∧ OwnI wr g (.slice (some ⟨g, 0, none⟩) c.instrs.length c.instrs.length) xs ∧ Aside (HeadI c.instrs.length (nextL c) us ds xs again gk) ∧ w2.grownBy wr (some g))
  case atStart => exact ⟨us, true, rfl, hown, .inl ⟨rfl, hst.out, by omega⟩, grown_refl _ _⟩
  clear hown hst
  case round =>
    obtain ⟨xs0, again, rfl, hown, hI, hg⟩ := hrel
    have hIh := Lib.hid hI
    clear hI
    cases again with
    | false =>
      go_wp2
      go_ret2
      refine ⟨⟨_, xs0, rfl, hown.lower (by omega), ?_⟩, hBc.grown hg hBc.size (fun j hj => by injection hj with hj; omega)⟩
      rcases hIh.out with ⟨h, _⟩ | ⟨_, h⟩
      · cases h
      · exact h
    | true =>
      have hI0 : LiveI c.instrs.length (nextL c) us ds xs0 ∧ room xs0 < gk := by
        rcases hIh.out with ⟨_, h⟩ | ⟨h, _⟩
        · exact h
        · cases h
      have hI0h := Lib.hid hI0
      have hP0 := Lib.hid (PassI.start hI0.1)
      clear hI0 hIh
      go_wp2
      obtain ⟨wo, rfl⟩ : ∃ wo : World, wo = wr := ⟨_, rfl⟩
      go_loopw [10, 11] (fun a p wi => ∃ (k : Nat) (xs : List Int) (again : Bool) (x : Int), k ≤ c.instrs.length ∧ x = (k : Int) - 1 ∧ p = .int .i64 x ∧ a = .bool again ∧ OwnI wi g (.slice (some ⟨g, 0, none⟩) c.instrs.length c.instrs.length) xs ∧ Aside (PassI c.instrs.length (nextL c) us ds xs0 xs again k) ∧ w2.grownBy wi (some g)) (fun _ p _ => (intOf p + 1).toNat)
      case atStart => exact ⟨_, xs0, false, _, Nat.le_refl _, rfl, rfl, rfl, hown, hP0.out, hg⟩
      clear hown hg hP0
      case round =>
        obtain ⟨k, xs, again, x, hk, hx, rfl, rfl, hown, hP, hg⟩ := hrel
        have hPh := Lib.hid hP
        clear hP
        cases k with
        | zero =>
          obtain rfl : x = -1 := by omega
          clear hx
          go_wp2
          go_roundg (gk - 1)
          case measure => have := hI0h.out.2; omega
          case rel => exact ⟨xs, again, rfl, hown, hPh.out.head (fun p hp q hq => hNin.out p hp q hq) hI0h.out.2, hg⟩
        | succ p =>
          obtain rfl : x = (p : Int) := by omega
          clear hx
          have hpn : p < c.instrs.length := by omega
          have hs := hs2.grown hg hHg
          have hxr := (hg.block w.heap.size (by omega) (fun e => by injection e with e; omega)).trans hx2
          have q := box7 hxr
          have l0 := (Array.getElem?_eq_some_iff.1 hxr).1
          have hR0 := Lib.hid hPh.out.start2
          have hxl : xs.length = c.instrs.length := hPh.out.1.len
          clear hPh
          go_wp2_with fail
          refine (hN.out _ hs p hpn).mono ?_
          rintro e wN ⟨⟨vn, rfl, hownN⟩, hBN⟩
          have hx := hownN.read (H := H) (fun y hy => by have := hNin.out p hpn y hy; exact ⟨by omega, by omega⟩) (by have h1 := nextL_len c p; unfold maxN; omega)
          have hKN := extH.sees hs hBN
          have hgl2 := (hown.lt (k := g) rfl).2
          have hKg : extH H wr wN g = none := by unfold extH; rw [if_pos hgl2]; exact hHg
          have hgN : w2.grownBy wN (some g) := hg.trans (grown_below hBN _)
          have hownI := hown.below hBN
          have hsN := hs.below hBN
          have hn2 := nextL_len c p
          generalize extH H wr wN = K3 at *
          clear q l0 hownN hBN hg hown hs hxr hgl2
          obtain ⟨An, cn, rfl, -, -⟩ := hx.open_
          go_wp2_with fail
          obtain ⟨wi, rfl⟩ : ∃ wi : World, wi = wN := ⟨_, rfl⟩
          go_loopw [10, 13] (fun a iv wj => ∃ (j : Nat) (xs : List Int) (more : Bool), j ≤ (nextL c p).length ∧ iv = .int .i64 j ∧ a = .bool more ∧ Aside (PassR c.instrs.length (nextL c) us ds xs0 xs more p j) ∧ OwnI wj g (.slice (some ⟨g, 0, none⟩) c.instrs.length c.instrs.length) xs ∧ wi.grownBy wj (some g)) (fun _ iv _ => (nextL c p).length - (intOf iv).toNat)
          case atStart => exact ⟨0, xs, again, Nat.zero_le _, rfl, rfl, hR0.out, hownI, grown_refl _ _⟩
          clear hR0 hownI hxl
          case round =>
            obtain ⟨j, xs, more, hj, rfl, rfl, hR, hown, hgj⟩ := hrel
            have hRh := Lib.hid hR
            clear hR
            have hxl : xs.length = c.instrs.length := hRh.out.1.len
            by_cases hjt : j < (nextL c p).length
            · have hjt' : (j : Int) < (nextL c p).length := by omega
              have hj0 : (0 : Int) ≤ (j : Int) := by omega
              obtain ⟨bm, om, cm2, em, -, hbm, hmcell, -⟩ := hx.ints (by omega)
              cases em
              have hsj := hKN.grown hgj hKg
              have hsH := hsN.grown hgj hHg
              have d1 := hmcell wr hsj j hjt
              have lm := hsj.lt' hbm
              have hy : (nextL c p)[j]? = some ((nextL c p).getD j 0) := by simp [hjt]
              obtain ⟨hi0, hi1⟩ := hNin.out p hpn _ (List.mem_of_getElem? hy)
              clear hmcell
              have hnx := hRh.out.next hpn (hdfh.out p hpn) hy ⟨hi0, hi1⟩
              obtain ⟨q, hq⟩ : ∃ q : Nat, (nextL c p).getD j 0 = (q : Int) := ⟨((nextL c p).getD j 0).toNat, by omega⟩
              rw [hq] at d1 hi0 hi1 hnx
              rw [Int.toNat_natCast] at hnx
              clear hq hy
              have hqn : q < c.instrs.length := by omega
              have hpp : (p : Int) < c.instrs.length := by omega
              have hp0 : (0 : Int) ≤ (p : Int) := by omega
              have e1 := hown.cellk (j := q) (by omega)
              have e2 := hdch.out wr hsH p hpn
              have e3 := hown.cellk (j := p) (by omega)
              have l4 := hsH.lt' hbd
              have l5 := (hown.lt (k := g) rfl).2
              have hfr := hown.free p
              obtain ⟨xq, hxq⟩ : ∃ y, xs.getD q 0 = y := ⟨_, rfl⟩
              obtain ⟨xp, hxp⟩ : ∃ y, xs.getD p 0 = y := ⟨_, rfl⟩
              obtain ⟨dp, hdp⟩ : ∃ y, ds.getD p 0 = y := ⟨_, rfl⟩
              rw [hxq] at e1 hnx
              rw [hdp] at e2 hnx
              rw [hxp] at e3 hnx
              have hnxh := Lib.hid hnx
              have hrest := hown.setN (k := p) hxl hpn (uni xp (dif xq dp))
              have hresth := Lib.hid hrest
              clear hxq hxp hdp hnx hxl hrest
              by_cases hd1 : uni xp (dif xq dp) = xp
              · have hb1 : (bits .or .i64 xp (bits .andNot .i64 xq dp) != xp) = false := by simpa [uni, dif] using hd1
                have hR2 := Lib.hid (hnxh.out.1 hd1)
                clear hd1
                go_wp2_with fail
                go_quiet (fail)
                have e4 : (wr.drewN nq).cell? ⟨g, p, none⟩ = some (.int .i64 xp) := e3
                go_wp2
                go_roundw
                case rel => exact ⟨j + 1, xs, more, by omega, by go_num, rfl, hR2.out, hown, grow_drewN hgj nq⟩
                case measure => simp [intOf]; omega
              · have hb1 : (bits .or .i64 xp (bits .andNot .i64 xq dp) != xp) = true := by simpa [uni, dif] using hd1
                have hR2 := Lib.hid (hnxh.out.2 hd1)
                clear hd1
                go_wp2_with fail
                go_quiet (fail)
                have e4 : (wr.drewN nq).cell? ⟨g, p, none⟩ = some (.int .i64 xp) := e3
                have f4 : (wr.drewN nq).frozen? ⟨g, p, none⟩ = false := hfr
                go_wp2
                go_roundw
                case rel => exact ⟨j + 1, _, true, by omega, by go_num, rfl, hR2.out, hresth.out, grown_set (grow_drewN hgj nq)⟩
                case measure => simp [intOf]; omega
            · have hltn2 : ¬ (j : Int) < (nextL c p).length := by omega
              obtain rfl : j = (nextL c p).length := by omega
              have hP := Lib.hid hRh.out.done
              clear hjt
              go_wp2
              go_roundw
              case rel => exact ⟨p, xs, more, _, by omega, rfl, by go_num, rfl, hown, hP.out, hgN.trans hgj⟩
              case measure => simp [intOf] <;> omega
end Go.Proofs.YtififjlgjmgikaaGreat
