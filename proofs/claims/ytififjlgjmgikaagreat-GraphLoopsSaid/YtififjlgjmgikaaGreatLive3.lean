/- graph.CheckLive. GraphLeast, walked. -/
import Derived.Test.YtififjlgjmgikaaGreatLiveA
namespace Go.Proofs.YtififjlgjmgikaaGreat
set_option linter.all false
open Go.RowKit

set_option maxHeartbeats 2000000 in
set_option maxRecDepth 100000 in
theorem graph_CheckLive_no (H : PH) (v vu vd vl : Value) (c : CodeD) (us ds ls : List Int) (w : World) (hw : Sees w H) (hc : CodeV H v c) (hu : SlV rInt H vu us) (hd : SlV rInt H vd ds) (hl : SlV rInt H vl ls) (hE : setsE c [us, ds, ls] ≠ 0) :
    Calls Tryz.prog 27 #[v, vu, vd, vl] w fun e w' => e = .returned (.int .i64 (setsE c [us, ds, ls])) ∧ Below w.heap.size w w' := by
  have hc0 := hc
  obtain ⟨s0, s1, s2, s3, s4, s5, s6, rfl, hc⟩ := hc
  have hB0 : Below w.heap.size w ((w.alloc (.cells #[s0, s1, s2, s3, s4, s5, s6] 30)).alloc (.cells #[vu, vd, vl] 28)) := ((Below.refl _ _).alloc (Nat.le_refl _) _).alloc (by simp) _
  have hS := fun (K : PH) (hK : PH.le H K) (hs : Sees ((w.alloc (.cells #[s0, s1, s2, s3, s4, s5, s6] 30)).alloc (.cells #[vu, vd, vl] 28)) K) (hg : K (w.heap.size + 1) = some (.cells #[vu, vd, vl] 28 (0, 0))) => graph_sets K _ _ c [us, ds, ls] _ hs (hc0.mono hK) (three_rows hg (hu.mono hK) (hd.mono hK) (hl.mono hK))
  have hS2 := hS (extH H w _) (extH.le hw _) (extH.sees hw hB0) (extH.new (by omega) (blk1 _ _ _))
  clear hS hc0 hc
  generalize setsE c [us, ds, ls] = E at *
  obtain ⟨Au, cu, rfl, -, -⟩ := hu.open_
  obtain ⟨Ad, cd, rfl, -, -⟩ := hd.open_
  obtain ⟨Al, cl, rfl, -, -⟩ := hl.open_
  have hne : (E != 0) = true := by simpa using hE
  clear hE
  go_enter Tryz.func27, Tryz.ntmps27
  go_wp2_with (go_at_call 60; refine hS2.mono ?_; rintro e w1 ⟨rfl, hB1⟩)
  go_ret
  exact ⟨rfl, bstep hB0 hB1⟩
open Classical in
noncomputable def ckE (n : Nat) (nx : Nat → List Int) (us ds ls : List Int) : Int := if ∀ p, p < n → CkP nx us ds ls p then 0 else 8
set_option maxHeartbeats 4000000 in
set_option maxRecDepth 100000 in
theorem graph_CheckLive_ok (H : PH) (v vu vd vl : Value) (c : CodeD) (us ds ls : List Int) (w : World) (hw : Sees w H) (hc : CodeV H v c) (hu : SlV rInt H vu us) (hd : SlV rInt H vd ds) (hl : SlV rInt H vl ls) (hE : setsE c [us, ds, ls] = 0) :
    Calls Tryz.prog 27 #[v, vu, vd, vl] w fun e w' => e = .returned (.int .i64 (ckE c.instrs.length (nextL c) us ds ls)) ∧ Below w.heap.size w w' := by
  obtain ⟨hf, hls⟩ := setsE_ok hE
  obtain ⟨hul, huf⟩ := hls us (by simp)
  obtain ⟨hdl, hdf⟩ := hls ds (by simp)
  obtain ⟨hll, hlf⟩ := hls ls (by simp)
  have hfb := fine_bounds hf
  have n0 := hfb.i1
  have n1 := hfb.i0
  have hc0 := hc
  obtain ⟨s0, s1, s2, s3, s4, s5, s6, rfl, hc⟩ := hc
  have hB0 : Below w.heap.size w ((w.alloc (.cells #[s0, s1, s2, s3, s4, s5, s6] 30)).alloc (.cells #[vu, vd, vl] 28)) := ((Below.refl _ _).alloc (Nat.le_refl _) _).alloc (by simp) _
  have hS := fun (K : PH) (hK : PH.le H K) (hs : Sees ((w.alloc (.cells #[s0, s1, s2, s3, s4, s5, s6] 30)).alloc (.cells #[vu, vd, vl] 28)) K) (hg : K (w.heap.size + 1) = some (.cells #[vu, vd, vl] 28 (0, 0))) => graph_sets K _ _ c [us, ds, ls] _ hs (hc0.mono hK) (three_rows hg (hu.mono hK) (hd.mono hK) (hl.mono hK))
  have hS2 := hS (extH H w _) (extH.le hw _) (extH.sees hw hB0) (extH.new (by omega) (blk1 _ _ _))
  rw [hE] at hS2
  have hx0 : ((w.alloc (.cells #[s0, s1, s2, s3, s4, s5, s6] 30)).alloc (.cells #[vu, vd, vl] 28)).heap[w.heap.size]? = some (.cells #[s0, s1, s2, s3, s4, s5, s6] 30 (0, 0)) := ga_old (ga_new _ _)
  have hN := Lib.hid (fun (w1 : World) (hs : Sees w1 H) => graph_nexts H _ c w1 hs hc0 hf)
  clear hS hc0 hc hE hls
  obtain ⟨bu, ou, cu, rfl, -, hbu, hucell, -⟩ := hu.ints (by omega)
  obtain ⟨bd, od, cd, rfl, -, hbd, hdcell, -⟩ := hd.ints (by omega)
  obtain ⟨bl, ol, cl, rfl, -, hbl, hlcell, -⟩ := hl.ints (by omega)
  rw [hul, hdl, hll] at hS2 hB0 hx0 ⊢
  have hnl : (nextsL c).length = c.instrs.length := by simp [nextsL]
  have hulh := Lib.hid hul
  have hdlh := Lib.hid hdl
  have hllh := Lib.hid hll
  have huch := Lib.hid hucell
  have hdch := Lib.hid hdcell
  have hlch := Lib.hid hlcell
  have hufh := Lib.hid huf
  have hdfh := Lib.hid hdf
  have hlfh := Lib.hid hlf
  have hnlh := Lib.hid hnl
  have hNin := Lib.hid (fun (j : Nat) (hj : j < c.instrs.length) => next_in hf hj)
  clear hucell hdcell hlcell hdf huf hlf hul hdl hll hd hu hl hnl hf
  go_enter Tryz.func27, Tryz.ntmps27
  go_wp2_with (first
    | (go_at_call 60; refine hS2.mono ?_; rintro e w1 ⟨rfl, hB1⟩; have hBa := bstep hB0 hB1; have hx1 := blk_keep hB1 hx0; have q := box7 hx1; have hl1 : w.heap.size < w1.heap.size := (Array.getElem?_eq_some_iff.1 hx1).1)
    | (go_at_call 61; refine (hN.out _ (hw.below hBa)).mono ?_; rintro e w2 ⟨⟨vn, rfl, hvn⟩, hB2⟩; clear q; have hBb := bstep hBa hB2; obtain ⟨bn, on, cn, rfl, -, hbn, hrow⟩ := hvn.rows (by rw [hnlh.out]; omega); rw [hnlh.out]))
  have hsK : Sees w2 (extH H w1 w2) := extH.sees (hw.below hBa) hB2
  have hKl : PH.le H (extH H w1 w2) := extH.le (hw.below hBa) w2
  have hKn : ∀ b, H b ≠ none → extH H w1 w2 b ≠ none := fun b hb => by
    obtain ⟨o, ho⟩ := Option.ne_none_iff_exists'.1 hb
    rw [hKl _ _ ho]; simp
  have hbuK := hKn _ hbu
  have hbdK := hKn _ hbd
  have hblK := hKn _ hbl
  have hsee := Lib.hid (fun (wx : World) (hs : Sees wx (extH H w1 w2)) => (show Sees wx H from fun i o e => hs i o (hKl i o e)))
  rw [hnlh.out] at hrow hvn
  have hrowh := Lib.hid hrow
  clear hrow hvn hKl hS2 hN hB0 hx0 hB1 hB2 hx1 hBa hKn hbu hbd hbl
  generalize extH H w1 w2 = K at *
  go_loopw [27] (fun i wr => ∃ k : Nat, k ≤ c.instrs.length ∧ i = .int .i64 k ∧ Aside (∀ p, p < k → CkP (nextL c) us ds ls p) ∧ Below w2.heap.size w2 wr) (fun i _ => c.instrs.length - (intOf i).toNat)
  case atStart => exact ⟨0, Nat.zero_le _, rfl, fun p hp => by omega, Below.refl _ _⟩
  case round =>
    obtain ⟨p, hk, rfl, hP, hB⟩ := hrel
    have hPh := Lib.hid hP
    clear hP
    by_cases hpn : p < c.instrs.length
    · have hs := hsK.below hB
      obtain ⟨u, hu2, hcl⟩ := hrowh.out p (by omega)
      rw [show (nextsL c).getD p [] = nextL c p by simp [nextsL, hpn]] at hu2
      replace hcl := hcl wr hs
      have hbnl := hs.lt' hbn
      have hcu := huch.out wr (hsee.out wr hs) p (by rw [hulh.out]; exact hpn)
      have hbul := hs.lt' hbuK
      obtain ⟨A2, cu2, rfl, -, -⟩ := hu2.open_
      have hul2 := hu2.le
      have hC0 := CkI.start (nx := nextL c) (ds := ds) (ls := ls) (hufh.out p hpn)
      generalize us.getD p 0 = y at *
      have hC0h := Lib.hid hC0
      clear hC0
      go_wp2
      obtain ⟨wj, rfl⟩ : ∃ wj : World, wj = wr := ⟨_, rfl⟩
      go_loopw [12, 38] (fun sv iv wi => ∃ (j : Nat) (s : Int), j ≤ (nextL c p).length ∧ iv = .int .i64 j ∧ sv = .int .i64 s ∧ Aside (CkI (nextL c) us ds ls p j s) ∧ Below w2.heap.size w2 wi) (fun _ iv _ => (nextL c p).length - (intOf iv).toNat)
      case atStart => exact ⟨0, y, Nat.zero_le _, rfl, rfl, hC0h.out, hB⟩
      clear hB hC0h hcl hcu hbul hs hbnl
      case round =>
        obtain ⟨j, s, hj, rfl, rfl, hA, hB⟩ := hrel
        have hAh := Lib.hid hA
        clear hA
        have hs := hsK.below hB
        have hbll := hs.lt' hblK
        by_cases hlt : j < (nextL c p).length
        · obtain ⟨be, oe, ce', hve, -, hbe, hce, -⟩ := hu2.ints (by omega)
          cases hve
          have hcl := hce wr hs j hlt
          have hbel := hs.lt' hbe
          have hx : (nextL c p)[j]? = some ((nextL c p).getD j 0) := by simp [hlt]
          have hin := hNin.out p hpn _ (List.mem_of_getElem? hx)
          obtain ⟨q, hq⟩ : ∃ q : Nat, (nextL c p).getD j 0 = (q : Int) := ⟨((nextL c p).getD j 0).toNat, by omega⟩
          rw [hq] at hcl hin hx
          have hqn : q < c.instrs.length := by omega
          have hcq := hlch.out wr (hsee.out wr hs) q (by rw [hllh.out]; exact hqn)
          have hcd := hdch.out wr (hsee.out wr hs) p (by rw [hdlh.out]; exact hpn)
          have hbdl := hs.lt' hbdK
          have hnx := hAh.out.next (hdfh.out p hpn) (q := (q : Int)) (by rw [Int.toNat_natCast]; exact hlfh.out q hqn) hx
          rw [Int.toNat_natCast] at hnx
          have hnxh := Lib.hid hnx
          clear hnx hce hx hq
          generalize ls.getD q 0 = xq at *
          generalize ds.getD p 0 = dp at *
          go_wp2_with fail
          go_quiet (fail)
          go_wp2
          go_roundw
          case rel => exact ⟨j + 1, _, by omega, by go_num, rfl, hnxh.out, ⟨hB.os, hB.tape, hB.output, hB.size, hB.block⟩⟩
          case measure => simp [intOf]; omega
        · obtain rfl : j = (nextL c p).length := by omega
          have hltn : ¬ ((nextL c p).length : Int) < (nextL c p).length := by omega
          have hcl := hlch.out wr (hsee.out wr hs) p (by rw [hllh.out]; exact hpn)
          have hdn := hAh.out.done (hlfh.out p hpn)
          generalize ls.getD p 0 = lp at *
          by_cases hz : dif s lp = 0
          · have hck := Lib.hid (hdn.1 hz)
            have hb : (bits .andNot .i64 s lp != 0) = false := by simpa [dif] using hz
            clear hdn hz hlt
            go_wp2
            go_roundw
            case rel => exact ⟨p + 1, by omega, by go_num, fun k hk => if e : k = p then by rw [e]; exact hck.out else hPh.out k (by omega), hB⟩
            case measure => simp [intOf]; omega
          · have hck : ¬ CkP (nextL c) us ds ls p := fun h => hz (hdn.2 h)
            have hckh := Lib.hid hck
            have hb : (bits .andNot .i64 s lp != 0) = true := by simpa [dif] using hz
            clear hdn hz hlt hck
            go_wp2
            go_ret
            refine ⟨ret_num ?_, hBb.trans (hB.mono hBb.size)⟩
            unfold ckE
            rw [if_neg]
            exact fun h => hckh.out (h p hpn)
    · obtain rfl : p = c.instrs.length := by omega
      have hltn : ¬ (c.instrs.length : Int) < c.instrs.length := by omega
      clear hpn
      go_wp2
      go_ret
      refine ⟨ret_num ?_, hBb.trans (hB.mono hBb.size)⟩
      unfold ckE
      rw [if_pos]
      exact hPh.out
end Go.Proofs.YtififjlgjmgikaaGreat
namespace Go.Proofs.YtififjlgjmgikaaGreat
set_option linter.all false
open Go.RowKit

theorem setB_of {n : Nat} {l : List Int} (hl : l.length = n) (h : ∀ p, p < n → FS (l.getD p 0)) : setB n l = true := by
  unfold setB
  simp only [Bool.and_eq_true, decide_eq_true_eq, Bool.not_eq_true', List.any_eq_false]
  refine ⟨hl, fun x hx => ?_⟩
  obtain ⟨i, hi⟩ := List.getElem?_of_mem hx
  have h1 := h i (by have := (List.getElem?_eq_some_iff.1 hi).1; omega)
  rw [List.getD_eq_getElem?_getD, hi, Option.getD_some] at h1
  have h2 := h1.1
  have h3 := h1.2
  simp [badS, withinB]
  omega
theorem setsE_mk {c : CodeD} {ls : List (List Int)} (hf : fineB c = true) (h : ∀ l ∈ ls, setB c.instrs.length l = true) : setsE c ls = 0 := by
  unfold setsE
  rw [if_pos hf, if_pos (List.all_eq_true.2 h)]
theorem setsE_set {c : CodeD} {ls : List (List Int)} (h : setsE c ls = 0) : ∀ l ∈ ls, setB c.instrs.length l = true := by
  unfold setsE at h
  split at h
  · split at h
    · rename_i ha; exact List.all_eq_true.1 ha
    · cases h
  · cases h
theorem liveL_closed {n : Nat} {nx : Nat → List Int} {us ds xs : List Int} (h : LiveL n nx us ds xs) (hN : ∀ p, p < n → ∀ q ∈ nx p, 0 ≤ q ∧ q < n) (p : Nat) (hp : p < n) : CkP nx us ds xs p := by
  refine ⟨fun i hi => (h.iff_ p i hp).2 (.use hi), fun q hq i hi hd => ?_⟩
  have h1 := hN p hp q hq
  exact (h.iff_ p i hp).2 (.step hq hd ((h.iff_ q.toNat i (by omega)).1 hi))
theorem ckE_zero {n : Nat} {nx : Nat → List Int} {us ds ls : List Int} : ckE n nx us ds ls = 0 ↔ ∀ p, p < n → CkP nx us ds ls p := by
  unfold ckE
  split
  · rename_i h; exact ⟨fun _ => h, fun _ => rfl⟩
  · rename_i h; exact ⟨fun e => by omega, fun e => absurd e h⟩
noncomputable def ckAll (c : CodeD) (us ds ls : List Int) : Int := if setsE c [us, ds, ls] = 0 then ckE c.instrs.length (nextL c) us ds ls else setsE c [us, ds, ls]
theorem graph_CheckLive_all (H : PH) (v vu vd vl : Value) (c : CodeD) (us ds ls : List Int) (w : World) (hw : Sees w H) (hc : CodeV H v c) (hu : SlV rInt H vu us) (hd : SlV rInt H vd ds) (hl : SlV rInt H vl ls) :
    Calls Tryz.prog 27 #[v, vu, vd, vl] w fun e w' => e = .returned (.int .i64 (ckAll c us ds ls)) ∧ Below w.heap.size w w' := by
  unfold ckAll
  by_cases h : setsE c [us, ds, ls] = 0
  · rw [if_pos h]; exact graph_CheckLive_ok H v vu vd vl c us ds ls w hw hc hu hd hl h
  · rw [if_neg h]; exact graph_CheckLive_no H v vu vd vl c us ds ls w hw hc hu hd hl h
theorem ckAll_zero {c : CodeD} {us ds ls : List Int} : ckAll c us ds ls = 0 ↔ setsE c [us, ds, ls] = 0 ∧ ∀ p, p < c.instrs.length → CkP (nextL c) us ds ls p := by
  unfold ckAll
  split
  · rename_i h; rw [ckE_zero]; exact ⟨fun k => ⟨h, k⟩, fun k => k.2⟩
  · rename_i h; exact ⟨fun k => absurd k h, fun k => absurd k.1 h⟩
end Go.Proofs.YtififjlgjmgikaaGreat
