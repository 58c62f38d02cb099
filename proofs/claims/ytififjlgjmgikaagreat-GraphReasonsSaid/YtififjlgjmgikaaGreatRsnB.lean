/- GraphReasons, in plain Lean (no program): what Reason's walk comes to. The reference's isFact, ReasonError. The reference's different, IsReason. The reference's IsReason, at a path that Reason returns. -/
import Derived.Test.YtififjlgjmgikaaGreatLivesW
import Derived.Test.YtififjlgjmgikaaGreatRsnA
namespace Go.Proofs.YtififjlgjmgikaaGreat
set_option linter.all false
open Go.RowKit

/-- Reason finds a path iff the fact is live. -/
theorem rsn_live {c : CodeD} {us ds : List Int} {f : Nat} {a : Int} {n : Nat} (hN : ∀ p, p < n → ∀ q ∈ nextL c p, 0 ≤ q ∧ q < n) (ha : 0 ≤ a ∧ a < n) :
    (∃ p : Int, Reach (· ∈ [a]) (fun x y => y ∈ rsN c us ds f x) p ∧ (0 ≤ p ∧ p < n) ∧ fb (us.getD p.toNat 0) f = true) ↔ LiveR (nextL c) us ds f a.toNat := by
  constructor
  · rintro ⟨p, hr, -, hu⟩
    have key : ∀ x, Reach (· ∈ [a]) (fun x y => y ∈ rsN c us ds f x) x → LiveR (nextL c) us ds f x.toNat → LiveR (nextL c) us ds f a.toNat := by
      intro x hx
      induction hx with
      | start h => intro hl; simp at h; subst h; exact hl
      | step _ h1 ih => intro hl; exact ih (.step (rsN_mem.1 h1).2.2 (rsN_mem.1 h1).2.1 hl)
    exact key p hr (.use hu)
  · intro hl
    have key : ∀ k : Nat, LiveR (nextL c) us ds f k → k < n → Reach (· ∈ [a]) (fun x y => y ∈ rsN c us ds f x) (k : Int) → ∃ p : Int, Reach (· ∈ [a]) (fun x y => y ∈ rsN c us ds f x) p ∧ (0 ≤ p ∧ p < n) ∧ fb (us.getD p.toNat 0) f = true := by
      intro k hk
      induction hk with
      | use h => intro h1 h2; exact ⟨_, h2, ⟨by omega, by omega⟩, by simpa using h⟩
      | @step p q hq hd _ ih =>
        intro h1 h2
        cases hu : fb (us.getD p 0) f
        · have hb := hN p h1 q hq
          obtain ⟨m, rfl⟩ : ∃ m : Nat, q = (m : Int) := ⟨q.toNat, by omega⟩
          exact ih (by simp at *; omega) (.step h2 (rsN_mem.2 ⟨by simpa using hu, by simpa using hd, by simpa using hq⟩))
        · exact ⟨_, h2, ⟨by omega, by omega⟩, by simpa using hu⟩
    have := key a.toNat hl (by omega) (.start (by simp; omega))
    exact this
end Go.Proofs.YtififjlgjmgikaaGreat
namespace Go.Proofs.YtififjlgjmgikaaGreat
set_option linter.all false
open Go.RowKit

theorem r19_isFact (H : PH) (v : Value) (c : CodeD) (a f : Int) (w : World) (hc : CodeV H v c) :
    Calls Tryz.prog 69 #[v, .int .i64 a, .int .i64 f] w fun e w' => e = .returned (.bool (factB c.instrs.length a f)) ∧ Below w.heap.size w w' := by
  have hc0 := hc
  obtain ⟨s0, s1, s2, s3, s4, s5, s6, rfl, hc⟩ := hc
  have hx0 := ga_new w (.cells #[s0, s1, s2, s3, s4, s5, s6] 30)
  have hB0 : Below w.heap.size w (w.alloc (.cells #[s0, s1, s2, s3, s4, s5, s6] 30)) := (Below.refl _ _).alloc (Nat.le_refl _) _
  obtain ⟨A0, cA, rfl, -, -⟩ := hc.instrs.open_
  clear hc hc0
  have q := box7 hx0
  go_enter Tryz.func69, Tryz.ntmps69
  go_wp2
  all_goals (go_ret; exact ⟨ret_bool (by
    cases h : factB c.instrs.length a f
    · have h2 := mt factB_iff.2 (by rw [h]; simp); first | rfl | (simp; omega)
    · have h2 := factB_iff.1 h; first | rfl | (simp; omega)), hB0⟩)
/-- The error of Reason. -/
def rsE (c : CodeD) (us ds : List Int) (a f : Int) (xs : List Int) : Int := if setsE c [us, ds] = 0 then (if factB c.instrs.length a f = true then (if fb (xs.getD a.toNat 0) f.toNat = true then 0 else 4) else 5) else setsE c [us, ds]
set_option maxHeartbeats 2000000 in
set_option maxRecDepth 100000 in
theorem r19_ReasonError_no (H : PH) (v vu vd : Value) (c : CodeD) (us ds : List Int) (a f : Int) (w : World) (hw : Sees w H) (hc : CodeV H v c) (hu : SlV rInt H vu us) (hd : SlV rInt H vd ds) (hE : setsE c [us, ds] ≠ 0) :
    Calls Tryz.prog 30 #[v, vu, vd, .int .i64 a, .int .i64 f] w fun e w' => e = .returned (.int .i64 (setsE c [us, ds])) ∧ Below w.heap.size w w' := by
  have hc0 := hc
  obtain ⟨s0, s1, s2, s3, s4, s5, s6, rfl, hc⟩ := hc
  have hx0 := ga_new w (.cells #[s0, s1, s2, s3, s4, s5, s6] 30)
  have hB0 : Below w.heap.size w (w.alloc (.cells #[s0, s1, s2, s3, s4, s5, s6] 30)) := (Below.refl _ _).alloc (Nat.le_refl _) _
  have hR := Lib.hid (fun (w1 : World) (hs : Sees w1 H) => r19_Live_no H _ vu vd c us ds w1 hs hc0 hu hd hE)
  have hne : (setsE c [us, ds] != 0) = true := by simpa using hE
  generalize setsE c [us, ds] = E at *
  clear hE hc hc0
  have q := box7 hx0
  go_enter Tryz.func30, Tryz.ntmps30
  go_wp2_with (go_at_call 26; refine (hR.out _ (hw.below hB0)).mono ?_; rintro e w1 ⟨rfl, hB1⟩)
  go_ret
  exact ⟨rfl, bstep hB0 hB1⟩
set_option maxHeartbeats 2000000 in
set_option maxRecDepth 100000 in
theorem r19_ReasonError_bad (H : PH) (v vu vd : Value) (c : CodeD) (us ds : List Int) (a f : Int) (w : World) (hw : Sees w H) (hc : CodeV H v c) (hu : SlV rInt H vu us) (hd : SlV rInt H vd ds) (hE : setsE c [us, ds] = 0) (hF : factB c.instrs.length a f = false) :
    Calls Tryz.prog 30 #[v, vu, vd, .int .i64 a, .int .i64 f] w fun e w' => e = .returned (.int .i64 5) ∧ Below w.heap.size w w' := by
  have hc0 := hc
  obtain ⟨s0, s1, s2, s3, s4, s5, s6, rfl, hc⟩ := hc
  have hx0 := ga_new w (.cells #[s0, s1, s2, s3, s4, s5, s6] 30)
  have hB0 : Below w.heap.size w (w.alloc (.cells #[s0, s1, s2, s3, s4, s5, s6] 30)) := (Below.refl _ _).alloc (Nat.le_refl _) _
  have hR := Lib.hid (fun (w1 : World) (hs : Sees w1 H) => r19_Live_ok H _ vu vd c us ds w1 hs hc0 hu hd hE)
  have hI := Lib.hid (fun (w1 : World) => r19_isFact H _ c a f w1 hc0)
  have hFh := Lib.hid hF
  clear hE hc hc0 hF
  have q := box7 hx0
  go_enter Tryz.func30, Tryz.ntmps30
  go_wp2_with (first
    | (go_at_call 26; refine (hR.out _ (hw.below hB0)).mono ?_; rintro e w1 ⟨⟨v1, xs, rfl, hown, hl⟩, hB1⟩; have hBa := bstep hB0 hB1; have hx1 := blk_keep hB1 hx0; clear q; have q := box7 hx1; have l1 := (Array.getElem?_eq_some_iff.1 hx1).1)
    | (go_at_call 69; refine (hI.out _).mono ?_; rintro e w2 ⟨rfl, hB2⟩; rw [hFh.out]))
  go_ret
  exact ⟨rfl, bstep hBa hB2⟩
set_option maxHeartbeats 2000000 in
set_option maxRecDepth 100000 in
theorem r19_ReasonError_ok (H : PH) (v vu vd : Value) (c : CodeD) (us ds : List Int) (a f : Nat) (w : World) (hw : Sees w H) (hc : CodeV H v c) (hu : SlV rInt H vu us) (hd : SlV rInt H vd ds) (hE : setsE c [us, ds] = 0) (hF : factB c.instrs.length a f = true) :
    Calls Tryz.prog 30 #[v, vu, vd, .int .i64 a, .int .i64 f] w fun e w' => (∃ xs, LiveL c.instrs.length (nextL c) us ds xs ∧ e = .returned (.int .i64 (if fb (xs.getD a 0) f = true then 0 else 4))) ∧ Below w.heap.size w w' := by
  have har := factB_iff.1 hF
  have ha : a < c.instrs.length := by omega
  have hf60 : f < 60 := by omega
  have n0 := (fine_bounds (setsE_ok hE).1).i1
  have hc0 := hc
  obtain ⟨s0, s1, s2, s3, s4, s5, s6, rfl, hc⟩ := hc
  have hx0 := ga_new w (.cells #[s0, s1, s2, s3, s4, s5, s6] 30)
  have hB0 : Below w.heap.size w (w.alloc (.cells #[s0, s1, s2, s3, s4, s5, s6] 30)) := (Below.refl _ _).alloc (Nat.le_refl _) _
  have hR := Lib.hid (fun (w1 : World) (hs : Sees w1 H) => r19_Live_ok H _ vu vd c us ds w1 hs hc0 hu hd hE)
  have hI := Lib.hid (fun (w1 : World) => r19_isFact H _ c a f w1 hc0)
  have hFh := Lib.hid hF
  clear hE hc hc0 hF har
  have q := box7 hx0
  go_enter Tryz.func30, Tryz.ntmps30
  go_upto_region 6 with (first
    | (go_at_call 26; refine (hR.out _ (hw.below hB0)).mono ?_; rintro e w1 ⟨⟨v1, xs, rfl, hown, hl⟩, hB1⟩; have hBa := bstep hB0 hB1; have hx1 := blk_keep hB1 hx0; clear q; have q := box7 hx1; have l1 := (Array.getElem?_eq_some_iff.1 hx1).1)
    | (go_at_call 69; refine (hI.out _).mono ?_; rintro e w2 ⟨rfl, hB2⟩; rw [hFh.out]))
  have hlen := hl.len
  have hfs := hl.fs a ha
  obtain ⟨bl, ol, cl, rfl, -, hbl, hcell, -⟩ := ((hown.below hB2).read (H := H) (liveL_i64' hl) (by unfold maxN; omega)).ints (by omega)
  have q2 := hcell w2 (extH.sees (hw.below hB0) (bstep hB1 hB2)) a (by omega)
  have l2 := (extH.sees (hw.below hB0) (bstep hB1 hB2)).lt' hbl
  have hlh := Lib.hid hl
  have hb := bit_and (xs.getD a 0) f hfs
  have hlenh := Lib.hid hlen
  rw [hlen] at *
  clear hcell hl hown hfs
  have hBz := bstep hBa hB2
  clear hR hI hFh hB0 hB1 hBa hB2 hx0 hx1 q l1
  generalize hy : xs.getD a 0 = y at *
  cases hfb : fb y f
  · rw [hfb] at hb
    simp only [Bool.false_eq_true, if_false] at hb
    go_wp2
    go_ret
    exact ⟨⟨xs, hlh.out, by first | (simp only [hy, hfb]; rfl) | (have hz := hfb; rw [← hy, List.getD_eq_getElem?_getD] at hz; simp [hz])⟩, hBz⟩
  · rw [hfb] at hb
    simp only [if_true] at hb
    go_wp2
    go_ret
    exact ⟨⟨xs, hlh.out, by first | (simp only [hy, hfb]; rfl) | (have hz := hfb; rw [← hy, List.getD_eq_getElem?_getD] at hz; simp [hz])⟩, hBz⟩
end Go.Proofs.YtififjlgjmgikaaGreat
namespace Go.Proofs.YtififjlgjmgikaaGreat
set_option linter.all false
open Go.RowKit

/-- What a path of Reason tells, place by place. -/
structure RsPath (c : CodeD) (us ds ls : List Int) (a f : Nat) : Prop where
  pos : 0 < ls.length
  first : ls.getD 0 0 = a
  range : ∀ i, i < ls.length → 0 ≤ ls.getD i 0 ∧ ls.getD i 0 < c.instrs.length
  step : ∀ i, i + 1 < ls.length → ls.getD (i + 1) 0 ∈ nextL c (ls.getD i 0).toNat ∧ fb (ds.getD (ls.getD i 0).toNat 0) f = false
  last : fb (us.getD (ls.getD (ls.length - 1) 0).toNat 0) f = true
  nodup : ls.Nodup
theorem rs_path {c : CodeD} {us ds ls : List Int} {a f : Nat} {x : Int} (h : PathTo c.instrs.length [(a : Int)] (rsN c us ds f) ls x) (hx : fb (us.getD x.toNat 0) f = true) : RsPath c us ds ls a f := by
  have hp := h.pos
  have hg : ∀ i, i < ls.length → ls[i]? = some (ls.getD i 0) := fun i hi => by simp [hi]
  refine ⟨hp, ?_, fun i hi => h.range _ (List.mem_of_getElem? (hg i hi)), fun i hi => ?_, ?_, h.nodup⟩
  · obtain ⟨y, h1, h2⟩ := h.first
    rw [hg 0 hp] at h1
    simp at h2
    injection h1 with h1
    rw [h1, h2]
  · have h1 := rsN_mem.1 (h.step i _ _ (hg i (by omega)) (hg (i + 1) hi))
    exact ⟨h1.2.2, h1.2.1⟩
  · have h1 := h.last
    rw [List.getLast?_eq_getElem?, hg _ (by omega)] at h1
    injection h1 with h1
    rw [h1]; exact hx
end Go.Proofs.YtififjlgjmgikaaGreat
namespace Go.Proofs.YtififjlgjmgikaaGreat
set_option linter.all false
open Go.RowKit

set_option maxHeartbeats 4000000 in
set_option maxRecDepth 100000 in
theorem r19_IsReason (H : PH) (v vu vd vl : Value) (c : CodeD) (us ds ls : List Int) (a f : Nat) (w : World) (hw : Sees w H) (hc : CodeV H v c) (hu : SlV rInt H vu us) (hd : SlV rInt H vd ds) (hl : SlV rInt H vl ls)
    (hE : setsE c [us, ds] = 0) (hF : factB c.instrs.length a f = true) (hP : RsPath c us ds ls a f) :
    Calls Tryz.prog 31 #[v, vu, vd, .int .i64 a, .int .i64 f, vl] w fun e w' => e = .returned (.bool true) ∧ Below w.heap.size w w' := by
  obtain ⟨hf, hls⟩ := setsE_ok hE
  obtain ⟨hul, huf⟩ := hls us (by simp)
  obtain ⟨hdl, hdf⟩ := hls ds (by simp)
  have hfb := fine_bounds hf
  have n0 := hfb.i1
  have n1 := hfb.i0
  have hf60 : f < 60 := by have := factB_iff.1 hF; omega
  have hpos := hP.pos
  have hll := hl.le
  have hl0 := hl
  have hFa := Lib.hid (fun (w1 : World) (hs : Sees w1 H) => r19_facts H _ vu vd c us ds w1 hs hc hu hd)
  have hI := Lib.hid (fun (w1 : World) => r19_isFact H _ c a f w1 hc)
  have hD := Lib.hid (fun (w1 : World) (hs : Sees w1 H) => r19_different H _ ls w1 hs hl)
  have hN := Lib.hid (fun (w1 : World) (hs : Sees w1 H) (p : Nat) (hp : p < c.instrs.length) => r14_Next H _ c w1 hs hc hf p hp)
  have hNin := Lib.hid (fun (p : Nat) (hp : p < c.instrs.length) => next_in hf hp)
  have hNl := Lib.hid (fun (p : Nat) => nextL_len c p)
  have hdiff : diffB ls = true := by unfold diffB; exact decide_eq_true hP.nodup
  obtain ⟨bu, ou, cu, rfl, -, hbu, huc, -⟩ := hu.ints (by omega)
  obtain ⟨bd, od, cd, rfl, -, hbd, hdc, -⟩ := hd.ints (by omega)
  obtain ⟨bl, ol, cl, rfl, hlcap, hbl, hlc, -⟩ := hl.ints hpos
  obtain ⟨s0, s1, s2, s3, s4, s5, s6, rfl, hc⟩ := hc
  obtain ⟨A0, c0, rfl, -, -⟩ := hc.instrs.open_
  have hx0 := ga_new w (.cells #[.slice A0 c.instrs.length c0, s1, s2, s3, s4, s5, s6] 30)
  have hB0 : Below w.heap.size w (w.alloc (.cells #[.slice A0 c.instrs.length c0, s1, s2, s3, s4, s5, s6] 30)) := (Below.refl _ _).alloc (Nat.le_refl _) _
  rw [hE] at hFa
  rw [hul] at huc hFa ⊢
  rw [hdl] at hdc hFa ⊢
  rw [hF] at hI
  rw [hdiff] at hD
  have hufh := Lib.hid huf
  have hdfh := Lib.hid hdf
  have huch := Lib.hid huc
  have hdch := Lib.hid hdc
  have hlch := Lib.hid hlc
  have hPh := Lib.hid hP
  have q := box7 hx0
  have qb : w.heap.size < (w.alloc (.cells #[.slice A0 c.instrs.length c0, s1, s2, s3, s4, s5, s6] 30)).heap.size := by simp
  have hpos' : ((ls.length : Int) == 0) = false := by rw [beq_eq_false_iff_ne]; omega
  have hpos2 : (0 : Int) < ls.length := by omega
  have haa : ((a : Int) != (a : Int)) = false := by simp
  clear huf hdf huc hdc hlc hP hc hE hF hdiff hls hf hfb hu hd hl hl0
  go_enter Tryz.func31, Tryz.ntmps31
  go_upto_region 3 with (first
    | (go_at_call 63; refine (hFa.out _ (hw.below hB0)).mono ?_; rintro e w1 ⟨rfl, hB1⟩; have hBa := bstep hB0 hB1; have hx1 := blk_keep hB1 hx0; clear q qb; have q := box7 hx1; have qb := (Array.getElem?_eq_some_iff.1 hx1).1)
    | (go_at_call 69; refine (hI.out _).mono ?_; rintro e w2 ⟨rfl, hB2⟩; replace hBa := bstep hBa hB2; replace hx1 := blk_keep hB2 hx1; clear q qb; have q := box7 hx1; have qb := (Array.getElem?_eq_some_iff.1 hx1).1; have ql := (hlch.out _ (hw.below hBa) 0 hpos).trans (by rw [hPh.out.first]); have qll := (hw.below hBa).lt' hbl; simp only [Nat.add_zero] at ql)
    | (go_at_call 59; refine (hD.out _ (hw.below hBa)).mono ?_; rintro e w3 ⟨rfl, hB3⟩; replace hBa := bstep hBa hB3; replace hx1 := blk_keep hB3 hx1; clear q qb))
  clear hFa hI hD hpos' haa ql qll hB1 hB2 hB3 hB0 hx0
  go_wp2_with fail
  go_loopw [13] (fun i wr => ∃ k : Nat, k ≤ ls.length ∧ i = .int .i64 k ∧ Below w.heap.size w wr ∧ wr.heap[w.heap.size]? = some (.cells #[.slice A0 c.instrs.length c0, s1, s2, s3, s4, s5, s6] 30 (0, 0))) (fun i _ => ls.length - (intOf i).toNat)
  case atStart => exact ⟨0, Nat.zero_le _, rfl, hBa, hx1⟩
  clear hBa hx1
  case round =>
    obtain ⟨k, hk, rfl, hB, hx⟩ := hrel
    have hsee := hw.below hB
    have qb := (Array.getElem?_eq_some_iff.1 hx).1
    have l1 := hsee.lt' hbl
    have l2 := hsee.lt' hbd
    have l3 := hsee.lt' hbu
    by_cases hlt : k < ls.length
    · have hlt' : (k : Int) < ls.length := by omega
      obtain ⟨r0, r1⟩ := hPh.out.range k hlt
      have t1 : decide (ls.getD k 0 < 0) = false := decide_eq_false (by omega)
      have t2 : decide ((c.instrs.length : Int) ≤ ls.getD k 0) = false := decide_eq_false (by omega)
      have hcs := Lib.hid (fun (w' : World) (h : w'.heap = wr.heap) => And.intro ((cell_heap h _).trans (hlch.out wr hsee k hlt)) (And.intro (size_heap h l1) (And.intro (box7 ((congrArg (·[w.heap.size]?) h).trans hx)) (size_heap h qb))))
      have hlk := hlch.out wr hsee k hlt
      obtain ⟨y, hy⟩ : ∃ y, ls.getD k 0 = y := ⟨_, rfl⟩
      rw [hy] at r0 r1 t1 t2 hcs hlk
      have hyh := Lib.hid hy
      have hxh := Lib.hid hx
      clear hx qb hy
      go_upto_region 6 with fail
      refine wp_region_plan (fun w' => w'.heap = wr.heap) [(0, true), (1, true), (2, true), (3, true), (4, true), (5, true), (6, true), (7, true), (8, true), (9, true), (10, true), (11, true), (12, true), (13, true), (14, true)] (by kernel_rfl) (by kernel_rfl) (by kernel_rfl) rfl ?_
      repeat first
        | (refine plan_skip rfl (by rfl) ?_; simp only [Act.put, List.setIfInBounds_toArray, List.set_cons_zero, List.set_cons_succ])
        | (refine plan_read (v := ?_) rfl (by rfl) ?_ ?_; rotate_left; (focus (intro w' hSw; obtain ⟨p1, p2, p3, p4⟩ := hcs.out _ hSw; clear hSw; go_simp; all_goals with_reducible rfl)); simp only [Act.put, List.setIfInBounds_toArray, List.set_cons_zero, List.set_cons_succ])
      refine plan_nil (NoPanic.normal ?_)
      clear t1 t2 hcs
      by_cases hk0 : k = 0
      · have t3 : decide ((0 : Int) < k) = false := decide_eq_false (by omega)
        go_upto_region 8 with fail
        refine wp_region_plan (fun w' => w'.heap = wr.heap) [(0, true), (1, true), (2, true), (3, true), (4, true), (5, true), (6, true), (7, true), (8, true), (9, true), (10, true), (11, true), (12, true), (13, true), (14, true), (15, true), (16, true), (17, true), (18, true), (19, true), (20, true), (21, true), (22, true), (23, true), (24, true), (25, true), (26, true), (27, true), (28, true), (29, true), (30, true)] (by kernel_rfl) (by kernel_rfl) (by kernel_rfl) rfl ?_
        repeat first
          | (refine plan_skip rfl (by rfl) ?_; simp only [Act.put, List.setIfInBounds_toArray, List.set_cons_zero, List.set_cons_succ])
          | (refine plan_read (v := ?_) rfl (by rfl) ?_ ?_; rotate_left; (focus (intro w' hSw; skip; clear hSw; go_simp; all_goals with_reducible rfl)); simp only [Act.put, List.setIfInBounds_toArray, List.set_cons_zero, List.set_cons_succ])
        refine plan_nil (NoPanic.normal ?_)
        go_wp2
        go_roundw
        case rel => exact ⟨k + 1, by omega, by go_num, bdrew (bdrew hB), hxh.out⟩
        case measure => simp [intOf]; omega
      · obtain ⟨m, hm⟩ : ∃ m, k = m + 1 := ⟨k - 1, by omega⟩
        have hml : m < ls.length := by omega
        have hml' : (m : Int) < ls.length := by omega
        have hm0 : (0 : Int) ≤ m := by omega
        obtain ⟨st1, st2⟩ := hPh.out.step m (by omega)
        obtain ⟨z0, z1⟩ := hPh.out.range m hml
        rw [← hm, hyh.out] at st1
        obtain ⟨z, hz⟩ : ∃ z : Nat, ls.getD m 0 = (z : Int) := ⟨(ls.getD m 0).toNat, by omega⟩
        rw [hz] at st1 st2 z0 z1
        rw [Int.toNat_natCast] at st1 st2
        have hzn : z < c.instrs.length := by omega
        have hfd := hdfh.out z hzn
        have hin : inB y (nextL c z) = true := by unfold inB; exact decide_eq_true st1
        have hinh := Lib.hid hin
        have hNz := Lib.hid (fun (w1 : World) (hs : Sees w1 H) => hN.out w1 hs z hzn)
        have hrd := Lib.hid (And.intro (hNin.out z hzn) (hNl.out z))
        have hz1 := hz
        have hcs := Lib.hid (fun (w' : World) (h : Sees w' H ∧ w'.heap[w.heap.size]? = wr.heap[w.heap.size]?) => And.intro ((hlch.out w' h.1 k hlt).trans (by rw [hyh.out])) (And.intro ((hlch.out w' h.1 m hml).trans (by rw [hz1])) (And.intro (hdch.out w' h.1 z hzn) (And.intro (h.1.lt' hbl) (And.intro (h.1.lt' hbd) (And.intro (box7 (h.2.trans hxh.out)) (Array.getElem?_eq_some_iff.1 (h.2.trans hxh.out)).1))))))
        have t3 : decide (0 < k) = true := decide_eq_true (by omega)
        have t4 : IntKind.i64.wrap ((k : Int) - 1) = (m : Int) := by rw [hm]; push_cast; rw [Int.add_sub_cancel]; exact IntWalk.i64_in _ (by omega)
        have hb := bit_and (ds.getD z 0) f hfd
        rw [st2] at hb
        simp only [Bool.false_eq_true, if_false] at hb
        generalize ds.getD z 0 = yd at *
        have hsr : Sees wr.drew.drew H := by exact fun i o e => hsee i o e
        clear st1 st2 hin hz hz1 hfd hm hk0
        go_upto_region 8 with fail
        refine wp_region_plan (fun w' => Sees w' H ∧ w'.heap[w.heap.size]? = wr.heap[w.heap.size]?) [(0, true), (1, true), (2, true), (3, true), (4, true), (5, true), (6, true), (7, true), (8, true), (9, true), (10, true), (11, true), (12, true), (13, false), (14, false), (15, true), (16, true), (17, true), (18, true), (19, true), (20, true), (21, true), (22, true), (23, true), (24, true), (25, true), (26, true), (27, true), (28, true), (29, true), (30, true)] (by kernel_rfl) (by kernel_rfl) (by kernel_rfl) ⟨by exact fun i o e => hsee i o e, rfl⟩ ?_
        repeat first
          | (refine plan_skip rfl (by rfl) ?_; simp only [Act.put, List.setIfInBounds_toArray, List.set_cons_zero, List.set_cons_succ])
          | (refine plan_read (v := ?_) rfl (by rfl) ?_ ?_; rotate_left; (focus (intro w' hSw; obtain ⟨p1, p2, p3, p4, p5, p6, p7⟩ := hcs.out _ hSw; clear hSw; go_simp; all_goals with_reducible rfl)); simp only [Act.put, List.setIfInBounds_toArray, List.set_cons_zero, List.set_cons_succ])
        refine plan_step rfl (by rfl) (fun K hK => ?_)
        go_simp
        refine (hNz.out _ (by exact fun i o e => hsee i o e)).mono ?_
        rintro e w6 ⟨⟨v6, rfl, ho⟩, hB6⟩
        have hs6 : Sees w6 H := hsr.below hB6
        have hx6 : w6.heap[w.heap.size]? = wr.heap[w.heap.size]? := hB6.block w.heap.size (Array.getElem?_eq_some_iff.1 hxh.out).1
        have hx := ho.read (H := H) (fun y hy => by have := hrd.out.1 y hy; exact ⟨by omega, by omega⟩) (by have h1 := hrd.out.2; unfold maxN; omega)
        refine hK.out _ _ ⟨hs6, hx6⟩ ?_
        clear hK K
        refine plan_step rfl (by rfl) (fun K hK => ?_)
        go_simp
        refine (r19_in _ y v6 (nextL c z) _ (extH.sees hsr hB6) hx).mono ?_
        rintro e w7 ⟨rfl, rfl⟩
        rw [hinh.out]
        refine hK.out _ _ ⟨hs6, hx6⟩ ?_
        clear hK K
        repeat first
          | (refine plan_skip rfl (by rfl) ?_; simp only [Act.put, List.setIfInBounds_toArray, List.set_cons_zero, List.set_cons_succ])
          | (refine plan_read (v := ?_) rfl (by rfl) ?_ ?_; rotate_left; (focus (intro w' hSw; obtain ⟨p1, p2, p3, p4, p5, p6, p7⟩ := hcs.out _ hSw; clear hSw; go_simp; all_goals with_reducible rfl)); simp only [Act.put, List.setIfInBounds_toArray, List.set_cons_zero, List.set_cons_succ])
        refine plan_nil (NoPanic.normal ?_)
        clear t3 t4 hb
        go_wp2
        go_roundw
        case rel => exact ⟨k + 1, by omega, by go_num, bstep (bdrew (bdrew hB)) hB6, hx6.trans hxh.out⟩
        case measure => simp [intOf]; omega
    · obtain rfl : k = ls.length := by omega
      have hltn : ¬ (ls.length : Int) < ls.length := by omega
      obtain ⟨m, hm⟩ : ∃ m, ls.length = m + 1 := ⟨ls.length - 1, by omega⟩
      have hla := hPh.out.last
      obtain ⟨z0, z1⟩ := hPh.out.range m (by omega)
      rw [hm, Nat.add_sub_cancel] at hla
      obtain ⟨z, hz⟩ : ∃ z : Nat, ls.getD m 0 = (z : Int) := ⟨(ls.getD m 0).toNat, by omega⟩
      rw [hz, Int.toNat_natCast] at hla
      rw [hz] at z0 z1
      have hzn : z < c.instrs.length := by omega
      have hfu := hufh.out z hzn
      have q1 := (hlch.out wr hsee m (by omega)).trans (by rw [hz])
      have q2 := huch.out wr hsee z hzn
      have hb := bit_and (us.getD z 0) f hfu
      rw [hla] at hb
      simp only [if_true] at hb
      generalize us.getD z 0 = yu at *
      have hml' : (m : Int) < ls.length := by omega
      have hm0 : (0 : Int) ≤ m := by omega
      have t4 : IntKind.i64.wrap ((ls.length : Int) - 1) = (m : Int) := by rw [hm]; push_cast; rw [Int.add_sub_cancel]; exact IntWalk.i64_in _ (by omega)
      clear hm hla hfu hz hlt hpos
      go_wp2
      go_ret
      exact ⟨rfl, hB⟩
end Go.Proofs.YtififjlgjmgikaaGreat
