/- The law's ring (seat Try). GraphKnots, walked (seat Try). -/
import Derived.Test.YtififjlgjmgikaaLawA
import Derived.Test.YtififjlgjmgikaaKnotM
import Derived.Test.YtififjlgjmgikaaHeadsW
namespace Go.Proofs.Ytififjlgjmgikaa
set_option linter.all false
open Go.RowKit

/-- One step of a ring. -/
def RingAt (f : FlowD) (idom path : List Int) (i : Nat) : Prop :=
  (0 ≤ path.getD i 0 ∧ path.getD i 0 < f.blocks.length) ∧ idom.getD (path.getD i 0).toNat 0 ≠ -2 ∧ path.getD ((i + 1) % path.length) 0 ∈ nxB f (path.getD i 0)
def RingP (f : FlowD) (idom path : List Int) : Prop := 0 < path.length ∧ ∀ i, i < path.length → RingAt f idom path i
noncomputable def ringB (f : FlowD) (idom path : List Int) : Bool := dcd (RingP f idom path)
set_option maxHeartbeats 4000000 in
set_option maxRecDepth 100000 in
theorem law_ring (H : PH) (vl vi vp : Value) (f : FlowD) (idom path : List Int) (w : World) (hw : Sees w H) (hl : SlV rBlock H vl f.blocks) (hi : SlV rInt H vi idom) (hp : SlV rInt H vp path) (hlen : idom.length = f.blocks.length) (hle : f.blocks.length ≤ 20000) :
    Calls Try.prog 26 #[vl, vi, vp] w fun e w' => e = .returned (.bool (ringB f idom path)) ∧ w = w' := by
  have lx := hp.le
  obtain ⟨Al, cl, rfl, -, -⟩ := hl.open_
  obtain ⟨Ai, ci, rfl, -, -⟩ := hi.open_
  obtain ⟨Ap, cp, rfl, -, -⟩ := hp.open_
  have hS := Lib.hid (show ringB f idom path = true ↔ RingP f idom path from dcd_iff)
  generalize ringB f idom path = B at *
  have hlenh := Lib.hid hlen
  rw [hlen] at hi ⊢
  clear hlen
  go_enter Try.func26, Try.ntmps26
  go_wp2
  go_loop [7] (fun i => ∃ k : Nat, k ≤ path.length ∧ i = .int .i64 k ∧ Aside (∀ j, j < k → RingAt f idom path j)) (fun i => path.length - (intOf i).toNat)
  case atStart => exact ⟨0, Nat.zero_le _, rfl, fun j h => by omega⟩
  case round =>
    obtain ⟨k, hk, rfl, hno⟩ := hrel
    have hnoh := Lib.hid hno
    clear hno
    by_cases hlt : k < path.length
    · have hlt' : (k : Int) < path.length := by omega
      have hk0 : (0 : Int) ≤ k := by omega
      obtain ⟨b1, o1, c1, e1, -, hb1, hc1, -⟩ := hp.ints (by omega)
      cases e1
      have p1 := hc1 w hw k hlt
      have l1 := hw.lt' hb1
      have hmod : (k + 1) % path.length < path.length := Nat.mod_lt _ (by omega)
      have p2 := hc1 w hw ((k + 1) % path.length) hmod
      have hwr : IntKind.i64.wrap ((k : Int) + 1) = (k : Int) + 1 := IntWalk.i64_in _ (by omega)
      have htm : Int.tmod ((k : Int) + 1) (path.length : Int) = (((k + 1) % path.length : Nat) : Int) := by
        exact (Int.ofNat_tmod (k + 1) path.length).symm
      obtain ⟨a, ha⟩ : ∃ a, path.getD k 0 = a := ⟨_, rfl⟩
      obtain ⟨z, hz⟩ : ∃ z, path.getD ((k + 1) % path.length) 0 = z := ⟨_, rfl⟩
      obtain ⟨md, hmd⟩ : ∃ md, (k + 1) % path.length = md := ⟨_, rfl⟩
      rw [hmd] at p2 hmod htm hz
      rw [ha] at p1
      rw [hz] at p2
      have hmd0 : (0 : Int) ≤ md := by omega
      have hmd1 : (md : Int) < path.length := by omega
      clear hc1
      have hat := Lib.hid (show RingAt f idom path k ↔ (0 ≤ a ∧ a < f.blocks.length) ∧ idom.getD a.toNat 0 ≠ -2 ∧ z ∈ nxB f a from by unfold RingAt; rw [hmd, ha, hz])
      have hln : ((path.length : Int) == 0) = false := by rw [beq_eq_false_iff_ne]; omega
      clear hmd ha hz
      go_upto_region 6 with fail
      clear htm hwr p1 p2 l1 hln
      by_cases ha0 : a < 0
      · have hb := Lib.hid (show B = false from Bool.eq_false_iff.2 fun h => by have := hat.out.1 ((hS.out.1 h).2 k hlt); omega)
        have t1 : decide (a < 0) = true := decide_eq_true ha0
        clear ha0
        go_wp2
        go_ret
        exact ⟨ret_bool hb.out.symm, rfl⟩
      · have t1 : decide (a < 0) = false := decide_eq_false ha0
        by_cases hal : (f.blocks.length : Int) ≤ a
        · have hb := Lib.hid (show B = false from Bool.eq_false_iff.2 fun h => by have := hat.out.1 ((hS.out.1 h).2 k hlt); omega)
          have t2 : decide ((f.blocks.length : Int) ≤ a) = true := decide_eq_true hal
          clear ha0 hal
          go_wp2
          go_ret
          exact ⟨ret_bool hb.out.symm, rfl⟩
        · obtain ⟨m, rfl⟩ : ∃ m : Nat, a = (m : Int) := ⟨a.toNat, by omega⟩
          have hm : m < f.blocks.length := by omega
          have hm0 : (0 : Int) ≤ m := by omega
          have hm1 : (m : Int) < f.blocks.length := by omega
          have t2 : decide ((f.blocks.length : Int) ≤ m) = false := decide_eq_false (by omega)
          have t3 : decide (f.blocks.length ≤ m) = false := decide_eq_false (by omega)
          obtain ⟨b2, o2, c2, e2, -, hb2, hc2, -⟩ := hi.ints (by rw [hlenh.out]; omega)
          rw [hlenh.out] at e2
          cases e2
          have p3 := hc2 w hw m (by rw [hlenh.out]; exact hm)
          have l3 := hw.lt' hb2
          obtain ⟨bL, oL, cL', hLe, -, hbL, hrow, -⟩ := hl.blocks (by omega)
          cases hLe
          obtain ⟨un, hun, huc⟩ := hrow m hm
          have hnz : (f.blocks.getD m default).next = nxB f (m : Int) := rfl
          rw [hnz] at hun
          have p4 := (huc w hw).2.2
          have l4 := hw.lt' hbL
          have hHs := law_has H z un (nxB f (m : Int)) w hw hun
          obtain ⟨y, hy⟩ : ∃ y, idom.getD m 0 = y := ⟨_, rfl⟩
          have hat2 := Lib.hid (show RingAt f idom path k ↔ y ≠ -2 ∧ z ∈ nxB f (m : Int) from by
            rw [hat.out, Int.toNat_natCast, hy]
            exact ⟨fun h => h.2, fun h => ⟨⟨hm0, hm1⟩, h⟩⟩)
          rw [hy] at p3
          clear hc2 hrow huc hnz hy ha0 hal hat
          by_cases hy2 : y = -2
          · have hb := Lib.hid (show B = false from Bool.eq_false_iff.2 fun h => (hat2.out.1 ((hS.out.1 h).2 k hlt)).1 hy2)
            have t4 : (y == -2) = true := by simp [hy2]
            clear hy2
            go_wp2
            go_ret
            exact ⟨ret_bool hb.out.symm, rfl⟩
          · have t4 : (y == -2) = false := by simp [hy2]
            have hy2h := Lib.hid hy2
            clear hy2
            cases hin : hasB (nxB f (m : Int)) z
            · rw [hin] at hHs
              have hb := Lib.hid (show B = false from Bool.eq_false_iff.2 fun h => by
                have := (hat2.out.1 ((hS.out.1 h).2 k hlt)).2
                unfold hasB at hin
                simp at hin
                exact hin this)
              clear hin
              go_wp2_with (go_at_call 20; refine hHs.mono ?_; rintro e w6 ⟨rfl, rfl⟩)
              go_ret
              exact ⟨ret_bool hb.out.symm, rfl⟩
            · rw [hin] at hHs
              have hst := Lib.hid (show RingAt f idom path k from hat2.out.2 ⟨hy2h.out, by unfold hasB at hin; simpa using hin⟩)
              clear hin
              go_wp2_with (go_at_call 20; refine hHs.mono ?_; rintro e w6 ⟨rfl, rfl⟩)
              go_round
              case rel =>
                refine ⟨k + 1, by omega, by go_num, fun j hj => ?_⟩
                by_cases e : j = k
                · subst e; exact hst.out
                · exact hnoh.out j (by omega)
              case measure => simp [intOf]; omega
    · obtain rfl : k = path.length := by omega
      have hkn : ¬ (path.length : Int) < path.length := by omega
      clear hlt
      have hb := Lib.hid (show B = true ↔ 0 < path.length from ⟨fun h => (hS.out.1 h).1, fun h => hS.out.2 ⟨h, hnoh.out⟩⟩)
      by_cases h0 : 0 < path.length
      · have t1 : decide (0 < path.length) = true := decide_eq_true h0
        have t2 : decide ((0 : Int) < path.length) = true := decide_eq_true (by omega)
        have hbt := Lib.hid (hb.out.2 h0)
        clear h0
        go_wp2
        go_ret
        exact ⟨ret_bool hbt.out.symm, rfl⟩
      · have t1 : decide (0 < path.length) = false := decide_eq_false h0
        have t2 : decide ((0 : Int) < path.length) = false := decide_eq_false (by omega)
        have hbt := Lib.hid (show B = false from Bool.eq_false_iff.2 fun h => h0 (hb.out.1 h))
        clear h0
        go_wp2
        go_ret
        exact ⟨ret_bool hbt.out.symm, rfl⟩
end Go.Proofs.Ytififjlgjmgikaa
namespace Go.Proofs.Ytififjlgjmgikaa
set_option linter.all false
open Go.RowKit Go.Shelf

theorem loopsTo_has {f : FlowD} {k m : Nat} (hm : m < k) (ht : tailsR f (m : Int) ≠ []) : (⟨(m : Int), bodyR f (m : Int)⟩ : LoopD) ∈ loopsTo f k := by
  unfold loopsTo
  refine List.mem_flatMap.2 ⟨m, List.mem_range.2 hm, ?_⟩
  unfold loopOf
  rw [if_neg ht]
  simp
/-- A ring has a head, if there is no knot. -/
theorem ring_head {c : CodeD} (hf : fineB c = true) (hred : redB (theFlow c) = true) {path : List Int} (hp : RingP (theFlow c) (idomL (theFlow c)) path) : ∃ x ∈ loopsTo (theFlow c) (theFlow c).blocks.length, x.head ∈ path := by
  apply Classical.byContradiction
  intro hno
  obtain ⟨hl, hat⟩ := hp
  have hmem : ∀ i, i < path.length → path.getD i 0 ∈ path := fun i hi => by rw [List.getD_eq_getElem?_getD, List.getElem?_eq_getElem hi]; exact List.getElem_mem _
  have hstep : ∀ i, i < path.length → path.getD ((i + 1) % path.length) 0 ∈ knotNx (theFlow c) (path.getD i 0) := by
    intro i hi
    obtain ⟨h1, h2, h3⟩ := hat i hi
    refine (knotNx_mem hf).2 ⟨h3, fun ht => hno ?_⟩
    have hm := Nat.mod_lt (i + 1) hl
    have hr := (hat _ hm).1
    obtain ⟨m, hme⟩ : ∃ m : Nat, path.getD ((i + 1) % path.length) 0 = (m : Int) := ⟨(path.getD ((i + 1) % path.length) 0).toNat, by omega⟩
    rw [hme] at ht hr
    exact ⟨_, loopsTo_has (m := m) (by omega) (List.ne_nil_of_mem ht), by show (m : Int) ∈ path; rw [← hme]; exact hmem _ hm⟩
  obtain ⟨b, hb⟩ : ∃ b : Nat, path.getD 0 0 = (b : Int) := ⟨(path.getD 0 0).toNat, by have := (hat 0 hl).1.1; omega⟩
  have h0 := hat 0 hl
  rw [RingAt, hb] at h0
  have hbl : b < (theFlow c).blocks.length := by omega
  have hr : (theFlow c).reached.getD b false = true := by
    cases h : (theFlow c).reached.getD b false
    · exfalso
      apply h0.2.1
      rw [Int.toNat_natCast, idomL_at _ hbl]
      unfold idomB
      rw [h]
      rfl
    · rfl
  refine dcd_iff.1 hred b hbl hr ?_
  have key : ∀ i, i < path.length → CycR (theFlow c) b ∨ Reach (· ∈ knotNx (theFlow c) b) (fun a y => y ∈ knotNx (theFlow c) a) (path.getD ((i + 1) % path.length) 0) := by
    intro i
    induction i with
    | zero =>
      intro hi
      have := hstep 0 hi
      rw [hb] at this
      exact .inr (.start this)
    | succ i ih =>
      intro hi
      rcases ih (by omega) with h | h
      · exact .inl h
      · rw [Nat.mod_eq_of_lt hi] at h
        exact .inr (.step h (hstep (i + 1) hi))
  rcases key (path.length - 1) (by omega) with h | h
  · exact h
  · rw [show path.length - 1 + 1 = path.length by omega, Nat.mod_self, hb] at h
    exact h
set_option maxHeartbeats 8000000 in
set_option maxRecDepth 100000 in
theorem law_Knots (H : PH) (v vp : Value) (c : CodeD) (path : List Int) (w : World) (hw : Sees w H) (hc : CodeV H v c) (hp : SlV rInt H vp path) :
    Calls Try.prog 8 #[v, vp] w fun e w' => e = .returned (.bool true) ∧ Below w.heap.size w w' := by
  have hc0 := hc
  obtain ⟨s0, s1, s2, s3, s4, s5, s6, rfl, hc⟩ := hc
  have hx0 := ga_new w (.cells #[s0, s1, s2, s3, s4, s5, s6] 30)
  have hB0 : Below w.heap.size w (w.alloc (.cells #[s0, s1, s2, s3, s4, s5, s6] 30)) := (Below.refl _ _).alloc (Nat.le_refl _) _
  have hA := law_awake (w.alloc (.cells #[s0, s1, s2, s3, s4, s5, s6] 30))
  have hFw := Lib.hid (fun (w1 : World) => law_few H _ c w1 hc0)
  by_cases hfew : c.instrs.length ≤ 120
  · have hfh := Lib.hid (show decide (c.instrs.length ≤ 120) = true from decide_eq_true hfew)
    have hfc := few_checked hfew
    have hRd := fun (w1 : World) (hs : Sees w1 H) => graph_Reducible H _ c w1 hs hc0
    have hKt := fun (w1 : World) (hs : Sees w1 H) => graph_Knot H _ c w1 hs hc0
    cases hf : fineB c
    · rw [hf] at hfc
      have hne : checkedE c = 1 := by rw [hfc]; rfl
      have hrv : redV c = false := by unfold redV; rw [if_neg (by omega)]
      have hke : ktE c = 1 := by unfold ktE; rw [if_neg (by omega), hne]
      have hBk := Lib.hid (fun (w1 : World) (hs : Sees w1 H) => graph_Blocks_no H _ c w1 hs hc0 hf)
      have hId := fun (w1 : World) (hs : Sees w1 H) => graph_Idoms_no H _ c w1 hs hc0 (by omega)
      have hLp := fun (w1 : World) (hs : Sees w1 H) => graph_Loops_no H _ c w1 hs hc0 (by omega)
      unfold KtRes at hKt
      simp only [hne, hrv, hke] at hId hLp hRd hKt
      have hIdh := Lib.hid hId
      have hLph := Lib.hid hLp
      have hRdh := Lib.hid hRd
      have hKth := Lib.hid hKt
      clear hf hc hc0 hfew hfc hId hLp hRd hKt hne hrv hke
      go_enter Try.func8, Try.ntmps8
      go_wp2_with (first
        | (go_at_call 10; refine hA.mono ?_; rintro e w1 ⟨rfl, hB1⟩; have hBa := bstep hB0 hB1; have hx1 := blk_keep hB1 hx0; have q := box7 hx1; have hl1 : w.heap.size < w1.heap.size := (Array.getElem?_eq_some_iff.1 hx1).1)
        | (go_at_call 14; refine (hFw.out _).mono ?_; rintro e w2 ⟨rfl, hB2⟩; rw [hfh.out]; replace hBa := bstep hBa hB2; replace hx1 := blk_keep hB2 hx1; clear q; have q := box7 hx1; replace hl1 : w.heap.size < w2.heap.size := (Array.getElem?_eq_some_iff.1 hx1).1)
        | (go_at_call 24; refine (hRdh.out _ (hw.below hBa)).mono ?_; rintro e w3 ⟨rfl, hB3⟩; replace hBa := bstep hBa hB3; replace hx1 := blk_keep hB3 hx1; clear q; have q := box7 hx1; replace hl1 : w.heap.size < w3.heap.size := (Array.getElem?_eq_some_iff.1 hx1).1)
        | (go_at_call 25; refine (hKth.out _ (hw.below hBa)).mono ?_; rintro e w4 ⟨⟨uk, xs, rfl, -, -, -⟩, hB4⟩; replace hBa := bstep hBa hB4; replace hx1 := blk_keep hB4 hx1; clear q; have q := box7 hx1; replace hl1 : w.heap.size < w4.heap.size := (Array.getElem?_eq_some_iff.1 hx1).1)
        | (go_at_call 11; refine (hBk.out _ (hw.below hBa)).mono ?_; rintro e w5 ⟨rfl, hB5⟩; replace hBa := bstep hBa hB5; replace hx1 := blk_keep hB5 hx1; clear q; have q := box7 hx1; replace hl1 : w.heap.size < w5.heap.size := (Array.getElem?_eq_some_iff.1 hx1).1)
        | (go_at_call 16; refine (hIdh.out _ (hw.below hBa)).mono ?_; rintro e w6 ⟨rfl, hB6⟩; replace hBa := bstep hBa hB6; replace hx1 := blk_keep hB6 hx1; clear q; have q := box7 hx1; replace hl1 : w.heap.size < w6.heap.size := (Array.getElem?_eq_some_iff.1 hx1).1)
        | (go_at_call 19; refine (hLph.out _ (hw.below hBa)).mono ?_; rintro e w7 ⟨rfl, hB7⟩; replace hBa := bstep hBa hB7))
      go_ret
      exact ⟨rfl, hBa⟩
    · rw [hf, if_pos rfl] at hfc
      have hBk := Lib.hid (fun (w1 : World) (hs : Sees w1 H) => graph_Blocks_ok H _ c w1 hs hc0 hf)
      have hIdh := Lib.hid (fun (w1 : World) (hs : Sees w1 H) => graph_Idoms_ok H _ c w1 hs hc0 hfc)
      have hLph := Lib.hid (fun (w1 : World) (hs : Sees w1 H) => graph_Loops_ok H _ c w1 hs hc0 hfc)
      have hlo := lpOk hfc
      have hfle := hlo.le
      have hil : (idomL (theFlow c)).length = (theFlow c).blocks.length := by simp [idomL]
      have hll := loopsTo_len (theFlow c) (theFlow c).blocks.length
      have hrv : redV c = redB (theFlow c) := by unfold redV; rw [if_pos hfc]
      have hke : ktE c = if redB (theFlow c) = true then 5 else 0 := by unfold ktE; rw [if_pos hfc]
      have hnn : ((theFlow c).blocks.length != (theFlow c).blocks.length) = false := by simp
      have hnn2 : (((theFlow c).blocks.length : Int) != (theFlow c).blocks.length) = false := by simp
      have htwo : ∀ (b : Nat) (p : List Int), b < (theFlow c).blocks.length → (theFlow c).reached.getD b false = true → PathTo (theFlow c).blocks.length (knotNx (theFlow c) b) (knotNx (theFlow c)) p b → 2 ≤ p.length := fun _ _ h1 h2 h3 => knot_two hf h1 h2 h3
      have hhd : redB (theFlow c) = true → RingP (theFlow c) (idomL (theFlow c)) path → ∃ x ∈ loopsTo (theFlow c) (theFlow c).blocks.length, x.head ∈ path := fun h1 h2 => ring_head hf h1 h2
      unfold BlocksErr at hBk
      unfold IntsErr at hIdh
      unfold LpErr at hLph
      unfold KtRes at hKt
      rw [hfc, hrv] at hRd
      rw [hke] at hKt
      generalize theFlow c = f at *
      generalize idomL f = idom at *
      obtain ⟨lps, hlps⟩ : ∃ lps, loopsTo f f.blocks.length = lps := ⟨_, rfl⟩
      rw [hlps] at hLph hhd hll
      cases hred : redB f
      · rw [hred] at hRd hKt
        simp only [Bool.false_eq_true, if_false] at hKt
        have hRdh := Lib.hid hRd
        have hKth := Lib.hid hKt
        have htwoh := Lib.hid htwo
        clear hf hc hc0 hfew hfc hlps hlo hhd htwo hRd hKt hrv hke hred
        go_enter Try.func8, Try.ntmps8
        go_wp2_with (first
          | (go_at_call 10; refine hA.mono ?_; rintro e w1 ⟨rfl, hB1⟩; have hBa := bstep hB0 hB1; have hx1 := blk_keep hB1 hx0; have q := box7 hx1; have hl1 : w.heap.size < w1.heap.size := (Array.getElem?_eq_some_iff.1 hx1).1)
          | (go_at_call 14; refine (hFw.out _).mono ?_; rintro e w2 ⟨rfl, hB2⟩; rw [hfh.out]; replace hBa := bstep hBa hB2; replace hx1 := blk_keep hB2 hx1; clear q; have q := box7 hx1; replace hl1 : w.heap.size < w2.heap.size := (Array.getElem?_eq_some_iff.1 hx1).1)
          | (go_at_call 24; refine (hRdh.out _ (hw.below hBa)).mono ?_; rintro e w3 ⟨rfl, hB3⟩; replace hBa := bstep hBa hB3; replace hx1 := blk_keep hB3 hx1; clear q; have q := box7 hx1; replace hl1 : w.heap.size < w3.heap.size := (Array.getElem?_eq_some_iff.1 hx1).1)
          | (go_at_call 25; refine (hKth.out _ (hw.below hBa)).mono ?_; rintro e w4 ⟨⟨uk, xs, rfl, hsl, -, hkn⟩, hB4⟩; replace hBa := bstep hBa hB4; replace hx1 := blk_keep hB4 hx1; clear q; have q := box7 hx1; replace hl1 : w.heap.size < w4.heap.size := (Array.getElem?_eq_some_iff.1 hx1).1; obtain ⟨bk, pk, h1, h2, h3, rfl⟩ := hkn trivial; have h4 := htwoh.out _ _ h1 h2 h3; have hk2 : ((bk : Int) :: pk.dropLast).length = pk.length := (by simp; omega); obtain ⟨Ak, ck, rfl, -, -⟩ := hsl.open_; rw [hk2]; have t8 : decide (pk.length < 2) = false := decide_eq_false (by omega); have t9 : decide ((pk.length : Int) < 2) = false := decide_eq_false (by omega); clear h1 h2 h3 h4 hk2 hkn hsl)
          | (go_at_call 11; refine (hBk.out _ (hw.below hBa)).mono ?_; rintro e w5 ⟨⟨ub, rfl, hub⟩, hB5⟩; obtain ⟨Ab, cb, rfl, -, -⟩ := hub.open_; clear hub; replace hBa := bstep hBa hB5; replace hx1 := blk_keep hB5 hx1; clear q; have q := box7 hx1; replace hl1 : w.heap.size < w5.heap.size := (Array.getElem?_eq_some_iff.1 hx1).1)
          | (go_at_call 16; refine (hIdh.out _ (hw.below hBa)).mono ?_; rintro e w6 ⟨⟨ui, rfl, hui⟩, hB6⟩; obtain ⟨Ai, ci, rfl, -, -⟩ := hui.open_; rw [hil]; clear hui; replace hBa := bstep hBa hB6; replace hx1 := blk_keep hB6 hx1; clear q; have q := box7 hx1; replace hl1 : w.heap.size < w6.heap.size := (Array.getElem?_eq_some_iff.1 hx1).1)
          | (go_at_call 19; refine (hLph.out _ (hw.below hBa)).mono ?_; rintro e w7 ⟨⟨up, rfl, hup⟩, hB7⟩; obtain ⟨Ap, cp, rfl, -, -⟩ := hup.open_; clear hup; replace hBa := bstep hBa hB7))
        go_ret
        exact ⟨rfl, hBa⟩
      · rw [hred] at hRd hKt
        simp only [if_true] at hKt
        have hRdh := Lib.hid hRd
        have hKth := Lib.hid hKt
        have hhdh := Lib.hid (hhd hred)
        clear hf hc hc0 hfew hfc hlps hlo hhd htwo hRd hKt hrv hke hred
        go_enter Try.func8, Try.ntmps8
        go_upto_region 13 with (first
          | (go_at_call 10; refine hA.mono ?_; rintro e w1 ⟨rfl, hB1⟩; have hBa := bstep hB0 hB1; have hx1 := blk_keep hB1 hx0; have q := box7 hx1; have hl1 : w.heap.size < w1.heap.size := (Array.getElem?_eq_some_iff.1 hx1).1)
          | (go_at_call 14; refine (hFw.out _).mono ?_; rintro e w2 ⟨rfl, hB2⟩; rw [hfh.out]; replace hBa := bstep hBa hB2; replace hx1 := blk_keep hB2 hx1; clear q; have q := box7 hx1; replace hl1 : w.heap.size < w2.heap.size := (Array.getElem?_eq_some_iff.1 hx1).1)
          | (go_at_call 24; refine (hRdh.out _ (hw.below hBa)).mono ?_; rintro e w3 ⟨rfl, hB3⟩; replace hBa := bstep hBa hB3; replace hx1 := blk_keep hB3 hx1; clear q; have q := box7 hx1; replace hl1 : w.heap.size < w3.heap.size := (Array.getElem?_eq_some_iff.1 hx1).1)
          | (go_at_call 25; refine (hKth.out _ (hw.below hBa)).mono ?_; rintro e w4 ⟨⟨uk, xs, rfl, -, -, -⟩, hB4⟩; replace hBa := bstep hBa hB4; replace hx1 := blk_keep hB4 hx1; clear q; have q := box7 hx1; replace hl1 : w.heap.size < w4.heap.size := (Array.getElem?_eq_some_iff.1 hx1).1)
          | (go_at_call 11; refine (hBk.out _ (hw.below hBa)).mono ?_; rintro e w5 ⟨⟨ub, rfl, hub⟩, hB5⟩; obtain ⟨Ab, cb, rfl, -, -⟩ := hub.open_; replace hBa := bstep hBa hB5; replace hx1 := blk_keep hB5 hx1; clear q; have q := box7 hx1; replace hl1 : w.heap.size < w5.heap.size := (Array.getElem?_eq_some_iff.1 hx1).1)
          | (go_at_call 16; refine (hIdh.out _ (hw.below hBa)).mono ?_; rintro e w6 ⟨⟨ui, rfl, hui⟩, hB6⟩; obtain ⟨Ai, ci, rfl, -, -⟩ := hui.open_; rw [hil]; replace hBa := bstep hBa hB6; replace hx1 := blk_keep hB6 hx1; clear q; have q := box7 hx1; replace hl1 : w.heap.size < w6.heap.size := (Array.getElem?_eq_some_iff.1 hx1).1)
          | (go_at_call 19; refine (hLph.out _ (hw.below hBa)).mono ?_; rintro e w7 ⟨⟨up, rfl, hup⟩, hB7⟩; obtain ⟨Ap, cp, rfl, -, -⟩ := hup.open_; replace hBa := bstep hBa hB7; clear q))
        have hwz : w.heap.size ≤ w2.heap.size := by have := hB1.size; have := hB2.size; rw [World.size_alloc] at *; omega
        have hz23 := hB3.size
        have hz34 := hB4.size
        have hz45 := hB5.size
        have hz56 := hB6.size
        have hlK5 : PH.le (extH H w4 w5) (extH H w w7) := fun i o e => extH.step (bstep hB6 hB7) i o (extH.lower hw (by omega) i o e)
        have hlK6 : PH.le (extH H w5 w6) (extH H w w7) := fun i o e => extH.step hB7 i o (extH.lower hw (by omega) i o e)
        have hlK7 : PH.le (extH H w6 w7) (extH H w w7) := extH.lower hw (by omega)
        have hsK := extH.sees hw hBa
        have hubK := hub.mono hlK5
        have huiK := hui.mono hlK6
        have hupK := hup.mono hlK7
        have hpK := hp.mono (extH.le hw w7)
        have hRg := law_ring _ _ _ _ f idom path w7 hsK hubK huiK hpK hil (by omega)
        rw [hil] at hRg
        clear hlK5 hlK6 hlK7 hub hui hup hx1 hl1 hx0 hB0 hB1 hB2 hB3 hB4 hB5 hB6 hB7 hA hFw hBk hIdh hLph hfh hp hz23 hz34 hz45 hz56 hwz hubK huiK
        generalize extH H w w7 = K at *
        obtain ⟨Aq, cq, rfl, -, -⟩ := hpK.open_
        cases hrb : ringB f idom path
        · rw [hrb] at hRg
          clear hrb hhdh
          go_wp2_with (go_at_call 26; refine hRg.mono ?_; rintro e w8 ⟨rfl, rfl⟩)
          go_ret
          exact ⟨rfl, hBa⟩
        · rw [hrb] at hRg
          have hexh := Lib.hid (hhdh.out (dcd_iff.1 hrb))
          clear hrb hhdh
          go_wp2_with (go_at_call 26; refine hRg.mono ?_; rintro e w8 ⟨rfl, rfl⟩)
          clear hRg
          go_loop [16] (fun i => ∃ k : Nat, k ≤ lps.length ∧ i = .int .i64 k ∧ Aside (∀ j, j < k → (lps.getD j default).head ∉ path)) (fun i => lps.length - (intOf i).toNat)
          case atStart => exact ⟨0, Nat.zero_le _, rfl, fun j h => by omega⟩
          case round =>
            obtain ⟨k, hk, rfl, hno⟩ := hrel
            have hnoh := Lib.hid hno
            clear hno
            by_cases hkl : k < lps.length
            · have hkl' : (k : Int) < lps.length := by omega
              have hk0 : (0 : Int) ≤ k := by omega
              obtain ⟨bP, oP, cP, e1, hbP, hrow⟩ := hupK.loops (by omega)
              cases e1
              obtain ⟨u, hu, hcell⟩ := hrow k hkl
              obtain ⟨p1, p2⟩ := hcell w7 hsK
              have lP := hsK.lt' hbP
              clear hrow hcell hu p2
              obtain ⟨x, hx⟩ : ∃ x, (lps.getD k default).head = x := ⟨_, rfl⟩
              rw [hx] at p1
              have hxh := Lib.hid hx
              have hHs := law_has K x _ path w7 hsK hpK
              cases hb : hasB path x
              · rw [hb] at hHs
                have hnx := Lib.hid (show x ∉ path from by unfold hasB at hb; simpa using hb)
                clear hb hx
                go_wp2_with (go_at_call 20; refine hHs.mono ?_; rintro e w9 ⟨rfl, rfl⟩)
                go_round
                case rel =>
                  refine ⟨k + 1, by omega, by go_num, fun j hj => ?_⟩
                  by_cases e : j = k
                  · subst e; rw [hxh.out]; exact hnx.out
                  · exact hnoh.out j (by omega)
                case measure => simp [intOf]; omega
              · rw [hb] at hHs
                clear hb hx
                go_wp2_with (go_at_call 20; refine hHs.mono ?_; rintro e w9 ⟨rfl, rfl⟩)
                go_ret
                exact ⟨rfl, hBa⟩
            · exfalso
              obtain rfl : k = lps.length := by omega
              obtain ⟨x, hx, hxp⟩ := hexh.out
              obtain ⟨j, hj, rfl⟩ := List.getElem_of_mem hx
              refine hnoh.out j hj ?_
              rw [List.getD_eq_getElem?_getD, List.getElem?_eq_getElem hj]
              exact hxp
  · have hfh := Lib.hid (show decide (c.instrs.length ≤ 120) = false from decide_eq_false hfew)
    clear hfew hc hc0
    go_enter Try.func8, Try.ntmps8
    go_wp2_with (first
      | (go_at_call 10; refine hA.mono ?_; rintro e w1 ⟨rfl, hB1⟩; have hBa := bstep hB0 hB1; have hx1 := blk_keep hB1 hx0; have q := box7 hx1; have hl1 : w.heap.size < w1.heap.size := (Array.getElem?_eq_some_iff.1 hx1).1)
      | (go_at_call 14; refine (hFw.out _).mono ?_; rintro e w2 ⟨rfl, hB2⟩; rw [hfh.out]; replace hBa := bstep hBa hB2; replace hx1 := blk_keep hB2 hx1; clear q; have q := box7 hx1; replace hl1 : w.heap.size < w2.heap.size := (Array.getElem?_eq_some_iff.1 hx1).1))
    go_ret
    exact ⟨rfl, hBa⟩
end Go.Proofs.Ytififjlgjmgikaa
