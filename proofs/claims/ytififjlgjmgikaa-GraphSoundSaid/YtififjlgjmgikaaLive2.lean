/- graph.Live. -/
import Derived.Test.YtififjlgjmgikaaLive
import Derived.Test.YtififjlgjmgikaaDelete
namespace Go.Proofs.Ytififjlgjmgikaa
set_option linter.all false
open Go.RowKit

theorem setsE_ok {c : CodeD} {ls : List (List Int)} (h : setsE c ls = 0) : fineB c = true ∧ ∀ l ∈ ls, l.length = c.instrs.length ∧ ∀ p, p < c.instrs.length → FS (l.getD p 0) := by
  unfold setsE at h
  split at h
  · rename_i hf
    split at h
    · rename_i ha
      exact ⟨hf, fun l hl => setB_fs (List.all_eq_true.1 ha l hl)⟩
    · cases h
  · cases h
theorem two_rows {K : PH} {g : Nat} {u1 u2 : Value} {xs ys : List Int} {T : TypeId} (h : K g = some (.cells #[u1, u2] T (0, 0))) (h1 : SlV rInt K u1 xs) (h2 : SlV rInt K u2 ys) :
    SlV (rSl rInt) K (.slice (some ⟨g, 0, none⟩) 2 2) [xs, ys] := by
  refine ⟨_, 2, rfl, Nat.le_refl _, by simp [maxN], fun i x hi => ?_⟩
  have hi2 : i = 0 ∨ i = 1 := by have := (List.getElem?_eq_some_iff.1 hi).1; simp at this; omega
  rcases hi2 with rfl | rfl
  · simp at hi; subst hi
    exact ⟨g, 0, [u1], rfl, ⟨rfl, _, _, _, h, fun j u hj => by have hj1 := (List.getElem?_eq_some_iff.1 hj).1; obtain rfl : j = 0 := (by simpa using hj1); cases hj; rfl⟩, u1, rfl, h1⟩
  · simp at hi; subst hi
    exact ⟨g, 0, [u2], rfl, ⟨rfl, _, _, _, h, fun j u hj => by have hj1 := (List.getElem?_eq_some_iff.1 hj).1; obtain rfl : j = 0 := (by simpa using hj1); cases hj; rfl⟩, u2, rfl, h2⟩
theorem three_rows {K : PH} {g : Nat} {u1 u2 u3 : Value} {xs ys zs : List Int} {T : TypeId} (h : K g = some (.cells #[u1, u2, u3] T (0, 0))) (h1 : SlV rInt K u1 xs) (h2 : SlV rInt K u2 ys) (h3 : SlV rInt K u3 zs) :
    SlV (rSl rInt) K (.slice (some ⟨g, 0, none⟩) 3 3) [xs, ys, zs] := by
  refine ⟨_, 3, rfl, Nat.le_refl _, by simp [maxN], fun i x hi => ?_⟩
  have hi2 : i = 0 ∨ i = 1 ∨ i = 2 := by have := (List.getElem?_eq_some_iff.1 hi).1; simp at this; omega
  rcases hi2 with rfl | rfl | rfl
  · simp at hi; subst hi
    exact ⟨g, 0, [u1], rfl, ⟨rfl, _, _, _, h, fun j u hj => by have hj1 := (List.getElem?_eq_some_iff.1 hj).1; obtain rfl : j = 0 := (by simpa using hj1); cases hj; rfl⟩, u1, rfl, h1⟩
  · simp at hi; subst hi
    exact ⟨g, 0, [u2], rfl, ⟨rfl, _, _, _, h, fun j u hj => by have hj1 := (List.getElem?_eq_some_iff.1 hj).1; obtain rfl : j = 0 := (by simpa using hj1); cases hj; rfl⟩, u2, rfl, h2⟩
  · simp at hi; subst hi
    exact ⟨g, 0, [u3], rfl, ⟨rfl, _, _, _, h, fun j u hj => by have hj1 := (List.getElem?_eq_some_iff.1 hj).1; obtain rfl : j = 0 := (by simpa using hj1); cases hj; rfl⟩, u3, rfl, h3⟩
theorem blk1 (w : World) (o1 o2 : Obj) : ((w.alloc o1).alloc o2).heap[w.heap.size + 1]? = some o2 := by
  have h := ga_new (w.alloc o1) o2
  rwa [World.size_alloc] at h
set_option maxHeartbeats 2000000 in
set_option maxRecDepth 100000 in
theorem graph_Live_no (H : PH) (v vu vd : Value) (c : CodeD) (us ds : List Int) (w : World) (hw : Sees w H) (hc : CodeV H v c) (hu : SlV rInt H vu us) (hd : SlV rInt H vd ds) (hE : setsE c [us, ds] ≠ 0) :
    Calls Try.prog 17 #[v, vu, vd] w fun e w' => e = .returned (.tuple #[.slice none 0 0, .int .i64 (setsE c [us, ds])]) ∧ Below w.heap.size w w' := by
  have hc0 := hc
  obtain ⟨s0, s1, s2, s3, s4, s5, s6, rfl, hc⟩ := hc
  have hB0 : Below w.heap.size w ((w.alloc (.cells #[s0, s1, s2, s3, s4, s5, s6] 30)).alloc (.cells #[vu, vd] 28)) := ((Below.refl _ _).alloc (Nat.le_refl _) _).alloc (by simp) _
  have hS := fun (K : PH) (hK : PH.le H K) (hs : Sees ((w.alloc (.cells #[s0, s1, s2, s3, s4, s5, s6] 30)).alloc (.cells #[vu, vd] 28)) K) (hg : K (w.heap.size + 1) = some (.cells #[vu, vd] 28 (0, 0))) => graph_sets K _ _ c [us, ds] _ hs (hc0.mono hK) (two_rows hg (hu.mono hK) (hd.mono hK))
  have hS2 := hS (extH H w _) (extH.le hw _) (extH.sees hw hB0) (extH.new (by omega) (blk1 _ _ _))
  clear hS hc0 hc
  generalize setsE c [us, ds] = E at *
  obtain ⟨Au, cu, rfl, -, -⟩ := hu.open_
  obtain ⟨Ad, cd, rfl, -, -⟩ := hd.open_
  have hne : (E != 0) = true := by simpa using hE
  clear hE
  go_enter Try.func17, Try.ntmps17
  go_wp2_with (go_at_call 40; refine hS2.mono ?_; rintro e w1 ⟨rfl, hB1⟩)
  go_ret2
  exact ⟨rfl, bstep hB0 hB1⟩
theorem OwnI.setN {w : World} {base : Nat} {g cap k n : Nat} {xs : List Int} (h : OwnI w base (.slice (some ⟨g, 0, none⟩) n cap) xs) (hn : xs.length = n) (hk : k < n) (y : Int) :
    OwnI (w.setCell ⟨g, k, none⟩ (.int .i64 y)) base (.slice (some ⟨g, 0, none⟩) n cap) (xs.set k y) := by subst hn; exact h.set hk y
theorem set_same {xs : List Int} {p : Nat} {y : Int} (h : y = xs.getD p 0) (hp : p < xs.length) : xs.set p y = xs := by
  rw [h, List.getD_eq_getElem?_getD, List.getElem?_eq_getElem hp]
  exact List.set_getElem_self hp
def LiveRes (base n : Nat) (nx : Nat → List Int) (us ds : List Int) (w' : World) (e : Ending) : Prop := ∃ v xs, e = .returned (.tuple #[v, .int .i64 0]) ∧ OwnI w' base v xs ∧ LiveL n nx us ds xs
set_option maxHeartbeats 4000000 in
set_option maxRecDepth 100000 in
theorem graph_Live_ok (H : PH) (v vu vd : Value) (c : CodeD) (us ds : List Int) (w : World) (hw : Sees w H) (hc : CodeV H v c) (hu : SlV rInt H vu us) (hd : SlV rInt H vd ds) (hE : setsE c [us, ds] = 0) :
    Calls Try.prog 17 #[v, vu, vd] w fun e w' => LiveRes w.heap.size c.instrs.length (nextL c) us ds w' e ∧ Below w.heap.size w w' := by
  obtain ⟨hf, hls⟩ := setsE_ok hE
  obtain ⟨hul, huf⟩ := hls us (by simp)
  obtain ⟨hdl, hdf⟩ := hls ds (by simp)
  have hfb := fine_bounds hf
  have n0 := hfb.i1
  have n1 := hfb.i0
  have hc0 := hc
  obtain ⟨s0, s1, s2, s3, s4, s5, s6, rfl, hc⟩ := hc
  have hB0 : Below w.heap.size w ((w.alloc (.cells #[s0, s1, s2, s3, s4, s5, s6] 30)).alloc (.cells #[vu, vd] 28)) := ((Below.refl _ _).alloc (Nat.le_refl _) _).alloc (by simp) _
  have hS := fun (K : PH) (hK : PH.le H K) (hs : Sees ((w.alloc (.cells #[s0, s1, s2, s3, s4, s5, s6] 30)).alloc (.cells #[vu, vd] 28)) K) (hg : K (w.heap.size + 1) = some (.cells #[vu, vd] 28 (0, 0))) => graph_sets K _ _ c [us, ds] _ hs (hc0.mono hK) (two_rows hg (hu.mono hK) (hd.mono hK))
  have hS2 := hS (extH H w _) (extH.le hw _) (extH.sees hw hB0) (extH.new (by omega) (blk1 _ _ _))
  rw [hE] at hS2
  have hx0 : ((w.alloc (.cells #[s0, s1, s2, s3, s4, s5, s6] 30)).alloc (.cells #[vu, vd] 28)).heap[w.heap.size]? = some (.cells #[s0, s1, s2, s3, s4, s5, s6] 30 (0, 0)) := ga_old (ga_new _ _)
  have hN := Lib.hid (fun (w1 : World) (hs : Sees w1 H) => graph_nexts H _ c w1 hs hc0 hf)
  have hCl := Lib.hid (fun (w1 : World) (hs : Sees w1 H) => clone_sl hs hu (by omega))
  clear hS hc0 hc hE hls
  have hul2 := hul
  obtain ⟨Au, cu, rfl, -, -⟩ := hu.open_
  rw [hul] at hu hS2 hCl hB0 hx0 ⊢
  obtain ⟨bd, od, cd, rfl, -, hbd, hdcell, -⟩ := hd.ints (by omega)
  rw [hdl] at hS2 hB0 hx0 ⊢
  have hnl : (nextsL c).length = c.instrs.length := by simp [nextsL]
  have hulh := Lib.hid hul
  have hdch := Lib.hid hdcell
  have hdlh := Lib.hid hdl
  have hufh := Lib.hid huf
  have hdfh := Lib.hid hdf
  have hnlh := Lib.hid hnl
  have hNin := Lib.hid (fun (j : Nat) (hj : j < c.instrs.length) => next_in hf hj)
  clear hdcell hdf huf hul hul2 hdl hd hnl hf
  go_enter Try.func17, Try.ntmps17
  go_wp2_with (first
    | (go_at_call 40; refine hS2.mono ?_; rintro e w1 ⟨rfl, hB1⟩; have hBa := bstep hB0 hB1; have hx1 := blk_keep hB1 hx0; have q := box7 hx1; have hl1 : w.heap.size < w1.heap.size := (Array.getElem?_eq_some_iff.1 hx1).1)
    | (go_at_call 41; refine (hN.out _ (hw.below hBa)).mono ?_; rintro e w2 ⟨⟨vn, rfl, hvn⟩, hB2⟩; clear q; have hBb := bstep hBa hB2; obtain ⟨bn, on, cn, rfl, -, hbn, hrow⟩ := hvn.rows (by rw [hnlh.out]; omega))
    | (go_at_call 42; refine (hCl.out _ (hw.below hBb)).mono ?_; rintro e w3 ⟨⟨vq, rfl, hown⟩, hB3⟩; obtain ⟨g, cap, rfl, -, hgb, hgl, -⟩ := hown.form (by rw [hulh.out]; omega)))
  have hsK : Sees w2 (extH H w1 w2) := extH.sees (hw.below hBa) hB2
  have hKg : extH H w1 w2 g = none := hsK.fresh hgb
  have hKl : PH.le H (extH H w1 w2) := extH.le (hw.below hBa) w2
  have hdK := Lib.hid (fun (wx : World) (hs : Sees wx (extH H w1 w2)) => hdch.out wx (fun i o e => hs i o (hKl i o e)))
  have hbdK : extH H w1 w2 bd ≠ none := by
    obtain ⟨o, ho⟩ := Option.ne_none_iff_exists'.1 hbd
    rw [hKl _ _ ho]; simp
  rw [hnlh.out] at hrow hvn ⊢
  have hrowh := Lib.hid hrow
  have hBc := bstep hBb hB3
  replace hsK := hsK.below hB3
  have hz3 := hBb.size
  rw [hulh.out] at hown ⊢
  have hst := Lib.hid (LiveI.start (nx := nextL c) (ds := ds) hulh.out hufh.out)
  clear hrow hvn hKl hS2 hCl hN hB0 hx0 hB1 hB2 hx1 hBa hBb hdch
  generalize extH H w1 w2 = K at *
  go_loopg [11] (room us + 1) (fun gk a wr => ∃ (xs : List Int) (again : Bool), a = .bool again ∧ OwnI wr w2.heap.size (.slice (some ⟨g, 0, none⟩) c.instrs.length cap) xs ∧ Aside (HeadI c.instrs.length (nextL c) us ds xs again gk) ∧ w3.grownBy wr (some g))
  case atStart => exact ⟨us, true, rfl, hown, .inl ⟨rfl, hst.out, by omega⟩, grown_refl _ _⟩
  clear hown hst
  case round =>
    obtain ⟨xs0, again, rfl, hown, hI, hg⟩ := hrel
    have hIh := Lib.hid hI
    clear hI
    cases again with
    | false =>
      go_wp2
      go_ret2
      refine ⟨⟨_, xs0, rfl, hown.lower hz3, ?_⟩, hBc.grown hg hBc.size (fun j hj => by injection hj with hj; omega)⟩
      rcases hIh.out with ⟨h, _⟩ | ⟨_, h⟩
      · cases h
      · exact h
    | true =>
      have hI0 : LiveI c.instrs.length (nextL c) us ds xs0 ∧ room xs0 < gk := by
        rcases hIh.out with ⟨_, h⟩ | ⟨h, _⟩
        · exact h
        · cases h
      have hI0h := Lib.hid hI0
      have hP0 := Lib.hid (PassI.start hI0.1)
      clear hI0 hIh
      go_wp2
      obtain ⟨wo, rfl⟩ : ∃ wo : World, wo = wr := ⟨_, rfl⟩
      go_loopw [11, 12] (fun a p wi => ∃ (k : Nat) (xs : List Int) (again : Bool) (x : Int), k ≤ c.instrs.length ∧ x = (k : Int) - 1 ∧ p = .int .i64 x ∧ a = .bool again ∧ OwnI wi w2.heap.size (.slice (some ⟨g, 0, none⟩) c.instrs.length cap) xs ∧ Aside (PassI c.instrs.length (nextL c) us ds xs0 xs again k) ∧ w3.grownBy wi (some g)) (fun _ p _ => (intOf p + 1).toNat)
      case atStart => exact ⟨_, xs0, false, _, Nat.le_refl _, rfl, rfl, rfl, hown, hP0.out, hg⟩
      clear hown hg hP0
      case round =>
        obtain ⟨k, xs, again, x, hk, hx, rfl, rfl, hown, hP, hg⟩ := hrel
        have hPh := Lib.hid hP
        clear hP
        cases k with
        | zero =>
          obtain rfl : x = -1 := by omega
          clear hx
          go_wp2
          go_roundg (gk - 1)
          case measure => have := hI0h.out.2; omega
          case rel => exact ⟨xs, again, rfl, hown, hPh.out.head (fun p hp q hq => hNin.out p hp q hq) hI0h.out.2, hg⟩
        | succ p =>
          obtain rfl : x = (p : Int) := by omega
          clear hx
          have hs := hsK.grown hg hKg
          have hxl : xs.length = c.instrs.length := hPh.out.1.len
          have hcy := hown.cellk (j := p) (by omega)
          have hxlh := Lib.hid hxl
          clear hxl
          obtain ⟨y, hy⟩ : ∃ y, y = xs.getD p 0 := ⟨_, rfl⟩
          rw [← hy] at hcy
          have hyh := Lib.hid hy
          clear hy
          obtain ⟨u, hu2, hcl⟩ := hrowh.out p (by omega)
          rw [show (nextsL c).getD p [] = nextL c p by simp [nextsL, (by omega : p < c.instrs.length)]] at hu2
          replace hcl := hcl wr hs
          have hbnl := hs.lt' hbn
          have hgw := hg.size
          obtain ⟨A2, cu2, rfl, -, -⟩ := hu2.open_
          have hul2 := hu2.le
          have hA0 := AccI.start hPh.out.1 (p := p) (by omega)
          rw [← hyh.out] at hA0
          have hA0h := Lib.hid hA0
          clear hA0
          have hpn : p < c.instrs.length := by omega
          go_wp2
          obtain ⟨wj, rfl⟩ : ∃ wj : World, wj = wr := ⟨_, rfl⟩
          go_loopw [13, 45] (fun sv iv wi => ∃ (j : Nat) (s : Int), j ≤ (nextL c p).length ∧ iv = .int .i64 j ∧ sv = .int .i64 s ∧ Aside (AccI (nextL c) us ds xs p j s) ∧ OwnI wi w2.heap.size (.slice (some ⟨g, 0, none⟩) c.instrs.length cap) xs ∧ w3.grownBy wi (some g)) (fun _ iv _ => (nextL c p).length - (intOf iv).toNat)
          case atStart => exact ⟨0, y, Nat.zero_le _, rfl, rfl, hA0h.out, hown, hg⟩
          clear hown hg hA0h hcl hcy hs hbnl hgw
          case round =>
            obtain ⟨j, s, hj, rfl, rfl, hA, hown, hg⟩ := hrel
            have hAh := Lib.hid hA
            clear hA
            have hs := hsK.grown hg hKg
            have hgw := hg.size
            by_cases hlt : j < (nextL c p).length
            · obtain ⟨be, oe, ce', hve, -, hbe, hce, -⟩ := hu2.ints (by omega)
              cases hve
              have hcl := hce wr hs j hlt
              have hbel := hs.lt' hbe
              have hx : (nextL c p)[j]? = some ((nextL c p).getD j 0) := by simp [hlt]
              have hin := hNin.out p hpn _ (List.mem_of_getElem? hx)
              obtain ⟨q, hq⟩ : ∃ q : Nat, (nextL c p).getD j 0 = (q : Int) := ⟨((nextL c p).getD j 0).toNat, by omega⟩
              rw [hq] at hcl hin hx
              have hqn : q < c.instrs.length := by omega
              have hcq := hown.cellk (j := q) (by rw [hxlh.out]; exact hqn)
              have hcd := hdK.out wr hs p (by rw [hdlh.out]; exact hpn)
              have hbdl := hs.lt' hbdK
              have hnx := hAh.out.next hPh.out.1 (hdfh.out p hpn) hx hin
              rw [Int.toNat_natCast] at hnx
              have hnxh := Lib.hid hnx
              clear hnx hce hx hq
              generalize xs.getD q 0 = xq at *
              generalize ds.getD p 0 = dp at *
              go_wp2_with fail
              go_quiet (fail)
              go_wp2
              go_roundw
              case rel => exact ⟨j + 1, _, by omega, by go_num, rfl, hnxh.out, hown, ⟨hg.os, hg.tape, hg.output, hg.size, hg.block⟩⟩
              case measure => simp [intOf]; omega
            · obtain rfl : j = (nextL c p).length := by omega
              have hltn : ¬ ((nextL c p).length : Int) < (nextL c p).length := by omega
              have hcy := hown.cellk (j := p) (by rw [hxlh.out]; exact hpn)
              have hfr := hown.free p
              rw [← hyh.out] at hcy
              have hset := hown.setN (k := p) hxlh.out hpn s
              by_cases hsy : s = y
              · subst hsy
                have hss := set_same hyh.out (by rw [hxlh.out]; exact hpn)
                rw [hss] at hset
                have hPS := Lib.hid (hPh.out.same hAh.out hyh.out)
                have hb1 : (s != s) = false := by simp
                clear hss hown hAh
                cases again
                all_goals
                  go_wp2
                  go_roundw
                  case rel => exact ⟨p, xs, _, _, by omega, rfl, by go_num, rfl, hset, hPS.out, grown_set hg⟩
                  case measure => simp [intOf] <;> omega
              · have hb1 : (s != y) = true := by simpa using hsy
                have hPM := Lib.hid (hPh.out.more hpn hAh.out (by rw [← hyh.out]; exact hsy))
                clear hown hAh hsy
                cases again
                all_goals
                  go_wp2
                  go_roundw
                  case rel => exact ⟨p, xs.set p s, true, _, by omega, rfl, by go_num, rfl, hset, hPM.out, grown_set hg⟩
                  case measure => simp [intOf] <;> omega
end Go.Proofs.Ytififjlgjmgikaa
