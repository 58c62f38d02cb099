/- GraphHeads, walked (seat Try). -/
import Derived.Test.YtififjlgjmgikaaLawA
import Derived.Test.YtififjlgjmgikaaDomW
namespace Go.Proofs.Ytififjlgjmgikaa
set_option linter.all false
open Go.RowKit Go.Shelf

/-- What GraphHeads asks of a loop. -/
structure HdOk (f : FlowD) (idom : List Int) (x : LoopD) : Prop where
  has : x.head ∈ x.body
  rng : 0 ≤ x.head ∧ x.head < f.blocks.length
  brng : ∀ y ∈ x.body, 0 ≤ y ∧ y < f.blocks.length
  blen : x.body.length ≤ 20000
  closed : ∀ v : Nat, v < f.blocks.length → idom.getD v 0 ≠ -2 → (v : Int) ∉ x.body → ∀ z ∈ nxB f v, z = x.head ∨ z ∉ x.body
  leads : (iterG f x.body x.head x.body.length).length = x.body.length
  gok : ∀ n i, i ≤ x.body.length → (∀ y ∈ goI f x.body x.head n i, y ∈ x.body) ∧ (goI f x.body x.head n i).length ≤ x.body.length
  above : ∀ y ∈ x.body, aboveB idom x.head y = true
theorem loopsTo_mem {f : FlowD} {k : Nat} {x : LoopD} (h : x ∈ loopsTo f k) : ∃ m : Nat, m < k ∧ tailsR f (m : Int) ≠ [] ∧ x = ⟨(m : Int), bodyR f (m : Int)⟩ := by
  unfold loopsTo at h
  obtain ⟨m, hm, hx⟩ := List.mem_flatMap.1 h
  unfold loopOf at hx
  split at hx
  · cases hx
  · rename_i h1
    simp at hx
    exact ⟨m, List.mem_range.1 hm, h1, hx⟩
theorem bodyR_len (f : FlowD) (h : Int) : (bodyR f h).length ≤ f.blocks.length := by
  unfold bodyR
  rw [List.length_map]
  refine Nat.le_trans (List.length_filter_le _ _) (by simp)
theorem hd_ok {c : CodeD} (hE : checkedE c = 0) (hf : fineB c = true) {x : LoopD} (hx : x ∈ loopsTo (theFlow c) (theFlow c).blocks.length) : HdOk (theFlow c) (idomL (theFlow c)) x := by
  obtain ⟨m, hm, ht, rfl⟩ := loopsTo_mem hx
  obtain ⟨t, ht⟩ := List.exists_mem_of_ne_nil _ ht
  have hlo := lpOk hE
  have hin : ∀ y, y ∈ bodyR (theFlow c) (m : Int) ↔ inLoop (theFlow c) (m : Int) y := fun y => by
    refine bodyR_mem.trans ⟨fun h => h.2, fun h => ⟨?_, h⟩⟩
    obtain ⟨k, rfl, hk⟩ := reach_in hf (loop_dom hf ht h).1
    omega
  have hh : (m : Int) ∈ bodyR (theFlow c) (m : Int) := (hin _).2 (.start List.mem_cons_self)
  have hnd : (bodyR (theFlow c) (m : Int)).Nodup := (bodyR_sorted _ _).imp fun h => by omega
  refine ⟨hh, by simp only; omega, fun y hy => (bodyR_mem.1 hy).1, Nat.le_trans (bodyR_len _ _) (by have := hlo.le; omega), fun v hv hr hnv z hz => ?_, ?_, fun n i hi => ?_, fun y hy => ?_⟩
  · by_cases hzh : z = (m : Int)
    · exact .inl hzh
    · refine .inr fun hzb => hnv ((hin _).2 (loop_closed hf (by omega) ?_ hz hzh ((hin z).1 hzb)))
      cases hrv : rchB (theFlow c) (v : Int)
      · exfalso
        apply hr
        rw [idomL_at _ hv]
        unfold idomB
        rw [show (theFlow c).reached.getD v false = false from hrv]
        rfl
      · rfl
  · refine leads_yes hh hnd fun P h0 hs y hy => ?_
    exact loop_leads hf (P := P) h0 (fun b hb hz => hs b ((hin b).2 hb) hz) ((hin y).1 hy)
  · obtain ⟨h1, h2⟩ := iterG_ok (f := theFlow c) hh n
    have h3 := roundG_ok (f := theFlow c) (body := bodyR (theFlow c) (m : Int)) (l := (bodyR (theFlow c) (m : Int)).take i) (g := iterG (theFlow c) (bodyR (theFlow c) (m : Int)) (m : Int) n) (fun b hb => List.mem_of_mem_take hb) h1 h2
    exact ⟨h3.2, nodup_len h3.1 h3.2⟩
  · have hd := loop_dom hf ht ((hin y).1 hy)
    obtain ⟨k, rfl, hk⟩ := reach_in hf hd.1
    exact (above_dom hf hk ((reached_iff hf hk).2 hd.1)).2 hd
theorem SlV.loops {H : PH} {v : Value} {xs : List LoopD} (h : SlV rLoop H v xs) (hne : 0 < xs.length) :
    ∃ b off cap, v = .slice (some ⟨b, off, none⟩) xs.length cap ∧ H b ≠ none ∧
      (∀ i, i < xs.length → ∃ u, SlV rInt H u (xs.getD i default).body ∧ ∀ w, Sees w H → w.cell? ⟨b, off + i * 2, none⟩ = some (.int .i64 (xs.getD i default).head) ∧ w.cell? ⟨b, off + i * 2 + 1, none⟩ = some u) := by
  obtain ⟨b, off, cap, rfl, hc, hb, he⟩ := h.base hne
  refine ⟨b, off, cap, rfl, hb, fun i hi => ?_⟩
  obtain ⟨cs, ⟨u, rfl, _, hu⟩, hcell⟩ := he i xs[i] (by simp [hi])
  refine ⟨u, by simpa [hi] using hu, fun w hw => ?_⟩
  have h0 := hcell w hw 0 _ rfl
  have h1 := hcell w hw 1 _ rfl
  simpa [rLoop, hi] using ⟨h0, h1⟩
theorem few_checked {c : CodeD} (h : c.instrs.length ≤ 120) : checkedE c = if fineB c = true then 0 else 1 := by
  have h1 := flow_len c
  have h2 := cnt_le (leadB c) c.instrs.length
  unfold checkedE
  split
  · rw [if_neg (by omega)]
  · rfl
set_option maxHeartbeats 8000000 in
set_option maxRecDepth 100000 in
theorem law_Heads (H : PH) (v : Value) (c : CodeD) (w : World) (hw : Sees w H) (hc : CodeV H v c) :
    Calls Try.prog 7 #[v] w fun e w' => e = .returned (.bool true) ∧ Below w.heap.size w w' := by
  have hc0 := hc
  obtain ⟨s0, s1, s2, s3, s4, s5, s6, rfl, hc⟩ := hc
  have hx0 := ga_new w (.cells #[s0, s1, s2, s3, s4, s5, s6] 30)
  have hB0 : Below w.heap.size w (w.alloc (.cells #[s0, s1, s2, s3, s4, s5, s6] 30)) := (Below.refl _ _).alloc (Nat.le_refl _) _
  have hA := law_awake (w.alloc (.cells #[s0, s1, s2, s3, s4, s5, s6] 30))
  have hFw := Lib.hid (fun (w1 : World) => law_few H _ c w1 hc0)
  by_cases hfew : c.instrs.length ≤ 120
  · have hfh := Lib.hid (show decide (c.instrs.length ≤ 120) = true from decide_eq_true hfew)
    have hfc := few_checked hfew
    cases hf : fineB c
    · rw [hf] at hfc
      have hBk := Lib.hid (fun (w1 : World) (hs : Sees w1 H) => graph_Blocks_no H _ c w1 hs hc0 hf)
      have hId := fun (w1 : World) (hs : Sees w1 H) => graph_Idoms_no H _ c w1 hs hc0 (by rw [hfc]; simp)
      have hLp := fun (w1 : World) (hs : Sees w1 H) => graph_Loops_no H _ c w1 hs hc0 (by rw [hfc]; simp)
      simp only [hfc, Bool.false_eq_true, if_false] at hId hLp
      have hIdh := Lib.hid hId
      have hLph := Lib.hid hLp
      clear hf hc hc0 hfew hfc hId hLp
      go_enter Try.func7, Try.ntmps7
      go_wp2_with (first
        | (go_at_call 10; refine hA.mono ?_; rintro e w1 ⟨rfl, hB1⟩; have hBa := bstep hB0 hB1; have hx1 := blk_keep hB1 hx0; have q := box7 hx1; have hl1 : w.heap.size < w1.heap.size := (Array.getElem?_eq_some_iff.1 hx1).1)
        | (go_at_call 14; refine (hFw.out _).mono ?_; rintro e w2 ⟨rfl, hB2⟩; rw [hfh.out]; replace hBa := bstep hBa hB2; replace hx1 := blk_keep hB2 hx1; clear q; have q := box7 hx1; replace hl1 : w.heap.size < w2.heap.size := (Array.getElem?_eq_some_iff.1 hx1).1)
        | (go_at_call 11; refine (hBk.out _ (hw.below hBa)).mono ?_; rintro e w3 ⟨rfl, hB3⟩; replace hBa := bstep hBa hB3; replace hx1 := blk_keep hB3 hx1; clear q; have q := box7 hx1; replace hl1 : w.heap.size < w3.heap.size := (Array.getElem?_eq_some_iff.1 hx1).1)
        | (go_at_call 16; refine (hIdh.out _ (hw.below hBa)).mono ?_; rintro e w4 ⟨rfl, hB4⟩; replace hBa := bstep hBa hB4; replace hx1 := blk_keep hB4 hx1; clear q; have q := box7 hx1; replace hl1 : w.heap.size < w4.heap.size := (Array.getElem?_eq_some_iff.1 hx1).1)
        | (go_at_call 19; refine (hLph.out _ (hw.below hBa)).mono ?_; rintro e w5 ⟨rfl, hB5⟩; replace hBa := bstep hBa hB5))
      go_ret
      exact ⟨rfl, hBa⟩
    · rw [hf, if_pos rfl] at hfc
      have hBk := Lib.hid (fun (w1 : World) (hs : Sees w1 H) => graph_Blocks_ok H _ c w1 hs hc0 hf)
      have hIdh := Lib.hid (fun (w1 : World) (hs : Sees w1 H) => graph_Idoms_ok H _ c w1 hs hc0 hfc)
      have hLph := Lib.hid (fun (w1 : World) (hs : Sees w1 H) => graph_Loops_ok H _ c w1 hs hc0 hfc)
      have hok := Lib.hid (fun x hx => hd_ok hfc hf (x := x) hx)
      have hlo := lpOk hfc
      have hfle := hlo.le
      have hil : (idomL (theFlow c)).length = (theFlow c).blocks.length := by simp [idomL]
      have hll := loopsTo_len (theFlow c) (theFlow c).blocks.length
      unfold BlocksErr at hBk
      unfold IntsErr at hIdh
      unfold LpErr at hLph
      generalize theFlow c = f at *
      generalize idomL f = idom at *
      obtain ⟨lps, hlps⟩ : ∃ lps, loopsTo f f.blocks.length = lps := ⟨_, rfl⟩
      rw [hlps] at hLph hok hll
      have hnn : ((f.blocks.length : Int) != f.blocks.length) = false := by simp
      clear hf hc hc0 hfew hfc hlps hlo
      go_enter Try.func7, Try.ntmps7
      go_wp2_with (first
        | (go_at_call 10; refine hA.mono ?_; rintro e w1 ⟨rfl, hB1⟩; have hBa := bstep hB0 hB1; have hx1 := blk_keep hB1 hx0; have q := box7 hx1; have hl1 : w.heap.size < w1.heap.size := (Array.getElem?_eq_some_iff.1 hx1).1)
        | (go_at_call 14; refine (hFw.out _).mono ?_; rintro e w2 ⟨rfl, hB2⟩; rw [hfh.out]; replace hBa := bstep hBa hB2; replace hx1 := blk_keep hB2 hx1; clear q; have q := box7 hx1; replace hl1 : w.heap.size < w2.heap.size := (Array.getElem?_eq_some_iff.1 hx1).1)
        | (go_at_call 11; refine (hBk.out _ (hw.below hBa)).mono ?_; rintro e w3 ⟨⟨ub, rfl, hub⟩, hB3⟩; obtain ⟨Ab, cb, rfl, -, -⟩ := hub.open_; have hs3 := extH.sees (hw.below hBa) hB3; have hH3 := extH.le (hw.below hBa) w3; replace hBa := bstep hBa hB3; replace hx1 := blk_keep hB3 hx1; clear q; have q := box7 hx1; replace hl1 : w.heap.size < w3.heap.size := (Array.getElem?_eq_some_iff.1 hx1).1)
        | (go_at_call 16; refine (hIdh.out _ (hw.below hBa)).mono ?_; rintro e w4 ⟨⟨ui, rfl, hui⟩, hB4⟩; obtain ⟨Ai, ci, rfl, -, -⟩ := hui.open_; rw [hil]; have hs4 := extH.sees (hw.below hBa) hB4; replace hBa := bstep hBa hB4; replace hx1 := blk_keep hB4 hx1; clear q; have q := box7 hx1; replace hl1 : w.heap.size < w4.heap.size := (Array.getElem?_eq_some_iff.1 hx1).1)
        | (go_at_call 19; refine (hLph.out _ (hw.below hBa)).mono ?_; rintro e w5 ⟨⟨up, rfl, hup⟩, hB5⟩; obtain ⟨Ap, cp, rfl, -, -⟩ := hup.open_; have hs5 := extH.sees (hw.below hBa) hB5; replace hBa := bstep hBa hB5; clear q))
      have hwz : w.heap.size ≤ w2.heap.size := by have := hB1.size; have := hB2.size; rw [World.size_alloc] at *; omega
      have hz23 := hB3.size
      have hz34 := hB4.size
      have hlK3 : PH.le (extH H w2 w3) (extH H w w5) := fun i o e => extH.step (bstep hB4 hB5) i o (extH.lower hw hwz i o e)
      have hlK4 : PH.le (extH H w3 w4) (extH H w w5) := fun i o e => extH.step hB5 i o (extH.lower hw (by omega) i o e)
      have hlK5 : PH.le (extH H w4 w5) (extH H w w5) := extH.lower hw (by omega)
      have hsK := extH.sees hw hBa
      have hubK := hub.mono hlK3
      have huiK := hui.mono hlK4
      have hupK := hup.mono hlK5
      clear hlK3 hlK4 hlK5 hs3 hs4 hs5 hub hui hup hH3 hx1 hl1 hx0 hB0 hB1 hB2 hB3 hB4 hB5 hA hFw hBk hIdh hLph hfh
      generalize extH H w w5 = K at *
      have hilh := Lib.hid hil
      rw [hil] at huiK
      clear hil
      go_loopw [10] (fun i wr => ∃ k : Nat, k ≤ lps.length ∧ i = .int .i64 k ∧ Below w5.heap.size w5 wr) (fun i _ => lps.length - (intOf i).toNat)
      case atStart => exact ⟨0, Nat.zero_le _, rfl, Below.refl _ _⟩
      case round =>
        obtain ⟨k, hk, rfl, hB⟩ := hrel
        have hs := hsK.below hB
        by_cases hkl : k < lps.length
        · have hkl' : (k : Int) < lps.length := by omega
          have hk0 : (0 : Int) ≤ k := by omega
          obtain ⟨bP, oP, cP, e1, hbP, hrow⟩ := hupK.loops (by omega)
          cases e1
          obtain ⟨u, hu, hcell⟩ := hrow k hkl
          have hx := hok.out (lps.getD k default) (by rw [List.getD_eq_getElem?_getD, List.getElem?_eq_getElem hkl]; exact List.getElem_mem _)
          obtain ⟨p1, p2⟩ := hcell wr hs
          have lP := hs.lt' hbP
          clear hrow hcell
          generalize lps.getD k default = x at *
          obtain ⟨xh, xb⟩ := x
          simp only at hu p1 p2
          have hxh := Lib.hid hx
          have hr0 := hx.rng.1
          have hr1 := hx.rng.2
          have hbl := hx.blen
          have hn1 : decide (xh < 0) = false := decide_eq_false (by simp only at hr0; omega)
          have hn2 : decide ((f.blocks.length : Int) ≤ xh) = false := decide_eq_false (by simp only at hr1; omega)
          have hhas : hasB xb xh = true := decide_eq_true hx.has
          have hhash := Lib.hid hhas
          obtain ⟨Au, cu, rfl, -, -⟩ := hu.open_
          simp only at hr0 hr1 hbl
          clear hx hhas
          have hset := set_new wr
          go_upto_region 15 with fail
          clear hset p1 p2 lP
          refine wp_name fun W hW => ?_
          have hxW : W.heap[wr.heap.size]? = some (.cells #[.int .i64 xh, .slice Au xb.length cu] 53 (0, 0)) := by rw [hW]; exact ga_new _ _
          have hBW : Below wr.heap.size wr W := by rw [hW]; exact (Below.refl _ _).alloc (Nat.le_refl _) _
          have hsW := hs.below hBW
          have q0 := cell_blk hxW 0
          have q1 := cell_blk hxW 1
          simp only [List.getElem?_toArray, List.getElem?_cons_succ, List.getElem?_cons_zero] at q0 q1
          have lq := (Array.getElem?_eq_some_iff.1 hxW).1
          clear hW
          go_upto_region 17 with (first
            | (go_at_call 20; refine (law_has K xh _ xb W hsW hu).mono ?_; rintro e w6 ⟨rfl, rfl⟩; rw [hhash.out])
            | (go_at_call 21; refine (law_closed K _ _ _ f idom xh xb W hsW hubK huiK hu hilh.out (by omega) hxh.out.closed).mono ?_; rintro e w7 ⟨rfl, hB7⟩; have hx7 := blk_keep hB7 hxW; have hs7 := hsW.below hB7; clear q0 q1 lq; have q0 := cell_blk hx7 0; have q1 := cell_blk hx7 1; simp only [List.getElem?_toArray, List.getElem?_cons_succ, List.getElem?_cons_zero] at q0 q1; have lq := (Array.getElem?_eq_some_iff.1 hx7).1)
            | (go_at_call 22; refine (law_leads K _ _ f xh xb w7 hs7 hubK hu (by omega) hxh.out.brng hbl hxh.out.gok).mono ?_; rintro e w8 ⟨rfl, hB8⟩; rw [decide_eq_true hxh.out.leads]; have hx8 := blk_keep hB8 hx7; have hs8 := hs7.below hB8; clear q0 q1 lq; have q0 := cell_blk hx8 0; have q1 := cell_blk hx8 1; simp only [List.getElem?_toArray, List.getElem?_cons_succ, List.getElem?_cons_zero] at q0 q1; have lq := (Array.getElem?_eq_some_iff.1 hx8).1))
          have hB58 : Below w5.heap.size w5 w8 := bstep hB (bstep hBW (bstep hB7 hB8))
          obtain ⟨wo, rfl⟩ : ∃ wo : World, wo = wr := ⟨_, rfl⟩
          clear q0 q1 lq hx7 hs7 hxW hsW hBW hB7 hB8 hs hn1 hn2
          go_wp2_with fail
          go_loopw [12] (fun j wr => ∃ m : Nat, m ≤ xb.length ∧ j = .int .i64 m ∧ wr.heap[wo.heap.size]? = some (.cells #[.int .i64 xh, .slice Au xb.length cu] 53 (0, 0)) ∧ Below w5.heap.size w5 wr) (fun j _ => xb.length - (intOf j).toNat)
          case atStart => exact ⟨0, Nat.zero_le _, rfl, hx8, hB58⟩
          clear hx8 hB58 hs8
          case round =>
            obtain ⟨m, hm, rfl, hx, hBr⟩ := hrel
            have hs := hsK.below hBr
            have q0 := cell_blk hx 0
            have q1 := cell_blk hx 1
            simp only [List.getElem?_toArray, List.getElem?_cons_succ, List.getElem?_cons_zero] at q0 q1
            have lq := (Array.getElem?_eq_some_iff.1 hx).1
            by_cases hml : m < xb.length
            · have hml' : (m : Int) < xb.length := by omega
              have hm0 : (0 : Int) ≤ m := by omega
              obtain ⟨b2, o2, c2, e2, -, hb2, hc2, -⟩ := hu.ints (by omega)
              cases e2
              have p4 := hc2 wr hs m hml
              have l4 := hs.lt' hb2
              have hab := hxh.out.above (xb.getD m 0) (by simp only; rw [List.getD_eq_getElem?_getD, List.getElem?_eq_getElem hml]; exact List.getElem_mem _)
              clear hc2
              obtain ⟨y2, hy2⟩ : ∃ y, xb.getD m 0 = y := ⟨_, rfl⟩
              rw [hy2] at p4 hab
              clear hy2
              have hAb := law_above K xh y2 _ idom wr.drew (by exact fun i o e => hs i o e) (by rw [← hilh.out] at huiK; exact huiK)
              rw [hilh.out] at hAb
              simp only at hab
              rw [hab] at hAb
              have hcs := Lib.hid (fun (w' : World) (h : w'.heap = wr.heap) => And.intro ((cell_heap h _).trans q0) (And.intro ((cell_heap h _).trans q1) (And.intro (size_heap h lq) (And.intro ((cell_heap h _).trans p4) (size_heap h l4)))))
              clear hab
              go_upto_region 20 with fail
              refine wp_region_plan (fun w' => w'.heap = wr.heap) [(0, true), (1, true), (2, true), (3, true), (4, true), (5, true), (6, true), (7, true), (8, false), (9, true)] (by kernel_rfl) (by kernel_rfl) (by kernel_rfl) rfl ?_
              repeat first
                | (refine plan_skip rfl (by rfl) ?_; simp only [Act.put, List.setIfInBounds_toArray, List.set_cons_zero, List.set_cons_succ])
                | (refine plan_read (v := ?_) rfl (by rfl) ?_ ?_; rotate_left; (focus (intro w' hSw; obtain ⟨p1, p2, p3, p4, p5⟩ := hcs.out _ hSw; clear hSw; go_simp; all_goals with_reducible rfl)); simp only [Act.put, List.setIfInBounds_toArray, List.set_cons_zero, List.set_cons_succ])
              refine plan_step rfl (by rfl) (fun K hK => ?_)
              go_simp
              refine hAb.mono ?_
              rintro e w6 ⟨rfl, rfl⟩
              refine hK.out _ _ rfl ?_
              clear hK K
              repeat first
                | (refine plan_skip rfl (by rfl) ?_; simp only [Act.put, List.setIfInBounds_toArray, List.set_cons_zero, List.set_cons_succ])
                | (refine plan_read (v := ?_) rfl (by rfl) ?_ ?_; rotate_left; (focus (intro w' hSw; skip; clear hSw; go_simp; all_goals with_reducible rfl)); simp only [Act.put, List.setIfInBounds_toArray, List.set_cons_zero, List.set_cons_succ])
              refine plan_nil (NoPanic.normal ?_)
              go_wp2
              go_roundw
              case rel => exact ⟨m + 1, by omega, by go_num, hx, bdrew hBr⟩
              case measure => simp [intOf]; omega
            · obtain rfl : m = xb.length := by omega
              have hmn : ¬ (xb.length : Int) < xb.length := by omega
              clear hml
              go_wp2
              go_roundw
              case rel => exact ⟨k + 1, by omega, by go_num, hBr⟩
              case measure => simp [intOf]; omega
        · obtain rfl : k = lps.length := by omega
          have hkn : ¬ (lps.length : Int) < lps.length := by omega
          clear hkl
          go_wp2
          go_ret
          exact ⟨rfl, bstep hBa hB⟩
  · have hfh := Lib.hid (show decide (c.instrs.length ≤ 120) = false from decide_eq_false hfew)
    clear hfew hc hc0
    go_enter Try.func7, Try.ntmps7
    go_wp2_with (first
      | (go_at_call 10; refine hA.mono ?_; rintro e w1 ⟨rfl, hB1⟩; have hBa := bstep hB0 hB1; have hx1 := blk_keep hB1 hx0; have q := box7 hx1; have hl1 : w.heap.size < w1.heap.size := (Array.getElem?_eq_some_iff.1 hx1).1)
      | (go_at_call 14; refine (hFw.out _).mono ?_; rintro e w2 ⟨rfl, hB2⟩; rw [hfh.out]; replace hBa := bstep hBa hB2; replace hx1 := blk_keep hB2 hx1; clear q; have q := box7 hx1; replace hl1 : w.heap.size < w2.heap.size := (Array.getElem?_eq_some_iff.1 hx1).1))
    go_ret
    exact ⟨rfl, hBa⟩
end Go.Proofs.Ytififjlgjmgikaa
