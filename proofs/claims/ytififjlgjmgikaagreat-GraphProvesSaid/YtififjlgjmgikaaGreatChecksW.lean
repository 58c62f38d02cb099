/- The reference's Check; GraphChecks, walked (seat .Z). -/
import Derived.Test.YtififjlgjmgikaaGreatRefP
namespace Go.Proofs.YtififjlgjmgikaaGreat
set_option linter.all false
open Go.RowKit Go.Shelf

/-- The list of immediate dominators, as far as it is made. -/
def IlJ (f : FlowD) (l : List DominD) (k : Nat) (xs : List Int) : Prop := IlI f l k xs ∧ ∀ b, b < k → f.reached.getD b false = false → xs.getD b 0 = -2
theorem IlJ.skip {f : FlowD} {l : List DominD} {k : Nat} {xs : List Int} (h : IlJ f l k xs) (hk : k < f.blocks.length) (hr : f.reached.getD k false = false) : IlJ f l (k + 1) (xs.set k (-2)) := by
  refine ⟨h.1.skip hr _, fun b hb hbr => ?_⟩
  by_cases e : b = k
  · subst e
    rw [List.getD_eq_getElem?_getD, List.getElem?_set_self (by rw [h.1.1]; exact hk)]
    rfl
  · rw [List.getD_eq_getElem?_getD, List.getElem?_set_ne (fun k' => e k'.symm), ← List.getD_eq_getElem?_getD]
    exact h.2 b (by omega) hbr
theorem IlJ.more {f : FlowD} {l : List DominD} {k : Nat} {xs : List Int} (h : IlJ f l k xs) (hk : k < f.blocks.length) (hr : f.reached.getD k false = true) (h1 : (wantK f k).length < l.length) (h2 : (l.getD (wantK f k).length default).block = (k : Int)) (h3 : ProofQ f (l.getD (wantK f k).length default)) : IlJ f l (k + 1) (xs.set k (l.getD (wantK f k).length default).idom) := by
  refine ⟨h.1.more hk h1 h2 h3, fun b hb hbr => ?_⟩
  by_cases e : b = k
  · subst e; rw [hr] at hbr; cases hbr
  · rw [List.getD_eq_getElem?_getD, List.getElem?_set_ne (fun k' => e k'.symm), ← List.getD_eq_getElem?_getD]
    exact h.2 b (by omega) hbr
theorem IlJ.i64 {f : FlowD} {l : List DominD} {xs : List Int} (hle : f.blocks.length ≤ 20000) (h : IlJ f l f.blocks.length xs) : ∀ x ∈ xs, I64 x := by
  intro x hx
  obtain ⟨b, hb, rfl⟩ := List.getElem_of_mem hx
  have hxl := h.1.1
  have e : xs.getD b 0 = xs[b] := by rw [List.getD_eq_getElem?_getD, List.getElem?_eq_getElem hb]; rfl
  cases hr : f.reached.getD b false
  · have := h.2 b (by omega) hr
    rw [e] at this
    rw [this]
    unfold I64
    omega
  · obtain ⟨h1, _, h3, h4⟩ := h.1.2 b (by omega) hr
    have := h3.rng
    rw [e] at h4
    rw [h4]
    unfold I64
    omega
set_option maxHeartbeats 4000000 in
set_option maxRecDepth 100000 in
theorem r19_Check_no (H : PH) (v vl : Value) (c : CodeD) (l : List DominD) (w : World) (hw : Sees w H) (hc : CodeV H v c) (hE0 : checkedE c ≠ 0) :
    Calls Tryz.prog 33 #[v, vl] w fun e w' => e = .returned (.int .i64 (checkedE c)) ∧ Below w.heap.size w w' := by
  have hSm := Lib.hid (fun (w1 : World) (hs : Sees w1 H) => r19_Small H _ c w1 hs hc)
  have hc0 := hc
  obtain ⟨s0, s1, s2, s3, s4, s5, s6, rfl, hc⟩ := hc
  have hx0 := ga_new w (.cells #[s0, s1, s2, s3, s4, s5, s6] 30)
  have hB0 : Below w.heap.size w (w.alloc (.cells #[s0, s1, s2, s3, s4, s5, s6] 30)) := (Below.refl _ _).alloc (Nat.le_refl _) _
  clear hc hc0
  obtain ⟨CE, hE⟩ : ∃ CE, checkedE c = CE := ⟨_, rfl⟩
  have hEh := Lib.hid hE
  rw [hE] at hE0 ⊢
  have hne : (CE != 0) = true := by simpa using hE0
  clear hE hE0
  go_enter Tryz.func33, Tryz.ntmps33
  go_wp2_with (first
    | (go_at_call 35; refine (hSm.out _ (hw.below hB0)).mono ?_; rintro e w1 ⟨⟨t0, t1, t2, t3, t4, t5, t6, L, E, R, rfl, hone, ho3, hrd⟩, hB1⟩; go_must (rw [hEh.out]); have hBa := bstep hB0 hB1; have hsa := extH.sees (hw.below hB0) hB1; have hrdh := Lib.hid hrd; clear hrd)
    | (with_reducible refine wpL_storeG rfl _ _ rfl w1.heap.size t0 t1 t2 t3 t4 t5 t6 L E R _ rfl rfl (ga_new w1 (.cells zeroG 65)) rfl hone ho3 ?_; intro w2 hb2 hg2 hz2; rw [World.size_alloc] at hz2; have hB12 : Below w1.heap.size w1 w2 := (((Below.refl _ _).alloc (Nat.le_refl _) _).grown hg2 (by simp) fun k hk => by injection hk with hk; omega); replace hBa := bstep hBa hB12))
  go_ret
  exact ⟨rfl, hBa⟩
set_option maxHeartbeats 8000000 in
set_option maxRecDepth 100000 in
theorem r19_Check_ok (H : PH) (v vl : Value) (c : CodeD) (l : List DominD) (w : World) (hw : Sees w H) (hc : CodeV H v c) (hl : SlV rDomin H vl l) (hE : checkedE c = 0) :
    Calls Tryz.prog 33 #[v, vl] w fun e w' => e = .returned (.int .i64 (if dcd (PrfP (theFlow c) l) = true then 0 else 8)) ∧ Below w.heap.size w w' := by
  have hSm := Lib.hid (fun (w1 : World) (hs : Sees w1 H) => r19_Small H _ c w1 hs hc)
  have hc0 := hc
  obtain ⟨s0, s1, s2, s3, s4, s5, s6, rfl, hc⟩ := hc
  have hx0 := ga_new w (.cells #[s0, s1, s2, s3, s4, s5, s6] 30)
  have hB0 : Below w.heap.size w (w.alloc (.cells #[s0, s1, s2, s3, s4, s5, s6] 30)) := (Below.refl _ _).alloc (Nat.le_refl _) _
  clear hc hc0
  have hEh := Lib.hid hE
  have hf := checked_fine hE
  have hfh := Lib.hid hf
  obtain ⟨X, hX⟩ : ∃ X : Int, (if dcd (PrfP (theFlow c) l) = true then 0 else 8) = X := ⟨_, rfl⟩
  have hP := prf_iff hf (l := l)
  have hS := Lib.hid (show ((l.map (·.block) = wantL (theFlow c) ∧ (∀ d ∈ l, ProofQ (theFlow c) d) ∧ FitP (theFlow c) l) → X = 0) ∧ (¬ (l.map (·.block) = wantL (theFlow c) ∧ (∀ d ∈ l, ProofQ (theFlow c) d) ∧ FitP (theFlow c) l) → X = 8) from ⟨fun h => by rw [← hX, if_pos (dcd_iff.2 (hP.2 h))], fun h => by rw [← hX, if_neg (fun k => h (hP.1 (dcd_iff.1 k)))]⟩)
  have hwn := Lib.hid (want_next hf)
  have hle := flow_le hf
  rw [hX]
  have hEo := hEh.out
  clear hX hP hE hf hEo
  go_enter Tryz.func33, Tryz.ntmps33
  go_upto_region 4 with (first
    | (go_at_call 35; refine (hSm.out _ (hw.below hB0)).mono ?_; rintro e w1 ⟨⟨t0, t1, t2, t3, t4, t5, t6, L, E, R, rfl, hone, ho3, hrd⟩, hB1⟩; go_must (rw [hEh.out]); have hBa := bstep hB0 hB1; have hsa := extH.sees (hw.below hB0) hB1; have hrdh := Lib.hid hrd; clear hrd)
    | (with_reducible refine wpL_storeG rfl _ _ rfl w1.heap.size t0 t1 t2 t3 t4 t5 t6 L E R _ rfl rfl (ga_new w1 (.cells zeroG 65)) rfl hone ho3 ?_; intro w2 hb2 hg2 hz2; rw [World.size_alloc] at hz2; have hB12 : Below w1.heap.size w1 w2 := (((Below.refl _ _).alloc (Nat.le_refl _) _).grown hg2 (by simp) fun k hk => by injection hk with hk; omega); replace hBa := bstep hBa hB12))
  obtain ⟨hL, hE2, hR⟩ := hrdh.out hfh.out
  have hleK := extH.step (H := H) (w := w.alloc (.cells #[s0, s1, s2, s3, s4, s5, s6] 30)) hB12
  have hG := grB_of hfh.out (extH.new (by have := hB0.size; have := hB1.size; omega) hb2) (hL.mono hleK) (hE2.mono hleK) (hR.mono hleK)
  have hs2 := extH.sees (hw.below hB0) (bstep hB1 hB12)
  have hlK := hl.mono (extH.le (hw.below hB0) w2)
  have hBw2 := hBa
  have hfr2 : extH H (w.alloc (.cells #[s0, s1, s2, s3, s4, s5, s6] 30)) w2 w2.heap.size = none := hs2.fresh (Nat.le_refl _)
  have hzw2 := hBw2.size
  obtain ⟨Al, cl, rfl, -, -⟩ := hl.open_
  clear hL hE2 hR hleK hrdh hfh hSm hEh hB1 hB12 hb2 hg2 hz2 hBa hone ho3 hl hx0 hB0
  generalize extH H (w.alloc (.cells #[s0, s1, s2, s3, s4, s5, s6] 30)) w2 = K at *
  obtain ⟨bg, hbg⟩ : ∃ bg, w1.heap.size = bg := ⟨_, rfl⟩
  rw [hbg] at hG ⊢
  clear hbg
  generalize theFlow c = f at *
  have hGh := Lib.hid hG
  obtain ⟨g0, g1, g2, g3, g4, g5, g6, hbk⟩ := hG.blk
  have hlR := hG.lenR
  have hRe := hG.reached
  obtain ⟨AL, cL, rfl, -, -⟩ := hG.blocks.open_
  obtain ⟨AR, cR, rfl, -, -⟩ := hRe.open_
  rw [hlR] at hbk
  have hlRh := Lib.hid hlR
  have hmk := mk_ints' f.blocks.length (by omega)
  have q := box10 (hs2 _ _ hbk)
  have lg := hs2.lt hbk
  clear hG hlR
  go_upto_region 5 with fail
  refine wp_name fun W hW => ?_
  have hBn : Below w2.heap.size w2 W := by rw [hW]; exact (Below.refl _ _).alloc (Nat.le_refl _) _
  have hown0 : OwnI W w2.heap.size (.slice (some ⟨w2.heap.size, 0, none⟩) f.blocks.length f.blocks.length) (List.replicate f.blocks.length 0) := by rw [hW]; exact OwnI.zeros _ _ (by omega)
  have hsW := hs2.below hBn
  have hBW := bstep hBw2 hBn
  clear hW q lg hmk hBn hs2
  obtain ⟨G, hGe⟩ : ∃ G, w2.heap.size = G := ⟨_, rfl⟩
  rw [hGe] at hown0 hfr2 hzw2 ⊢
  clear hGe hBw2
  have q := box10 (hsW _ _ hbk)
  have lg := hsW.lt hbk
  go_wp2_with fail
  clear q lg
  go_loopw [8, 9] (fun m i wr => ∃ (k : Nat) (xs : List Int), k ≤ f.blocks.length ∧ i = .int .i64 k ∧ m = .int .i64 (wantK f k).length ∧ OwnI wr G (.slice (some ⟨G, 0, none⟩) f.blocks.length f.blocks.length) xs ∧ Aside (IlJ f l k xs) ∧ Sees wr K ∧ Below w.heap.size w wr) (fun _ i _ => f.blocks.length - (intOf i).toNat)
  case atStart => exact ⟨0, _, Nat.zero_le _, rfl, rfl, hown0, ⟨⟨by simp, fun b hb => by omega⟩, fun b hb => by omega⟩, hsW, hBW⟩
  clear hown0 hsW hBW
  case round =>
    obtain ⟨k, xs, hk, rfl, rfl, hown, hI, hs, hB⟩ := hrel
    have hIh := Lib.hid hI
    have hxl := hI.1.1
    clear hI
    have q := box10 (hs _ _ hbk)
    have lg := hs.lt hbk
    by_cases hlt : k < f.blocks.length
    · have hlt' : (k : Int) < f.blocks.length := by omega
      have hk0 : (0 : Int) ≤ k := by omega
      have hac := hown.cellk (j := k) (by omega)
      have haf := hown.free k
      have hgl := (hown.lt (k := G) rfl).2
      go_upto_region 10 with fail
      refine wp_name fun wa hwa => ?_
      have howna : OwnI wa G (.slice (some ⟨G, 0, none⟩) f.blocks.length f.blocks.length) (xs.set k (-2)) := by rw [hwa]; exact hown.setN hxl hlt _
      have hga : wr.grownBy wa (some G) := by rw [hwa]; exact grown_set (grown_refl _ _)
      have hsa := hs.grown hga hfr2
      have hBa : Below w.heap.size w wa := hB.grown hga hB.size (fun j e => by have := Option.some.inj e; omega)
      clear hwa hac haf hgl q lg hown hs hB hga
      have q := box10 (hsa _ _ hbk)
      have lg := hsa.lt hbk
      obtain ⟨rb, ro, rc, hve, -, hrb, hrcell⟩ := hRe.bools (by rw [hlRh.out]; omega)
      rw [hlRh.out] at hve
      cases hve
      have hcr := hrcell wa hsa k (by rw [hlRh.out]; exact hlt)
      have hrl := hsa.lt' hrb
      clear hrcell
      have hwl := wantK_len f k
      cases hr : f.reached.getD k false
      · rw [hr] at hcr
        have hI2 := Lib.hid (hIh.out.skip hlt hr)
        have hst := Lib.hid (show wantK f (k + 1) = wantK f k by rw [wantK_succ, hr]; simp)
        clear hr
        go_wp2
        go_roundw
        case rel => exact ⟨k + 1, _, by omega, by go_num, by rw [hst.out], howna, hI2.out, hsa, hBa⟩
        case measure => simp [intOf]; omega
      · rw [hr] at hcr
        have hst := Lib.hid (show (wantK f (k + 1)).length = (wantK f k).length + 1 by rw [wantK_succ, hr]; simp)
        have hall := Lib.hid (fun (h : l.map (·.block) = wantL f) => IlI.of_all h hlt hr)
        have hrch : rchB f (k : Int) = true := by simpa [rchB] using hr
        have hmore := Lib.hid (fun (h1 : (wantK f k).length < l.length) => hIh.out.more (k := k) hlt hr h1)
        clear hr
        generalize (wantK f k).length = m at *
        by_cases hml : m < l.length
        · have hml' : (m : Int) < l.length := by omega
          have hm0 : (0 : Int) ≤ m := by omega
          have t2 : decide ((l.length : Int) ≤ m) = false := decide_eq_false (by omega)
          have t3 : decide (l.length ≤ m) = false := decide_eq_false (by omega)
          obtain ⟨bl, ol, cl', e9, hbl, hrow⟩ := hlK.domins (by omega)
          cases e9
          obtain ⟨v1, v2, hv1, hv2, i1, i2, hcell⟩ := hrow m hml
          obtain ⟨p0, p1, p2, p3⟩ := hcell wa hsa
          have ll := hsa.lt' hbl
          have hcellh := Lib.hid hcell
          have hmem : l.getD m default ∈ l := by rw [List.getD_eq_getElem?_getD, List.getElem?_eq_getElem hml]; exact List.getElem_mem _
          have hall2 := Lib.hid (fun h => (hall.out h).2)
          have hmore2 := Lib.hid (hmore.out hml)
          clear hrow hcell hall hmore
          have hbadP := Lib.hid (fun (h : ¬ ProofQ f (l.getD m default)) => hS.out.2 fun k => h (k.2.1 _ hmem))
          clear hmem
          generalize l.getD m default = d at *
          obtain ⟨db, di, d1, d2⟩ := d
          simp only at hv1 hv2 i1 i2 p0 p1 p2 p3
          by_cases hdb : db = (k : Int)
          · subst hdb
            have t4 : ((k : Int) != k) = false := by simp
            have hPf := r19_proof K bg _ _ _ _ f ⟨(k : Int), di, d1, d2⟩ wa hsa hGh.out ⟨_, _, rfl, hv1, hv2⟩ ⟨hk0, hlt'⟩ hrch
            cases hpb : proofB f ⟨(k : Int), di, d1, d2⟩
            · rw [hpb] at hPf
              have hb := Lib.hid (hbadP.out fun h => by
                have := dcd_iff.2 h
                rw [show dcd (ProofQ f ⟨(k : Int), di, d1, d2⟩) = proofB f ⟨(k : Int), di, d1, d2⟩ from rfl, hpb] at this
                cases this)
              clear hpb hS hbadP
              go_wp2_with (go_at_call 73; refine hPf.mono ?_; rintro e w3 ⟨rfl, hB3⟩)
              go_ret
              exact ⟨ret_num hb.out.symm, bstep hBa hB3⟩
            · rw [hpb] at hPf
              have hI2 := Lib.hid (hmore2.out rfl (dcd_iff.1 hpb))
              clear hpb hbadP
              go_upto_region 13 with (go_at_call 73; refine hPf.mono ?_; rintro e w3 ⟨rfl, hB3⟩)
              have hs3 := hsa.below hB3
              have hB3w := bstep hBa hB3
              have hown3 := howna.below hB3
              obtain ⟨p0', p1', p2', p3'⟩ := hcellh.out w3 hs3
              have ll3 := hs3.lt' hbl
              have hac := hown3.cellk (j := k) (by simp; omega)
              have haf := hown3.free k
              have hgl := (hown3.lt (k := G) rfl).2
              clear q lg hcr hrl p0 p1 p2 p3 ll
              go_upto_region 14 with fail
              refine wp_name fun wc hwc => ?_
              have hownc : OwnI wc G (.slice (some ⟨G, 0, none⟩) f.blocks.length f.blocks.length) (xs.set k di) := by
                rw [hwc]
                have h9 := hown3.setN (by simp [hxl]) hlt di
                simpa [List.set_set] using h9
              have hgc : w3.grownBy wc (some G) := by rw [hwc]; exact grown_set (grown_refl _ _)
              have hsc := hs3.grown hgc hfr2
              have hBc : Below w.heap.size w wc := hB3w.grown hgc hB3w.size (fun j e => by have := Option.some.inj e; omega)
              clear hwc hac haf hgl hgc hown3 hs3 p0' p1' p2' p3' ll3
              go_wp2
              go_roundw
              case rel => exact ⟨k + 1, _, by omega, by go_num, by rw [hst.out]; go_num, hownc, hI2.out, hsc, hBc⟩
              case measure => simp [intOf]; omega
          · have t4 : (db != (k : Int)) = true := by simpa using hdb
            have hb := Lib.hid (hS.out.2 fun h => hdb (hall2.out h.1))
            clear hdb hS hbadP
            go_wp2
            go_ret
            exact ⟨ret_num hb.out.symm, hBa⟩
        · have t2 : decide ((l.length : Int) ≤ m) = true := decide_eq_true (by omega)
          have t3 : decide (l.length ≤ m) = true := decide_eq_true (by omega)
          have hb := Lib.hid (hS.out.2 fun h => hml (hall.out h.1).1)
          obtain ⟨Al', cl', e9, -, -⟩ := hlK.open_
          clear hml hS
          go_wp2
          go_ret
          exact ⟨ret_num hb.out.symm, hBa⟩
    · obtain rfl : k = f.blocks.length := by omega
      have hltn : ¬ (f.blocks.length : Int) < f.blocks.length := by omega
      have hwl : (wantK f f.blocks.length).length = (wantL f).length := rfl
      rw [hwl]
      by_cases hlen : l.length = (wantL f).length
      · have t1 : (((wantL f).length : Int) != l.length) = false := by rw [hlen]; simp
        have t2 : ((wantL f).length != l.length) = false := by rw [hlen]; simp
        obtain ⟨d1, d2, d3⟩ := hIh.out.1.done hlen
        have hsF := full.sees wr
        have hK5 : PH.le K (full wr) := hs
        have hil : SlV rInt (full wr) (.slice (some ⟨G, 0, none⟩) f.blocks.length f.blocks.length) xs := hown.readK (fun j e => rfl) (hIh.out.i64 hle) (by rw [hxl]; unfold maxN; omega)
        have hci := closedI_of (il := xs) hxl d1 d2 d3
        have hFt := r19_fits (full wr) bg _ _ _ _ f xs l wr hsF (hGh.out.mono hK5) hil hci d1 hwn.out
        clear hlt hltn
        cases hfb : fitB f l
        · rw [hfb] at hFt
          have hb := Lib.hid (hS.out.2 fun h => by
            have := dcd_iff.2 h.2.2
            rw [show dcd (FitP f l) = fitB f l from rfl, hfb] at this
            cases this)
          clear hfb hS hlen hci hil d1 d2 d3
          go_wp2_with (go_at_call 74; refine hFt.mono ?_; rintro e w3 ⟨rfl, rfl⟩)
          go_ret
          exact ⟨ret_num hb.out.symm, hB⟩
        · rw [hfb] at hFt
          have hb := Lib.hid (hS.out.1 ⟨d1, d2, dcd_iff.1 hfb⟩)
          clear hfb hS hlen hci hil d1 d2 d3
          go_wp2_with (go_at_call 74; refine hFt.mono ?_; rintro e w3 ⟨rfl, rfl⟩)
          go_ret
          exact ⟨ret_num hb.out.symm, hB⟩
      · have t1 : (((wantL f).length : Int) != l.length) = true := by rw [bne_iff_ne]; omega
        have t2 : ((wantL f).length != l.length) = true := by rw [bne_iff_ne]; omega
        have hb := Lib.hid (hS.out.2 fun h => hlen (by have := congrArg List.length h.1; rwa [List.length_map] at this))
        clear hlen hS hlt hltn
        go_wp2
        go_ret
        exact ⟨ret_num hb.out.symm, hB⟩
theorem r19_Check (H : PH) (v vl : Value) (c : CodeD) (l : List DominD) (w : World) (hw : Sees w H) (hc : CodeV H v c) (hl : SlV rDomin H vl l) :
    Calls Tryz.prog 33 #[v, vl] w fun e w' => e = .returned (.int .i64 (chkE c l)) ∧ Below w.heap.size w w' := by
  unfold chkE
  by_cases hE : checkedE c = 0
  · rw [if_pos hE]
    exact r19_Check_ok H v vl c l w hw hc hl hE
  · rw [if_neg hE]
    exact r19_Check_no H v vl c l w hw hc hE
end Go.Proofs.YtififjlgjmgikaaGreat
