/- GraphCovers, walked. -/
import Derived.Test.YtififjlgjmgikaaDomW
import Derived.Test.YtififjlgjmgikaaCoversM
import Derived.Test.YtififjlgjmgikaaPlan
import Derived.Deep.DeepCutAuto
namespace Go.Proofs.Ytififjlgjmgikaa
set_option linter.all false
open Go.RowKit

/-- What the law's first loop knows behind k blocks: it stands at place a, and has marked where they begin. -/
def CovI (c : CodeD) (k a : Nat) (fs : List Bool) : Prop :=
  fs.length = c.instrs.length + 1 ∧ a ≤ c.instrs.length ∧ cnt (leadB c) a = k ∧ (a = c.instrs.length ∨ (leadB c).getD a false = true) ∧ ∀ j, j ≤ c.instrs.length → fs.getD j false = ((leadB c).getD j false && decide (j < a))
theorem CovI.start {c : CodeD} (hn : 0 < c.instrs.length) : CovI c 0 0 (List.replicate (c.instrs.length + 1) false) :=
  ⟨by simp, Nat.zero_le _, rfl, .inr (lead_zero c hn), fun j hj => by simp [List.getD_eq_getElem?_getD, List.getElem?_replicate, show j < c.instrs.length + 1 by omega]⟩
theorem CovI.at_ {c : CodeD} {k a : Nat} {fs : List Bool} (h : CovI c k a fs) (hk : k < (theFlow c).blocks.length) : ∃ t, BlkAt c k a t ∧ CovI c (k + 1) t (fs.set a true) := by
  obtain ⟨h1, h2, h3, h4, h5⟩ := h
  obtain ⟨s, t, hb⟩ := blk_at c hk
  have hlt := hb.lt
  have hle := hb.le
  have ha : a = s := by
    have hcs := hb.cs
    have hlead : a < c.instrs.length := by
      apply Classical.byContradiction
      intro hn
      obtain rfl : a = c.instrs.length := by omega
      rw [flow_len, h3] at hk
      omega
    rcases Nat.lt_trichotomy a s with h | h | h
    · have := cnt_mono (leadB c) (show a + 1 ≤ s from h)
      rw [cnt_marked (h4.resolve_left (by omega))] at this
      omega
    · exact h
    · have := cnt_mono (leadB c) (show s + 1 ≤ a from h)
      rw [cnt_marked hb.lead] at this
      omega
  subst ha
  refine ⟨t, hb, by simp [h1], hle, hb.ct, hb.edge, fun j hj => ?_⟩
  rw [getD_set_bool (by omega), h5 j hj]
  by_cases e : j = a
  · subst e
    rw [if_pos rfl, hb.lead]
    simp [hlt]
  · rw [if_neg e]
    by_cases e2 : j < a
    · simp [e2, show j < t by omega]
    · by_cases e3 : j < t
      · rw [hb.mid j (by omega) e3]; simp
      · simp [e2, e3]
theorem CovI.done {c : CodeD} {a : Nat} {fs : List Bool} (h : CovI c (theFlow c).blocks.length a fs) : a = c.instrs.length ∧ fs.length = c.instrs.length + 1 ∧ ∀ j, j ≤ c.instrs.length → fs.getD j false = (leadB c).getD j false := by
  obtain ⟨h1, h2, h3, h4, h5⟩ := h
  have ha : a = c.instrs.length := by
    apply Classical.byContradiction
    intro hn
    have := cnt_mono (leadB c) (show a + 1 ≤ c.instrs.length by omega)
    rw [cnt_marked (h4.resolve_left hn), h3, flow_len] at this
    omega
  refine ⟨ha, h1, fun j hj => ?_⟩
  rw [h5 j hj]
  by_cases e : j < a
  · simp [e]
  · rw [lead_end c (by omega)]; simp
theorem drewB2 {w w1 : World} (h : Below w.heap.size w w1) : Below w.heap.size w w1.drew := ⟨h.os, h.tape, h.output, h.size, h.block⟩
set_option maxHeartbeats 16000000 in
set_option maxRecDepth 100000 in
theorem law_Covers (H : PH) (v : Value) (c : CodeD) (w : World) (hw : Sees w H) (hc : CodeV H v c) :
    Calls Try.prog 3 #[v] w fun e w' => e = .returned (.bool true) ∧ Below w.heap.size w w' := by
  have hc0 := hc
  obtain ⟨s0, s1, s2, s3, s4, s5, s6, rfl, hc⟩ := hc
  have b0 := hc.instrs.le
  obtain ⟨A0, c0, rfl, k0, -⟩ := hc.instrs.open_
  have hx0 := ga_new w (.cells #[.slice A0 c.instrs.length c0, s1, s2, s3, s4, s5, s6] 30)
  have hB0 : Below w.heap.size w (w.alloc (.cells #[.slice A0 c.instrs.length c0, s1, s2, s3, s4, s5, s6] 30)) := (Below.refl _ _).alloc (Nat.le_refl _) _
  have hA := law_awake (w.alloc (.cells #[.slice A0 c.instrs.length c0, s1, s2, s3, s4, s5, s6] 30))
  cases hf : fineB c
  · have hBk := Lib.hid (fun (w1 : World) (hs : Sees w1 H) => graph_Blocks_no H _ c w1 hs hc0 hf)
    clear hf hc hc0
    by_cases hbig : (400 : Int) < c.instrs.length
    all_goals
      go_enter Try.func3, Try.ntmps3
      go_wp2_with (first
        | (go_at_call 10; refine hA.mono ?_; rintro e w1 ⟨rfl, hB1⟩; have hBa := bstep hB0 hB1; have hx1 := blk_keep hB1 hx0; have q := box7 hx1; have hl1 : w.heap.size < w1.heap.size := (Array.getElem?_eq_some_iff.1 hx1).1)
        | (go_at_call 11; refine (hBk.out _ (hw.below hBa)).mono ?_; rintro e w2 ⟨rfl, hB2⟩; have hBb := bstep hBa hB2; have hx2 := blk_keep hB2 hx1; clear q; have q := box7 hx2; have hl2 : w.heap.size < w2.heap.size := (Array.getElem?_eq_some_iff.1 hx2).1))
      go_ret
      exact ⟨rfl, hBb⟩
  · have hBk := Lib.hid (fun (w1 : World) (hs : Sees w1 H) => graph_Blocks_ok H _ c w1 hs hc0 hf)
    have hn1 := (fine_bounds hf).i0
    have hM : 0 < (theFlow c).blocks.length := by rw [flow_len]; exact cnt_pos (lead_zero c (by omega)) (by omega)
    have hMn : (theFlow c).blocks.length ≤ c.instrs.length := by rw [flow_len]; exact cnt_le _ _
    by_cases hbig : 400 < c.instrs.length
    · clear hf hc hc0
      go_enter Try.func3, Try.ntmps3
      go_wp2_with (first
        | (go_at_call 10; refine hA.mono ?_; rintro e w1 ⟨rfl, hB1⟩; have hBa := bstep hB0 hB1; have hx1 := blk_keep hB1 hx0; have q := box7 hx1; have hl1 : w.heap.size < w1.heap.size := (Array.getElem?_eq_some_iff.1 hx1).1)
        | (go_at_call 11; refine (hBk.out _ (hw.below hBa)).mono ?_; rintro e w2 ⟨⟨ub, rfl, hub⟩, hB2⟩; have hBb := bstep hBa hB2; have hx2 := blk_keep hB2 hx1; clear q; have q := box7 hx2; have hl2 : w.heap.size < w2.heap.size := (Array.getElem?_eq_some_iff.1 hx2).1))
      go_ret
      exact ⟨rfl, hBb⟩
    · have hbig' : ¬ (400 : Int) < c.instrs.length := by omega
      have hmk := mk_bools (c.instrs.length + 1) (by omega)
      simp only [Int.natCast_add, Int.natCast_one] at hmk
      have hE := Lib.hid (fun (w1 : World) (hs : Sees w1 H) => code_Entries H _ c w1 hs hc0 hf)
      have hN := Lib.hid (fun (w1 : World) (hs : Sees w1 H) => code_Next H _ c w1 hs hc0 hf)
      have hEl := Lib.hid (fun y (h : y ∈ entriesL c) => ent_lead hf h)
      have hNl := Lib.hid (fun (p : Nat) (hp : p < c.instrs.length) y (h : y ∈ nextL c p) => nx_lead hf hp h)
      have hElen := entries_len hf
      have hst := Lib.hid (CovI.start (c := c) (by omega))
      clear hf hc hc0
      go_enter Try.func3, Try.ntmps3
      go_wp2_with (first
        | (go_at_call 10; refine hA.mono ?_; rintro e w1 ⟨rfl, hB1⟩; have hBa := bstep hB0 hB1; have hx1 := blk_keep hB1 hx0; have q := box7 hx1; have hl1 : w.heap.size < w1.heap.size := (Array.getElem?_eq_some_iff.1 hx1).1)
        | (go_at_call 11; refine (hBk.out _ (hw.below hBa)).mono ?_; rintro e w2 ⟨⟨ub, rfl, hub⟩, hB2⟩; have hBb := bstep hBa hB2; have hx2 := blk_keep hB2 hx1; have hK := extH.sees (hw.below hBa) hB2; clear q; have q := box7 hx2; have hl2 : w.heap.size < w2.heap.size := (Array.getElem?_eq_some_iff.1 hx2).1; obtain ⟨gb, ob, cb, rfl, -, hgb, hbrow, hb64⟩ := hub.blocks hM; have hbrowh := Lib.hid hbrow; have hb64h := Lib.hid hb64; clear hbrow hb64 hub))
      generalize hKe : extH H w1 w2 = K at *
      clear hKe
      have hAr0 := ArrB.new w2 (c.instrs.length + 1)
      have hB3 : Below w2.heap.size w2 (w2.alloc (.cells (Array.replicate (c.instrs.length + 1) (.bool false)) 4)) := (Below.refl _ _).alloc (Nat.le_refl _) _
      have hK3 := hK.below hB3
      have hx3 := blk_keep hB3 hx2
      have hK3n : K w2.heap.size = none := hK.fresh (Nat.le_refl _)
      have hH3 := (hw.below hBb).below hB3
      have hlw3 : w.heap.size < w2.heap.size := hl2
      have hgn : w2.heap.size ≠ w.heap.size := by omega
      generalize hw3 : w2.alloc (.cells (Array.replicate (c.instrs.length + 1) (.bool false)) 4) = w3 at *
      have hw3h := Lib.hid hw3
      clear hw3 q hmk
      generalize hg0 : w2.heap.size = g0 at *
      have hg0h := Lib.hid hg0
      clear hg0
      go_loopw [7, 8] (fun at_ i wr => ∃ (k a : Nat) (fs : List Bool), k ≤ (theFlow c).blocks.length ∧ i = .int .i64 k ∧ at_ = .int .i64 a ∧ Aside (CovI c k a fs) ∧ ArrB wr g0 fs ∧ w3.grownBy wr (some g0)) (fun _ i _ => (theFlow c).blocks.length - (intOf i).toNat)
      case atStart => exact ⟨0, 0, _, Nat.zero_le _, rfl, rfl, hst.out, hAr0, grown_refl _ _⟩
      have hg3 : g0 < w3.heap.size := hAr0.lt
      clear hAr0
      case round =>
        obtain ⟨k, a, fs, hk, rfl, rfl, hI, hAr, hg⟩ := hrel
        have hsK := hK3.grown hg hK3n
        have hbr := (hg.block w.heap.size (Array.getElem?_eq_some_iff.1 hx3).1 (fun e => by injection e with e; exact hgn e.symm)).trans hx3
        have q := box7 hbr
        have hl3 : w.heap.size < wr.heap.size := (Array.getElem?_eq_some_iff.1 hbr).1
        have hgl := hsK.lt' hgb
        have hgg : gb ≠ g0 := fun e => by rw [e] at hgb; exact hgb hK3n
        have hgg' : g0 ≠ gb := fun e => hgg e.symm
        by_cases hlt : k < (theFlow c).blocks.length
        · obtain ⟨t, hbt, hI'⟩ := hI.at_ hlt
          obtain ⟨hfrom, hto⟩ := hbt.from_
          obtain ⟨u, -, hcell⟩ := hbrowh.out k hlt
          replace hcell := hcell wr hsK
          rw [hfrom, hto] at hcell
          have hlt2 := hbt.lt
          have hle2 := hbt.le
          have hfl := hI.1
          have hac := hAr.cell (j := a) (by omega)
          have haf := hAr.free a
          have hIh := Lib.hid hI'
          have hfh := Lib.hid hfl
          clear hI hI' hfrom hto hbt hfl
          have e1 : ((a : Int) != (a : Int)) = false := by simp
          have e2 : ¬ (t : Int) ≤ (a : Int) := by omega
          have e4 : (a : Int) < (c.instrs.length : Int) + 1 := by omega
          have e3 : ¬ (c.instrs.length : Int) < (t : Int) := by omega
          go_wp2_with fail
          go_quiet (fail)
          go_wp2
          go_roundw
          case rel => exact ⟨k + 1, t, _, by omega, by go_num, rfl, hIh.out, hAr.set a true, grown_set (by exact ⟨hg.os, hg.tape, hg.output, hg.size, hg.block⟩)⟩
          case measure => simp [intOf]; omega
        · obtain rfl : k = (theFlow c).blocks.length := by omega
          have hltn : ¬ ((theFlow c).blocks.length : Int) < (theFlow c).blocks.length := by omega
          obtain ⟨rfl, hfl, hfs⟩ := hI.done
          have hfsh := Lib.hid hfs
          have hBr : Below w2.heap.size w2 wr := by rw [hg0h.out]; exact hB3.grown hg (by omega) fun j hj => by injection hj with hj; omega
          have hHr : Sees wr H := (hw.below hBb).below hBr
          have hBw := bstep hBb hBr
          clear hg hK3 hH3 hB3 hx3 hst hg3 hw3h hlt hk hfs hgl hbrowh hb64h hgb hK3n hsK hgg hgg' hBk
          go_wp2_with fail
          refine (hE.out _ hHr).mono ?_
          rintro e wE ⟨⟨ve, rfl, hown⟩, hBE⟩
          have he := hown.read (H := H) (fun y hy => by obtain ⟨q, rfl, hq, -⟩ := hEl.out y hy; exact ⟨by omega, by omega⟩) (by unfold maxN; omega)
          have hKE := extH.sees hHr hBE
          have hArE : ArrB wE g0 fs := hAr.of_block (hBE.block _ hAr.lt)
          have hbE := blk_keep hBE hbr
          have hHE := hHr.below hBE
          replace hBw := bstep hBw hBE
          clear hown hE hAr q hBE
          have q := box7 hbE
          have hlE : w.heap.size < wE.heap.size := (Array.getElem?_eq_some_iff.1 hbE).1
          obtain ⟨Ae, ce, rfl, -, -⟩ := he.open_
          have hnn : ((c.instrs.length : Int) != (c.instrs.length : Int)) = false := by simp
          go_wp2_with fail
          generalize hKe : extH H wr wE = K2 at *
          clear hKe hBr hHr hbr hl3
          go_loopw [11] (fun i wi => ∃ k : Nat, k ≤ (entriesL c).length ∧ i = .int .i64 k ∧ Below wE.heap.size wE wi) (fun i _ => (entriesL c).length - (intOf i).toNat)
          case atStart => exact ⟨0, Nat.zero_le _, rfl, Below.refl _ _⟩
          case round =>
            obtain ⟨k, hk, rfl, hBi⟩ := hrel
            have hArr := hArE.of_block (hBi.block _ hArE.lt)
            have hbr := blk_keep hBi hbE
            clear q
            have q := box7 hbr
            have hl3 : w.heap.size < wr.heap.size := (Array.getElem?_eq_some_iff.1 hbr).1
            have hHr := hHE.below hBi
            by_cases hlt : k < (entriesL c).length
            · obtain ⟨be, oe, ce2, ee, -, hbe, hecell, -⟩ := he.ints (by omega)
              injection ee with ee1 ee2 ee3
              subst ee1
              have hsr := hKE.below hBi
              have c1 := hecell wr hsr k hlt
              obtain ⟨y, hy, hqn, hql⟩ := hEl.out ((entriesL c).getD k 0) (by rw [List.getD_eq_getElem?_getD, List.getElem?_eq_getElem hlt]; simp)
              rw [hy] at c1
              have c2 := hArr.cell (j := y) (by omega)
              rw [hfsh.out y (by omega), hql] at c2
              have l1 := hsr.lt' hbe
              have l2 := hArr.lt
              have e1 : ¬ (y : Int) < 0 := by omega
              have e2 : ¬ (c.instrs.length : Int) + 1 ≤ (y : Int) := by omega
              have e3 : (y : Int) < (c.instrs.length : Int) + 1 := by omega
              clear hy hql hfl hecell
              go_wp2
              go_roundw
              case rel => exact ⟨k + 1, by omega, by go_num, ⟨hBi.os, hBi.tape, hBi.output, hBi.size, hBi.block⟩⟩
              case measure => simp [intOf]; omega
            · obtain rfl : k = (entriesL c).length := by omega
              have hltn : ¬ ((entriesL c).length : Int) < (entriesL c).length := by omega
              have hBw := bstep hBw hBi
              clear hlt hk he hKE hEl hnn hBi hArE hbE hHE hlE
              go_wp2_with fail
              obtain ⟨wo, rfl⟩ : ∃ wo : World, wo = wr := ⟨_, rfl⟩
              go_loopw [12] (fun i wi => ∃ p : Nat, p ≤ c.instrs.length ∧ i = .int .i64 p ∧ Below wo.heap.size wo wi) (fun i _ => c.instrs.length - (intOf i).toNat)
              case atStart => exact ⟨0, Nat.zero_le _, rfl, Below.refl _ _⟩
              case round =>
                obtain ⟨p, hp, rfl, hBi⟩ := hrel
                have hAr2 := hArr.of_block (hBi.block _ hArr.lt)
                have hb2 := blk_keep hBi hbr
                clear q
                have q := box7 hb2
                have hl4 : w.heap.size < wr.heap.size := (Array.getElem?_eq_some_iff.1 hb2).1
                have hH2 := hHr.below hBi
                by_cases hlt : p < c.instrs.length
                · have hlt' : (p : Int) < c.instrs.length := by omega
                  go_wp2_with fail
                  refine (hN.out _ hH2 p hlt).mono ?_
                  rintro e wN ⟨⟨vn, rfl, hown⟩, hBN⟩
                  have hx := hown.read (H := H) (fun y hy => by obtain ⟨q, rfl, hq, -⟩ := hNl.out p hlt y hy; exact ⟨by omega, by omega⟩) (by have h1 := nextL_len c p; unfold maxN; omega)
                  have hKN := extH.sees hH2 hBN
                  have hArN := hAr2.of_block (hBN.block _ hAr2.lt)
                  have hbN := blk_keep hBN hb2
                  have hBN2 := bstep hBi hBN
                  clear hown q hBN
                  have q := box7 hbN
                  have hlN : w.heap.size < wN.heap.size := (Array.getElem?_eq_some_iff.1 hbN).1
                  have hlg := hArN.lt
                  obtain ⟨An, cn, rfl, -, -⟩ := hx.open_
                  generalize hKe : extH H wr wN = K3 at *
                  clear hKe
                  have hn2 := nextL_len c p
                  have p0 : (p : Int) + 1 < (c.instrs.length : Int) + 1 := by omega
                  have p1 : ((p : Int) + 1).toNat = p + 1 := by omega
                  have p2 : (0 : Int) ≤ (p : Int) + 1 := by omega
                  have hcut0 : ((p + 1 < c.instrs.length ∧ (leadB c).getD (p + 1) false = false) ∨ (p + 1 < c.instrs.length ∧ (leadB c).getD (p + 1) false = true)) ∨ ¬ p + 1 < c.instrs.length := by
                    by_cases h : p + 1 < c.instrs.length
                    · cases (leadB c).getD (p + 1) false <;> simp [h]
                    · exact .inr h
                  go_upto_region 26 with fail
                  go_cut [171] (fun s171 wx => s171 = .bool false ∧ wx = wN)
                  case first =>
                    rcases hcut0 with (⟨h1, h2⟩ | ⟨h1, h2⟩) | h1
                    · have hpl := nx_plain h1 h2
                      have c2 := hArN.cell (j := p + 1) (by omega)
                      rw [hfsh.out (p + 1) (by omega), h2] at c2
                      obtain ⟨bn, on, cn2, en, -, hbn, hncell, -⟩ := hx.ints (by rw [hpl]; simp)
                      cases en
                      have c1 := hncell wN hKN 0 (by rw [hpl]; simp)
                      have l1 := hKN.lt' hbn
                      have ln : (nextL c p).length = 1 := by rw [hpl]; rfl
                      rw [hpl] at c1
                      simp only [Nat.add_zero, List.getD_cons_zero] at c1
                      have b1 : (((nextL c p).length : Int) != 1) = false := by rw [ln]; rfl
                      have b2 : (0 : Int) < (nextL c p).length := by omega
                      have b3 : ((p : Int) + 1 != (p : Int) + 1) = false := by simp
                      have h1' : (p : Int) + 1 < c.instrs.length := by omega
                      clear hpl h2 ln hncell
                      go_wp2_with fail
                      go_meet
                      case rel => exact ⟨rfl, rfl⟩
                    · have c2 := hArN.cell (j := p + 1) (by omega)
                      rw [hfsh.out (p + 1) (by omega), h2] at c2
                      have h1' : (p : Int) + 1 < c.instrs.length := by omega
                      clear h2
                      go_wp2_with fail
                      go_meet
                      case rel => exact ⟨rfl, rfl⟩
                    · have h1' : ¬ (p : Int) + 1 < c.instrs.length := by omega
                      go_wp2_with fail
                      go_meet
                      case rel => exact ⟨rfl, rfl⟩
                  case rest =>
                    clear hcut0 p0 p1 p2
                    obtain ⟨rfl, hwc⟩ := hcut
                    replace hwc := hwc.symm
                    subst hwc
                    go_wp2_with fail
                    obtain ⟨wi, rfl⟩ : ∃ wi : World, wi = wN := ⟨_, rfl⟩
                    go_loopw [15] (fun i wj => ∃ k : Nat, k ≤ (nextL c p).length ∧ i = .int .i64 k ∧ Below wi.heap.size wi wj) (fun i _ => (nextL c p).length - (intOf i).toNat)
                    case atStart => exact ⟨0, Nat.zero_le _, rfl, Below.refl _ _⟩
                    case round =>
                      obtain ⟨k, hk, rfl, hBj⟩ := hrel
                      have hArj := hArN.of_block (hBj.block _ hArN.lt)
                      have hbj := blk_keep hBj hbN
                      clear q
                      have q := box7 hbj
                      have hlj : w.heap.size < wr.heap.size := (Array.getElem?_eq_some_iff.1 hbj).1
                      have hsj := hKN.below hBj
                      have hlg2 := hArj.lt
                      by_cases hltk : k < (nextL c p).length
                      · obtain ⟨bm, om, cm2, em, -, hbm, hmcell, -⟩ := hx.ints (by omega)
                        cases em
                        have d1 := hmcell wr hsj k hltk
                        have lm := hsj.lt' hbm
                        obtain ⟨y, hy, hyn, hyl⟩ := hNl.out p hlt ((nextL c p).getD k 0) (by rw [List.getD_eq_getElem?_getD, List.getElem?_eq_getElem hltk]; simp)
                        have hcm := Lib.hid (fun (w' : World) (hs : Sees w' K3) => hmcell w' hs k hltk)
                        rw [hy] at hcm
                        have hltkh := Lib.hid hltk
                        have hk0 : (0 : Int) ≤ (k : Int) := by omega
                        have hk1 : (k : Int) < (nextL c p).length := by omega
                        obtain ⟨P, hP⟩ : ∃ P : Int, P = (p : Int) := ⟨_, rfl⟩
                        have hP1 := Lib.hid (show IntKind.i64.wrap (P + 1) = P + 1 from IntWalk.i64_in _ (by omega))
                        clear hmcell
                        by_cases e : y = p + 1
                        · have hyP : (y : Int) = P + 1 := by omega
                          rw [hyP] at hcm
                          have y1 : decide (P + 1 < 0) = false := decide_eq_false (by omega)
                          have y2 : decide ((c.instrs.length : Int) ≤ P + 1) = false := decide_eq_false (by omega)
                          have hPh := Lib.hid hP
                          clear hyl hy hyP e d1
                          go_wp2_with fail
                          rw [← hPh.out]
                          clear hP hltk q
                          refine wp_region_plan (fun w' => Sees w' K3 ∧ w'.heap[w.heap.size]? = wr.heap[w.heap.size]? ∧ ArrB w' g0 fs) [(0, true), (1, true), (2, true), (3, true), (4, true), (5, true), (6, true), (7, true), (8, true), (9, true), (10, true), (11, true), (12, true), (13, true), (14, true), (15, true), (16, true), (17, true), (18, true), (19, true), (20, true), (21, true), (22, true), (23, true), (24, true), (25, true), (26, true), (27, true), (28, true), (29, true), (30, true), (31, true), (32, true), (33, true)] (by kernel_rfl) (by kernel_rfl) (by kernel_rfl) ⟨fun i o e => hsj i o e, rfl, hArj⟩ ?_
                          repeat first
                            | (refine plan_skip rfl (by rfl) ?_; simp only [Act.put, List.setIfInBounds_toArray, List.set_cons_zero, List.set_cons_succ])
                            | (refine plan_read (v := ?_) rfl (by rfl) ?_ ?_; rotate_left; (focus (intro w' hSw; have q' := box7 (hSw.2.1.trans hbj); have l' := (Array.getElem?_eq_some_iff.1 (hSw.2.1.trans hbj)).1; have q2 := hcm.out w' hSw.1; have l2 := hSw.1.lt' hbm; have l3 := hSw.2.2.lt; have hwk := hP1.out; clear hSw; go_simp; all_goals with_reducible rfl)); simp only [Act.put, List.setIfInBounds_toArray, List.set_cons_zero, List.set_cons_succ])
                          refine plan_nil (NoPanic.normal ?_)
                          rw [hPh.out]
                          clear y1 y2
                          go_wp2
                          go_roundw
                          case rel => exact ⟨k + 1, (by have := hltkh.out; omega), by go_num, drewB2 hBj⟩
                          case measure => (have := hltkh.out; simp [intOf]; omega)
                        · have hyP : ((y : Int) != P + 1) = true := by simp; omega
                          have y1 : decide ((y : Int) < 0) = false := decide_eq_false (by omega)
                          have y2 : decide (c.instrs.length ≤ y) = false := decide_eq_false (by omega)
                          have y3 : (y : Int) < (c.instrs.length : Int) + 1 := by omega
                          have y5 : (0 : Int) ≤ (y : Int) := by omega
                          have hd2 := Lib.hid (fun (w' : World) (ha : ArrB w' g0 fs) => (by have := ha.cell (j := y) (by omega); rwa [hfsh.out y (by omega), hyl.resolve_left e] at this : w'.cell? ⟨g0, y, none⟩ = some (.bool true)))
                          have hPh := Lib.hid hP
                          clear hyl hy e d1
                          go_wp2_with fail
                          rw [← hPh.out]
                          clear hP hltk q
                          refine wp_region_plan (fun w' => Sees w' K3 ∧ w'.heap[w.heap.size]? = wr.heap[w.heap.size]? ∧ ArrB w' g0 fs) [(0, true), (1, true), (2, true), (3, true), (4, true), (5, true), (6, true), (7, true), (8, true), (9, true), (10, true), (11, true), (12, true), (13, true), (14, true), (15, true), (16, true), (17, true), (18, true), (19, true), (20, true), (21, true), (22, true), (23, true), (24, true), (25, true), (26, true), (27, true), (28, true), (29, true), (30, true), (31, true), (32, true), (33, true)] (by kernel_rfl) (by kernel_rfl) (by kernel_rfl) ⟨fun i o e => hsj i o e, rfl, hArj⟩ ?_
                          repeat first
                            | (refine plan_skip rfl (by rfl) ?_; simp only [Act.put, List.setIfInBounds_toArray, List.set_cons_zero, List.set_cons_succ])
                            | (refine plan_read (v := ?_) rfl (by rfl) ?_ ?_; rotate_left; (focus (intro w' hSw; have q' := box7 (hSw.2.1.trans hbj); have l' := (Array.getElem?_eq_some_iff.1 (hSw.2.1.trans hbj)).1; have q2 := hcm.out w' hSw.1; have l2 := hSw.1.lt' hbm; have l3 := hSw.2.2.lt; have hwk := hP1.out; have d2 := hd2.out w' hSw.2.2; clear hSw; go_simp; all_goals with_reducible rfl)); simp only [Act.put, List.setIfInBounds_toArray, List.set_cons_zero, List.set_cons_succ])
                          refine plan_nil (NoPanic.normal ?_)
                          rw [hPh.out]
                          clear y1 y2 y3 y5 hyP
                          go_wp2
                          go_roundw
                          case rel => exact ⟨k + 1, (by have := hltkh.out; omega), by go_num, drewB2 hBj⟩
                          case measure => (have := hltkh.out; simp [intOf]; omega)
                      · obtain rfl : k = (nextL c p).length := by omega
                        have hltn2 : ¬ ((nextL c p).length : Int) < (nextL c p).length := by omega
                        clear hltk
                        go_wp2
                        go_roundw
                        case rel => exact ⟨p + 1, by omega, by go_num, bstep hBN2 hBj⟩
                        case measure => simp [intOf]; omega
                · obtain rfl : p = c.instrs.length := by omega
                  have hltn2 : ¬ (c.instrs.length : Int) < c.instrs.length := by omega
                  clear hlt
                  go_wp2
                  go_ret
                  exact ⟨rfl, bstep hBw hBi⟩
end Go.Proofs.Ytififjlgjmgikaa
