/- The reference's Reducible (seat .Z). -/
import Derived.Test.YtififjlgjmgikaaGreatRefM
namespace Go.Proofs.YtififjlgjmgikaaGreat
set_option linter.all false
open Go.RowKit Go.Shelf

theorem arr_sl {w : World} {g : Nat} {bs : List Bool} {n : Nat} (h : ArrB w g bs) (hn : bs.length = n) (hm : n ≤ maxN) : SlV rBool (full w) (.slice (some ⟨g, 0, none⟩) n n) bs := bools_read (K := full w) h hn.symm hm
theorem roundL_at (f : FlowD) (ls : List Bool) (k : Nat) : roundL f ls (k + 1) = if (roundL f ls k).getD k false = true ∧ entB f (roundL f ls k) k = false then (roundL f ls k).set k false else roundL f ls k := by
  rw [roundL_succ]
  rfl
set_option maxHeartbeats 4000000 in
set_option maxRecDepth 100000 in
theorem r19_Reducible_no (H : PH) (v : Value) (c : CodeD) (w : World) (hw : Sees w H) (hc : CodeV H v c) (hE0 : checkedE c ≠ 0) :
    Calls Tryz.prog 39 #[v] w fun e w' => e = .returned (.tuple #[.bool false, .int .i64 (checkedE c)]) ∧ Below w.heap.size w w' := by
  have hSm := Lib.hid (fun (w1 : World) (hs : Sees w1 H) => r19_Small H _ c w1 hs hc)
  have hc0 := hc
  obtain ⟨s0, s1, s2, s3, s4, s5, s6, rfl, hc⟩ := hc
  have hx0 := ga_new w (.cells #[s0, s1, s2, s3, s4, s5, s6] 30)
  have hB0 : Below w.heap.size w (w.alloc (.cells #[s0, s1, s2, s3, s4, s5, s6] 30)) := (Below.refl _ _).alloc (Nat.le_refl _) _
  clear hc hc0
  obtain ⟨CE, hE⟩ : ∃ CE, checkedE c = CE := ⟨_, rfl⟩
  have hEh := Lib.hid hE
  rw [hE] at hE0 ⊢
  have hne : (CE != 0) = true := by simpa using hE0
  clear hE hE0
  go_enter Tryz.func39, Tryz.ntmps39
  go_wp2_with (first
    | (go_at_call 35; refine (hSm.out _ (hw.below hB0)).mono ?_; rintro e w1 ⟨⟨t0, t1, t2, t3, t4, t5, t6, L, E, R, rfl, hone, ho3, hrd⟩, hB1⟩; go_must (rw [hEh.out]); have hBa := bstep hB0 hB1; have hsa := extH.sees (hw.below hB0) hB1; have hrdh := Lib.hid hrd; clear hrd)
    | (with_reducible refine wpL_storeG rfl _ _ rfl w1.heap.size t0 t1 t2 t3 t4 t5 t6 L E R _ rfl rfl (ga_new w1 (.cells zeroG 65)) rfl hone ho3 ?_; intro w2 hb2 hg2 hz2; rw [World.size_alloc] at hz2; have hB12 : Below w1.heap.size w1 w2 := (((Below.refl _ _).alloc (Nat.le_refl _) _).grown hg2 (by simp) fun k hk => by injection hk with hk; omega); replace hBa := bstep hBa hB12))
  go_ret2
  exact ⟨rfl, hBa⟩
set_option maxHeartbeats 8000000 in
set_option maxRecDepth 100000 in
theorem r19_Reducible_ok (H : PH) (v : Value) (c : CodeD) (w : World) (hw : Sees w H) (hc : CodeV H v c) (hE : checkedE c = 0) :
    Calls Tryz.prog 39 #[v] w fun e w' => e = .returned (.tuple #[.bool (redB (theFlow c)), .int .i64 0]) ∧ Below w.heap.size w w' := by
  have hSm := Lib.hid (fun (w1 : World) (hs : Sees w1 H) => r19_Small H _ c w1 hs hc)
  have hc0 := hc
  obtain ⟨s0, s1, s2, s3, s4, s5, s6, rfl, hc⟩ := hc
  have hx0 := ga_new w (.cells #[s0, s1, s2, s3, s4, s5, s6] 30)
  have hB0 : Below w.heap.size w (w.alloc (.cells #[s0, s1, s2, s3, s4, s5, s6] 30)) := (Below.refl _ _).alloc (Nat.le_refl _) _
  clear hc hc0
  have hEh := Lib.hid hE
  have hf := checked_fine hE
  have hfh := Lib.hid hf
  have hle := flow_le hf
  have hrk := Lib.hid (reachOk hf)
  have hln : (theFlow c).reached.length = (theFlow c).blocks.length := by rw [flow_len]; simp [theFlow]
  have hnone := left_none hf hln
  obtain ⟨B, hBe⟩ : ∃ B, redB (theFlow c) = B := ⟨_, rfl⟩
  have hS := Lib.hid (show B = true ↔ ∀ b, b < (theFlow c).blocks.length → (iterL (theFlow c) (theFlow c).reached ((theFlow c).blocks.length + 1)).getD b false = false from by rw [hnone, ← hBe]; exact dcd_iff)
  rw [hBe]
  clear hE hf hBe hnone
  go_enter Tryz.func39, Tryz.ntmps39
  go_upto_region 4 with (first
    | (go_at_call 35; refine (hSm.out _ (hw.below hB0)).mono ?_; rintro e w1 ⟨⟨t0, t1, t2, t3, t4, t5, t6, L, E, R, rfl, hone, ho3, hrd⟩, hB1⟩; go_must (rw [hEh.out]); have hBa := bstep hB0 hB1; have hsa := extH.sees (hw.below hB0) hB1; have hrdh := Lib.hid hrd; clear hrd)
    | (with_reducible refine wpL_storeG rfl _ _ rfl w1.heap.size t0 t1 t2 t3 t4 t5 t6 L E R _ rfl rfl (ga_new w1 (.cells zeroG 65)) rfl hone ho3 ?_; intro w2 hb2 hg2 hz2; rw [World.size_alloc] at hz2; have hB12 : Below w1.heap.size w1 w2 := (((Below.refl _ _).alloc (Nat.le_refl _) _).grown hg2 (by simp) fun k hk => by injection hk with hk; omega); replace hBa := bstep hBa hB12))
  obtain ⟨hL, hE2, hR⟩ := hrdh.out hfh.out
  have hleK := extH.step (H := H) (w := w.alloc (.cells #[s0, s1, s2, s3, s4, s5, s6] 30)) hB12
  have hG := grB_of hfh.out (extH.new (by have := hB0.size; have := hB1.size; omega) hb2) (hL.mono hleK) (hE2.mono hleK) (hR.mono hleK)
  have hs2 := extH.sees (hw.below hB0) (bstep hB1 hB12)
  have hBw2 := hBa
  clear hL hE2 hR hleK hrdh hfh hSm hEh hB1 hB12 hb2 hg2 hz2 hBa hone ho3 hx0 hB0
  generalize extH H (w.alloc (.cells #[s0, s1, s2, s3, s4, s5, s6] 30)) w2 = K at *
  obtain ⟨bg, hbg⟩ : ∃ bg, w1.heap.size = bg := ⟨_, rfl⟩
  rw [hbg] at hG ⊢
  clear hbg
  generalize theFlow c = f at *
  have hD := r19_Doms K bg L E R f w2 hs2 hG hrk.out
  go_upto_region 5 with (go_at_call 81; refine hD.mono ?_; rintro e w3 ⟨⟨ud, rfl, hud⟩, hB3⟩)
  have hs3 := extH.sees hs2 hB3
  have hG3 := hG.mono (extH.le hs2 w3)
  have hBw3 := bstep hBw2 hB3
  have hfr3 : extH K w2 w3 w3.heap.size = none := hs3.fresh (Nat.le_refl _)
  have hzw3 := hBw3.size
  clear hD hG hs2 hBw2 hB3 hrk
  generalize extH K w2 w3 = K3 at *
  have hGh := Lib.hid hG3
  obtain ⟨g0, g1, g2, g3, g4, g5, g6, hbk⟩ := hG3.blk
  have hRe := hG3.reached
  obtain ⟨AL, cL, rfl, -, -⟩ := hG3.blocks.open_
  obtain ⟨AR, cR, rfl, -, -⟩ := hRe.open_
  rw [hln] at hbk
  have hudh := Lib.hid hud
  obtain ⟨Ad, cd, rfl, -, -⟩ := hud.open_
  have hll : (domL f).length = f.blocks.length := by simp [domL]
  rw [hll] at hudh ⊢
  have hq := Lib.hid (fun (w' : World) (hs : Sees w' K3) => And.intro (box10 (hs _ _ hbk)) (hs.lt hbk))
  have hlnh := Lib.hid hln
  clear hud hll hG3 hbk hln
  obtain ⟨q, lg⟩ := hq.out w3 hs3
  have hmk := mk_bools f.blocks.length (by omega)
  go_upto_region 6 with fail
  refine wp_name fun W hW => ?_
  have hBn : Below w3.heap.size w3 W := by rw [hW]; exact (Below.refl _ _).alloc (Nat.le_refl _) _
  have hA0 : ArrB W w3.heap.size (List.replicate f.blocks.length false) := by rw [hW]; exact ArrB.new w3 f.blocks.length
  have hsW := hs3.below hBn
  have hBW := bstep hBw3 hBn
  clear hW hmk q lg hBn hs3
  obtain ⟨G, hGe⟩ : ∃ G, w3.heap.size = G := ⟨_, rfl⟩
  rw [hGe] at hA0 hfr3 hzw3 ⊢
  clear hGe hBw3
  obtain ⟨q, lg⟩ := hq.out W hsW
  go_wp2_with fail
  clear q lg
  go_loopw [8] (fun i wr => ∃ (k : Nat) (bs : List Bool), k ≤ f.blocks.length ∧ i = .int .i64 k ∧ ArrB wr G bs ∧ Aside (bs.length = f.blocks.length ∧ ∀ j, j < k → bs.getD j false = f.reached.getD j false) ∧ W.grownBy wr (some G)) (fun i _ => f.blocks.length - (intOf i).toNat)
  case atStart => exact ⟨0, _, Nat.zero_le _, rfl, hA0, ⟨by simp, fun j h => by omega⟩, grown_refl _ _⟩
  clear hA0
  case round =>
    obtain ⟨k, bs, hk, rfl, hA, hI, hg⟩ := hrel
    have hIh := Lib.hid hI
    have hbl := hI.1
    clear hI
    have hs := hsW.grown hg hfr3
    obtain ⟨q, lg⟩ := hq.out wr hs
    have hAl := hA.lt
    by_cases hlt : k < f.blocks.length
    · have hlt' : (k : Int) < f.blocks.length := by omega
      have hk0 : (0 : Int) ≤ k := by omega
      obtain ⟨rb, ro, rc, hve, -, hrb, hrcell⟩ := hRe.bools (by rw [hlnh.out]; omega)
      rw [hlnh.out] at hve
      cases hve
      have hcr := hrcell wr hs k (by rw [hlnh.out]; exact hlt)
      have lr := hs.lt' hrb
      have hac := hA.cell (j := k) (by omega)
      have haf := hA.free k
      clear hrcell
      obtain ⟨rv, hrv⟩ : ∃ rv, f.reached.getD k false = rv := ⟨_, rfl⟩
      rw [hrv] at hcr
      have hst := Lib.hid (show (bs.set k rv).length = f.blocks.length ∧ ∀ j, j < k + 1 → (bs.set k rv).getD j false = f.reached.getD j false from ⟨by simp [hbl], fun j hj => by
        by_cases e : j = k
        · subst e
          rw [List.getD_eq_getElem?_getD, List.getElem?_set_self (by omega), hrv]
          rfl
        · rw [List.getD_eq_getElem?_getD, List.getElem?_set_ne (fun h => e h.symm), ← List.getD_eq_getElem?_getD]
          exact hIh.out.2 j (by omega)⟩)
      have hAs := Lib.hid (hA.set k rv)
      clear hrv
      go_wp2
      go_roundw
      case rel => exact ⟨k + 1, _, by omega, by go_num, hAs.out, hst.out, grown_set hg⟩
      case measure => simp [intOf]; omega
    · obtain rfl : k = f.blocks.length := by omega
      have hltn : ¬ (f.blocks.length : Int) < f.blocks.length := by omega
      have hbe : bs = f.reached := by
        refine List.ext_getElem (by rw [hbl, hlnh.out]) fun j h1 h2 => ?_
        have := hIh.out.2 j (by omega)
        rw [List.getD_eq_getElem?_getD, List.getD_eq_getElem?_getD, List.getElem?_eq_getElem h1, List.getElem?_eq_getElem h2] at this
        exact this
      subst hbe
      clear hlt
      go_wp2
      clear q lg hs hAl
      obtain ⟨wa, rfl⟩ : ∃ wa : World, wa = wr := ⟨_, rfl⟩
      go_loopw [9] (fun i wr => ∃ (k : Nat), k ≤ f.blocks.length + 1 ∧ i = .int .i64 k ∧ ArrB wr G (iterL f f.reached k) ∧ W.grownBy wr (some G)) (fun i _ => f.blocks.length + 1 - (intOf i).toNat)
      case atStart => exact ⟨0, Nat.zero_le _, rfl, hA, hg⟩
      clear hA hg
      case round =>
        obtain ⟨k, hk, rfl, hA, hg⟩ := hrel
        have hs := hsW.grown hg hfr3
        obtain ⟨q, lg⟩ := hq.out wr hs
        by_cases hkn : k ≤ f.blocks.length
        · have t1 : decide ((k : Int) ≤ f.blocks.length) = true := decide_eq_true (by omega)
          have t2 : (k : Int) ≤ f.blocks.length := by omega
          have hil := iterL_len f f.reached k
          have hit : iterL f f.reached (k + 1) = roundL f (iterL f f.reached k) f.blocks.length := rfl
          have hith := Lib.hid hit
          have hr0 : iterL f f.reached k = roundL f (iterL f f.reached k) 0 := rfl
          clear hit
          generalize iterL f f.reached k = ls at *
          rw [hlnh.out] at hil
          go_wp2
          clear q lg hs
          obtain ⟨wo, rfl⟩ : ∃ wo : World, wo = wr := ⟨_, rfl⟩
          go_loopw [10] (fun i wr => ∃ (j : Nat), j ≤ f.blocks.length ∧ i = .int .i64 j ∧ ArrB wr G (roundL f ls j) ∧ W.grownBy wr (some G)) (fun i _ => f.blocks.length - (intOf i).toNat)
          case atStart => exact ⟨0, Nat.zero_le _, rfl, hA, hg⟩
          clear hA hg
          case round =>
            obtain ⟨j, hj, rfl, hA, hg⟩ := hrel
            have hs := hsW.grown hg hfr3
            obtain ⟨q, lg⟩ := hq.out wr hs
            by_cases hjl : j < f.blocks.length
            · have hjl' : (j : Int) < f.blocks.length := by omega
              have hj0 : (0 : Int) ≤ j := by omega
              have hrl : (roundL f ls j).length = f.blocks.length := by rw [roundL_len, hil]
              have hat := Lib.hid (roundL_at f ls j)
              have hac := hA.cell (j := j) (by omega)
              have haf := hA.free j
              have hAl := hA.lt
              have hEn := r19_enters (full wr) bg _ _ _ _ _ f (roundL f ls j) j wr (full.sees wr) (hGh.out.mono (full.le hs)) (hudh.out.mono (full.le hs)) (arr_sl hA hrl (by unfold maxN; omega)) hrl hjl
              have hAs := Lib.hid (hA.set j false)
              generalize roundL f ls j = bs at *
              generalize bs.getD j false = lv at *
              generalize entB f bs j = ev at *
              cases lv
              · have hst := Lib.hid (show roundL f ls (j + 1) = bs from by rw [hat.out]; simp)
                clear hEn
                go_wp2
                go_roundw
                case rel => exact ⟨j + 1, by omega, by go_num, by rw [hst.out]; exact hA, hg⟩
                case measure => simp [intOf]; omega
              · cases ev
                · have hst := Lib.hid (show roundL f ls (j + 1) = bs.set j false from by rw [hat.out]; simp)
                  go_wp2_with (go_at_call 85; refine hEn.mono ?_; rintro e w6 ⟨rfl, rfl⟩)
                  go_roundw
                  case rel => exact ⟨j + 1, by omega, by go_num, by rw [hst.out]; exact hAs.out, grown_set hg⟩
                  case measure => simp [intOf]; omega
                · have hst := Lib.hid (show roundL f ls (j + 1) = bs from by rw [hat.out]; simp)
                  go_wp2_with (go_at_call 85; refine hEn.mono ?_; rintro e w6 ⟨rfl, rfl⟩)
                  go_roundw
                  case rel => exact ⟨j + 1, by omega, by go_num, by rw [hst.out]; exact hA, hg⟩
                  case measure => simp [intOf]; omega
            · obtain rfl : j = f.blocks.length := by omega
              have hltn : ¬ (f.blocks.length : Int) < f.blocks.length := by omega
              clear hjl
              go_wp2
              go_roundw
              case rel => exact ⟨k + 1, by omega, by go_num, by rw [hith.out]; exact hA, hg⟩
              case measure => simp [intOf]; omega
        · obtain rfl : k = f.blocks.length + 1 := by omega
          have t1 : decide (((f.blocks.length + 1 : Nat) : Int) ≤ f.blocks.length) = false := decide_eq_false (by omega)
          have t2 : ¬ ((f.blocks.length + 1 : Nat) : Int) ≤ f.blocks.length := by omega
          have hil := iterL_len f f.reached (f.blocks.length + 1)
          rw [hlnh.out] at hil
          have hBr := hBW.grown hg hBW.size (fun j e => by have := Option.some.inj e; omega)
          generalize iterL f f.reached (f.blocks.length + 1) = ls at *
          clear hkn
          go_wp2
          go_loop [11] (fun i => ∃ k : Nat, k ≤ f.blocks.length ∧ i = .int .i64 k ∧ Aside (∀ b, b < k → ls.getD b false = false)) (fun i => f.blocks.length - (intOf i).toNat)
          case atStart => exact ⟨0, Nat.zero_le _, rfl, fun j h => by omega⟩
          case round =>
            obtain ⟨k, hk, rfl, hno⟩ := hrel
            have hnoh := Lib.hid hno
            clear hno
            by_cases hlt : k < f.blocks.length
            · have hlt' : (k : Int) < f.blocks.length := by omega
              have hk0 : (0 : Int) ≤ k := by omega
              have hac := hA.cell (j := k) (by omega)
              have hAl := hA.lt
              obtain ⟨lv, hlv⟩ : ∃ lv, ls.getD k false = lv := ⟨_, rfl⟩
              rw [hlv] at hac
              have hlvh := Lib.hid hlv
              clear hlv
              cases lv
              · go_wp2
                go_round
                case rel =>
                  refine ⟨k + 1, by omega, by go_num, fun b hb => ?_⟩
                  by_cases e : b = k
                  · subst e; exact hlvh.out
                  · exact hnoh.out b (by omega)
                case measure => simp [intOf]; omega
              · have hb := Lib.hid (show B = false from Bool.eq_false_iff.2 fun h => by have := hS.out.1 h k hlt; rw [hlvh.out] at this; cases this)
                go_wp2
                go_ret2
                exact ⟨by rw [hb.out]; rfl, hBr⟩
            · obtain rfl : k = f.blocks.length := by omega
              have hltn : ¬ (f.blocks.length : Int) < f.blocks.length := by omega
              have hb := Lib.hid (show B = true from hS.out.2 hnoh.out)
              clear hlt
              go_wp2
              go_ret2
              exact ⟨by rw [hb.out]; rfl, hBr⟩
theorem r19_Reducible (H : PH) (v : Value) (c : CodeD) (w : World) (hw : Sees w H) (hc : CodeV H v c) :
    Calls Tryz.prog 39 #[v] w fun e w' => e = .returned (.tuple #[.bool (redV c), .int .i64 (checkedE c)]) ∧ Below w.heap.size w w' := by
  unfold redV
  by_cases hE : checkedE c = 0
  · rw [if_pos hE, hE]
    exact r19_Reducible_ok H v c w hw hc hE
  · rw [if_neg hE]
    exact r19_Reducible_no H v c w hw hc hE
end Go.Proofs.YtififjlgjmgikaaGreat
