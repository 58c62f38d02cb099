/- The reference's tails, enters (seat .Z). -/
import Derived.Test.YtififjlgjmgikaaGreatRefU
import Derived.Test.YtififjlgjmgikaaGreatKnotR
namespace Go.Proofs.YtififjlgjmgikaaGreat
set_option linter.all false
open Go.RowKit Go.Shelf

noncomputable def isTail (f : FlowD) (h t : Nat) : Bool := f.reached.getD t false && (inB (h : Int) (nxB f (t : Int)) && domB f h t)
noncomputable def tailsN (f : FlowD) (h k : Nat) : List Int := ((List.range k).filter fun t => isTail f h t).map fun (t : Nat) => (t : Int)
theorem tailsN_succ (f : FlowD) (h k : Nat) : tailsN f h (k + 1) = tailsN f h k ++ if isTail f h k = true then [(k : Int)] else [] := by
  unfold tailsN
  rw [List.range_succ, List.filter_append, List.map_append]
  congr 1
  by_cases e : isTail f h k = true
  · rw [if_pos e, List.filter_cons, if_pos e]; rfl
  · rw [if_neg e, List.filter_cons, if_neg e]; rfl
theorem tailsN_len (f : FlowD) (h k : Nat) : (tailsN f h k).length ≤ k := by
  unfold tailsN
  rw [List.length_map]
  refine Nat.le_trans (List.length_filter_le _ _) (by simp)
theorem tailsN_mem {c : CodeD} (hf : fineB c = true) {h : Nat} (hh : h < (theFlow c).blocks.length) {y : Int} : y ∈ tailsN (theFlow c) h (theFlow c).blocks.length ↔ y ∈ tailsR (theFlow c) h := by
  rw [tail_iff hf]
  unfold tailsN isTail inB
  simp only [List.mem_map, List.mem_filter, List.mem_range, Bool.and_eq_true, decide_eq_true_eq]
  constructor
  · rintro ⟨t, ⟨ht, h1, h2, h3⟩, rfl⟩
    exact ⟨by omega, h2, (domB_iff hf hh ht).1 h3⟩
  · rintro ⟨h1, h2, h3⟩
    obtain ⟨t, rfl⟩ : ∃ t : Nat, y = (t : Int) := ⟨y.toNat, by omega⟩
    have ht : t < (theFlow c).blocks.length := by omega
    exact ⟨t, ⟨ht, (reached_iff hf ht).2 h3.1, h2, (domB_iff hf hh ht).2 h3⟩, rfl⟩
set_option maxHeartbeats 4000000 in
set_option maxRecDepth 100000 in
theorem r19_tails (H : PH) (bg : Nat) (L E R u : Value) (f : FlowD) (h : Nat) (w : World) (hw : Sees w H) (hg : GrB H bg L E R f) (hd : SlV (rSl rBool) H u (domL f)) (hh : h < f.blocks.length) :
    Calls Tryz.prog 82 #[.pointer (some ⟨bg, 0, none⟩), u, .int .i64 h] w fun e w' => OwnRet w.heap.size w' (tailsN f h f.blocks.length) e ∧ Below w.heap.size w w' := by
  obtain ⟨s0, s1, s2, s3, s4, s5, s6, hbk⟩ := hg.blk
  have hle := hg.le
  have hlR := hg.lenR
  have hL := hg.blocks
  have hRe := hg.reached
  obtain ⟨AL, cL, rfl, -, -⟩ := hL.open_
  obtain ⟨AR, cR, rfl, -, -⟩ := hRe.open_
  obtain ⟨Ad, cd, rfl, -, -⟩ := hd.open_
  have hll : (domL f).length = f.blocks.length := by simp [domL]
  rw [hll] at hd ⊢
  rw [hlR] at hbk
  have hlRh := Lib.hid hlR
  have hdc := Lib.hid (fun (x y : Nat) (hx : x < f.blocks.length) (hy : y < f.blocks.length) => dom_cells hd hx hy rfl)
  have hh' : (h : Int) < f.blocks.length := by omega
  have hh0 : (0 : Int) ≤ h := by omega
  have hIn := Lib.hid (fun (u : Value) (xs : List Int) (w1 : World) (hs : Sees w1 H) (hx : SlV rInt H u xs) => r19_in H h u xs w1 hs hx)
  obtain ⟨RES, hRES⟩ : ∃ RES, tailsN f h f.blocks.length = RES := ⟨_, rfl⟩
  have hRh := Lib.hid hRES
  rw [hRES]
  clear hg hd hll hlR hRES
  go_enter Tryz.func82, Tryz.ntmps82
  go_wp2
  go_loopw [7, 8] (fun o i wr => ∃ k : Nat, k ≤ f.blocks.length ∧ i = .int .i64 k ∧ OwnI wr w.heap.size o (tailsN f h k) ∧ Below w.heap.size w wr) (fun _ i _ => f.blocks.length - (intOf i).toNat)
  case atStart => exact ⟨0, Nat.zero_le _, rfl, OwnI.nil _ _, Below.refl _ _⟩
  case round =>
    obtain ⟨k, hk, rfl, hown, hB⟩ := hrel
    have hs := hw.below hB
    have q := box10 (hs _ _ hbk)
    have lg := hs.lt hbk
    by_cases hlt : k < f.blocks.length
    · have hlt' : (k : Int) < f.blocks.length := by omega
      have hk0 : (0 : Int) ≤ k := by omega
      obtain ⟨rb, ro, rc, hve, -, hrb, hrcell⟩ := hRe.bools (by rw [hlRh.out]; omega)
      rw [hlRh.out] at hve
      cases hve
      have hcr := hrcell wr hs k (by rw [hlRh.out]; exact hlt)
      have lr := hs.lt' hrb
      obtain ⟨bL, oL, cL', e4, -, hbL, hrow, -⟩ := hL.blocks (by omega)
      cases e4
      obtain ⟨un, hun, huc⟩ := hrow k hlt
      rw [show (f.blocks.getD k default).next = nxB f (k : Int) from rfl] at hun
      have p6 := (huc wr hs).2.2
      have lL := hs.lt' hbL
      have hIk := hIn.out _ _ wr hs hun
      obtain ⟨g1, o1, bb1, bo1, cc1, hA1, -, hc1⟩ := hdc.out h k hh hlt
      cases hA1
      obtain ⟨d1, d2, l1, l2⟩ := hc1 wr hs
      have hlen := tailsN_len f h k
      have hst := Lib.hid (tailsN_succ f h k)
      have hiT : isTail f h k = (f.reached.getD k false && (inB (h : Int) (nxB f (k : Int)) && domB f h k)) := rfl
      have hiTh := Lib.hid hiT
      clear hrcell hrow huc hc1 hiT
      generalize tailsN f h k = es at *
      cases hr : f.reached.getD k false
      · rw [hr] at hcr hiTh
        have hst2 := Lib.hid (show tailsN f h (k + 1) = es by rw [hst.out, hiTh.out]; simp)
        clear hr
        go_wp2
        go_roundw
        case rel => exact ⟨k + 1, by omega, by go_num, by rw [hst2.out]; exact hown, hB⟩
        case measure => simp [intOf]; omega
      · rw [hr] at hcr hiTh
        cases hin : inB (h : Int) (nxB f (k : Int))
        · rw [hin] at hIk hiTh
          have hst2 := Lib.hid (show tailsN f h (k + 1) = es by rw [hst.out, hiTh.out]; simp)
          clear hr hin
          go_wp2_with (go_at_call 58; refine hIk.mono ?_; rintro e w3 ⟨rfl, rfl⟩)
          go_roundw
          case rel => exact ⟨k + 1, by omega, by go_num, by rw [hst2.out]; exact hown, hB⟩
          case measure => simp [intOf]; omega
        · rw [hin] at hIk hiTh
          cases hdm : domB f h k
          · rw [hdm] at d2 hiTh
            have hst2 := Lib.hid (show tailsN f h (k + 1) = es by rw [hst.out, hiTh.out]; simp)
            clear hr hin hdm
            go_wp2_with (go_at_call 58; refine hIk.mono ?_; rintro e w3 ⟨rfl, rfl⟩)
            go_roundw
            case rel => exact ⟨k + 1, by omega, by go_num, by rw [hst2.out]; exact hown, hB⟩
            case measure => simp [intOf]; omega
          · rw [hdm] at d2 hiTh
            have hst2 := Lib.hid (show tailsN f h (k + 1) = es ++ [(k : Int)] by rw [hst.out, hiTh.out]; simp)
            clear hr hin hdm
            go_wp2_with (first
              | (go_at_call 58; refine hIk.mono ?_; rintro e w3 ⟨rfl, rfl⟩)
              | (at_builtin; go_loud (refine wpL_appI rfl _ _ rfl w.heap.size _ es [(k : Int)] rfl (hown.al _) ⟨wr.heap.size, 0, none⟩ 1 1 rfl rfl (one_new (by simp)) ?hlen ?hsz ?_); go_loud (case hlen => first | omega | (simp; omega)); go_loud (case hsz => have := hB.size; first | omega | (simp; omega)); intro v2 w2 hown2 hg2 _))
            go_roundw
            case rel => exact ⟨k + 1, by omega, by go_num, by rw [hst2.out]; exact hown2, (hB.alloc hB.size _).grown hg2 (by have := hB.size; simp; omega) (fun j hj => (hown.lt hj).1)⟩
            case measure => simp [intOf]; omega
    · obtain rfl : k = f.blocks.length := by omega
      have hltn : ¬ (f.blocks.length : Int) < f.blocks.length := by omega
      rw [hRh.out] at hown
      have hownh := Lib.hid hown
      clear hlt hown
      go_wp2
      go_ret
      exact ⟨⟨_, rfl, hownh.out⟩, hB⟩
set_option maxHeartbeats 4000000 in
set_option maxRecDepth 100000 in
theorem r19_enters (H : PH) (bg : Nat) (L E R u vl : Value) (f : FlowD) (ls : List Bool) (b : Nat) (w : World) (hw : Sees w H) (hg : GrB H bg L E R f) (hd : SlV (rSl rBool) H u (domL f)) (hl : SlV rBool H vl ls) (hll0 : ls.length = f.blocks.length) (hb : b < f.blocks.length) :
    Calls Tryz.prog 85 #[.pointer (some ⟨bg, 0, none⟩), u, vl, .int .i64 b] w fun e w' => e = .returned (.bool (entB f ls b)) ∧ w = w' := by
  obtain ⟨s0, s1, s2, s3, s4, s5, s6, hbk⟩ := hg.blk
  have hle := hg.le
  have hL := hg.blocks
  obtain ⟨AL, cL, rfl, -, -⟩ := hL.open_
  obtain ⟨Ad, cd, rfl, -, -⟩ := hd.open_
  have hll : (domL f).length = f.blocks.length := by simp [domL]
  rw [hll] at hd ⊢
  have hS := Lib.hid (show entB f ls b = true ↔ EntP f ls b from dcd_iff)
  generalize entB f ls b = B at *
  have hdc := Lib.hid (fun (x y : Nat) (hx : x < f.blocks.length) (hy : y < f.blocks.length) => dom_cells hd hx hy rfl)
  have hb' : (b : Int) < f.blocks.length := by omega
  have hb0 : (0 : Int) ≤ b := by omega
  have hIn := Lib.hid (fun (u : Value) (xs : List Int) (hx : SlV rInt H u xs) => r19_in H b u xs w hw hx)
  obtain ⟨bl, ol, cl, rfl, -, hbl, hlc⟩ := hl.bools (by omega)
  rw [hll0]
  have ll := hw.lt' hbl
  have q := box10 (hw _ _ hbk)
  have lg := hw.lt hbk
  have hlch := Lib.hid (fun (i : Nat) (hi : i < f.blocks.length) => hlc w hw i (by omega))
  clear hg hd hll hl hlc hll0 hbk
  go_enter Tryz.func85, Tryz.ntmps85
  go_wp2
  go_loop [9] (fun i => ∃ k : Nat, k ≤ f.blocks.length ∧ i = .int .i64 k ∧ Aside (∀ v, v < k → ¬ (ls.getD v false = true ∧ (b : Int) ∈ nxB f (v : Int) ∧ domB f b v = false))) (fun i => f.blocks.length - (intOf i).toNat)
  case atStart => exact ⟨0, Nat.zero_le _, rfl, fun j h => by omega⟩
  case round =>
    obtain ⟨k, hk, rfl, hno⟩ := hrel
    have hnoh := Lib.hid hno
    clear hno
    by_cases hlt : k < f.blocks.length
    · have hlt' : (k : Int) < f.blocks.length := by omega
      have hk0 : (0 : Int) ≤ k := by omega
      have pl := hlch.out k hlt
      obtain ⟨bL, oL, cL', e4, -, hbL, hrow, -⟩ := hL.blocks (by omega)
      cases e4
      obtain ⟨un, hun, huc⟩ := hrow k hlt
      rw [show (f.blocks.getD k default).next = nxB f (k : Int) from rfl] at hun
      have p6 := (huc w hw).2.2
      have lL := hw.lt' hbL
      have hIk := hIn.out _ _ hun
      obtain ⟨g1, o1, bb1, bo1, cc1, hA1, -, hc1⟩ := hdc.out b k hb hlt
      cases hA1
      obtain ⟨d1, d2, l1, l2⟩ := hc1 w hw
      have hst := Lib.hid (show ¬ (ls.getD k false = true ∧ (b : Int) ∈ nxB f (k : Int) ∧ domB f b k = false) → ∀ v, v < k + 1 → ¬ (ls.getD v false = true ∧ (b : Int) ∈ nxB f (v : Int) ∧ domB f b v = false) from fun h v hv => by
        by_cases e : v = k
        · subst e; exact h
        · exact hnoh.out v (by omega))
      have hyes := Lib.hid (fun (h1 : ls.getD k false = true) (h2 : (b : Int) ∈ nxB f (k : Int)) (h3 : domB f b k = false) => (show B = true from hS.out.2 ⟨k, hlt, h1, h2, h3⟩))
      have hin : inB (b : Int) (nxB f (k : Int)) = true ↔ (b : Int) ∈ nxB f (k : Int) := by unfold inB; simp
      have hinh := Lib.hid hin
      clear hrow huc hc1 hin
      generalize ls.getD k false = lv at *
      generalize domB f b k = dv at *
      generalize inB (b : Int) (nxB f (k : Int)) = iv at *
      cases lv
      · have hst2 := Lib.hid (hst.out (fun h => by cases h.1))
        go_wp2
        go_round
        case rel => exact ⟨k + 1, by omega, by go_num, hst2.out⟩
        case measure => simp [intOf]; omega
      · cases iv
        · have hst2 := Lib.hid (hst.out (fun h => by have := hinh.out.2 h.2.1; cases this))
          go_wp2_with (go_at_call 58; refine hIk.mono ?_; rintro e w3 ⟨rfl, rfl⟩)
          go_round
          case rel => exact ⟨k + 1, by omega, by go_num, hst2.out⟩
          case measure => simp [intOf]; omega
        · cases dv
          · have hb2 := Lib.hid (hyes.out rfl (hinh.out.1 rfl) rfl)
            go_wp2_with (go_at_call 58; refine hIk.mono ?_; rintro e w3 ⟨rfl, rfl⟩)
            go_ret
            exact ⟨ret_bool hb2.out.symm, rfl⟩
          · have hst2 := Lib.hid (hst.out (fun h => by cases h.2.2))
            go_wp2_with (go_at_call 58; refine hIk.mono ?_; rintro e w3 ⟨rfl, rfl⟩)
            go_round
            case rel => exact ⟨k + 1, by omega, by go_num, hst2.out⟩
            case measure => simp [intOf]; omega
    · obtain rfl : k = f.blocks.length := by omega
      have hltn : ¬ (f.blocks.length : Int) < f.blocks.length := by omega
      have hb2 := Lib.hid (show B = false from Bool.eq_false_iff.2 fun h => by
        obtain ⟨v, hv, h1⟩ := hS.out.1 h
        exact hnoh.out v hv h1)
      clear hlt
      go_wp2
      go_ret
      exact ⟨ret_bool hb2.out.symm, rfl⟩
end Go.Proofs.YtififjlgjmgikaaGreat
