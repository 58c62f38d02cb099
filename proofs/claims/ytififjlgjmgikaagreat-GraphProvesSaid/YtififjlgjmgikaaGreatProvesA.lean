/- flow.proof: a proof of one immediate dominator; graph.Prove. GraphProves, walked (seat .Z). -/
import Derived.Test.YtififjlgjmgikaaGreatNetC
import Derived.Test.YtififjlgjmgikaaGreatIdom
import Derived.Test.YtififjlgjmgikaaGreatChecksW
import Derived.Test.YtififjlgjmgikaaGreatAwake
namespace Go.Proofs.YtififjlgjmgikaaGreat
set_option linter.all false
open Go.RowKit

theorem le_ext {H K : PH} {w wf : World} (hs : Sees wf K) (hk : ∀ i o, i < w.heap.size → K i = some o → H i = some o) : PH.le K (extH H w wf) := by
  intro i o e
  unfold extH
  by_cases h : i < w.heap.size
  · rw [if_pos h]; exact hk i o h e
  · rw [if_neg h]; exact hs i o e
theorem ext_sees2 {K : PH} {w4 w5 wf : World} (hK : Sees wf K) (hx : ∀ j, w4.heap.size ≤ j → j < w5.heap.size → wf.heap[j]? = w5.heap[j]?) : Sees wf (extH K w4 w5) := by
  intro j o e
  unfold extH at e
  split at e
  · exact hK j o e
  · rename_i h
    exact (hx j (by omega) (Array.getElem?_eq_some_iff.1 e).1).trans e
def ProofRes (H : PH) (w w' : World) (f : FlowD) (b i : Int) (e : Ending) : Prop :=
  ∃ u1 u2 d, e = .returned (.agg #[.int .i64 b, .int .i64 i, u1, u2]) ∧ SlV rInt (extH H w w') u1 d.one ∧ SlV rInt (extH H w w') u2 d.two ∧ d.block = b ∧ d.idom = i ∧ MadeP f d
abbrev domO (b i : Int) (u1 u2 : Value) : Obj := .cells #[.int .i64 b, .int .i64 i, u1, u2] 106
theorem res_dom {fn : Func} {p : Tmp} (h : fn.results = #[.cell p 106]) (tmps : Array Value) (w : World) (g : Nat) (b i : Int) (u1 u2 : Value) (hp : tmps.getD p undef = .pointer (some ⟨g, 0, none⟩)) (hg : w.heap[g]? = some (domO b i u1 u2)) :
    (results fn tmps).run Tryz.prog w = .ok (.agg #[.int .i64 b, .int .i64 i, u1, u2]) w :=
  results_cell_row (P := Tryz.prog) h tmps w g 106 _ (0, 0) (.struct (Tryz.prog.fieldsOf 106)) hp hg (by kernel_rfl) rfl (by kernel_rfl)
theorem lit1 {H : PH} {g : Nat} {x : Int} (h : H g = some (.cells #[.int .i64 x] 3 (0, 0))) (hx : I64 x) : SlV rInt H (.slice (some ⟨g, 0, none⟩) 1 1) [x] := by
  refine ⟨_, _, rfl, Nat.le_refl _, by simp [maxN], fun i y hi => ?_⟩
  have hl := (List.getElem?_eq_some_iff.1 hi).1
  obtain rfl : i = 0 := by simpa using hl
  cases hi
  refine ⟨g, 0, [.int .i64 x], rfl, ⟨rfl, _, _, _, h, fun j u hj => ?_⟩, rfl, hx⟩
  have := (List.getElem?_eq_some_iff.1 hj).1
  obtain rfl : j = 0 := by simpa using this
  simpa using hj
theorem lit2 {H : PH} {g : Nat} {x y : Int} (h : H g = some (.cells #[.int .i64 x, .int .i64 y] 3 (0, 0))) (hx : I64 x) (hy : I64 y) : SlV rInt H (.slice (some ⟨g, 0, none⟩) 2 2) [x, y] := by
  refine ⟨_, _, rfl, Nat.le_refl _, by simp [maxN], fun i z hi => ?_⟩
  have hl := (List.getElem?_eq_some_iff.1 hi).1
  simp only [List.length_cons, List.length_nil] at hl
  refine ⟨g, 0, [.int .i64 z], rfl, ⟨rfl, _, _, _, h, fun j u hj => ?_⟩, rfl, ?_⟩
  · have := (List.getElem?_eq_some_iff.1 hj).1
    obtain rfl : j = 0 := by simpa using this
    cases hj
    rcases (show i = 0 ∨ i = 1 by omega) with rfl | rfl
    · cases hi; rfl
    · cases hi; rfl
  · rcases (show i = 0 ∨ i = 1 by omega) with rfl | rfl
    · cases hi; exact hx
    · cases hi; exact hy
set_option maxHeartbeats 4000000 in
set_option maxRecDepth 100000 in
theorem flow_proof (H : PH) (fv : Value) (c : CodeD) (b : Nat) (w : World) (hw : Sees w H) (hc : fineB c = true) (hf : FlowV H fv (theFlow c)) (hb : b < (theFlow c).blocks.length) (hr : (theFlow c).reached.getD b false = true) :
    Calls Tryz.prog 75 #[fv, .int .i64 b, .int .i64 (idomB (theFlow c) b)] w fun e w' => ProofRes H w w' (theFlow c) b (idomB (theFlow c) b) e ∧ Below w.heap.size w w' := by
  have hf0 := hf
  have hk : NetK c (idomB (theFlow c) b) := ⟨hc, by
    rcases idom_spec hc hb with ⟨h1, _⟩ | ⟨_, h2, _⟩ | ⟨_, m, h2, h3, _⟩
    · rw [h1] at hr; cases hr
    · exact .inl h2
    · exact .inr ⟨by omega, by omega⟩⟩
  have hnet := Lib.hid (fun h => net_of hc hb hr h)
  generalize idomB (theFlow c) b = i at *
  obtain ⟨b5, s0, s1, s2, s3, m, rfl, hb5, hf⟩ := hf
  have hle := hf.le
  have hI1 : I64 (b : Int) := by unfold I64; omega
  have hI2 : I64 i := by rcases hk.i_ok with e | e <;> (unfold I64; omega)
  have q := box5 (hw _ _ hb5)
  have l5 := hw.lt hb5
  have hlE := hf.lenE
  obtain ⟨be, oe, ce, rfl, -, hbe, hce⟩ := hf.entry.bools (by omega)
  have pe := hce w hw b (by omega)
  have le := hw.lt' hbe
  obtain ⟨W, hW⟩ : ∃ W, W = w.alloc (domO 0 0 (.slice none 0 0) (.slice none 0 0)) := ⟨_, rfl⟩
  have hBW : Below w.heap.size w W := by rw [hW]; exact (Below.refl _ _).alloc (Nat.le_refl _) _
  have hxW : W.heap[w.heap.size]? = some (domO 0 0 (.slice none 0 0) (.slice none 0 0)) := by rw [hW]; exact ga_new _ _
  rw [hlE] at q
  clear hce hbe
  have hmm := @run_makeMap Tryz.prog
  by_cases hi : i < 0
  · have d1 : decide (i < 0) = true := by simp [hi]
    have d2 : decide (i ≥ 0) = false := by simp; omega
    cases hen : (theFlow c).entry.getD b false
    · have hN := Lib.hid (hnet.out (by rw [if_pos hi, hen]; simp))
      have hfar : (if i < 0 then ¬ (theFlow c).entry.getD b false = true else (b : Int) ∉ nxB (theFlow c) i) := by rw [if_pos hi, hen]; simp
      have hfarh := Lib.hid hfar
      rw [hen] at pe
      clear hf hnet hW hBW hxW hen hfar hb5
      go_enter Tryz.func75, Tryz.ntmps75
      go_upto_region 5 with fail
      clear q pe l5 le d1 d2 hi
      go_upto_region 6 with fail
      refine wp_name fun w2 hw2 => ?_
      have hx0 : w2.heap[w.heap.size]? = some (domO 0 0 (.slice none 0 0) (.slice none 0 0)) := by rw [hw2]; exact ga_old (ga_old (ga_new _ _))
      have hx1 : w2.heap[w.heap.size + 1]? = some (.map #[] 0) := by rw [hw2]; exact ga_old (ga_fit (by simp))
      have hx2 : w2.heap[w.heap.size + 1 + 1]? = some (netO (.pointer (some ⟨b5, 0, none⟩)) i b (w.heap.size + 1)) := by rw [hw2]; exact ga_fit (by simp)
      have hz2 : w2.heap.size = w.heap.size + 3 := by rw [hw2]; simp
      have hB2 : Below w.heap.size w w2 := by rw [hw2]; exact (((Below.refl _ _).alloc (Nat.le_refl _) _).alloc (by simp) _).alloc (by simp; omega) _
      clear hw2
      have hH0 : ∀ j, w.heap.size ≤ j → H j = none := fun j hj => hw.fresh hj
      have hHu : addH H (w.heap.size + 1 + 1) (netO (.pointer (some ⟨b5, 0, none⟩)) i b (w.heap.size + 1)) (w.heap.size + 1) = none := by rw [addH.ne (by omega)]; exact hH0 _ (by omega)
      have hHw : addH H (w.heap.size + 1 + 1) (netO (.pointer (some ⟨b5, 0, none⟩)) i b (w.heap.size + 1)) w.heap.size = none := by rw [addH.ne (by omega)]; exact hH0 _ (Nat.le_refl _)
      have hHb : addH H (w.heap.size + 1 + 1) (netO (.pointer (some ⟨b5, 0, none⟩)) i b (w.heap.size + 1)) (w.heap.size + 1 + 1) = _ := addH.at
      have hs2 := addH.sees (hw.below hB2) hx2
      have hle1 : PH.le H (addH H (w.heap.size + 1 + 1) (netO (.pointer (some ⟨b5, 0, none⟩)) i b (w.heap.size + 1))) := addH.le (hH0 _ (by omega))
      have hHo : ∀ j o, j < w.heap.size → addH H (w.heap.size + 1 + 1) (netO (.pointer (some ⟨b5, 0, none⟩)) i b (w.heap.size + 1)) j = some o → H j = some o := fun j o hj e => by rw [addH.ne (by omega)] at e; exact e
      generalize addH H (w.heap.size + 1 + 1) (netO (.pointer (some ⟨b5, 0, none⟩)) i b (w.heap.size + 1)) = K at *
      have hfK := hf0.mono hle1
      have hU0 : MapU pr w2 (w.heap.size + 1) [] := ⟨[], ⟨#[], 0, hx1, rfl, by simp, by simp, by simp⟩, by simp⟩
      have hM1 := walk_more K (w.heap.size + 1 + 1) (w.heap.size + 1) _ c i b 0 [] w2 hs2 hHb hfK hHu hU0 (by simp) (by simp) (by simp) hk (FlowK.zero _ _) (rn_first hc hN.out)
      go_upto_region 7 with (go_at_call 111; refine hM1.mono ?_; rintro e w3 ⟨⟨U1, rfl, hU1, hk1, hn1, hG1, hl1⟩, hg3⟩)
      have hrow : ∀ j, some (w.heap.size + 1) = some j → K j = none := fun j e => by injection e with e; rw [← e]; exact hHu
      have hs3 := hs2.grownR hg3 hrow
      have hM2 := walk_more K (w.heap.size + 1 + 1) (w.heap.size + 1) _ c i b (0 + 1) U1 w3 hs3 hHb hfK hHu hU1 hn1 hG1 (by simp at hl1; omega) hk hk1 (rn_second hc hN.out hk1 hG1)
      clear hM1
      go_upto_region 8 with (go_at_call 111; refine hM2.mono ?_; rintro e w4 ⟨⟨U2, rfl, hU2, hk2, hn2, hG2, hl2⟩, hg4⟩)
      have hs4 := hs3.grownR hg4 hrow
      have hP1 := walk_path K (w.heap.size + 1 + 1) (w.heap.size + 1) _ c i b 2 U2 w4 hs4 hHb hfK hHu hU2 hn2 hG2 (by simp at hl1; omega) hk (by omega) (fun S => by have := hk2 S; rw [this]; omega)
      clear hM2
      have hx4 : w4.heap[w.heap.size]? = some (domO 0 0 (.slice none 0 0) (.slice none 0 0)) := (hg4.block _ (by have := hg3.size; omega) (fun e => by injection e with e; omega)).trans ((hg3.block _ (by omega) (fun e => by injection e with e; omega)).trans hx0)
      have hz4 : w.heap.size + 3 ≤ w4.heap.size := by have := hg3.size; have := hg4.size; omega
      go_wp2_with (first
        | (go_at_call 112
           refine hP1.mono ?_
           rintro e w5 ⟨⟨v1, q1, W1, rfl, hv1, ht1, hU5⟩, hg5⟩
           have hv1' := hv1
           obtain ⟨A1, ca1, rfl, -, -⟩ := hv1'
           have hs5 := hs4.grownR hg5 hrow
           have hlW := takes_len ht1
           have hP2 := walk_path K (w.heap.size + 1 + 1) (w.heap.size + 1) _ c i b 1 W1 w5 hs5 hHb hfK hHu hU5 (ht1.nodup hn2) (fun e he => hG2 e (ht1.sub e he)) (by simp at hl1; omega) hk (by omega) (fun S => by
             have := ht1.left (s := (i, true)) (k := 2) (fun S => by have := hk2 S; rw [this]; omega) S
             rw [this]; omega))
        | (go_at_call 112
           refine hP2.mono ?_
           rintro e w6 ⟨⟨v2, q2, W2, rfl, hv2, ht2, hU6⟩, hg6⟩
           have hv2' := hv2
           obtain ⟨A2, ca2, rfl, -, -⟩ := hv2'
           have hs6 := hs5.grownR hg6 hrow
           have hx6 : w6.heap[w.heap.size]? = some (domO 0 0 (.slice none 0 0) (.slice none 0 0)) := (hg6.block _ (by have := hg5.size; omega) (fun e => by injection e with e; omega)).trans ((hg5.block _ (by omega) (fun e => by injection e with e; omega)).trans hx4)
           have q6 := box4 hx6
           have f60 := free_blk hx6 0
           have f61 := free_blk hx6 1
           have f62 := free_blk hx6 2
           have f63 := free_blk hx6 3
           have l6 := (Array.getElem?_eq_some_iff.1 hx6).1))
      refine ⟨rfl, _, res_dom rfl _ _ w.heap.size _ _ _ _ rfl (set_blk (set_blk (set_blk (set_blk hx6 _) _) _) _), ?_⟩
      obtain ⟨wf, hwf⟩ : ∃ wf, wf = (((w6.setCell ⟨w.heap.size, 0, none⟩ (.int .i64 b)).setCell ⟨w.heap.size, 1, none⟩ (.int .i64 i)).setCell ⟨w.heap.size, 2, none⟩ (.slice A1 (pathOf i q1).length ca1)).setCell ⟨w.heap.size, 3, none⟩ (.slice A2 (pathOf i q2).length ca2) := ⟨_, rfl⟩
      rw [← hwf]
      have hoth : ∀ j, j ≠ w.heap.size → wf.heap[j]? = w6.heap[j]? := by
        intro j hj
        rw [hwf, setCell_other hj, setCell_other hj, setCell_other hj, setCell_other hj]
      have hgf : w6.grownBy wf (some w.heap.size) := by rw [hwf]; exact grow_set (grow_set (grow_set (grow_set (grown_refl _ _) (.inr rfl)) (.inr rfl)) (.inr rfl)) (.inr rfl)
      have hsf : Sees wf K := fun j o e => (hoth j (fun h => by rw [h, hHw] at e; cases e)).trans (hs6 j o e)
      have hz5 := hg5.size
      have hz6 := hg6.size
      have h1 : ∀ j, w4.heap.size ≤ j → j < w5.heap.size → wf.heap[j]? = w5.heap[j]? := fun j hj hl => (hoth j (by omega)).trans (hg6.block j hl (fun e => by injection e with e; omega))
      have h2 : ∀ j, w5.heap.size ≤ j → j < w6.heap.size → wf.heap[j]? = w6.heap[j]? := fun j hj hl => hoth j (by omega)
      have hA1 := hv1.mono (le_ext (H := H) (w := w) (ext_sees2 hsf h1) (fun j o hj e => hHo j o hj (by unfold extH at e; rwa [if_pos (by omega)] at e)))
      have hA2 := hv2.mono (le_ext (H := H) (w := w) (ext_sees2 hsf h2) (fun j o hj e => hHo j o hj (by unfold extH at e; rwa [if_pos (by omega)] at e)))
      have hrw : ∀ j, some (w.heap.size + 1) = some j → w.heap.size ≤ j := fun j e => by injection e with e; omega
      have hB3 := hB2.grown hg3 hB2.size hrw
      have hB4 := hB3.grown hg4 hB3.size hrw
      have hB5 := hB4.grown hg5 hB4.size hrw
      have hB6 := hB5.grown hg6 hB5.size hrw
      refine ⟨⟨_, _, ⟨b, i, pathOf i q1, pathOf i q2⟩, rfl, hA1, hA2, rfl, rfl, .inr (.inr ⟨by simp only [Int.toNat_natCast]; exact hfarh.out, U2, W1, W2, q1, q2, hk2, hn2, fun e he => (hG2 e he).1, ht1, ht2, rfl, rfl⟩)⟩, hB6.grown hgf hB6.size (fun j e => by injection e with e; omega)⟩
    · have hmade : MadeP (theFlow c) ⟨b, i, [(b : Int)], [(b : Int)]⟩ := .inl ⟨hi, by simp only [Int.toNat_natCast]; exact hen, rfl, rfl⟩
      rw [hen] at pe
      have hmh := Lib.hid hmade
      clear hmade hf hf0 hb5 hnet hW hBW hxW
      go_enter Tryz.func75, Tryz.ntmps75
      go_wp2
      refine ⟨rfl, _, res_dom rfl _ _ w.heap.size _ _ _ _ rfl (ga_old (ga_old (ga_new _ _))), ⟨_, _, ⟨b, i, [(b : Int)], [(b : Int)]⟩, rfl, lit1 (extH.new (by omega) (ga_old (ga_fit (by simp)))) hI1, lit1 (extH.new (by omega) (ga_fit (by simp))) hI1, rfl, rfl, hmh.out⟩, (((Below.refl _ _).alloc (Nat.le_refl _) _).alloc (by simp) _).alloc (by simp; omega) _⟩
  · obtain ⟨a, rfl⟩ : ∃ a : Nat, i = (a : Int) := ⟨i.toNat, by omega⟩
    have d1 : decide ((a : Int) < 0) = false := by simp
    have d2 : decide ((a : Int) ≥ 0) = true := by simp
    have hal : a < (theFlow c).blocks.length := by rcases hk.i_ok with e | e <;> omega
    obtain ⟨bb, ob, cb, ebl, -, hbb, hcb, -⟩ := hf.blocks.blocks (by omega)
    obtain ⟨u, hu, hcu⟩ := hcb a hal
    have r2 := (hcu w hw).2.2
    have lb := hw.lt' hbb
    have hnx : nxB (theFlow c) a = ((theFlow c).blocks.getD a default).next := by unfold nxB; rw [Int.toNat_natCast]
    rw [← hnx] at hu
    have hul := hu.le
    subst ebl
    by_cases hct : (b : Int) ∈ nxB (theFlow c) a
    · have hmade : MadeP (theFlow c) ⟨b, a, [(a : Int), (b : Int)], [(a : Int), (b : Int)]⟩ := .inr (.inl ⟨show (0 : Int) ≤ (a : Int) by omega, hct, rfl, rfl⟩)
      have hmh := Lib.hid hmade
      have hC : (nxB (theFlow c) a).contains (b : Int) = true := List.contains_iff_mem.2 hct
      have hCh := Lib.hid (fun (w' : World) (hB : Below w.heap.size w w') => contains_sl (b : Int) (hw.below hB) hu)
      rw [hC] at hCh
      clear hmade hf hf0 hb5 hnet hW hBW hxW hct hcb hcu hC hnx
      go_enter Tryz.func75, Tryz.ntmps75
      go_wp2_with (go_at_call 106; refine (hCh.out _ ((Below.refl _ _).alloc (Nat.le_refl _) _)).mono ?_; rintro e w3 ⟨rfl, rfl⟩)
      refine ⟨rfl, _, res_dom rfl _ _ w.heap.size _ _ _ _ rfl (ga_old (ga_old (ga_new _ _))), ⟨_, _, ⟨b, a, [(a : Int), (b : Int)], [(a : Int), (b : Int)]⟩, rfl, lit2 (extH.new (by omega) (ga_old (ga_fit (by simp)))) hI2 hI1, lit2 (extH.new (by omega) (ga_fit (by simp))) hI2 hI1, rfl, rfl, hmh.out⟩, (((Below.refl _ _).alloc (Nat.le_refl _) _).alloc (by simp) _).alloc (by simp; omega) _⟩
    · have hN := Lib.hid (hnet.out (by rw [if_neg hi]; exact hct))
      have hfar : (if (a : Int) < 0 then ¬ (theFlow c).entry.getD b false = true else (b : Int) ∉ nxB (theFlow c) a) := by rw [if_neg hi]; exact hct
      have hfarh := Lib.hid hfar
      have hC : (nxB (theFlow c) a).contains (b : Int) = false := by
        cases h9 : (nxB (theFlow c) a).contains (b : Int)
        · rfl
        · exact absurd (List.contains_iff_mem.1 h9) hct
      have hCh := Lib.hid (fun (w' : World) (hB : Below w.heap.size w w') => contains_sl (b : Int) (hw.below hB) hu)
      rw [hC] at hCh
      clear hf hb5 hnet hW hBW hxW hct hcb hcu hC hnx hfar hi
      go_enter Tryz.func75, Tryz.ntmps75
      go_upto_region 5 with (go_at_call 106; refine (hCh.out _ ((Below.refl _ _).alloc (Nat.le_refl _) _)).mono ?_; rintro e w3 ⟨rfl, rfl⟩)
      clear hCh r2 lb hbb hu q pe l5 le hul d1 d2 hal
      go_upto_region 6 with fail
      refine wp_name fun w2 hw2 => ?_
      have hx0 : w2.heap[w.heap.size]? = some (domO 0 0 (.slice none 0 0) (.slice none 0 0)) := by rw [hw2]; exact ga_old (ga_old (ga_new _ _))
      have hx1 : w2.heap[w.heap.size + 1]? = some (.map #[] 0) := by rw [hw2]; exact ga_old (ga_fit (by simp))
      have hx2 : w2.heap[w.heap.size + 1 + 1]? = some (netO (.pointer (some ⟨b5, 0, none⟩)) (a : Int) b (w.heap.size + 1)) := by rw [hw2]; exact ga_fit (by simp)
      have hz2 : w2.heap.size = w.heap.size + 3 := by rw [hw2]; simp
      have hB2 : Below w.heap.size w w2 := by rw [hw2]; exact (((Below.refl _ _).alloc (Nat.le_refl _) _).alloc (by simp) _).alloc (by simp; omega) _
      clear hw2
      have hH0 : ∀ j, w.heap.size ≤ j → H j = none := fun j hj => hw.fresh hj
      have hHu : addH H (w.heap.size + 1 + 1) (netO (.pointer (some ⟨b5, 0, none⟩)) (a : Int) b (w.heap.size + 1)) (w.heap.size + 1) = none := by rw [addH.ne (by omega)]; exact hH0 _ (by omega)
      have hHw : addH H (w.heap.size + 1 + 1) (netO (.pointer (some ⟨b5, 0, none⟩)) (a : Int) b (w.heap.size + 1)) w.heap.size = none := by rw [addH.ne (by omega)]; exact hH0 _ (Nat.le_refl _)
      have hHb : addH H (w.heap.size + 1 + 1) (netO (.pointer (some ⟨b5, 0, none⟩)) (a : Int) b (w.heap.size + 1)) (w.heap.size + 1 + 1) = _ := addH.at
      have hs2 := addH.sees (hw.below hB2) hx2
      have hle1 : PH.le H (addH H (w.heap.size + 1 + 1) (netO (.pointer (some ⟨b5, 0, none⟩)) (a : Int) b (w.heap.size + 1))) := addH.le (hH0 _ (by omega))
      have hHo : ∀ j o, j < w.heap.size → addH H (w.heap.size + 1 + 1) (netO (.pointer (some ⟨b5, 0, none⟩)) (a : Int) b (w.heap.size + 1)) j = some o → H j = some o := fun j o hj e => by rw [addH.ne (by omega)] at e; exact e
      generalize addH H (w.heap.size + 1 + 1) (netO (.pointer (some ⟨b5, 0, none⟩)) (a : Int) b (w.heap.size + 1)) = K at *
      have hfK := hf0.mono hle1
      have hU0 : MapU pr w2 (w.heap.size + 1) [] := ⟨[], ⟨#[], 0, hx1, rfl, by simp, by simp, by simp⟩, by simp⟩
      have hM1 := walk_more K (w.heap.size + 1 + 1) (w.heap.size + 1) _ c (a : Int) b 0 [] w2 hs2 hHb hfK hHu hU0 (by simp) (by simp) (by simp) hk (FlowK.zero _ _) (rn_first hc hN.out)
      go_upto_region 7 with (go_at_call 111; refine hM1.mono ?_; rintro e w3 ⟨⟨U1, rfl, hU1, hk1, hn1, hG1, hl1⟩, hg3⟩)
      have hrow : ∀ j, some (w.heap.size + 1) = some j → K j = none := fun j e => by injection e with e; rw [← e]; exact hHu
      have hs3 := hs2.grownR hg3 hrow
      have hM2 := walk_more K (w.heap.size + 1 + 1) (w.heap.size + 1) _ c (a : Int) b (0 + 1) U1 w3 hs3 hHb hfK hHu hU1 hn1 hG1 (by simp at hl1; omega) hk hk1 (rn_second hc hN.out hk1 hG1)
      clear hM1
      go_upto_region 8 with (go_at_call 111; refine hM2.mono ?_; rintro e w4 ⟨⟨U2, rfl, hU2, hk2, hn2, hG2, hl2⟩, hg4⟩)
      have hs4 := hs3.grownR hg4 hrow
      have hP1 := walk_path K (w.heap.size + 1 + 1) (w.heap.size + 1) _ c (a : Int) b 2 U2 w4 hs4 hHb hfK hHu hU2 hn2 hG2 (by simp at hl1; omega) hk (by omega) (fun S => by have := hk2 S; rw [this]; omega)
      clear hM2
      have hx4 : w4.heap[w.heap.size]? = some (domO 0 0 (.slice none 0 0) (.slice none 0 0)) := (hg4.block _ (by have := hg3.size; omega) (fun e => by injection e with e; omega)).trans ((hg3.block _ (by omega) (fun e => by injection e with e; omega)).trans hx0)
      have hz4 : w.heap.size + 3 ≤ w4.heap.size := by have := hg3.size; have := hg4.size; omega
      go_wp2_with (first
        | (go_at_call 112
           refine hP1.mono ?_
           rintro e w5 ⟨⟨v1, q1, W1, rfl, hv1, ht1, hU5⟩, hg5⟩
           have hv1' := hv1
           obtain ⟨A1, ca1, rfl, -, -⟩ := hv1'
           have hs5 := hs4.grownR hg5 hrow
           have hlW := takes_len ht1
           have hP2 := walk_path K (w.heap.size + 1 + 1) (w.heap.size + 1) _ c (a : Int) b 1 W1 w5 hs5 hHb hfK hHu hU5 (ht1.nodup hn2) (fun e he => hG2 e (ht1.sub e he)) (by simp at hl1; omega) hk (by omega) (fun S => by
             have := ht1.left (s := ((a : Int), true)) (k := 2) (fun S => by have := hk2 S; rw [this]; omega) S
             rw [this]; omega))
        | (go_at_call 112
           refine hP2.mono ?_
           rintro e w6 ⟨⟨v2, q2, W2, rfl, hv2, ht2, hU6⟩, hg6⟩
           have hv2' := hv2
           obtain ⟨A2, ca2, rfl, -, -⟩ := hv2'
           have hs6 := hs5.grownR hg6 hrow
           have hx6 : w6.heap[w.heap.size]? = some (domO 0 0 (.slice none 0 0) (.slice none 0 0)) := (hg6.block _ (by have := hg5.size; omega) (fun e => by injection e with e; omega)).trans ((hg5.block _ (by omega) (fun e => by injection e with e; omega)).trans hx4)
           have q6 := box4 hx6
           have f60 := free_blk hx6 0
           have f61 := free_blk hx6 1
           have f62 := free_blk hx6 2
           have f63 := free_blk hx6 3
           have l6 := (Array.getElem?_eq_some_iff.1 hx6).1))
      refine ⟨rfl, _, res_dom rfl _ _ w.heap.size _ _ _ _ rfl (set_blk (set_blk (set_blk (set_blk hx6 _) _) _) _), ?_⟩
      obtain ⟨wf, hwf⟩ : ∃ wf, wf = (((w6.setCell ⟨w.heap.size, 0, none⟩ (.int .i64 b)).setCell ⟨w.heap.size, 1, none⟩ (.int .i64 (a : Int))).setCell ⟨w.heap.size, 2, none⟩ (.slice A1 (pathOf (a : Int) q1).length ca1)).setCell ⟨w.heap.size, 3, none⟩ (.slice A2 (pathOf (a : Int) q2).length ca2) := ⟨_, rfl⟩
      rw [← hwf]
      have hoth : ∀ j, j ≠ w.heap.size → wf.heap[j]? = w6.heap[j]? := by
        intro j hj
        rw [hwf, setCell_other hj, setCell_other hj, setCell_other hj, setCell_other hj]
      have hgf : w6.grownBy wf (some w.heap.size) := by rw [hwf]; exact grow_set (grow_set (grow_set (grow_set (grown_refl _ _) (.inr rfl)) (.inr rfl)) (.inr rfl)) (.inr rfl)
      have hsf : Sees wf K := fun j o e => (hoth j (fun h => by rw [h, hHw] at e; cases e)).trans (hs6 j o e)
      have hz5 := hg5.size
      have hz6 := hg6.size
      have h1 : ∀ j, w4.heap.size ≤ j → j < w5.heap.size → wf.heap[j]? = w5.heap[j]? := fun j hj hl => (hoth j (by omega)).trans (hg6.block j hl (fun e => by injection e with e; omega))
      have h2 : ∀ j, w5.heap.size ≤ j → j < w6.heap.size → wf.heap[j]? = w6.heap[j]? := fun j hj hl => hoth j (by omega)
      have hA1 := hv1.mono (le_ext (H := H) (w := w) (ext_sees2 hsf h1) (fun j o hj e => hHo j o hj (by unfold extH at e; rwa [if_pos (by omega)] at e)))
      have hA2 := hv2.mono (le_ext (H := H) (w := w) (ext_sees2 hsf h2) (fun j o hj e => hHo j o hj (by unfold extH at e; rwa [if_pos (by omega)] at e)))
      have hrw : ∀ j, some (w.heap.size + 1) = some j → w.heap.size ≤ j := fun j e => by injection e with e; omega
      have hB3 := hB2.grown hg3 hB2.size hrw
      have hB4 := hB3.grown hg4 hB3.size hrw
      have hB5 := hB4.grown hg5 hB4.size hrw
      have hB6 := hB5.grown hg6 hB5.size hrw
      refine ⟨⟨_, _, ⟨b, (a : Int), pathOf (a : Int) q1, pathOf (a : Int) q2⟩, rfl, hA1, hA2, rfl, rfl, .inr (.inr ⟨by simp only [Int.toNat_natCast]; exact hfarh.out, U2, W1, W2, q1, q2, hk2, hn2, fun e he => (hG2 e he).1, ht1, ht2, rfl, rfl⟩)⟩, hB6.grown hgf hB6.size (fun j e => by injection e with e; omega)⟩
end Go.Proofs.YtififjlgjmgikaaGreat
namespace Go.Proofs.YtififjlgjmgikaaGreat
set_option linter.all false
open Go.RowKit

theorem ext_x {H : PH} {w1 wr w3 : World} {v : Value} {o' : Obj} (hs : Sees w1 H) (hz : w1.heap.size ≤ wr.heap.size) (hv : ∀ k, v.ownBlock = some k → k < wr.heap.size) : PH.le (extH H wr w3) (extX H w1 (w3.alloc o') v) := by
  intro i o e
  unfold extH at e
  unfold extX
  split at e
  · have := hs.lt e
    rw [if_pos this]
    exact e
  · rename_i h
    rw [if_neg (by omega), if_neg (fun k => by have := hv i k; omega)]
    exact ga_old e
theorem infoDom : (Tryz.prog.info? 106).map (fun i => (i.zero, i.size, i.bytes)) = some (some (.agg #[.int .i64 0, .int .i64 0, .slice none 0 0, .slice none 0 0]), 4, 64) := by kernel_rfl
/-- What has come of all proofs. -/
def MadeL (f : FlowD) (k : Nat) (l : List DominD) : Prop := l.map (·.block) = wantK f k ∧ ∀ d ∈ l, d.idom = idomB f d.block.toNat ∧ MadeP f d
def PrvRes (H : PH) (w w' : World) (c : CodeD) (e : Ending) : Prop := ∃ v l, e = .returned (.tuple #[v, .int .i64 0]) ∧ SlV rDomin (extH H w w') v l ∧ MadeL (theFlow c) (theFlow c).blocks.length l
set_option maxHeartbeats 2000000 in
set_option maxRecDepth 100000 in
theorem graph_Prove_no (H : PH) (v : Value) (c : CodeD) (w : World) (hw : Sees w H) (hc : CodeV H v c) (hE : checkedE c ≠ 0) :
    Calls Tryz.prog 34 #[v] w fun e w' => e = .returned (.tuple #[.slice none 0 0, .int .i64 (checkedE c)]) ∧ Below w.heap.size w w' := by
  have hc0 := hc
  obtain ⟨s0, s1, s2, s3, s4, s5, s6, rfl, hc⟩ := hc
  have hx0 := ga_new w (.cells #[s0, s1, s2, s3, s4, s5, s6] 30)
  have hB0 : Below w.heap.size w (w.alloc (.cells #[s0, s1, s2, s3, s4, s5, s6] 30)) := (Below.refl _ _).alloc (Nat.le_refl _) _
  have hC := graph_checked_no H _ c _ (hw.below hB0) hc0 hE
  have hne : (checkedE c != 0) = true := by simpa using hE
  generalize checkedE c = E at *
  clear hE hc0 hc
  go_enter Tryz.func34, Tryz.ntmps34
  go_wp2_with (go_at_call 43; refine hC.mono ?_; rintro e w1 ⟨rfl, hB1⟩)
  go_ret2
  exact ⟨rfl, bstep hB0 hB1⟩
set_option maxHeartbeats 2000000 in
set_option maxRecDepth 100000 in
theorem graph_Prove_ok (H : PH) (v : Value) (c : CodeD) (w : World) (hw : Sees w H) (hc : CodeV H v c) (hE : checkedE c = 0) :
    Calls Tryz.prog 34 #[v] w fun e w' => PrvRes H w w' c e ∧ Below w.heap.size w w' := by
  have hfine := checked_fine hE
  have hc0 := hc
  obtain ⟨s0, s1, s2, s3, s4, s5, s6, rfl, hc⟩ := hc
  have hx0 := ga_new w (.cells #[s0, s1, s2, s3, s4, s5, s6] 30)
  have hB0 : Below w.heap.size w (w.alloc (.cells #[s0, s1, s2, s3, s4, s5, s6] 30)) := (Below.refl _ _).alloc (Nat.le_refl _) _
  have hC := graph_checked_ok H _ c _ (hw.below hB0) hc0 hE
  have hle := flow_le hfine
  clear hE hc0 hc
  go_enter Tryz.func34, Tryz.ntmps34
  go_upto_region 5 with (go_at_call 43; refine hC.mono ?_; rintro e w1 ⟨⟨v1, rfl, hfv⟩, hB1⟩)
  have hs1 := extH.sees (hw.below hB0) hB1
  have hB01 := bstep hB0 hB1
  have hI := flow_idoms _ v1 (theFlow c) w1 hs1 hfv
  have hle1 : PH.le H (extH H (w.alloc (.cells #[s0, s1, s2, s3, s4, s5, s6] 30)) w1) := extH.le (hw.below hB0) w1
  have hH1o : ∀ j o, j < w.heap.size → extH H (w.alloc (.cells #[s0, s1, s2, s3, s4, s5, s6] 30)) w1 j = some o → H j = some o := fun j o hj e => by unfold extH at e; rwa [if_pos (by simp; omega)] at e
  generalize extH H (w.alloc (.cells #[s0, s1, s2, s3, s4, s5, s6] 30)) w1 = H1 at *
  go_wp2_with (go_at_call 44; refine hI.mono ?_; rintro e w2 ⟨⟨u, rfl, hu⟩, hB2⟩; have hu' := hu; obtain ⟨Au, cu, rfl, -, -⟩ := hu')
  have hs2 := extH.sees hs1 hB2
  have hB02 := bstep hB01 hB2
  have hs12 := hs1.below hB2
  have hil : (idomL (theFlow c)).length = (theFlow c).blocks.length := by simp [idomL]
  rw [hil]
  have hfv0 := hfv
  obtain ⟨b5, t0, t1, t2, t3, m, rfl, hb5, hfc⟩ := hfv
  have hlR := hfc.lenR
  have hrc := hfc.reached
  clear hfc hI hC
  have hz2 := hB2.size
  generalize extH H1 w1 w2 = KU at *
  go_loopw [6, 20] (fun o j wr => ∃ (k : Nat) (l : List DominD), k ≤ (theFlow c).blocks.length ∧ j = .int .i64 k ∧ OwnL rDomin 106 H1 w2 wr o l ∧ Aside (MadeL (theFlow c) k l) ∧ Below w2.heap.size w2 wr) (fun _ j _ => (theFlow c).blocks.length - (intOf j).toNat)
  case atStart => exact ⟨0, [], Nat.zero_le _, rfl, OwnL.nil _ _ _ _ _, ⟨rfl, fun d hd => by cases hd⟩, Below.refl _ _⟩
  case round =>
    obtain ⟨k, l, hk, rfl, hown, hI, hB⟩ := hrel
    have hIh := Lib.hid hI
    clear hI
    have hs := hs12.below hB
    have hzr := hB.size
    by_cases hlt : k < (theFlow c).blocks.length
    · obtain ⟨be, oe, ce, ee, -, hbe, hce, -⟩ := hu.ints (by omega)
      cases ee
      have pe := hce wr (hs2.below hB) k (by omega)
      have le := (hs2.below hB).lt' hbe
      have hix : (idomL (theFlow c)).getD k 0 = idomB (theFlow c) k := by
        unfold idomL
        rw [List.getD_eq_getElem?_getD, List.getElem?_map, List.getElem?_range hlt]
        rfl
      rw [hix] at pe
      obtain ⟨br, orr, cr, rfl, -, hbr, hcr⟩ := hrc.bools (by omega)
      have pr0 := hcr wr hs k (by omega)
      have lr := hs.lt' hbr
      have q5 := box5 (hs _ _ hb5)
      have l5 := hs.lt hb5
      have hstep := wantK_succ (theFlow c) k
      have hstp := Lib.hid hstep
      rw [hlR] at q5
      clear hce hcr hix hstep
      cases hrb : (theFlow c).reached.getD k false
      · rw [hrb] at pr0 hstp
        go_wp2
        go_roundw
        case rel =>
          refine ⟨k + 1, l, by omega, by go_num, hown, ⟨?_, hIh.out.2⟩, hB⟩
          rw [hstp.out, if_neg (by simp), List.append_nil]
          exact hIh.out.1
        case measure => simp [intOf]; omega
      · rw [hrb] at pr0 hstp
        have hP := flow_proof H1 _ c k wr hs hfine hfv0 hlt hrb
        have hI2 : I64 (idomB (theFlow c) k) := by
          rcases idom_spec hfine hlt with ⟨h1, _⟩ | ⟨_, h2, _⟩ | ⟨_, m, h2, h3, _⟩ <;> (unfold I64; omega)
        have hI1 : I64 (k : Int) := by unfold I64; omega
        have hll : l.length ≤ k := by
          have h9 := congrArg List.length hIh.out.1
          have := wantK_len (theFlow c) k
          rw [List.length_map] at h9
          omega
        obtain ⟨ib, hib⟩ : ∃ ib, ib = idomB (theFlow c) k := ⟨_, rfl⟩
        rw [← hib] at pe hP hI2
        have hibh := Lib.hid hib
        clear hib hrb
        go_wp2_with (first
          | (go_at_call 75
             refine hP.mono ?_
             rintro e w3 ⟨⟨u1, u2, d, rfl, hd1, hd2, hdb, hdi, hmd⟩, hB3⟩
             have hd1' := hd1
             have hd2' := hd2
             obtain ⟨A1, ca1, rfl, -, -⟩ := hd1'
             obtain ⟨A2, ca2, rfl, -, -⟩ := hd2'
             have hz3 := hB3.size
             have hRR : rDomin.R (extX H1 w2 (w3.alloc (domO k ib (.slice A1 d.one.length ca1) (.slice A2 d.two.length ca2))) u6) [.int .i64 k, .int .i64 ib, .slice A1 d.one.length ca1, .slice A2 d.two.length ca2] d := ⟨_, _, by rw [hdb, hdi], by rw [hdb]; exact hI1, by rw [hdi]; exact hI2, hd1.mono (ext_x hs12 (by omega) (fun j hj => (hown.lt hj).2)), hd2.mono (ext_x hs12 (by omega) (fun j hj => (hown.lt hj).2))⟩
             have hRRh := Lib.hid hRR
             clear hRR hd1 hd2)
          | (at_builtin
             go_loud (refine wpL_appL rDomin 58 106 (.agg #[.int .i64 0, .int .i64 0, .slice none 0 0, .slice none 0 0]) 64 Tryz.underlying58 infoDom rfl (by decide) (by decide) rfl _ _ rfl _ l rfl ((hown.below hB3).below ((Below.refl _ _).alloc (Nat.le_refl _) _)) w3.heap.size 1 [.int .i64 k, .int .i64 ib, .slice A1 d.one.length ca1, .slice A2 d.two.length ca2] rfl ?hcell ?hone d hRRh.out ?hlen ?hbase ?_)
             (case hcell => exact fun j u hj => by (rw [cell_blk (ga_new w3 _) j]; simpa using hj))
             (case hone => exact fun u hu => by (simp at hu; rcases hu with rfl | rfl | rfl | rfl <;> rfl))
             (case hlen => omega)
             (case hbase => rw [World.size_alloc]; omega)
             intro v4 w4 hown4 hg4 _))
        go_roundw
        case rel =>
          refine ⟨k + 1, l ++ [d], by omega, by go_num, hown4, ⟨?_, fun d' hd' => ?_⟩, ((bstep hB hB3).alloc (by omega) _).grown hg4 (by rw [World.size_alloc]; omega) (fun j hj => (hown.lt hj).1)⟩
          · rw [hstp.out, List.map_append, hIh.out.1]; simp [hdb]
          · rcases List.mem_append.1 hd' with h9 | h9
            · exact hIh.out.2 d' h9
            · simp at h9
              subst h9
              exact ⟨by rw [hdb, Int.toNat_natCast, hdi]; exact hibh.out, hmd⟩
        case measure => simp [intOf]; omega
    · obtain rfl : k = (theFlow c).blocks.length := by omega
      have hlt' : ¬ ((theFlow c).blocks.length : Int) < (theFlow c).blocks.length := by omega
      have hll : l.length ≤ (theFlow c).blocks.length := by
        have h9 := congrArg List.length hIh.out.1
        have := wantK_len (theFlow c) (theFlow c).blocks.length
        rw [List.length_map] at h9
        omega
      have hfin := (hown.read (by unfold maxN; omega)).mono (le_ext (H := H) (w := w) (extH.sees hs12 hB) (fun j o hj e => hH1o j o hj (by unfold extH at e; rwa [if_pos (by have := hB02.size; omega)] at e)))
      go_wp2
      go_ret2
      exact ⟨⟨_, l, rfl, hfin, hIh.out⟩, bstep hB02 hB⟩
end Go.Proofs.YtififjlgjmgikaaGreat
namespace Go.Proofs.YtififjlgjmgikaaGreat
set_option linter.all false
open Go.RowKit Go.Shelf

/-- The proofs that the program makes are accepted. -/
theorem prove_chk {c : CodeD} {l : List DominD} (hE : checkedE c = 0) (h : MadeL (theFlow c) (theFlow c).blocks.length l) : chkE c l = 0 := by
  unfold chkE
  rw [if_pos hE, if_pos (dcd_iff.2 (prf_all (checked_fine hE) h.1 (fun d hd => (h.2 d hd).1) (fun d hd => (h.2 d hd).2)))]
set_option maxHeartbeats 4000000 in
set_option maxRecDepth 100000 in
theorem law_Proves (H : PH) (v : Value) (c : CodeD) (w : World) (hw : Sees w H) (hc : CodeV H v c) :
    Calls Tryz.prog 9 #[v] w fun e w' => e = .returned (.bool true) ∧ Below w.heap.size w w' := by
  have hSm := Lib.hid (fun (w1 : World) (hs : Sees w1 H) => r19_Small H _ c w1 hs hc)
  have hc0 := hc
  obtain ⟨s0, s1, s2, s3, s4, s5, s6, rfl, hc⟩ := hc
  have hx0 := ga_new w (.cells #[s0, s1, s2, s3, s4, s5, s6] 30)
  have hB0 : Below w.heap.size w (w.alloc (.cells #[s0, s1, s2, s3, s4, s5, s6] 30)) := (Below.refl _ _).alloc (Nat.le_refl _) _
  have hA := law_awake (w.alloc (.cells #[s0, s1, s2, s3, s4, s5, s6] 30))
  have hFw := Lib.hid (fun (w1 : World) => law_few H _ c w1 hc0)
  cases hfew : decide (c.instrs.length ≤ 120)
  · have hfh := Lib.hid hfew
    clear hfew hc hc0
    go_enter Tryz.func9, Tryz.ntmps9
    go_wp2_with (first
      | (go_at_call 11; refine hA.mono ?_; rintro e w1 ⟨rfl, hB1⟩; have hBa := bstep hB0 hB1; have hx1 := blk_keep hB1 hx0; have q := box7 hx1; have hl1 : w.heap.size < w1.heap.size := (Array.getElem?_eq_some_iff.1 hx1).1)
        | (go_at_call 12; refine (hFw.out _).mono ?_; rintro e w2 ⟨rfl, hB2⟩; rw [hfh.out]; replace hBa := bstep hBa hB2; replace hx1 := blk_keep hB2 hx1; clear q; have q := box7 hx1; replace hl1 : w.heap.size < w2.heap.size := (Array.getElem?_eq_some_iff.1 hx1).1))
    go_ret
    exact ⟨rfl, hBa⟩
  · have hfh := Lib.hid hfew
    by_cases hE0 : checkedE c = 0
    · have hG := Lib.hid (fun (w1 : World) (hs : Sees w1 H) => graph_Prove_ok H _ c w1 hs hc0 hE0)
      have hEh := Lib.hid hE0
      have hck := Lib.hid (fun (l : List DominD) (h : MadeL (theFlow c) (theFlow c).blocks.length l) => prove_chk hE0 h)
      have hCk := Lib.hid (fun (w1 : World) (K : PH) (hle : PH.le H K) (hs : Sees w1 K) (vl : Value) (l : List DominD) (hl : SlV rDomin K vl l) => r19_Check K _ vl c l w1 hs (hc0.mono hle) hl)
      clear hfew hc hc0 hE0
      go_enter Tryz.func9, Tryz.ntmps9
      go_wp2_with (first
        | (go_at_call 11; refine hA.mono ?_; rintro e w1 ⟨rfl, hB1⟩; have hBa := bstep hB0 hB1; have hx1 := blk_keep hB1 hx0; have q := box7 hx1; have hl1 : w.heap.size < w1.heap.size := (Array.getElem?_eq_some_iff.1 hx1).1)
          | (go_at_call 12; refine (hFw.out _).mono ?_; rintro e w2 ⟨rfl, hB2⟩; rw [hfh.out]; replace hBa := bstep hBa hB2; replace hx1 := blk_keep hB2 hx1; clear q; have q := box7 hx1; replace hl1 : w.heap.size < w2.heap.size := (Array.getElem?_eq_some_iff.1 hx1).1)
        | (go_at_call 34
           refine (hG.out _ (hw.below hBa)).mono ?_
           rintro e w3 ⟨⟨va, l, rfl, hl, hmd⟩, hB3⟩
           have hsK := extH.sees (hw.below hBa) hB3
           have hHK := extH.le (hw.below hBa) w3
           have hmh := Lib.hid (hck.out l hmd)
           have hlh := Lib.hid hl
           have hl' := hl
           obtain ⟨Al, cl, rfl, -, -⟩ := hl'.open_
           replace hBa := bstep hBa hB3
           replace hx1 := blk_keep hB3 hx1
           clear q hmd hl hl'
           have q := box7 hx1
           replace hl1 : w.heap.size < w3.heap.size := (Array.getElem?_eq_some_iff.1 hx1).1)
        | (go_at_call 35
           refine (hSm.out _ (hw.below hBa)).mono ?_
           rintro e w4 ⟨⟨t0, t1, t2, t3, t4, t5, t6, L, EE, R, rfl, hone, ho3, hrd⟩, hB4⟩
           go_must (rw [hEh.out])
           replace hBa := bstep hBa hB4
           replace hx1 := blk_keep hB4 hx1
           clear q hrd
           have q := box7 hx1
           replace hl1 : w.heap.size < w4.heap.size := (Array.getElem?_eq_some_iff.1 hx1).1)
          | (with_reducible refine wpL_storeG rfl _ _ rfl w4.heap.size t0 t1 t2 t3 t4 t5 t6 L EE R _ rfl rfl (ga_new w4 (.cells zeroG 65)) rfl hone ho3 ?_
             intro w5 hb5 hg5 hz5
             rw [World.size_alloc] at hz5
             have hB45 : Below w4.heap.size w4 w5 := (((Below.refl _ _).alloc (Nat.le_refl _) _).grown hg5 (by simp) fun k hk => by injection hk with hk; omega)
             replace hBa := bstep hBa hB45
             replace hx1 := blk_keep hB45 hx1
             clear q
             have q := box7 hx1
             replace hl1 : w.heap.size < w5.heap.size := (Array.getElem?_eq_some_iff.1 hx1).1)
        | (go_at_call 33
           refine (hCk.out _ _ hHK ((hsK.below hB4).below hB45) _ l hlh.out).mono ?_
           rintro e w6 ⟨rfl, hB6⟩
           go_must (rw [hmh.out])
           replace hBa := bstep hBa hB6))
      go_ret
      exact ⟨rfl, hBa⟩
    · obtain ⟨E, hE⟩ : ∃ E, checkedE c = E := ⟨_, rfl⟩
      have hG := Lib.hid (fun (w1 : World) (hs : Sees w1 H) => graph_Prove_no H _ c w1 hs hc0 hE0)
      have hEh := Lib.hid hE
      have hEE : (E != E) = false := by simp
      have hEn : (E != 0) = true := by rw [← hE]; simpa using hE0
      clear hfew hc hc0 hE0 hE
      go_enter Tryz.func9, Tryz.ntmps9
      go_wp2_with (first
        | (go_at_call 11; refine hA.mono ?_; rintro e w1 ⟨rfl, hB1⟩; have hBa := bstep hB0 hB1; have hx1 := blk_keep hB1 hx0; have q := box7 hx1; have hl1 : w.heap.size < w1.heap.size := (Array.getElem?_eq_some_iff.1 hx1).1)
          | (go_at_call 12; refine (hFw.out _).mono ?_; rintro e w2 ⟨rfl, hB2⟩; rw [hfh.out]; replace hBa := bstep hBa hB2; replace hx1 := blk_keep hB2 hx1; clear q; have q := box7 hx1; replace hl1 : w.heap.size < w2.heap.size := (Array.getElem?_eq_some_iff.1 hx1).1)
        | (go_at_call 34
           refine (hG.out _ (hw.below hBa)).mono ?_
           rintro e w3 ⟨rfl, hB3⟩
           go_must (rw [hEh.out])
           replace hBa := bstep hBa hB3
           replace hx1 := blk_keep hB3 hx1
           clear q
           have q := box7 hx1
           replace hl1 : w.heap.size < w3.heap.size := (Array.getElem?_eq_some_iff.1 hx1).1)
        | (go_at_call 35
           refine (hSm.out _ (hw.below hBa)).mono ?_
           rintro e w4 ⟨⟨t0, t1, t2, t3, t4, t5, t6, L, EE, R, rfl, hone, ho3, hrd⟩, hB4⟩
           go_must (rw [hEh.out])
           replace hBa := bstep hBa hB4
           replace hx1 := blk_keep hB4 hx1
           clear q hrd
           have q := box7 hx1
           replace hl1 : w.heap.size < w4.heap.size := (Array.getElem?_eq_some_iff.1 hx1).1)
          | (with_reducible refine wpL_storeG rfl _ _ rfl w4.heap.size t0 t1 t2 t3 t4 t5 t6 L EE R _ rfl rfl (ga_new w4 (.cells zeroG 65)) rfl hone ho3 ?_
             intro w5 hb5 hg5 hz5
             rw [World.size_alloc] at hz5
             have hB45 : Below w4.heap.size w4 w5 := (((Below.refl _ _).alloc (Nat.le_refl _) _).grown hg5 (by simp) fun k hk => by injection hk with hk; omega)
             replace hBa := bstep hBa hB45
             replace hx1 := blk_keep hB45 hx1
             clear q
             have q := box7 hx1
             replace hl1 : w.heap.size < w5.heap.size := (Array.getElem?_eq_some_iff.1 hx1).1))
      go_ret
      exact ⟨rfl, hBa⟩
end Go.Proofs.YtififjlgjmgikaaGreat
