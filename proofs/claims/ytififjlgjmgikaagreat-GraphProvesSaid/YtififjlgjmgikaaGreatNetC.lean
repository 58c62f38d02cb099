/- net.next: where one more path can be led. net.more: one more path is led. net.path: a path is taken out. -/
import Derived.Test.YtififjlgjmgikaaGreatNetA
import Derived.Test.YtififjlgjmgikaaGreatPlanA
import Derived.Test.YtififjlgjmgikaaGreatChkX
namespace Go.Proofs.YtififjlgjmgikaaGreat
set_option linter.all false
open Go.RowKit

theorem nd_eql (w : World) (a b : Int) (p q : Bool) : (binOp .eql 166 (.agg #[.int .i64 a, .bool p]) (.agg #[.int .i64 b, .bool q])).run Tryz.prog w = .ok (.bool (decide (((a, p) : Nd) = (b, q)))) w := by
  have h := nd_eqIn 9998 w (a, p) (b, q)
  rw [show (9998 + 2 : Nat) = 10000 from rfl] at h
  unfold nd at h
  rw [run_eql_struct, h]
  rfl
theorem nd_neq (w : World) (a b : Int) (p q : Bool) : (binOp .neq 166 (.agg #[.int .i64 a, .bool p]) (.agg #[.int .i64 b, .bool q])).run Tryz.prog w = .ok (.bool (!decide (((a, p) : Nd) = (b, q)))) w := by
  have h := nd_eqIn 9998 w (a, p) (b, q)
  rw [show (9998 + 2 : Nat) = 10000 from rfl] at h
  unfold nd at h
  rw [run_neq_struct, h]
  rfl
/-- The set of used links, as the net keeps it. -/
def UsedV (H : PH) (bu : Nat) (U : List Pr) : Prop := H bu ≠ none ∧ ∀ w, Sees w H → MapU pr w bu U
theorem UsedV.mono {H H' : PH} (h : PH.le H H') {bu : Nat} {U : List Pr} (k : UsedV H bu U) : UsedV H' bu U := by
  refine ⟨fun e => ?_, fun w hw => k.2 w fun i o e => hw i o (h i o e)⟩
  cases h9 : H bu with
  | none => exact k.1 h9
  | some o => rw [h _ _ h9] at e; cases e
theorem used_look {w : World} {bu : Nat} {U : List Pr} (h : MapU pr w bu U) (x1 y1 : Int) (x2 y2 : Bool) :
    (Instr.lookup 141 (.map (some bu)) (.agg #[.int .i64 x1, .bool x2, .int .i64 y1, .bool y2]) false).run Tryz.prog w = .ok (.bool (decide (((x1, x2), (y1, y2)) ∈ U))) w := by
  obtain ⟨l, hM, _, hg⟩ := h.get
  have := hM.lookup Tryz.underlying141 pr_key (z := .bool false) (fun _ => by kernel_rfl) ((x1, x2), (y1, y2)) false
  rw [hg] at this
  unfold pr at this
  rw [this]
  by_cases hk : ((x1, x2), (y1, y2)) ∈ U
  · simp [hk]
  · simp [hk]
theorem OwnL.keepN {H : PH} {w wr w1 : World} {v : Value} {xs : List Nd} (h : OwnL rNd 166 H w wr v xs) (hb : ∀ k, v.ownBlock = some k → w1.heap[k]? = wr.heap[k]?) : OwnL rNd 166 H w w1 v xs := by
  obtain ⟨cells, ⟨h0, h1⟩, h2⟩ := h
  refine ⟨cells, ⟨h0, ?_⟩, fun i x hi => h2 i x hi⟩
  rcases h1 with h1 | ⟨g, cap, cur, rfl, h3, h4, h5⟩
  · exact .inl h1
  · exact .inr ⟨g, cap, cur, rfl, h3, (hb g rfl).trans h4, h5⟩
theorem nodup_sub_len {α : Type} [DecidableEq α] : ∀ (xs ys : List α), xs.Nodup → (∀ x ∈ xs, x ∈ ys) → xs.length ≤ ys.length := by
  intro xs
  induction xs with
  | nil => intro ys _ _; exact Nat.zero_le _
  | cons a xs ih =>
    intro ys hn hs
    rw [List.nodup_cons] at hn
    have ha := hs a (by simp)
    have h1 := ih (ys.erase a) hn.2 fun x hx => (List.mem_erase_of_ne (fun e => hn.1 (by rw [← e]; exact hx))).2 (hs x (List.mem_cons_of_mem _ hx))
    have h2 := List.length_erase_of_mem ha
    have h3 := List.length_pos_of_mem ha
    rw [List.length_cons]
    omega
abbrev prO (e : Pr) : Obj := .cells #[.int .i64 e.1.1, .bool e.1.2, .int .i64 e.2.1, .bool e.2.2] 171
def NextRes (H : PH) (w w' : World) (f : FlowD) (i b : Int) (U : List Pr) (x : Nd) (e : Ending) : Prop := ∃ ys, NdRes H w w' ys e ∧ ∀ y, y ∈ ys ↔ RN f i b U x y
set_option maxHeartbeats 2000000 in
set_option maxRecDepth 100000 in
theorem net_next (H : PH) (bn bu : Nat) (fv : Value) (f : FlowD) (i b : Int) (U : List Pr) (x : Nd) (w : World) (hw : Sees w H) (hN : H bn = some (netO fv i b bu)) (hf : FlowV H fv f) (hU : UsedV H bu U) (hUn : U.length ≤ 900000) (hUI : ∀ e ∈ U, I64 e.1.1)
    (hx : DN f i x) (hxl : x.1 < f.blocks.length) (hx0 : I64 x.1) (hli : ∀ y ∈ linksL f i x, I64 y.1) (hll : (linksL f i x).length ≤ 40000) :
    Calls Tryz.prog 132 #[.pointer (some ⟨bn, 0, none⟩), nd x] w fun e w' => NextRes H w w' f i b U x e ∧ Below w.heap.size w w' := by
  obtain ⟨x1, x2⟩ := x
  simp only at hx0 hxl
  obtain ⟨W, hW⟩ : ∃ W, W = w.alloc (ndO (x1, x2)) := ⟨_, rfl⟩
  have hB0 : Below w.heap.size w W := by rw [hW]; exact (Below.refl _ _).alloc (Nat.le_refl _) _
  have hx3 : W.heap[w.heap.size]? = some (ndO (x1, x2)) := by rw [hW]; exact ga_new _ _
  have hzW : w.heap.size < W.heap.size := (Array.getElem?_eq_some_iff.1 hx3).1
  have hsW := hw.below hB0
  have q := box4 (hsW _ _ hN)
  have lq := hsW.lt hN
  have p := box2 hx3
  have hL := net_links H bn bu fv f i b (x1, x2) W.drew (hp_sees hsW) hN hf hxl hx0
  unfold nd at hL ⊢
  simp only at hW p hL
  by_cases hxb : ((x1, x2) : Nd) = (b, false)
  · have hq := fun w => nd_eql w x1 b x2 false
    rw [decide_eq_true hxb] at hq
    have hres : ∀ y, y ∈ ([] : List Nd) ↔ RN f i b U (x1, x2) y := by
      intro y
      constructor
      · intro h; cases h
      · intro h; exact absurd hxb h.1
    have hresh := Lib.hid hres
    clear hres hL hf hU hx hli hll hxb hN
    go_enter Tryz.func132, Tryz.ntmps132
    go_upto_region 1 with fail
    refine wp_name fun W1 hW1 => ?_
    rw [← hW] at hW1
    subst hW1
    clear hW
    have hcs := Lib.hid (fun (w' : World) (h : w'.heap = W1.heap) => And.intro ((hp_cell h _).trans q.2.2.1) (And.intro (hp_lt h lq) (And.intro ((hp_cell h _).trans p.1) (And.intro ((hp_cell h _).trans p.2) (hp_lt h hzW)))))
    refine wp_region_plan (fun w' => w'.heap = W1.heap) [(0, true), (1, true), (2, true), (3, true), (4, true), (5, true), (6, true)] (by kernel_rfl) (by kernel_rfl) (by kernel_rfl) rfl ?_
    repeat first
      | (refine plan_skip rfl (by rfl) ?_; simp only [Act.put, List.setIfInBounds_toArray, List.set_cons_zero, List.set_cons_succ])
      | (refine plan_read (v := ?_) rfl (by rfl) ?_ ?_; rotate_left; (focus (intro w' hSw; obtain ⟨r1, r2, r3, r4, r5⟩ := hcs.out _ hSw; clear hSw; go_simp; all_goals with_reducible rfl)); simp only [Act.put, List.setIfInBounds_toArray, List.set_cons_zero, List.set_cons_succ])
    refine plan_nil (NoPanic.normal ?_)
    go_wp2
    go_ret
    exact ⟨⟨_, ⟨_, rfl, SlV.nil _ _⟩, hresh.out⟩, hp_drew hB0⟩
  · have hq := fun w => nd_eql w x1 b x2 false
    rw [decide_eq_false hxb] at hq
    have hxbh := Lib.hid hxb
    have hxh := Lib.hid hx
    obtain ⟨ls, hls⟩ : ∃ ls, ls = linksL f i (x1, x2) := ⟨_, rfl⟩
    rw [← hls] at hL hli hll
    have hlsh := Lib.hid hls
    have hlih := Lib.hid hli
    have hUIh := Lib.hid hUI
    clear hxb hx hls hli hUI hf
    go_enter Tryz.func132, Tryz.ntmps132
    go_upto_region 1 with fail
    refine wp_name fun W1 hW1 => ?_
    rw [← hW] at hW1
    subst hW1
    clear hW
    have hcs := Lib.hid (fun (w' : World) (h : w'.heap = W1.heap) => And.intro ((hp_cell h _).trans q.2.2.1) (And.intro (hp_lt h lq) (And.intro ((hp_cell h _).trans p.1) (And.intro ((hp_cell h _).trans p.2) (hp_lt h hzW)))))
    refine wp_region_plan (fun w' => w'.heap = W1.heap) [(0, true), (1, true), (2, true), (3, true), (4, true), (5, true), (6, true)] (by kernel_rfl) (by kernel_rfl) (by kernel_rfl) rfl ?_
    repeat first
      | (refine plan_skip rfl (by rfl) ?_; simp only [Act.put, List.setIfInBounds_toArray, List.set_cons_zero, List.set_cons_succ])
      | (refine plan_read (v := ?_) rfl (by rfl) ?_ ?_; rotate_left; (focus (intro w' hSw; obtain ⟨r1, r2, r3, r4, r5⟩ := hcs.out _ hSw; clear hSw; go_simp; all_goals with_reducible rfl)); simp only [Act.put, List.setIfInBounds_toArray, List.set_cons_zero, List.set_cons_succ])
    refine plan_nil (NoPanic.normal ?_)
    clear hcs hq
    have pd : W1.drew.cell? ⟨w.heap.size, 0, none⟩ = some (.int .i64 x1) ∧ W1.drew.cell? ⟨w.heap.size, 1, none⟩ = some (.bool x2) := p
    have hzd : w.heap.size < W1.drew.heap.size := hzW
    have hBd := hp_drew hB0
    have hHx : addH H w.heap.size (ndO (x1, x2)) w.heap.size = some (ndO (x1, x2)) := addH.at
    have hsX : Sees W1.drew (addH H w.heap.size (ndO (x1, x2))) := addH.sees (hp_sees hsW) hx3
    have hleX : PH.le H (addH H w.heap.size (ndO (x1, x2))) := addH.le (hw.fresh (Nat.le_refl _))
    have hNX := hleX _ _ hN
    have hUX := hU.mono hleX
    clear hsW q p lq hzW hx3 hB0 hN hU
    generalize W1.drew = W2 at *
    go_wp2_with (go_at_call 133; refine hL.mono ?_; rintro e w1 ⟨⟨u, rfl, hu⟩, hB1⟩; have hul := hu.le; have hu' := hu; obtain ⟨Au, cu, rfl, -, -⟩ := hu')
    have hs1 : Sees w1 (addH H w.heap.size (ndO (x1, x2))) := hsX.below hB1
    have hBw := bstep hBd hB1
    have hz1 := hB1.size
    have hbw1 := (hUX.2 w1 hs1).lt
    have hsu : Sees w1 (extH H W2 w1) := extH.sees (fun j o e => hsX j o (hleX j o e)) hB1
    clear hL pd hsX hB1 hBd
    generalize extH H W2 w1 = KU at *
    generalize addH H w.heap.size (ndO (x1, x2)) = KX at *
    go_loopw [5, 20] (fun o j wr => ∃ k : Nat, k ≤ ls.length ∧ j = .int .i64 k ∧ OwnL rNd 166 H w1 wr o ((ls.take k).filter fun y => decide (((x1, x2), y) ∉ U)) ∧ Below w1.heap.size w1 wr) (fun _ j _ => ls.length - (intOf j).toNat)
    case atStart => exact ⟨0, Nat.zero_le _, rfl, OwnL.nil _ _ _ _ _, Below.refl _ _⟩
    case round =>
      obtain ⟨k, hk, rfl, hown, hB⟩ := hrel
      have hsX := hs1.below hB
      have hzr := hB.size
      by_cases hlt : k < ls.length
      · obtain ⟨be, oe, ce, ee, -, hbe, hce, -⟩ := hu.nds (by omega)
        cases ee
        have pe := hce wr (hsu.below hB) k hlt
        have le := (hsu.below hB).lt' hbe
        have hyl : ls[k]? = some (ls.getD k (0, false)) := by simp [hlt]
        have hyI := hlih.out _ (List.mem_of_getElem? hyl)
        have hst : (ls.take (k + 1)).filter (fun y => decide (((x1, x2), y) ∉ U)) = (ls.take k).filter (fun y => decide (((x1, x2), y) ∉ U)) ++ (if ((x1, x2), ls.getD k (0, false)) ∈ U then [] else [ls.getD k (0, false)]) := by
          rw [List.take_add_one, hyl, List.filter_append]
          congr 1
          generalize ls.getD k (0, false) = y
          by_cases e : ((x1, x2), y) ∈ U <;> simp [e]
        have hln := Lib.hid (show ((ls.take k).filter fun y => decide (((x1, x2), y) ∉ U)).length ≤ 40000 from Nat.le_trans (List.length_filter_le _ _) (by rw [List.length_take]; omega))
        have hsth := Lib.hid hst
        clear hst hyl
        generalize (ls.take k).filter (fun y => decide (((x1, x2), y) ∉ U)) = ys at *
        generalize ls.getD k (0, false) = y at *
        obtain ⟨y1, y2⟩ := y
        simp only at pe hyI
        clear hce
        go_upto_region 7 with fail
        refine wp_name fun wa hwa => ?_
        have hBa : Below w1.heap.size w1 wa := by rw [hwa]; exact hB.alloc hzr _
        have hya : wa.heap[wr.heap.size]? = some (ndO (y1, y2)) := by rw [hwa]; exact ga_new _ _
        have hoa : OwnL rNd 166 H w1 wa u5 ys := by rw [hwa]; exact hown.below ((Below.refl _ _).alloc (Nat.le_refl _) _)
        have hsa := hs1.below hBa
        have hMU := hUX.2 wa hsa
        have qa := (box4 (hsa _ _ hNX)).2.2.2
        have la := hsa.lt hNX
        have px := box2 (hsa _ _ hHx)
        have lx := hsa.lt hHx
        have py := box2 hya
        have ly := (Array.getElem?_eq_some_iff.1 hya).1
        have hza := hBa.size
        have hlka := Lib.hid (fun (w' : World) (h : w'.heap = wa.heap) => used_look (hMU.of_block (w' := w') (by rw [h])) x1 y1 x2 y2)
        clear hwa hB hown hsX pe hMU
        by_cases hkU : ((x1, x2), (y1, y2)) ∈ U
        all_goals first
          | (have hdt : decide (((x1, x2), (y1, y2)) ∈ U) = true := decide_eq_true hkU
             rw [hdt] at hlka
             have hst2 := hsth.out
             rw [if_pos hkU, List.append_nil] at hst2)
          | (have hdt : decide (((x1, x2), (y1, y2)) ∈ U) = false := decide_eq_false hkU
             rw [hdt] at hlka
             have hst2 := hsth.out
             rw [if_neg hkU] at hst2)
        all_goals
          have hsth2 := Lib.hid hst2
          clear hst2 hsth hdt hkU
          have hcs := Lib.hid (fun (w' : World) (h : w'.heap = wa.heap) => And.intro ((hp_cell h _).trans qa) (And.intro (hp_lt h la) (And.intro ((hp_cell h _).trans px.1) (And.intro ((hp_cell h _).trans px.2) (And.intro (hp_lt h lx) (And.intro ((hp_cell h _).trans py.1) (And.intro ((hp_cell h _).trans py.2) (And.intro (hp_lt h ly) (hlka.out w' h)))))))))
          refine wp_region_plan (fun w' => w'.heap = wa.heap) [(0, true), (1, true), (2, true), (3, true), (4, true), (5, true), (6, true), (7, true), (8, true)] (by kernel_rfl) (by kernel_rfl) (by kernel_rfl) rfl ?_
          repeat first
            | (refine plan_skip rfl (by rfl) ?_; simp only [Act.put, List.setIfInBounds_toArray, List.set_cons_zero, List.set_cons_succ])
            | (refine plan_read (v := ?_) rfl (by rfl) ?_ ?_; rotate_left; (focus (intro w' hSw; obtain ⟨r1, r2, r3, r4, r5, r6, r7, r8, r9⟩ := hcs.out _ hSw; clear hSw; go_simp; all_goals with_reducible rfl)); simp only [Act.put, List.setIfInBounds_toArray, List.set_cons_zero, List.set_cons_succ])
          refine plan_nil (NoPanic.normal ?_)
          clear hcs hlka qa la px lx
        · go_wp2
          go_roundw
          case rel => exact ⟨k + 1, by omega, by go_num, by rw [hsth2.out]; exact hoa.below ⟨rfl, rfl, rfl, Nat.le_refl _, fun _ _ => rfl⟩, hp_drew hBa⟩
          case measure => simp [intOf]; omega
        · have pyd : wa.drew.cell? ⟨wr.heap.size, 0, none⟩ = some (.int .i64 y1) ∧ wa.drew.cell? ⟨wr.heap.size, 1, none⟩ = some (.bool y2) := py
          have lyd : wr.heap.size < wa.drew.heap.size := ly
          have hod : OwnL rNd 166 H w1 wa.drew u5 ys := hoa.below ⟨rfl, rfl, rfl, Nat.le_refl _, fun _ _ => rfl⟩
          have hBd := hp_drew hBa
          have hzd := hBd.size
          clear py ly hoa hBa hya hsa
          generalize wa.drew = wd at *
          go_wp2_with (at_builtin; go_loud (refine wpL_appN (H := H) (w := w1) rfl _ _ rfl _ ys rfl (hod.below ((Below.refl _ _).alloc (Nat.le_refl _) _)) wd.heap.size 1 (y1, y2) rfl (ga_new _ _) hyI (by have := hln.out; omega) (by simp; omega) ?_); intro v2 w2 hown2 hg2 _)
          go_roundw
          case rel => exact ⟨k + 1, by omega, by go_num, by rw [hsth2.out]; exact hown2, (hBd.alloc hzd _).grown hg2 (by simp; omega) fun j hj => (hod.lt hj).1⟩
          case measure => simp [intOf]; omega
      · obtain rfl : k = ls.length := by omega
        have hlt' : ¬ (ls.length : Int) < ls.length := by omega
        rw [List.take_length] at hown
        obtain ⟨zs, hzs⟩ : ∃ zs, zs = ls.filter fun y => decide (((x1, x2), y) ∉ U) := ⟨_, rfl⟩
        rw [← hzs] at hown
        have hzl : zs.length ≤ 40000 := by rw [hzs]; exact Nat.le_trans (List.length_filter_le _ _) hll
        have hzm : ∀ y, y ∈ zs ↔ (y ∈ linksL f i (x1, x2) ∧ ((x1, x2), y) ∉ U) := by intro y; rw [hzs, ← hlsh.out]; simp
        have hzmh := Lib.hid hzm
        clear hzs hzm
        have hMU := hUX.2 wr hsX
        obtain ⟨l, hMl, hl, -⟩ := hMU.get
        have hlh := Lib.hid hl
        have hsub : (l.map (·.1)).length ≤ U.length := by
          have hn : (l.map (·.1)).Nodup := by obtain ⟨_, _, _, _, h, _⟩ := hMl; exact h
          refine nodup_sub_len _ _ hn fun k hk => ?_
          obtain ⟨p, hp, rfl⟩ := List.mem_map.1 hk
          exact ((hl p.1 p.2).1 hp).1
        obtain ⟨w6, hrun6, hR6, hg6, hz6⟩ := hMl.range (P := Tryz.prog) Tryz.underlying141
        have hB6 := hB.grown hg6 hzr (fun j e => by cases e)
        have hown6 := hown.below ((Below.refl _ _).grown hg6 (Nat.le_refl _) (fun j e => by cases e))
        have q3 := (box4 (hsX _ _ hNX)).2.2.2
        have l3 := hsX.lt hNX
        have hoR : u5.ownBlock ≠ some wr.heap.size := fun e => by have := (hown.lt e).2; omega
        obtain ⟨wb, rfl⟩ : ∃ wb : World, wb = wr := ⟨_, rfl⟩
        obtain ⟨R, hRz⟩ : ∃ R, wb.heap.size = R := ⟨_, rfl⟩
        have hwR : w1.heap.size ≤ R := by omega
        have hbR : bu < R := by have := hMl.lt; omega
        clear hMU hl hlt
        go_wp2_with fail
        rw [hRz] at hR6 hoR
        clear hrun6 hg6 hMl hown hB hz6 hRz hzr q3 l3
        go_loopw [5] (fun o wr => ∃ gone ys, MapR pr wr bu R l gone ∧ OwnL rNd 166 H w1 wr o ys ∧ Aside (o.ownBlock ≠ some R ∧ ys.length ≤ 40000 + gone.length ∧ ∀ y, y ∈ ys ↔ y ∈ zs ∨ (y, (x1, x2)) ∈ gone) ∧ Below w1.heap.size w1 wr) (fun o wr => wr.rangeLeft bu R)
        case atStart => exact ⟨[], zs, hR6, hown6, ⟨hoR, by simp; omega, fun y => by simp⟩, hB6⟩
        clear hR6 hown6 hoR hB6
        case round =>
          obtain ⟨gone, ys, hR, hown, hI, hB⟩ := hrel
          have hIh := Lib.hid hI
          clear hI
          rcases hR.next (P := Tryz.prog) 0 with ⟨hdone, hrun⟩ | ⟨e, ev, w7, hxl, hxg, hrun, hR7, hg7, hz7, hent, hms⟩
          · have hgl : gone.length ≤ (l.map (·.1)).length := nodup_sub_len _ _ hR.sub.1 hR.sub.2
            have hfin := (hown.read (by have := hIh.out.2.1; unfold maxN; omega)).mono (extH.lower hw (by have := hBw.size; omega))
            have hans : ∀ y, y ∈ ys ↔ RN f i b U (x1, x2) y := by
              intro y
              rw [hIh.out.2.2, hzmh.out]
              unfold RN
              constructor
              · rintro (h | h)
                · exact ⟨hxbh.out, hxh.out, .inl h⟩
                · refine ⟨hxbh.out, hxh.out, .inr ?_⟩
                  obtain ⟨p, hp, h9⟩ := List.mem_map.1 (hR.sub.2 _ h)
                  rw [← h9]
                  exact ((hlh.out p.1 p.2).1 hp).1
              · rintro ⟨_, _, h | h⟩
                · exact .inl h
                · exact .inr (hdone _ ((hlh.out _ _).2 ⟨h, rfl⟩))
            have hansh := Lib.hid hans
            clear hans hdone
            go_wp2
            go_ret
            exact ⟨⟨_, ⟨_, rfl, hfin⟩, hansh.out⟩, bstep hBw hB⟩
          · obtain ⟨⟨⟨a1, a2⟩, ⟨c1, c2⟩⟩, hev⟩ : ∃ e', e = e' := ⟨e, rfl⟩
            subst hev
            have heU := (hlh.out _ _).1 hxl
            have haI := hUIh.out _ heU.1
            have hgl : (gone ++ [((a1, a2), (c1, c2))]).length ≤ (l.map (·.1)).length := nodup_sub_len _ _ hR7.sub.1 hR7.sub.2
            rw [List.length_append, List.length_singleton] at hgl
            have hoR := hIh.out.1
            have hown7 := hown.keepN (w1 := w7) fun j hj => hg7.block j (hown.lt hj).2 (fun e => hoR (by rw [hj]; exact e.symm ▸ rfl))
            have hB7 := hB.grown hg7 hB.size (fun j hj => by injection hj with hj; omega)
            unfold pr at hrun hent
            simp only at hrun hent haI
            have hmsh := Lib.hid hms
            have hxgh := Lib.hid hxg
            have heUh := Lib.hid heU
            clear hR hown hg7 hms hxl hxg heU
            go_upto_region 13 with fail
            refine wp_name fun wa hwa => ?_
            have hBa : Below w1.heap.size w1 wa := by rw [hwa]; exact hB7.alloc hB7.size _
            have hya : wa.heap[wr.heap.size]? = some (prO ((a1, a2), (c1, c2))) := by rw [hwa, ← hz7]; exact ga_new _ _
            have hoa : OwnL rNd 166 H w1 wa u5 ys := by rw [hwa]; exact hown7.below ((Below.refl _ _).alloc (Nat.le_refl _) _)
            have hRa : MapR pr wa bu R l (gone ++ [((a1, a2), (c1, c2))]) := by
              have hlt := hR7.mapL.lt
              have hlr := hR7.lt
              rw [hwa]
              exact hR7.of_blocks (Below.heap_alloc _ _ _ hlt) (Below.heap_alloc _ _ _ hlr)
            have hma : wa.rangeLeft bu R < wr.rangeLeft bu R := by
              have hlt := hR7.mapL.lt
              have hlr := hR7.lt
              have : wa.rangeLeft bu R = w7.rangeLeft bu R := by
                unfold World.rangeLeft
                rw [hwa, Below.heap_alloc _ _ _ hlt, Below.heap_alloc _ _ _ hlr]
              rw [this]
              exact hmsh.out
            have hsa := hs1.below hBa
            have hMU := hUX.2 wa hsa
            have qa := (box4 (hsa _ _ hNX)).2.2.2
            have la := hsa.lt hNX
            have px := box2 (hsa _ _ hHx)
            have lx := hsa.lt hHx
            have py := box4 hya
            have ly := (Array.getElem?_eq_some_iff.1 hya).1
            have hza := hBa.size
            have hRl : R < wr.heap.size := by rw [← hz7]; exact hR7.lt
            have hlka := Lib.hid (show ∀ (w' : World), w'.heap = wa.heap → (Instr.lookup 141 (.map (some bu)) (.agg #[.int .i64 a1, .bool a2, .int .i64 c1, .bool c2]) false).run Tryz.prog w' = .ok (.bool true) w' from fun (w' : World) (h : w'.heap = wa.heap) => by
              have := used_look (hMU.of_block (w' := w') (by rw [h])) a1 c1 a2 c2
              rw [decide_eq_true heUh.out.1] at this
              exact this)
            have hmah := Lib.hid hma
            have hRah := Lib.hid hRa
            clear hwa hown7 hR7 hB7 hMU hma hRa hmsh hrun hent
            simp only at py
            have hcs := Lib.hid (fun (w' : World) (h : w'.heap = wa.heap) => And.intro ((hp_cell h _).trans qa) (And.intro (hp_lt h la) (And.intro ((hp_cell h _).trans px.1) (And.intro ((hp_cell h _).trans px.2) (And.intro (hp_lt h lx) (And.intro ((hp_cell h _).trans py.1) (And.intro ((hp_cell h _).trans py.2.1) (And.intro ((hp_cell h _).trans py.2.2.1) (And.intro ((hp_cell h _).trans py.2.2.2) (And.intro (hp_lt h ly) (hlka.out w' h)))))))))))
            by_cases hcx : ((c1, c2) : Nd) = (x1, x2)
            · have hq := fun w => nd_eql w c1 x1 c2 x2
              rw [decide_eq_true hcx] at hq
              have hcxh := Lib.hid hcx
              clear hcx
              refine wp_region_plan (fun w' => w'.heap = wa.heap) [(0, true), (1, true), (2, true), (3, true), (4, true), (5, true), (6, true), (7, true), (8, true), (9, true), (10, true), (11, true)] (by kernel_rfl) (by kernel_rfl) (by kernel_rfl) rfl ?_
              repeat first
                | (refine plan_skip rfl (by rfl) ?_; simp only [Act.put, List.setIfInBounds_toArray, List.set_cons_zero, List.set_cons_succ])
                | (refine plan_read (v := ?_) rfl (by rfl) ?_ ?_; rotate_left; (focus (intro w' hSw; obtain ⟨r1, r2, r3, r4, r5, r6, r7, r8, r9, r10, r11⟩ := hcs.out _ hSw; clear hSw; go_simp; all_goals with_reducible rfl)); simp only [Act.put, List.setIfInBounds_toArray, List.set_cons_zero, List.set_cons_succ])
              refine plan_nil (NoPanic.normal ?_)
              clear hcs hlka qa la px lx hq
              have pyd : wa.drew.cell? ⟨wr.heap.size, 0, none⟩ = some (.int .i64 a1) ∧ wa.drew.cell? ⟨wr.heap.size, 1, none⟩ = some (.bool a2) := ⟨py.1, py.2.1⟩
              have lyd : wr.heap.size < wa.drew.heap.size := ly
              have hod : OwnL rNd 166 H w1 wa.drew u5 ys := hoa.below ⟨rfl, rfl, rfl, Nat.le_refl _, fun _ _ => rfl⟩
              have hBd := hp_drew hBa
              have hzd := hBd.size
              have hRd : MapR pr wa.drew bu R l (gone ++ [((a1, a2), (c1, c2))]) := hRah.out.of_blocks rfl rfl
              have hRdh := Lib.hid hRd
              have hmd : wa.drew.rangeLeft bu R < wr.rangeLeft bu R := hmah.out
              have hmdh := Lib.hid hmd
              clear py ly hoa hBa hya hsa hRd hRah hmah hmd
              generalize wa.drew = wd at *
              go_wp2_with (at_builtin; go_loud (refine wpL_appN (H := H) (w := w1) rfl _ _ rfl _ ys rfl (hod.below ((Below.refl _ _).alloc (Nat.le_refl _) _)) wd.heap.size 1 (a1, a2) rfl (ga_new _ _) haI (by have := hIh.out.2.1; omega) (by simp; omega) ?_); intro v2 w2 hown2 hg2 hv2)
              have hlt := hRdh.out.mapL.lt
              have hlr := hRdh.out.lt
              have kb1 : w2.heap[bu]? = wd.heap[bu]? := (hg2.block _ (by simp; omega) (fun e => by have := (hod.lt e.symm).1; omega)).trans (Below.heap_alloc _ _ _ hlt)
              have kb2 : w2.heap[R]? = wd.heap[R]? := (hg2.block _ (by simp; omega) (fun e => hIh.out.1 e.symm)).trans (Below.heap_alloc _ _ _ hlr)
              go_roundw
              case rel =>
                refine ⟨gone ++ [((a1, a2), (c1, c2))], _, hRdh.out.of_blocks kb1 kb2, hown2, ⟨?_, ?_, ?_⟩, (hBd.alloc hzd _).grown hg2 (by simp; omega) fun j hj => (hod.lt hj).1⟩
                · rcases hv2 with h9 | h9
                  · rw [h9]; exact hIh.out.1
                  · rw [h9]; intro e; injection e with e; rw [World.size_alloc] at e; omega
                · have := hIh.out.2.1; simp; omega
                · intro y
                  have h9 := hIh.out.2.2 y
                  rw [List.mem_append, List.mem_append, h9, List.mem_singleton, List.mem_singleton, ← hcxh.out]
                  constructor
                  · rintro ((k1 | k1) | rfl)
                    · exact .inl k1
                    · exact .inr (.inl k1)
                    · exact .inr (.inr rfl)
                  · rintro (k1 | k1 | k1)
                    · exact .inl (.inl k1)
                    · exact .inl (.inr k1)
                    · injection k1 with k1 _; exact .inr k1
              case measure =>
                have : w2.rangeLeft bu R = wd.rangeLeft bu R := by unfold World.rangeLeft; rw [kb1, kb2]
                rw [this]
                exact hmdh.out
            · have hq := fun w => nd_eql w c1 x1 c2 x2
              rw [decide_eq_false hcx] at hq
              have hcxh := Lib.hid hcx
              clear hcx
              refine wp_region_plan (fun w' => w'.heap = wa.heap) [(0, true), (1, true), (2, true), (3, true), (4, true), (5, true), (6, true), (7, true), (8, true), (9, true), (10, true), (11, true)] (by kernel_rfl) (by kernel_rfl) (by kernel_rfl) rfl ?_
              repeat first
                | (refine plan_skip rfl (by rfl) ?_; simp only [Act.put, List.setIfInBounds_toArray, List.set_cons_zero, List.set_cons_succ])
                | (refine plan_read (v := ?_) rfl (by rfl) ?_ ?_; rotate_left; (focus (intro w' hSw; obtain ⟨r1, r2, r3, r4, r5, r6, r7, r8, r9, r10, r11⟩ := hcs.out _ hSw; clear hSw; go_simp; all_goals with_reducible rfl)); simp only [Act.put, List.setIfInBounds_toArray, List.set_cons_zero, List.set_cons_succ])
              refine plan_nil (NoPanic.normal ?_)
              clear hcs hlka qa la px lx hq py ly hya
              go_wp2
              go_roundw
              case rel =>
                refine ⟨gone ++ [((a1, a2), (c1, c2))], ys, hRah.out.of_blocks rfl rfl, hoa.below ⟨rfl, rfl, rfl, Nat.le_refl _, fun _ _ => rfl⟩, ⟨hIh.out.1, by have := hIh.out.2.1; simp; omega, fun y => ?_⟩, hp_drew hBa⟩
                rw [hIh.out.2.2, List.mem_append, List.mem_singleton]
                constructor
                · rintro (k1 | k1)
                  · exact .inl k1
                  · exact .inr (.inl k1)
                · rintro (k1 | k1 | k1)
                  · exact .inl k1
                  · exact .inr k1
                  · injection k1 with _ k1; exact absurd k1.symm hcxh.out
              case measure => exact hmah.out
end Go.Proofs.YtififjlgjmgikaaGreat
namespace Go.Proofs.YtififjlgjmgikaaGreat
set_option linter.all false
open Go.RowKit

section
variable {κ : Type} [DecidableEq κ]
theorem op_mapUpdate {P : Program} {o : Oper} {a : Act} {K : Act → World → Prop} {Q : Exit → Act → World → Prop} {w : World} (m x v : Operand) (T : TypeId) (hop : o.op = Op.mapUpdate T m x v) {KT E : TypeId} (hT : P.underlying T = some (.map KT E)) (enc : κ → Value) (hK : KeyK P KT enc)
    (hinj : ∀ a b, enc a = enc b → a = b) (b : Nat) (l : List (κ × Value)) (hm : a.eval m = .map (some b)) (hM : MapL enc w b l) (k : κ) (val : Value) (hx : a.eval x = enc k) (hv : a.eval v = val)
    (h : ∀ w', MapL enc w' b (mput l k val) → w.grownBy w' (some b) → K (a.put o.dst undef) w') : Oper.wp P o a w K Q := by
  obtain ⟨w', hrun, r1, r2⟩ := hM.update hT hK hinj k val
  unfold Oper.wp
  simp [execOp, hop, hm, hx, hv, hrun, Result.andThen]
  exact h w' r1 r2
theorem op_delete {P : Program} {o : Oper} {a : Act} {K : Act → World → Prop} {Q : Exit → Act → World → Prop} {w : World} (m x : Operand) (T KT : TypeId)
    (hop : o.op = Op.call { callee := Callee.builtin Builtin.delete, args := #[m, x], argTypes := #[T, KT] }) {E : TypeId} (hT : P.underlying T = some (.map KT E)) (enc : κ → Value) (hK : KeyK P KT enc) (b : Nat) (l : List (κ × Value))
    (hm : a.eval m = .map (some b)) (hM : MapL enc w b l) (k : κ) (hx : a.eval x = enc k)
    (h : ∀ w', MapL enc w' b (mdel l k) → w.grownBy w' (some b) → K (a.put o.dst (.tuple #[])) w') : Oper.wp P o a w K Q := by
  obtain ⟨w', hrun, r1, r2⟩ := hM.delete hT hK k o.type
  unfold Oper.wp
  simp [execOp, hop, resolve, invoke, builtin, hm, hx, hrun, Result.andThen]
  exact h w' r1 r2
end
/-- Where a net stands. -/
structure NetK (c : CodeD) (i : Int) : Prop where
  fine : fineB c = true
  i_ok : i = -1 ∨ 0 ≤ i ∧ i < (theFlow c).blocks.length
section
variable {c : CodeD} {i b : Int} (h : NetK c i)
include h
theorem NetK.le : (theFlow c).blocks.length ≤ 20000 := flow_le h.fine
theorem NetK.lt {x : Nd} (hx : DN (theFlow c) i x) : x.1 < (theFlow c).blocks.length := by
  rcases hx.1 with k | k
  · exact k.2
  · rcases h.i_ok with e | e <;> omega
theorem NetK.i64 {x : Nd} (hx : DN (theFlow c) i x) : I64 x.1 := by
  have := h.le
  rcases hx.1 with k | k
  · unfold I64; omega
  · rcases h.i_ok with e | e <;> (unfold I64; omega)
theorem NetK.links_len (x : Nd) (hx : DN (theFlow c) i x) : (linksL (theFlow c) i x).length ≤ 40000 := by
  have := h.le
  unfold linksL
  split
  · rw [List.length_map]
    unfold entriesB
    exact Nat.le_trans entriesK_len (by omega)
  · rename_i h0
    split
    · simp
    · rw [List.length_map]
      refine Nat.le_trans (List.length_filter_le _ _) ?_
      have hl := h.lt hx
      have := (flow_nx h.fine ((theFlow c).blocks.getD x.1.toNat default) (by
        rw [List.getD_eq_getElem?_getD, List.getElem?_eq_getElem (show x.1.toNat < (theFlow c).blocks.length by omega)]
        exact List.getElem_mem _)).2
      unfold nxB
      omega
theorem NetK.count (ks : List Nd) (hn : ks.Nodup) (hx : ∀ x ∈ ks, DN (theFlow c) i x) : ks.length ≤ 40002 := by
  have hle := h.le
  have h1 := nodup_sub_len ks (((List.range (theFlow c).blocks.length).map fun (k : Nat) => ((k : Int), false)) ++ ((List.range (theFlow c).blocks.length).map fun (k : Nat) => ((k : Int), true)) ++ [(i, false), (i, true)]) hn (fun x hxm => by
    obtain ⟨x1, x2⟩ := x
    have := (hx _ hxm).1
    simp only at this
    simp only [List.mem_append, List.mem_map, List.mem_range, List.mem_cons, Prod.mk.injEq]
    rcases this with k | k
    · cases x2
      · exact .inl (.inl ⟨x1.toNat, by omega, by omega, rfl⟩)
      · exact .inl (.inr ⟨x1.toNat, by omega, by omega, rfl⟩)
    · subst k
      cases x2 <;> simp)
  simp at h1
  omega
end
theorem nextV {H : PH} {bn bu : Nat} {fv : Value} {c : CodeD} {i b : Int} {U : List Pr} (hk : NetK c i) (hN : H bn = some (netO fv i b bu)) (hf : FlowV H fv (theFlow c)) (hU : UsedV H bu U) (hUn : U.length ≤ 900000) (hG : ∀ e ∈ U, GN (theFlow c) i e.1 e.2) :
    NextN H (.func (.func 132) #[.pointer (some ⟨bn, 0, none⟩)] #[]) (DN (theFlow c) i) (RN (theFlow c) i b U) :=
  ⟨_, _, rfl, enters_mk Tryz.func132 (by kernel_rfl) rfl, fun w' H' x hle hs hx =>
    net_next H' bn bu fv (theFlow c) i b U x w' hs (hle _ _ hN) (hf.mono hle) (hU.mono hle) hUn (fun e he => hk.i64 (hG e he).2) hx (hk.lt hx) (hk.i64 hx) (fun y hy => hk.i64 (dn_link hk.fine hk.i_ok hx hy)) (hk.links_len x hx)⟩
def MoreRes (c : CodeD) (i b : Int) (k : Int) (U : List Pr) (bu : Nat) (w' : World) (e : Ending) : Prop :=
  ∃ W, e = .returned (.bool true) ∧ MapU pr w' bu W ∧ FlowK ((i, true) : Nd) (b, false) k W ∧ W.Nodup ∧ (∀ e ∈ W, GN (theFlow c) i e.1 e.2) ∧ W.length ≤ U.length + 40002
section
variable {V : Type} [DecidableEq V]
theorem augL_len (U : List (V × V)) : ∀ (q : List V), (augL U q).length ≤ U.length + q.length := by
  intro q
  induction q with
  | nil => exact Nat.le_refl _
  | cons y q ih =>
    cases q with
    | nil => exact Nat.le_succ _
    | cons x q =>
      show (augS (augL U (x :: q)) y x).length ≤ _
      have : (augS (augL U (x :: q)) y x).length ≤ (augL U (x :: q)).length + 1 := by
        unfold augS
        split
        · exact Nat.le_trans (List.length_erase_le) (Nat.le_succ _)
        · simp
      simp only [List.length_cons] at ih ⊢
      omega
theorem augS_del {U : List (V × V)} (hn : U.Nodup) {y x : V} (h : (x, y) ∈ U) : ∀ e, e ∈ augS U y x ↔ e ≠ (x, y) ∧ e ∈ U := by
  intro e
  unfold augS
  rw [if_pos h, hn.mem_erase_iff]
theorem augS_put {U : List (V × V)} {y x : V} (h : (x, y) ∉ U) : augS U y x = U ++ [(y, x)] := by
  unfold augS
  rw [if_neg h]
/-- The net at each step of reading back has no edge twice. -/
theorem BackI.nd {R G : V → V → Prop} {ρ : V → Nat} {U W : List (V × V)} {t x : V} {p : List V} (h : BackI R ρ U t x p W) (hR : ∀ a b, R a b → Resid G U a b) (hn : U.Nodup) (hG : ∀ e ∈ U, G e.1 e.2) : W.Nodup := by
  rw [h.net]
  refine (augL_ok hn hG p x (h.up.imp fun hab e => ?_) h.last fun i a b ha hb => hR _ _ (h.steps i a b ha hb)).1
  subst e
  exact Nat.lt_irrefl _ hab
end
theorem back_len {c : CodeD} {i b : Int} {ρ : Nd → Nat} {U W : List Pr} {x : Nd} {p : List Nd} (hc : NetK c i) (h : BackI (RN (theFlow c) i b U) ρ U ((b, false) : Nd) x p W) (hb : DN (theFlow c) i (b, false)) : W.length ≤ U.length + 40002 := by
  have h1 : (x :: p).length ≤ 40002 := hc.count _ (h.up.imp fun hab e => by subst e; exact Nat.lt_irrefl _ hab) fun y hy => by
    obtain ⟨j, hj⟩ := List.getElem?_of_mem hy
    have hjl := (List.getElem?_eq_some_iff.1 hj).1
    by_cases e : j + 1 < (x :: p).length
    · exact (h.steps j y _ hj (List.getElem?_eq_getElem e)).2.1
    · have hl := h.last
      rw [List.getLast?_eq_getElem?, show (x :: p).length - 1 = j by omega, hj] at hl
      injection hl with hl
      rw [hl]
      exact hb
  have h2 := augL_len U (x :: p)
  rw [← h.net] at h2
  omega
/-- Alike but for one block. -/
def SameBut (bu : Nat) (w w' : World) : Prop := ∀ j, j < w.heap.size → j ≠ bu → w'.heap[j]? = w.heap[j]?
theorem sb_cell {bu : Nat} {w w' : World} (h : SameBut bu w w') {b : Nat} (hb : b ≠ bu) (hl : b < w.heap.size) (i : Nat) : w'.cell? ⟨b, i, none⟩ = w.cell? ⟨b, i, none⟩ := by
  unfold World.cell?
  rw [h b hl hb]
theorem sb_lt {bu : Nat} {w w' : World} (h : SameBut bu w w') {b : Nat} (hb : b ≠ bu) (hl : b < w.heap.size) : b < w'.heap.size := by
  have h1 := h b hl hb
  rw [Array.getElem?_eq_getElem hl] at h1
  exact (Array.getElem?_eq_some_iff.1 h1).1
theorem used_full {w : World} {bu : Nat} {U : List Pr} (h : MapU pr w bu U) : UsedV (full w) bu U := by
  obtain ⟨o, ho⟩ : ∃ o, w.heap[bu]? = some o := ⟨_, Array.getElem?_eq_getElem h.lt⟩
  exact ⟨fun e => by (rw [show full w bu = w.heap[bu]? from rfl, ho] at e; cases e), fun w' hs => h.of_block ((hs bu o ho).trans ho.symm)⟩
theorem MapU.delM {κ : Type} [DecidableEq κ] {enc : κ → Value} {w w' : World} {b : Nat} {U W : List κ} {l : List (κ × Value)} (hl : ∀ k v, (k, v) ∈ l ↔ k ∈ U ∧ v = .bool true) (hM : MapL enc w b l) {k : κ} (h : MapL enc w' b (mdel l k)) (hW : ∀ e, e ∈ W ↔ e ≠ k ∧ e ∈ U) : MapU enc w' b W := by
  refine ⟨_, h, fun k' v => ?_⟩
  have hn : (l.map (·.1)).Nodup := by obtain ⟨_, _, _, _, h, _⟩ := hM; exact h
  rw [mdel_mem hn, hl, hW]
  constructor
  · rintro ⟨⟨h1, h2⟩, h3⟩; exact ⟨⟨h3, h1⟩, h2⟩
  · rintro ⟨⟨h1, h2⟩, h3⟩; exact ⟨⟨h2, h3⟩, h1⟩
set_option maxHeartbeats 4000000 in
set_option maxRecDepth 100000 in
theorem walk_more (H : PH) (bn bu : Nat) (fv : Value) (c : CodeD) (i b k : Int) (U : List Pr) (w : World) (hw : Sees w H) (hN : H bn = some (netO fv i b bu)) (hf : FlowV H fv (theFlow c)) (hHu : H bu = none) (hU : MapU pr w bu U) (hn : U.Nodup)
    (hG : ∀ e ∈ U, GN (theFlow c) i e.1 e.2) (hUn : U.length ≤ 800000) (hc : NetK c i) (hk : FlowK ((i, true) : Nd) (b, false) k U) (hfrom : From (RN (theFlow c) i b U) ((i, true) : Nd) (b, false)) :
    Calls Tryz.prog 111 #[.pointer (some ⟨bn, 0, none⟩)] w fun e w' => MoreRes c i b (k + 1) U bu w' e ∧ w.grownBy w' (some bu) := by
  have hmf : ∀ (fn : Fn) (first cap : Array Value) (w : World), (Instr.makeFunc fn first cap).run Tryz.prog w = .ok (.func fn first cap) w := fun _ _ _ _ => rfl
  have hS := net_source H bn bu fv i b w hw hN
  unfold nd at hS
  have hlu := hU.lt
  have hlN := hw.lt hN
  go_enter Tryz.func111, Tryz.ntmps111
  have hkh := Lib.hid hk
  have hfromh := Lib.hid hfrom
  have hGh := Lib.hid hG
  have hnh := Lib.hid hn
  clear hk hfrom hG hn
  go_upto_region 2 with (first
    | (go_at_call 131; refine hS.mono ?_; rintro e w1 ⟨rfl, hB1⟩)
    | (go_at_call 130
       have hB2 : Below w.heap.size w (w1.alloc (ndO (i, true))) := hB1.alloc hB1.size _
       have hs2 := hw.below hB2
       have hU2 := hU.of_block (hB2.block _ hlu)
       have hV := nextV hc (full.le hs2 _ _ hN) (hf.mono (full.le hs2)) (used_full hU2) (by omega) hGh.out
       refine (walk_nd (full (w1.alloc (ndO (i, true)))) w1.heap.size (i, true) _ _ _ 40002 _ (full.sees _) (ga_new _ _) (fun x hx => hc.i64 hx) hc.count (by decide) dn_src (fun x y hx hR => rn_dn hc.fine hc.i_ok hGh.out hR) hV).mono ?_
       rintro e w3 ⟨⟨ba, l, ρ, N, rfl, hba, hMa, hI⟩, hB3⟩))
  have hBa := bstep hB2 hB3
  have hza := hBa.size
  have hz2 := hB2.size
  have hsa := hw.below hBa
  have hUa := hU.of_block (hBa.block _ hlu)
  have hIh := Lib.hid hI
  have hlba := hMa.lt
  have qa := (box4 (hsa _ _ hN)).2.2.1
  have la := hsa.lt hN
  clear hS hV hI hB2 hB3 hB1 hs2 hU2
  rw [World.size_alloc] at hba hz2
  go_upto_region 3 with fail
  refine wp_name fun w4 hw4 => ?_
  have hB4 : Below w3.heap.size w3 w4 := by rw [hw4]; exact (Below.refl _ _).alloc (Nat.le_refl _) _
  have he4 : w4.heap[w3.heap.size]? = some (ndO (b, false)) := by rw [hw4]; exact ga_new _ _
  have hM4 := hMa.of_block (hB4.block _ hlba)
  have hhas : hasQ l (b, false) := hIh.out.reach hfromh.out
  obtain ⟨v, hv⟩ := Option.isSome_iff_exists.1 hhas
  obtain ⟨-, -, py, rfl, -⟩ := hIh.out.vals (b, false) v hv
  have hlk := hM4.lookup Tryz.underlying163 nd_key (z := nd (0, false)) (fun _ => by kernel_rfl) (b, false) true
  rw [hv] at hlk
  simp only [if_true, Option.getD_some, Option.isSome_some] at hlk
  unfold nd at hlk
  have p4 := box2 he4
  have l4 := (Array.getElem?_eq_some_iff.1 he4).1
  have hbdh := Lib.hid (hIh.out.vals (b, false) _ hv).1
  have hhash := Lib.hid hhas
  clear hw4 hMa qa la hv hhas
  simp only at p4 hlk
  go_wp2_with fail
  refine wp_name fun w5 hw5 => ?_
  have hB5 : Below w4.heap.size w4 w5 := by rw [hw5]; exact ((Below.refl _ _).alloc (Nat.le_refl _) _).alloc (by simp) _
  have hx5 : w5.heap[w4.heap.size + 1]? = some (ndO (b, false)) := by rw [hw5]; exact ga_fit (by simp [World.size_alloc])
  have hM5 := hM4.of_block (hB5.block _ hM4.lt)
  have hBw5 : Below w.heap.size w w5 := bstep hBa (bstep hB4 hB5)
  have hU5 := hU.of_block (hBw5.block _ hlu)
  have hz4 := hB4.size
  clear hw5 hM4 p4 l4 he4 hlk hUa hB4 hB5 hBa
  go_loopg [7] N (fun gk xp wr => ∃ (bx : Nat) (x : Nd) (p : List Nd) (W : List Pr), xp = .pointer (some ⟨bx, 0, none⟩) ∧ wr.heap[bx]? = some (ndO x) ∧ w4.heap.size ≤ bx ∧ MapL nd wr ba l ∧ MapU pr wr bu W ∧
    Aside (BackI (RN (theFlow c) i b U) ρ U (b, false) x p W ∧ hasQ l x ∧ ρ x < gk) ∧ w.grownBy wr (some bu) ∧ w5.heap.size ≤ wr.heap.size)
  case atStart =>
    refine ⟨w4.heap.size + 1, (b, false), [], U, rfl, hx5, by omega, hM5, hU5, ⟨BackI.init, hhash.out, ?_⟩, ⟨hBw5.os, hBw5.tape, hBw5.output, hBw5.size, fun j hj _ => hBw5.block j hj⟩, Nat.le_refl _⟩
    obtain ⟨v, hv⟩ := Option.isSome_iff_exists.1 hhash.out
    exact (hIh.out.vals _ v hv).2.1
  clear hx5 hM5 hU5 hBw5 hhash
  case round =>
    obtain ⟨bx, x, p, W, rfl, hbx, hbl, hM, hUW, hI, hg, hz⟩ := hrel
    obtain ⟨x1, x2⟩ := x
    have hIb := Lib.hid hI
    clear hI
    have hs : Sees wr H := hw.grownR hg (fun j hj => by injection hj with hj; rw [← hj]; exact hHu)
    have hzr := hg.size
    have px := box2 hbx
    have lx := (Array.getElem?_eq_some_iff.1 hbx).1
    simp only at px
    have hcs := Lib.hid (fun (w' : World) (h : Below wr.heap.size wr w') => And.intro ((h.cell (p := ⟨bx, 0, none⟩) lx).trans px.1) (And.intro ((h.cell (p := ⟨bx, 1, none⟩) lx).trans px.2) (Nat.lt_of_lt_of_le lx h.size)))
    have hq := fun w => nd_neq w x1 i x2 true
    have hSd := net_source H bn bu fv i b wr.drew (hp_sees hs) hN
    unfold nd at hSd
    simp only at hSd
    have hBd : Below wr.heap.size wr wr.drew := hp_drew (Below.refl _ _)
    go_upto_region 7 with fail
    by_cases hxs : ((x1, x2) : Nd) = (i, true)
    · rw [decide_eq_true hxs] at hq
      have hxsh := Lib.hid hxs
      clear hxs
      refine wp_region_plan (fun w' => Below wr.heap.size wr w') [(0, true), (1, true), (2, false), (3, true)] (by kernel_rfl) (by kernel_rfl) (by kernel_rfl) hBd ?_
      repeat first
        | (refine plan_skip rfl (by rfl) ?_; simp only [Act.put, List.setIfInBounds_toArray, List.set_cons_zero, List.set_cons_succ])
        | (refine plan_read (v := ?_) rfl (by rfl) ?_ ?_; rotate_left; (focus (intro w' hSw; obtain ⟨r1, r2, r3⟩ := hcs.out _ hSw; clear hSw; go_simp; all_goals with_reducible rfl)); simp only [Act.put, List.setIfInBounds_toArray, List.set_cons_zero, List.set_cons_succ])
      refine plan_step rfl (by kernel_rfl) (fun K' hK' => ?_)
      go_simp
      refine hSd.mono ?_
      rintro e w6 ⟨rfl, hB6⟩
      refine hK'.out _ _ (bstep hBd hB6) ?_
      clear hK' K'
      repeat first
        | (refine plan_skip rfl (by rfl) ?_; simp only [Act.put, List.setIfInBounds_toArray, List.set_cons_zero, List.set_cons_succ])
        | (refine plan_read (v := ?_) rfl (by rfl) ?_ ?_; rotate_left; (focus (intro w' hSw; obtain ⟨r1, r2, r3⟩ := hcs.out _ hSw; clear hSw; go_simp; all_goals with_reducible rfl)); simp only [Act.put, List.setIfInBounds_toArray, List.set_cons_zero, List.set_cons_succ])
      refine plan_nil (NoPanic.normal ?_)
      clear hcs hq
      go_wp2
      go_ret
      have hBB := bstep hBd hB6
      have h0 := hIb.out
      rw [hxsh.out] at h0
      obtain ⟨f1, f2, f3⟩ := h0.1.fin rn_resid hkh.out hnh.out hGh.out
      refine ⟨⟨W, rfl, hUW.of_block (hBB.block _ hUW.lt), f1, f2, f3, ?_⟩, hg.trans ⟨hBB.os, hBB.tape, hBB.output, hBB.size, fun j hj _ => hBB.block j hj⟩⟩
      exact back_len hc hIb.out.1 hbdh.out
    · rw [decide_eq_false hxs] at hq
      have hxsh := Lib.hid hxs
      clear hxs
      refine wp_region_plan (fun w' => Below wr.heap.size wr w') [(0, true), (1, true), (2, false), (3, true)] (by kernel_rfl) (by kernel_rfl) (by kernel_rfl) hBd ?_
      repeat first
        | (refine plan_skip rfl (by rfl) ?_; simp only [Act.put, List.setIfInBounds_toArray, List.set_cons_zero, List.set_cons_succ])
        | (refine plan_read (v := ?_) rfl (by rfl) ?_ ?_; rotate_left; (focus (intro w' hSw; obtain ⟨r1, r2, r3⟩ := hcs.out _ hSw; clear hSw; go_simp; all_goals with_reducible rfl)); simp only [Act.put, List.setIfInBounds_toArray, List.set_cons_zero, List.set_cons_succ])
      refine plan_step rfl (by kernel_rfl) (fun K' hK' => ?_)
      go_simp
      refine hSd.mono ?_
      rintro e w6 ⟨rfl, hB6⟩
      refine hK'.out _ _ (bstep hBd hB6) ?_
      clear hK' K'
      repeat first
        | (refine plan_skip rfl (by rfl) ?_; simp only [Act.put, List.setIfInBounds_toArray, List.set_cons_zero, List.set_cons_succ])
        | (refine plan_read (v := ?_) rfl (by rfl) ?_ ?_; rotate_left; (focus (intro w' hSw; obtain ⟨r1, r2, r3⟩ := hcs.out _ hSw; clear hSw; go_simp; all_goals with_reducible rfl)); simp only [Act.put, List.setIfInBounds_toArray, List.set_cons_zero, List.set_cons_succ])
      refine plan_nil (NoPanic.normal ?_)
      have hBB := bstep hBd hB6
      have px6 := hcs.out _ hBB
      obtain ⟨y, hy1, hy2, hy3, hy4⟩ := hIh.out.back hIb.out.2.1 hxsh.out
      obtain ⟨y1, y2⟩ := y
      have hM6 := hM.of_block (hBB.block _ hM.lt)
      have hlk := hM6.lookup Tryz.underlying163 nd_key (z := nd (0, false)) (fun _ => by kernel_rfl) (x1, x2) false
      rw [hy1] at hlk
      simp only [Bool.false_eq_true, if_false, Option.getD_some] at hlk
      unfold nd at hlk
      simp only at hlk
      have hU6 := hUW.of_block (hBB.block _ hUW.lt)
      have hz6 := hBB.size
      have hg6 : w.grownBy w6 (some bu) := hg.trans ⟨hBB.os, hBB.tape, hBB.output, hBB.size, fun j hj _ => hBB.block j hj⟩
      have hb6 := (hBB.block _ lx).trans hbx
      have hyh := Lib.hid (And.intro hy1 (And.intro hy2 (And.intro hy3 hy4)))
      clear hcs hq hBd hSd hBB hB6 hM hUW hg px lx hs hbx hy1 hy2 hy3 hy4
      go_upto_region 10 with fail
      refine wp_name fun wa hwa => ?_
      have hya : wa.heap[w6.heap.size]? = some (ndO (y1, y2)) := by rw [hwa]; exact ga_new _ _
      have hxa : wa.heap[bx]? = some (ndO (x1, x2)) := by rw [hwa]; exact ga_old hb6
      have hMa : MapL nd wa ba l := by rw [hwa]; exact hM6.of_block (Below.heap_alloc _ _ _ hM6.lt)
      have hUa : MapU pr wa bu W := by rw [hwa]; exact hU6.of_block (Below.heap_alloc _ _ _ hU6.lt)
      have hga : w.grownBy wa (some bu) := by rw [hwa]; exact grow_al hg6 _
      have hza : wa.heap.size = w6.heap.size + 1 := by rw [hwa]; simp
      clear hwa hb6 hM6 hU6 hg6 hlk px6
      have hsa : Sees wa H := hw.grownR hga (fun j hj => by injection hj with hj; rw [← hj]; exact hHu)
      have qa := (box4 (hsa _ _ hN)).2.2.2
      have la := hsa.lt hN
      have px := box2 hxa
      have py := box2 hya
      have lx := (Array.getElem?_eq_some_iff.1 hxa).1
      have ly := (Array.getElem?_eq_some_iff.1 hya).1
      simp only at px py
      obtain ⟨lu, hMu, hlu2, -⟩ := hUa.get
      have hluh := Lib.hid hlu2
      have hnb : bn ≠ bu ∧ bx ≠ bu ∧ w6.heap.size ≠ bu := ⟨fun e => by (rw [e, hHu] at hN; cases hN), by omega, by omega⟩
      by_cases hin : (((x1, x2), (y1, y2)) : Pr) ∈ W
      · have hlka := Lib.hid (show ∀ (w' : World), w'.heap = wa.heap → (Instr.lookup 141 (.map (some bu)) (.agg #[.int .i64 x1, .bool x2, .int .i64 y1, .bool y2]) false).run Tryz.prog w' = .ok (.bool true) w' from fun (w' : World) (h : w'.heap = wa.heap) => by
          have := used_look (hUa.of_block (w' := w') (by rw [h])) x1 y1 x2 y2
          rw [decide_eq_true hin] at this
          exact this)
        have hinh := Lib.hid hin
        clear hin hlu2
        have hcd := Lib.hid (fun (w' : World) (h : SameBut bu wa w') => And.intro ((sb_cell h hnb.1 la _).trans qa) (And.intro (sb_lt h hnb.1 la) (And.intro ((sb_cell h hnb.2.1 lx _).trans px.1) (And.intro ((sb_cell h hnb.2.1 lx _).trans px.2) (And.intro (sb_lt h hnb.2.1 lx) (And.intro ((sb_cell h hnb.2.2 ly _).trans py.1) (And.intro ((sb_cell h hnb.2.2 ly _).trans py.2) (sb_lt h hnb.2.2 ly))))))))
        have hcs := Lib.hid (fun (w' : World) (h : w'.heap = wa.heap) => And.intro ((hp_cell h _).trans qa) (And.intro (hp_lt h la) (And.intro ((hp_cell h _).trans px.1) (And.intro ((hp_cell h _).trans px.2) (And.intro (hp_lt h lx) (And.intro ((hp_cell h _).trans py.1) (And.intro ((hp_cell h _).trans py.2) (And.intro (hp_lt h ly) (hlka.out w' h)))))))))
        refine wp_region_plan (fun w' => w'.heap = wa.heap) [(0, true), (1, true), (2, true), (3, true), (4, true), (5, true), (6, true), (7, true)] (by kernel_rfl) (by kernel_rfl) (by kernel_rfl) rfl ?_
        repeat first
          | (refine plan_skip rfl (by rfl) ?_; simp only [Act.put, List.setIfInBounds_toArray, List.set_cons_zero, List.set_cons_succ])
          | (refine plan_read (v := ?_) rfl (by rfl) ?_ ?_; rotate_left; (focus (intro w' hSw; obtain ⟨r1, r2, r3, r4, r5, r6, r7, r8, r9⟩ := hcs.out _ hSw; clear hSw; go_simp; all_goals with_reducible rfl)); simp only [Act.put, List.setIfInBounds_toArray, List.set_cons_zero, List.set_cons_succ])
        refine plan_nil (NoPanic.normal ?_)
        go_upto_region 11 with fail
        have hdr : wa.drew.heap = wa.heap := rfl
        refine wp_region_plan (fun w' => SameBut bu wa w') [(0, true), (1, true), (2, true), (3, true), (4, true), (5, true), (6, true), (7, false)] (by kernel_rfl) (by kernel_rfl) (by kernel_rfl) (fun j _ _ => rfl) ?_
        repeat first
          | (refine plan_skip rfl (by rfl) ?_; simp only [Act.put, List.setIfInBounds_toArray, List.set_cons_zero, List.set_cons_succ])
          | (refine plan_read (v := ?_) rfl (by rfl) ?_ ?_; rotate_left; (focus (intro w' hSw; obtain ⟨r1, r2, r3, r4, r5, r6, r7, r8⟩ := hcd.out _ hSw; clear hSw; go_simp; all_goals with_reducible rfl)); simp only [Act.put, List.setIfInBounds_toArray, List.set_cons_zero, List.set_cons_succ])
        refine plan_step rfl (by kernel_rfl) (fun K' hK' => ?_)
        refine op_delete _ _ _ _ rfl Tryz.underlying141 pr pr_key bu lu (by rfl) (hMu.of_block rfl) ((x1, x2), (y1, y2)) (by rfl) ?_
        intro w7 hM7 hg7
        refine hK'.out _ _ (fun j hl hj => hg7.block j hl (fun e => hj (by injection e with e))) ?_
        clear hK' K'
        refine plan_nil (NoPanic.normal ?_)
        have hU8 : MapU pr w7 bu (augS W (y1, y2) (x1, x2)) := MapU.delM hluh.out hMu hM7 (augS_del (hIb.out.1.nd rn_resid hnh.out hGh.out) hinh.out)
        have hx7 : w7.heap[bx]? = some (ndO (x1, x2)) := (hg7.block bx lx (fun e => hnb.2.1 (by injection e))).trans hxa
        have hbau : ba ≠ bu := by omega
        have hM8 : MapL nd w7 ba l := hMa.of_block (hg7.block ba hMa.lt (fun e => hbau (by injection e)))
        have hg8 : w.grownBy w7 (some bu) := hga.trans ⟨hg7.os, hg7.tape, hg7.output, hg7.size, hg7.block⟩
        have hz7 := hg7.size
        have hz7' : wa.heap.size ≤ w7.heap.size := hz7
        have px7 := box2 hx7
        have lx7 := (Array.getElem?_eq_some_iff.1 hx7).1
        simp only at px7
        obtain ⟨hy1, hy2, hy3, hy4⟩ := hyh.out
        have hlk := (hM8.of_block (Below.heap_alloc w7 (ndO (x1, x2)) _ hM8.lt)).lookup Tryz.underlying163 nd_key (z := nd (0, false)) (fun _ => by kernel_rfl) (x1, x2) false
        rw [hy1] at hlk
        simp only [Bool.false_eq_true, if_false, Option.getD_some] at hlk
        unfold nd at hlk
        simp only at hlk
        clear hcs hcd hlka px py lx ly qa la hMa hUa hsa hya hxa hMu hM7 hg7 hz7 hy1 hy2 hy3 hy4 hx7
        go_wp2_with fail
        have hlt8 := hM8.lt
        go_roundg (ρ (x1, x2))
        case measure => exact hIb.out.2.2
        case rel =>
          obtain ⟨hy1, hy2, hy3, hy4⟩ := hyh.out
          exact ⟨w7.heap.size, (y1, y2), (x1, x2) :: p, augS W (y1, y2) (x1, x2), rfl, ga_new _ _, by omega, hM8.of_block (Below.heap_alloc _ _ _ hM8.lt), hU8.of_block (Below.heap_alloc _ _ _ hU8.lt), ⟨hIb.out.1.more hy3 hy4, hy2, hy4⟩, grow_al hg8 _, by simp; omega⟩
      · have hlka := Lib.hid (show ∀ (w' : World), w'.heap = wa.heap → (Instr.lookup 141 (.map (some bu)) (.agg #[.int .i64 x1, .bool x2, .int .i64 y1, .bool y2]) false).run Tryz.prog w' = .ok (.bool false) w' from fun (w' : World) (h : w'.heap = wa.heap) => by
          have := used_look (hUa.of_block (w' := w') (by rw [h])) x1 y1 x2 y2
          rw [decide_eq_false hin] at this
          exact this)
        have hinh := Lib.hid hin
        clear hin hlu2
        have hcd := Lib.hid (fun (w' : World) (h : SameBut bu wa w') => And.intro ((sb_cell h hnb.1 la _).trans qa) (And.intro (sb_lt h hnb.1 la) (And.intro ((sb_cell h hnb.2.1 lx _).trans px.1) (And.intro ((sb_cell h hnb.2.1 lx _).trans px.2) (And.intro (sb_lt h hnb.2.1 lx) (And.intro ((sb_cell h hnb.2.2 ly _).trans py.1) (And.intro ((sb_cell h hnb.2.2 ly _).trans py.2) (sb_lt h hnb.2.2 ly))))))))
        have hcs := Lib.hid (fun (w' : World) (h : w'.heap = wa.heap) => And.intro ((hp_cell h _).trans qa) (And.intro (hp_lt h la) (And.intro ((hp_cell h _).trans px.1) (And.intro ((hp_cell h _).trans px.2) (And.intro (hp_lt h lx) (And.intro ((hp_cell h _).trans py.1) (And.intro ((hp_cell h _).trans py.2) (And.intro (hp_lt h ly) (hlka.out w' h)))))))))
        refine wp_region_plan (fun w' => w'.heap = wa.heap) [(0, true), (1, true), (2, true), (3, true), (4, true), (5, true), (6, true), (7, true)] (by kernel_rfl) (by kernel_rfl) (by kernel_rfl) rfl ?_
        repeat first
          | (refine plan_skip rfl (by rfl) ?_; simp only [Act.put, List.setIfInBounds_toArray, List.set_cons_zero, List.set_cons_succ])
          | (refine plan_read (v := ?_) rfl (by rfl) ?_ ?_; rotate_left; (focus (intro w' hSw; obtain ⟨r1, r2, r3, r4, r5, r6, r7, r8, r9⟩ := hcs.out _ hSw; clear hSw; go_simp; all_goals with_reducible rfl)); simp only [Act.put, List.setIfInBounds_toArray, List.set_cons_zero, List.set_cons_succ])
        refine plan_nil (NoPanic.normal ?_)
        go_upto_region 12 with fail
        refine wp_region_plan (fun w' => SameBut bu wa w') [(0, true), (1, true), (2, true), (3, true), (4, true), (5, true), (6, true), (7, false)] (by kernel_rfl) (by kernel_rfl) (by kernel_rfl) (fun j _ _ => rfl) ?_
        repeat first
          | (refine plan_skip rfl (by rfl) ?_; simp only [Act.put, List.setIfInBounds_toArray, List.set_cons_zero, List.set_cons_succ])
          | (refine plan_read (v := ?_) rfl (by rfl) ?_ ?_; rotate_left; (focus (intro w' hSw; obtain ⟨r1, r2, r3, r4, r5, r6, r7, r8⟩ := hcd.out _ hSw; clear hSw; go_simp; all_goals with_reducible rfl)); simp only [Act.put, List.setIfInBounds_toArray, List.set_cons_zero, List.set_cons_succ])
        refine plan_step rfl (by kernel_rfl) (fun K' hK' => ?_)
        refine op_mapUpdate _ _ _ _ rfl Tryz.underlying141 pr pr_key pr_inj bu lu (by rfl) (hMu.of_block rfl) ((y1, y2), (x1, x2)) (.bool true) (by rfl) (by rfl) ?_
        intro w7 hM7 hg7
        refine hK'.out _ _ (fun j hl hj => hg7.block j hl (fun e => hj (by injection e with e))) ?_
        clear hK' K'
        refine plan_nil (NoPanic.normal ?_)
        have hU8 : MapU pr w7 bu (augS W (y1, y2) (x1, x2)) := by rw [augS_put hinh.out]; exact MapU.put hluh.out hMu hM7
        have hx7 : w7.heap[bx]? = some (ndO (x1, x2)) := (hg7.block bx lx (fun e => hnb.2.1 (by injection e))).trans hxa
        have hbau : ba ≠ bu := by omega
        have hM8 : MapL nd w7 ba l := hMa.of_block (hg7.block ba hMa.lt (fun e => hbau (by injection e)))
        have hg8 : w.grownBy w7 (some bu) := hga.trans ⟨hg7.os, hg7.tape, hg7.output, hg7.size, hg7.block⟩
        have hz7 := hg7.size
        have hz7' : wa.heap.size ≤ w7.heap.size := hz7
        have px7 := box2 hx7
        have lx7 := (Array.getElem?_eq_some_iff.1 hx7).1
        simp only at px7
        obtain ⟨hy1, hy2, hy3, hy4⟩ := hyh.out
        have hlk := (hM8.of_block (Below.heap_alloc w7 (ndO (x1, x2)) _ hM8.lt)).lookup Tryz.underlying163 nd_key (z := nd (0, false)) (fun _ => by kernel_rfl) (x1, x2) false
        rw [hy1] at hlk
        simp only [Bool.false_eq_true, if_false, Option.getD_some] at hlk
        unfold nd at hlk
        simp only at hlk
        clear hcs hcd hlka px py lx ly qa la hMa hUa hsa hya hxa hMu hM7 hg7 hz7 hy1 hy2 hy3 hy4 hx7
        go_wp2_with fail
        have hlt8 := hM8.lt
        go_roundg (ρ (x1, x2))
        case measure => exact hIb.out.2.2
        case rel =>
          obtain ⟨hy1, hy2, hy3, hy4⟩ := hyh.out
          exact ⟨w7.heap.size, (y1, y2), (x1, x2) :: p, augS W (y1, y2) (x1, x2), rfl, ga_new _ _, by omega, hM8.of_block (Below.heap_alloc _ _ _ hM8.lt), hU8.of_block (Below.heap_alloc _ _ _ hU8.lt), ⟨hIb.out.1.more hy3 hy4, hy2, hy4⟩, grow_al hg8 _, by simp; omega⟩
end Go.Proofs.YtififjlgjmgikaaGreat
namespace Go.Proofs.YtififjlgjmgikaaGreat
set_option linter.all false
open Go.RowKit

theorem takes_len {V : Type} [DecidableEq V] {t x : V} {U W : List (V × V)} {q : List V} (h : Takes t U x q W) : q.length + W.length = U.length + 1 := by
  induction h with
  | stop => simp; omega
  | step _ hy _ ih =>
    have h1 := List.length_erase_of_mem hy
    have h2 := List.length_pos_of_mem hy
    rw [List.length_cons]
    omega
section
variable {V : Type} [DecidableEq V]
def eraseP (U : List (V × V)) (e : V × V) : List (V × V) := U.erase e
theorem eraseP_mem {U : List (V × V)} {e a : V × V} (hn : U.Nodup) : a ∈ eraseP U e ↔ a ≠ e ∧ a ∈ U := hn.mem_erase_iff
theorem eraseP_sub {U : List (V × V)} {e a : V × V} (h : a ∈ eraseP U e) : a ∈ U := List.mem_of_mem_erase h
theorem eraseP_len {U : List (V × V)} {e : V × V} (h : e ∈ U) : (eraseP U e).length + 1 = U.length := by
  have h1 := List.length_erase_of_mem h
  have h2 := List.length_pos_of_mem h
  unfold eraseP
  omega
theorem eraseP_nodup {U : List (V × V)} {e : V × V} (h : U.Nodup) : (eraseP U e).Nodup := h.erase _
end
/-- While a path is taken out: what has come, where it stands, what is left. -/
structure TakeI (i b k : Int) (U : List Pr) (x : Nd) (pre : List Nd) (W : List Pr) (out : List Int) : Prop where
  go : ∀ q W', Takes ((b, false) : Nd) W x q W' → Takes ((b, false) : Nd) U (i, true) (pre ++ q) W'
  outs : out = (if 0 ≤ i then [i] else []) ++ outL (pre ++ [x]).tail
  bal : ∀ S : Nd → Prop, NS S W = k * (chi S ((i, true) : Nd) - chi S ((b, false) : Nd)) - (chi S ((i, true) : Nd) - chi S x)
  sub : ∀ e ∈ W, e ∈ U
  nodup : W.Nodup
  len : out.length + W.length ≤ U.length + 1
theorem outL_snoc (l : List Nd) (y : Nd) : outL (l ++ [y]) = outL l ++ (if y.2 = true then [] else [y.1]) := by
  unfold outL
  rw [List.filter_append, List.map_append]
  congr 1
  obtain ⟨y1, y2⟩ := y
  cases y2 <;> rfl
theorem TakeI.next {i b k : Int} {U W : List Pr} {x y : Nd} {pre : List Nd} {out : List Int} (h : TakeI i b k U x pre W out) (hx : x ≠ (b, false)) (hy : (x, y) ∈ W) : TakeI i b k U y (pre ++ [x]) (eraseP W (x, y)) (out ++ if y.2 = true then [] else [y.1]) where
  go := fun q W' hq => by
    have := h.go (x :: q) W' (.step hx hy hq)
    simpa using this
  outs := by
    have e : (pre ++ [x] ++ [y]).tail = (pre ++ [x]).tail ++ [y] := by cases pre <;> rfl
    rw [e, outL_snoc, h.outs, List.append_assoc]
  bal := take_step h.bal hy
  sub := fun e he => h.sub e (eraseP_sub he)
  nodup := eraseP_nodup h.nodup
  len := by
    have h1 := eraseP_len hy
    have h3 := h.len
    rw [List.length_append]
    split <;> simp <;> omega
theorem first_hit {W : List Pr} {x : Nd} {ls : List Nd} {y : Nd} (hy : y ∈ ls) (hW : (x, y) ∈ W) : ∃ m, m < ls.length ∧ (x, ls.getD m (0, false)) ∈ W := by
  obtain ⟨m, hm⟩ := List.getElem?_of_mem hy
  have hl := (List.getElem?_eq_some_iff.1 hm).1
  refine ⟨m, hl, ?_⟩
  rw [List.getD_eq_getElem?_getD, hm]
  exact hW
def PathRes (H : PH) (i b : Int) (U : List Pr) (bu : Nat) (w w' : World) (e : Ending) : Prop :=
  ∃ v q W, e = .returned v ∧ SlV rInt (extH H w w') v (pathOf i q) ∧ Takes ((b, false) : Nd) U (i, true) q W ∧ MapU pr w' bu W
set_option maxHeartbeats 4000000 in
set_option maxRecDepth 100000 in
theorem walk_path (H : PH) (bn bu : Nat) (fv : Value) (c : CodeD) (i b k : Int) (U : List Pr) (w : World) (hw : Sees w H) (hN : H bn = some (netO fv i b bu)) (hf : FlowV H fv (theFlow c)) (hHu : H bu = none) (hU : MapU pr w bu U) (hn : U.Nodup)
    (hG : ∀ e ∈ U, GN (theFlow c) i e.1 e.2) (hUn : U.length ≤ 900000) (hc : NetK c i) (hk1 : 1 ≤ k) (hk : ∀ S : Nd → Prop, NS S U = k * (chi S ((i, true) : Nd) - chi S ((b, false) : Nd)) - (chi S ((i, true) : Nd) - chi S ((i, true) : Nd))) :
    Calls Tryz.prog 112 #[.pointer (some ⟨bn, 0, none⟩)] w fun e w' => PathRes H i b U bu w w' e ∧ w.grownBy w' (some bu) := by
  have q := box4 (hw _ _ hN)
  have lq := hw.lt hN
  have hlu := hU.lt
  have hI0 : TakeI i b k U (i, true) [] U (if 0 ≤ i then [i] else []) := ⟨fun q W' h => h, by simp [outL], hk, fun e he => he, hn, by split <;> simp <;> omega⟩
  have hI0h := Lib.hid hI0
  have hGh := Lib.hid hG
  have hk1h := Lib.hid hk1
  clear hk hn hG hI0 hk1
  by_cases hi0 : 0 ≤ i
  · have hout : (if 0 ≤ i then [i] else []) = [i] := if_pos hi0
    rw [hout] at hI0h
    have hdec : decide (i ≥ 0) = true := by simp; omega
    go_enter Tryz.func112, Tryz.ntmps112
    go_upto_region 4 with (at_builtin; go_loud (refine wpL_appI rfl _ _ rfl w.heap.size _ [] [i] rfl (OwnI.nil _ _) ⟨w.heap.size, 0, none⟩ 1 1 rfl rfl (one_new (by simp)) ?hlen ?hsz ?_); go_loud (case hlen => simp); go_loud (case hsz => simp); intro vo wv hown hgv _)
    have hBv : Below w.heap.size w wv := ((Below.refl _ _).alloc (Nat.le_refl _) _).grown hgv (by simp) (fun j hj => by cases hj)
    clear hgv hout hdec q lq
    rw [List.nil_append] at hown
    have hoI := Lib.hid (show ∀ z ∈ [i], I64 z from fun z hz => by (simp at hz; subst hz; exact hc.i64 (dn_src (i := z))))
    generalize [i] = out0 at *
    have hsv := hw.below hBv
    have hS := net_source H bn bu fv i b wv hsv hN
    unfold nd at hS
    simp only at hS
    have hUv := hU.of_block (hBv.block _ hlu)
    go_wp2_with (go_at_call 131; refine hS.mono ?_; rintro e w1 ⟨rfl, hB1⟩)
    refine wp_name fun w2 hw2 => ?_
    have hB2 : Below wv.heap.size wv w2 := by rw [hw2]; exact hB1.alloc hB1.size _
    have hx2 : w2.heap[w1.heap.size]? = some (ndO (i, true)) := by rw [hw2]; exact ga_new _ _
    have hU2 := hUv.of_block (hB2.block _ hUv.lt)
    have hown2 := hown.of_block (fun j hj => hB2.block j (hown.lt hj).2)
    have hB02 := bstep hBv hB2
    have hne2 : (vo).ownBlock ≠ some w1.heap.size := fun e => by have := (hown.lt e).2; have := hB1.size; omega
    have hz1 : w.heap.size ≤ w1.heap.size := by have := hBv.size; have := hB1.size; omega
    clear hw2 hB1 hB2 hUv hown hS hsv hBv
    go_loopg [3, 4] (U.length + 1) (fun gk o xp wr => ∃ (bx : Nat) (x : Nd) (pre : List Nd) (W : List Pr) (out : List Int), xp = .pointer (some ⟨bx, 0, none⟩) ∧ wr.heap[bx]? = some (ndO x) ∧ w.heap.size ≤ bx ∧ OwnI wr w.heap.size o out ∧ o.ownBlock ≠ some bx ∧ MapU pr wr bu W ∧
      Aside (TakeI i b k U x pre W out ∧ W.length < gk ∧ DN (theFlow c) i x ∧ ∀ z ∈ out, I64 z) ∧ w.grownBy wr (some bu))
    case atStart =>
      refine ⟨w1.heap.size, (i, true), [], U, out0, rfl, hx2, hz1, hown2, hne2, hU2, ⟨hI0h.out, Nat.lt_succ_self _, dn_src, hoI.out⟩, ⟨hB02.os, hB02.tape, hB02.output, hB02.size, fun j hj _ => hB02.block j hj⟩⟩
    clear hx2 hown2 hne2 hU2 hB02 hI0h
    case round =>
      obtain ⟨bx, x, pre, W, out, rfl, hbx, hbl, hown, hne, hUW, hI, hg⟩ := hrel
      obtain ⟨x1, x2⟩ := x
      have hIb := Lib.hid hI
      clear hI
      have hs : Sees wr H := hw.grownR hg (fun j hj => by injection hj with hj; rw [← hj]; exact hHu)
      have hzr := hg.size
      have px := box2 hbx
      have lx := (Array.getElem?_eq_some_iff.1 hbx).1
      have qa := (box4 (hs _ _ hN)).2.2.1
      have la := hs.lt hN
      simp only at px
      have hcs := Lib.hid (fun (w' : World) (h : w'.heap = wr.heap) => And.intro ((hp_cell h _).trans qa) (And.intro (hp_lt h la) (And.intro ((hp_cell h _).trans px.1) (And.intro ((hp_cell h _).trans px.2) (hp_lt h lx)))))
      have hq := fun w => nd_neq w x1 b x2 false
      go_upto_region 5 with fail
      by_cases hxs : ((x1, x2) : Nd) = (b, false)
      · rw [decide_eq_true hxs] at hq
        have hxsh := Lib.hid hxs
        clear hxs
        refine wp_region_plan (fun w' => w'.heap = wr.heap) [(0, true), (1, true), (2, true), (3, true), (4, true), (5, true), (6, true)] (by kernel_rfl) (by kernel_rfl) (by kernel_rfl) rfl ?_
        repeat first
          | (refine plan_skip rfl (by rfl) ?_; simp only [Act.put, List.setIfInBounds_toArray, List.set_cons_zero, List.set_cons_succ])
          | (refine plan_read (v := ?_) rfl (by rfl) ?_ ?_; rotate_left; (focus (intro w' hSw; obtain ⟨r1, r2, r3, r4, r5⟩ := hcs.out _ hSw; clear hSw; go_simp; all_goals with_reducible rfl)); simp only [Act.put, List.setIfInBounds_toArray, List.set_cons_zero, List.set_cons_succ])
        refine plan_nil (NoPanic.normal ?_)
        clear hcs hq qa la px lx
        have hfin : SlV rInt (extH H w wr) u3 out := hown.read hIb.out.2.2.2 (by have := hIb.out.1.len; unfold maxN; omega)
        go_wp2
        go_ret
        have h0 := hIb.out.1
        rw [hxsh.out] at h0
        refine ⟨⟨u3, pre ++ [(b, false)], W, rfl, ?_, h0.go _ _ .stop, hUW.of_block rfl⟩, grow_drew hg⟩
        have h1 : pathOf i (pre ++ [((b, false) : Nd)]) = out := by unfold pathOf; exact h0.outs.symm
        rw [h1]
        exact hfin
      · rw [decide_eq_false hxs] at hq
        have hxsh := Lib.hid hxs
        clear hxs
        refine wp_region_plan (fun w' => w'.heap = wr.heap) [(0, true), (1, true), (2, true), (3, true), (4, true), (5, true), (6, true)] (by kernel_rfl) (by kernel_rfl) (by kernel_rfl) rfl ?_
        repeat first
          | (refine plan_skip rfl (by rfl) ?_; simp only [Act.put, List.setIfInBounds_toArray, List.set_cons_zero, List.set_cons_succ])
          | (refine plan_read (v := ?_) rfl (by rfl) ?_ ?_; rotate_left; (focus (intro w' hSw; obtain ⟨r1, r2, r3, r4, r5⟩ := hcs.out _ hSw; clear hSw; go_simp; all_goals with_reducible rfl)); simp only [Act.put, List.setIfInBounds_toArray, List.set_cons_zero, List.set_cons_succ])
        refine plan_nil (NoPanic.normal ?_)
        clear hcs hq qa la
        have hDx := hIb.out.2.2.1
        have hL := net_links H bn bu fv (theFlow c) i b (x1, x2) wr.drew (hp_sees hs) hN hf (hc.lt hDx) (hc.i64 hDx)
        unfold nd at hL
        simp only at hL
        obtain ⟨y0, hy0⟩ := take_next hk1h.out hIb.out.1.bal hxsh.out
        have hyl : y0 ∈ linksL (theFlow c) i (x1, x2) := (hGh.out _ (hIb.out.1.sub _ hy0)).1.1
        have hfh := Lib.hid (first_hit hyl hy0)
        have hli := Lib.hid (fun y (hy : y ∈ linksL (theFlow c) i (x1, x2)) => dn_link hc.fine hc.i_ok hDx hy)
        generalize linksL (theFlow c) i (x1, x2) = ls at *
        have pxd : wr.drew.cell? ⟨bx, 0, none⟩ = some (.int .i64 x1) ∧ wr.drew.cell? ⟨bx, 1, none⟩ = some (.bool x2) := px
        have lxd : bx < wr.drew.heap.size := lx
        have hbxd : wr.drew.heap[bx]? = some (ndO (x1, x2)) := hbx
        have hownd : OwnI wr.drew w.heap.size u3 out := hown.of_block fun _ _ => rfl
        have hUd : MapU pr wr.drew bu W := hUW.of_block rfl
        have hgd := grow_drew hg
        have hsd := hp_sees hs
        clear hyl hy0 hDx hs px lx hbx hown hUW hg hzr
        generalize wr.drew = wd at *
        have hzd := hgd.size
        go_wp2_with (go_at_call 133; refine hL.mono ?_; rintro e w3 ⟨⟨vl, rfl, hl⟩, hB3⟩; have hll := hl.le; have hl' := hl; obtain ⟨Al, cl, rfl, -, -⟩ := hl')
        have hkl : Sees w3 (extH H wd w3) := extH.sees hsd hB3
        have hx3 := (hB3.block _ lxd).trans hbxd
        have hown3 := hownd.of_block (fun j hj => hB3.block j (hownd.lt hj).2)
        have hU3 := hUd.of_block (hB3.block _ hUd.lt)
        have hg3 : w.grownBy w3 (some bu) := hgd.trans ⟨hB3.os, hB3.tape, hB3.output, hB3.size, fun j hj _ => hB3.block j hj⟩
        have hs3 := hsd.below hB3
        have hz3 := hg3.size
        clear hL pxd lxd hbxd hownd hUd hgd hsd hB3 hzd
        generalize extH H wd w3 = KL at *
        have lx3 := (Array.getElem?_eq_some_iff.1 hx3).1
        obtain ⟨vk, hvk⟩ : ∃ vk, vk = u3 := ⟨_, rfl⟩
        rw [← hvk] at hne hown3 ⊢
        clear hvk
        go_loopw [3, 32] (fun o j wi => ∃ m : Nat, o = vk ∧ m ≤ ls.length ∧ j = .int .i64 m ∧ Aside (∀ m', m' < m → (((x1, x2), ls.getD m' (0, false)) : Pr) ∉ W) ∧ Below w3.heap.size w3 wi) (fun _ j _ => ls.length - (intOf j).toNat)
        case atStart => exact ⟨0, rfl, Nat.zero_le _, rfl, fun m' h => by omega, Below.refl _ _⟩
        case round =>
          obtain ⟨m, rfl, hm, rfl, hno, hBi⟩ := hrel
          have hnoh := Lib.hid hno
          have hlt : m < ls.length := by
            apply Classical.byContradiction
            intro hge
            obtain ⟨m', h1, h2⟩ := hfh.out
            exact hno m' (by omega) h2
          clear hno
          have hsi := hs3.below hBi
          have hzi := hBi.size
          obtain ⟨be, oe, ce, ee, -, hbe, hce, -⟩ := hl.nds (by omega)
          cases ee
          have pe := hce wr (hkl.below hBi) m hlt
          have le := (hkl.below hBi).lt' hbe
          have hyl : ls[m]? = some (ls.getD m (0, false)) := by simp [hlt]
          have hDy := hli.out _ (List.mem_of_getElem? hyl)
          have hmh := Lib.hid (show ∀ (P : Nd → Prop), P (ls.getD m (0, false)) → ∀ y, y = ls.getD m (0, false) → P y from fun P h y e => by rw [e]; exact h)
          clear hce hyl hmh
          obtain ⟨y, hy⟩ : ∃ y, y = ls.getD m (0, false) := ⟨_, rfl⟩
          rw [← hy] at pe hDy
          have hyh := Lib.hid hy
          clear hy
          obtain ⟨y1, y2⟩ := y
          simp only at pe
          go_upto_region 9 with fail
          refine wp_name fun wa hwa => ?_
          have hBa : Below w3.heap.size w3 wa := by rw [hwa]; exact hBi.alloc hzi _
          have hya : wa.heap[wr.heap.size]? = some (ndO (y1, y2)) := by rw [hwa]; exact ga_new _ _
          have hza : wa.heap.size = wr.heap.size + 1 := by rw [hwa]; simp
          clear hwa
          have hxa := (hBa.block _ lx3).trans hx3
          have hUa := hU3.of_block (hBa.block _ hU3.lt)
          have hsa := hs3.below hBa
          have qa := (box4 (hsa _ _ hN)).2.2.2
          have la := hsa.lt hN
          have px := box2 hxa
          have py := box2 hya
          have lx := (Array.getElem?_eq_some_iff.1 hxa).1
          have ly := (Array.getElem?_eq_some_iff.1 hya).1
          simp only at px py
          by_cases hin : (((x1, x2), (y1, y2)) : Pr) ∈ W
          · have hlka := Lib.hid (show ∀ (w' : World), w'.heap = wa.heap → (Instr.lookup 141 (.map (some bu)) (.agg #[.int .i64 x1, .bool x2, .int .i64 y1, .bool y2]) false).run Tryz.prog w' = .ok (.bool true) w' from fun (w' : World) (h : w'.heap = wa.heap) => by
              have := used_look (hUa.of_block (w' := w') (by rw [h])) x1 y1 x2 y2
              rw [decide_eq_true hin] at this
              exact this)
            have hinh := Lib.hid hin
            obtain ⟨lu, hMu, hlu2, -⟩ := hUa.get
            have hluh := Lib.hid hlu2
            clear hin hlu2
            have hnb : bn ≠ bu ∧ bx ≠ bu ∧ wr.heap.size ≠ bu := ⟨fun e => by (rw [e, hHu] at hN; cases hN), by omega, by omega⟩
            have hcd := Lib.hid (fun (w' : World) (h : SameBut bu wa w') => And.intro ((sb_cell h hnb.1 la _).trans qa) (And.intro (sb_lt h hnb.1 la) (And.intro ((sb_cell h hnb.2.1 lx _).trans px.1) (And.intro ((sb_cell h hnb.2.1 lx _).trans px.2) (And.intro (sb_lt h hnb.2.1 lx) (And.intro ((sb_cell h hnb.2.2 ly _).trans py.1) (And.intro ((sb_cell h hnb.2.2 ly _).trans py.2) (sb_lt h hnb.2.2 ly))))))))
            have hcs := Lib.hid (fun (w' : World) (h : w'.heap = wa.heap) => And.intro ((hp_cell h _).trans qa) (And.intro (hp_lt h la) (And.intro ((hp_cell h _).trans px.1) (And.intro ((hp_cell h _).trans px.2) (And.intro (hp_lt h lx) (And.intro ((hp_cell h _).trans py.1) (And.intro ((hp_cell h _).trans py.2) (And.intro (hp_lt h ly) (hlka.out w' h)))))))))
            refine wp_region_plan (fun w' => w'.heap = wa.heap) [(0, true), (1, true), (2, true), (3, true), (4, true), (5, true), (6, true), (7, true)] (by kernel_rfl) (by kernel_rfl) (by kernel_rfl) rfl ?_
            repeat first
              | (refine plan_skip rfl (by rfl) ?_; simp only [Act.put, List.setIfInBounds_toArray, List.set_cons_zero, List.set_cons_succ])
              | (refine plan_read (v := ?_) rfl (by rfl) ?_ ?_; rotate_left; (focus (intro w' hSw; obtain ⟨r1, r2, r3, r4, r5, r6, r7, r8, r9⟩ := hcs.out _ hSw; clear hSw; go_simp; all_goals with_reducible rfl)); simp only [Act.put, List.setIfInBounds_toArray, List.set_cons_zero, List.set_cons_succ])
            refine plan_nil (NoPanic.normal ?_)
            go_upto_region 10 with fail
            refine wp_region_plan (fun w' => SameBut bu wa w') [(0, true), (1, true), (2, true), (3, true), (4, true), (5, true), (6, true), (7, false)] (by kernel_rfl) (by kernel_rfl) (by kernel_rfl) (fun j _ _ => rfl) ?_
            repeat first
              | (refine plan_skip rfl (by rfl) ?_; simp only [Act.put, List.setIfInBounds_toArray, List.set_cons_zero, List.set_cons_succ])
              | (refine plan_read (v := ?_) rfl (by rfl) ?_ ?_; rotate_left; (focus (intro w' hSw; obtain ⟨r1, r2, r3, r4, r5, r6, r7, r8⟩ := hcd.out _ hSw; clear hSw; go_simp; all_goals with_reducible rfl)); simp only [Act.put, List.setIfInBounds_toArray, List.set_cons_zero, List.set_cons_succ])
            refine plan_step rfl (by kernel_rfl) (fun K' hK' => ?_)
            refine op_delete _ _ _ _ rfl Tryz.underlying141 pr pr_key bu lu (by rfl) (hMu.of_block rfl) ((x1, x2), (y1, y2)) (by rfl) ?_
            intro w7 hM7 hg7
            refine hK'.out _ _ (fun j hl hj => hg7.block j hl (fun e => hj (by injection e with e))) ?_
            clear hK' K'
            refine plan_nil (NoPanic.normal ?_)
            have hU8 : MapU pr w7 bu (eraseP W ((x1, x2), (y1, y2))) := MapU.delM hluh.out hMu hM7 (fun e => eraseP_mem hIb.out.1.nodup)
            have hx7 : w7.heap[bx]? = some (ndO (x1, x2)) := (hg7.block bx lx (fun e => hnb.2.1 (by injection e))).trans hxa
            have hy7 : w7.heap[wr.heap.size]? = some (ndO (y1, y2)) := (hg7.block _ ly (fun e => hnb.2.2 (by injection e))).trans hya
            have hg7a : wa.grownBy w7 (some bu) := ⟨hg7.os, hg7.tape, hg7.output, hg7.size, hg7.block⟩
            have hown7 := hown3.of_block (w1 := w7) (fun j hj => (hg7a.block j (Nat.lt_of_lt_of_le (hown3.lt hj).2 hBa.size) (fun e => by injection e with e; have := (hown3.lt hj).1; omega)).trans (hBa.block j (hown3.lt hj).2))
            have hg8 : w.grownBy w7 (some bu) := (hg3.trans ⟨hBa.os, hBa.tape, hBa.output, hBa.size, fun j hj _ => hBa.block j hj⟩).trans hg7a
            have hz7 := hg7a.size
            clear hcs hcd hlka px py lx ly qa la hUa hsa hya hxa hMu hM7 hg7 pe le
            have px7 := box2 hx7
            have py7 := box2 hy7
            have lx7 := (Array.getElem?_eq_some_iff.1 hx7).1
            have ly7 := (Array.getElem?_eq_some_iff.1 hy7).1
            simp only at px7 py7
            cases y2
            · go_upto_region 13 with (at_builtin; go_loud (refine wpL_appI rfl _ _ rfl w.heap.size _ out [y1] rfl (hown7.al _) ⟨w7.heap.size, 0, none⟩ 1 1 rfl rfl (one_new (by simp)) ?hlen ?hsz ?_); go_loud (case hlen => have := hIb.out.1.len; simp; omega); go_loud (case hsz => have := hg8.size; simp; omega); intro v8 w8 hown8 hg8a hv8)
              have hz8 := hg8a.size
              rw [World.size_alloc] at hz8
              have hx8 : w8.heap[bx]? = some (ndO (x1, x2)) := (hg8a.block bx (by simp; omega) (fun e => hne e.symm)).trans (ga_old hx7)
              have hy8 : w8.heap[wr.heap.size]? = some (ndO (y1, false)) := (hg8a.block _ (by simp; omega) (fun e => by have := (hown3.lt e.symm).2; omega)).trans (ga_old hy7)
              have hU9 := (hU8.of_block (Below.heap_alloc w7 (.cells #[.int .i64 y1] 3) _ hU8.lt)).of_block (hg8a.block _ (by have := hU8.lt; simp; omega) (fun e => by have := (hown3.lt e.symm).1; omega))
              have hg9 : w.grownBy w8 (some bu) := grow_step (grow_al hg8 (.cells #[.int .i64 y1] 3)) hg8a (fun j hj => .inl (hown3.lt hj).1)
              have px8 := box2 hx8
              have py8 := box2 hy8
              have lx8 := (Array.getElem?_eq_some_iff.1 hx8).1
              have ly8 := (Array.getElem?_eq_some_iff.1 hy8).1
              have f0 := free_blk hx8 0
              have f1 := free_blk hx8 1
              simp only at px8 py8
              clear px7 py7 lx7 ly7
              have hneb : bx ≠ bu := hnb.2.1
              go_wp2_with fail
              go_roundg W.length
              case measure => exact hIb.out.2.1
              case rel =>
                have hne8 : v8.ownBlock ≠ some bx := by
                  rcases hv8 with h9 | h9
                  · rw [h9]; exact hne
                  · rw [h9]; intro e; injection e with e; rw [World.size_alloc] at e; have := (Array.getElem?_eq_some_iff.1 hx7).1; omega
                have hnx := hIb.out.1.next hxsh.out hinh.out
                refine ⟨w8.heap.size, (y1, false), pre ++ [(x1, x2)], eraseP W ((x1, x2), (y1, false)), out ++ [y1], rfl, ga_fit (by simp [size_set]), by have := hg9.size; omega, ?_, fun e => by have := (hown8.lt e).2; omega, ?_, ⟨hnx, by have := eraseP_len hinh.out; omega, hDy, ?_⟩, grow_al (grow_set (grow_set hg9 (.inl hbl)) (.inl hbl)) _⟩
                · exact ((hown8.of_block (fun j hj => setCell_other (fun e => hne8 (by rw [hj, e])))).of_block (fun j hj => setCell_other (fun e => hne8 (by rw [hj, e])))).al _
                · exact ((hU9.of_block (setCell_other hneb.symm)).of_block (setCell_other hneb.symm)).of_block (Below.heap_alloc _ _ _ (by rw [size_set, size_set]; exact hU9.lt))
                · intro z hz
                  rcases List.mem_append.1 hz with h9 | h9
                  · exact hIb.out.2.2.2 z h9
                  · simp at h9; subst h9; exact hc.i64 hDy
            · have hneb : bx ≠ bu := hnb.2.1
              have f0 := free_blk hx7 0
              have f1 := free_blk hx7 1
              go_wp2_with fail
              go_roundg W.length
              case measure => exact hIb.out.2.1
              case rel =>
                have hnx := hIb.out.1.next hxsh.out hinh.out
                rw [if_pos rfl, List.append_nil] at hnx
                refine ⟨w7.heap.size, (y1, true), pre ++ [(x1, x2)], eraseP W ((x1, x2), (y1, true)), out, rfl, ga_fit (by simp [size_set]), by have := hg8.size; omega, ?_, fun e => by have := (hown7.lt e).2; omega, ?_, ⟨hnx, by have := eraseP_len hinh.out; omega, hDy, hIb.out.2.2.2⟩, grow_al (grow_set (grow_set hg8 (.inl hbl)) (.inl hbl)) _⟩
                · exact ((hown7.of_block (fun j hj => setCell_other (fun e => hne (by rw [hj, e])))).of_block (fun j hj => setCell_other (fun e => hne (by rw [hj, e])))).al _
                · exact ((hU8.of_block (setCell_other hneb.symm)).of_block (setCell_other hneb.symm)).of_block (Below.heap_alloc _ _ _ (by rw [size_set, size_set]; exact hU8.lt))
          · have hlka := Lib.hid (show ∀ (w' : World), w'.heap = wa.heap → (Instr.lookup 141 (.map (some bu)) (.agg #[.int .i64 x1, .bool x2, .int .i64 y1, .bool y2]) false).run Tryz.prog w' = .ok (.bool false) w' from fun (w' : World) (h : w'.heap = wa.heap) => by
              have := used_look (hUa.of_block (w' := w') (by rw [h])) x1 y1 x2 y2
              rw [decide_eq_false hin] at this
              exact this)
            have hinh := Lib.hid hin
            clear hin
            have hcs := Lib.hid (fun (w' : World) (h : w'.heap = wa.heap) => And.intro ((hp_cell h _).trans qa) (And.intro (hp_lt h la) (And.intro ((hp_cell h _).trans px.1) (And.intro ((hp_cell h _).trans px.2) (And.intro (hp_lt h lx) (And.intro ((hp_cell h _).trans py.1) (And.intro ((hp_cell h _).trans py.2) (And.intro (hp_lt h ly) (hlka.out w' h)))))))))
            refine wp_region_plan (fun w' => w'.heap = wa.heap) [(0, true), (1, true), (2, true), (3, true), (4, true), (5, true), (6, true), (7, true)] (by kernel_rfl) (by kernel_rfl) (by kernel_rfl) rfl ?_
            repeat first
              | (refine plan_skip rfl (by rfl) ?_; simp only [Act.put, List.setIfInBounds_toArray, List.set_cons_zero, List.set_cons_succ])
              | (refine plan_read (v := ?_) rfl (by rfl) ?_ ?_; rotate_left; (focus (intro w' hSw; obtain ⟨r1, r2, r3, r4, r5, r6, r7, r8, r9⟩ := hcs.out _ hSw; clear hSw; go_simp; all_goals with_reducible rfl)); simp only [Act.put, List.setIfInBounds_toArray, List.set_cons_zero, List.set_cons_succ])
            refine plan_nil (NoPanic.normal ?_)
            clear hcs hlka px py lx ly qa la hUa hsa hya hxa pe le
            go_wp2
            go_roundw
            case rel =>
              refine ⟨m + 1, rfl, by omega, by go_num, fun m' h1 => ?_, hp_drew hBa⟩
              by_cases e : m' = m
              · subst e; rw [← hyh.out]; exact hinh.out
              · exact hnoh.out m' (by omega)
            case measure => simp [intOf]; omega
  · have hout : (if 0 ≤ i then [i] else []) = [] := if_neg hi0
    rw [hout] at hI0h
    have hdec : decide (i ≥ 0) = false := by simp; omega
    have hdec3 : ¬ 0 ≤ i := hi0
    go_enter Tryz.func112, Tryz.ntmps112
    go_upto_region 4 with fail
    have hBv : Below w.heap.size w w := Below.refl _ _
    have hown : OwnI w w.heap.size (.slice none 0 0) [] := OwnI.nil _ _
    have hoI := Lib.hid (show ∀ z ∈ ([] : List Int), I64 z from fun z hz => by cases hz)
    clear hout hdec q lq hdec3
    have hsv := hw.below hBv
    have hS := net_source H bn bu fv i b w hsv hN
    unfold nd at hS
    simp only at hS
    have hUv := hU.of_block (hBv.block _ hlu)
    go_wp2_with (go_at_call 131; refine hS.mono ?_; rintro e w1 ⟨rfl, hB1⟩)
    refine wp_name fun w2 hw2 => ?_
    have hB2 : Below w.heap.size w w2 := by rw [hw2]; exact hB1.alloc hB1.size _
    have hx2 : w2.heap[w1.heap.size]? = some (ndO (i, true)) := by rw [hw2]; exact ga_new _ _
    have hU2 := hUv.of_block (hB2.block _ hUv.lt)
    have hown2 := hown.of_block (fun j hj => hB2.block j (hown.lt hj).2)
    have hB02 := bstep hBv hB2
    have hne2 : ((Value.slice none 0 0)).ownBlock ≠ some w1.heap.size := fun e => by have := (hown.lt e).2; have := hB1.size; omega
    have hz1 : w.heap.size ≤ w1.heap.size := by have := hBv.size; have := hB1.size; omega
    clear hw2 hB1 hB2 hUv hown hS hsv hBv
    go_loopg [3, 4] (U.length + 1) (fun gk o xp wr => ∃ (bx : Nat) (x : Nd) (pre : List Nd) (W : List Pr) (out : List Int), xp = .pointer (some ⟨bx, 0, none⟩) ∧ wr.heap[bx]? = some (ndO x) ∧ w.heap.size ≤ bx ∧ OwnI wr w.heap.size o out ∧ o.ownBlock ≠ some bx ∧ MapU pr wr bu W ∧
      Aside (TakeI i b k U x pre W out ∧ W.length < gk ∧ DN (theFlow c) i x ∧ ∀ z ∈ out, I64 z) ∧ w.grownBy wr (some bu))
    case atStart =>
      refine ⟨w1.heap.size, (i, true), [], U, [], rfl, hx2, hz1, hown2, hne2, hU2, ⟨hI0h.out, Nat.lt_succ_self _, dn_src, hoI.out⟩, ⟨hB02.os, hB02.tape, hB02.output, hB02.size, fun j hj _ => hB02.block j hj⟩⟩
    clear hx2 hown2 hne2 hU2 hB02 hI0h
    case round =>
      obtain ⟨bx, x, pre, W, out, rfl, hbx, hbl, hown, hne, hUW, hI, hg⟩ := hrel
      obtain ⟨x1, x2⟩ := x
      have hIb := Lib.hid hI
      clear hI
      have hs : Sees wr H := hw.grownR hg (fun j hj => by injection hj with hj; rw [← hj]; exact hHu)
      have hzr := hg.size
      have px := box2 hbx
      have lx := (Array.getElem?_eq_some_iff.1 hbx).1
      have qa := (box4 (hs _ _ hN)).2.2.1
      have la := hs.lt hN
      simp only at px
      have hcs := Lib.hid (fun (w' : World) (h : w'.heap = wr.heap) => And.intro ((hp_cell h _).trans qa) (And.intro (hp_lt h la) (And.intro ((hp_cell h _).trans px.1) (And.intro ((hp_cell h _).trans px.2) (hp_lt h lx)))))
      have hq := fun w => nd_neq w x1 b x2 false
      go_upto_region 5 with fail
      by_cases hxs : ((x1, x2) : Nd) = (b, false)
      · rw [decide_eq_true hxs] at hq
        have hxsh := Lib.hid hxs
        clear hxs
        refine wp_region_plan (fun w' => w'.heap = wr.heap) [(0, true), (1, true), (2, true), (3, true), (4, true), (5, true), (6, true)] (by kernel_rfl) (by kernel_rfl) (by kernel_rfl) rfl ?_
        repeat first
          | (refine plan_skip rfl (by rfl) ?_; simp only [Act.put, List.setIfInBounds_toArray, List.set_cons_zero, List.set_cons_succ])
          | (refine plan_read (v := ?_) rfl (by rfl) ?_ ?_; rotate_left; (focus (intro w' hSw; obtain ⟨r1, r2, r3, r4, r5⟩ := hcs.out _ hSw; clear hSw; go_simp; all_goals with_reducible rfl)); simp only [Act.put, List.setIfInBounds_toArray, List.set_cons_zero, List.set_cons_succ])
        refine plan_nil (NoPanic.normal ?_)
        clear hcs hq qa la px lx
        have hfin : SlV rInt (extH H w wr) u3 out := hown.read hIb.out.2.2.2 (by have := hIb.out.1.len; unfold maxN; omega)
        go_wp2
        go_ret
        have h0 := hIb.out.1
        rw [hxsh.out] at h0
        refine ⟨⟨u3, pre ++ [(b, false)], W, rfl, ?_, h0.go _ _ .stop, hUW.of_block rfl⟩, grow_drew hg⟩
        have h1 : pathOf i (pre ++ [((b, false) : Nd)]) = out := by unfold pathOf; exact h0.outs.symm
        rw [h1]
        exact hfin
      · rw [decide_eq_false hxs] at hq
        have hxsh := Lib.hid hxs
        clear hxs
        refine wp_region_plan (fun w' => w'.heap = wr.heap) [(0, true), (1, true), (2, true), (3, true), (4, true), (5, true), (6, true)] (by kernel_rfl) (by kernel_rfl) (by kernel_rfl) rfl ?_
        repeat first
          | (refine plan_skip rfl (by rfl) ?_; simp only [Act.put, List.setIfInBounds_toArray, List.set_cons_zero, List.set_cons_succ])
          | (refine plan_read (v := ?_) rfl (by rfl) ?_ ?_; rotate_left; (focus (intro w' hSw; obtain ⟨r1, r2, r3, r4, r5⟩ := hcs.out _ hSw; clear hSw; go_simp; all_goals with_reducible rfl)); simp only [Act.put, List.setIfInBounds_toArray, List.set_cons_zero, List.set_cons_succ])
        refine plan_nil (NoPanic.normal ?_)
        clear hcs hq qa la
        have hDx := hIb.out.2.2.1
        have hL := net_links H bn bu fv (theFlow c) i b (x1, x2) wr.drew (hp_sees hs) hN hf (hc.lt hDx) (hc.i64 hDx)
        unfold nd at hL
        simp only at hL
        obtain ⟨y0, hy0⟩ := take_next hk1h.out hIb.out.1.bal hxsh.out
        have hyl : y0 ∈ linksL (theFlow c) i (x1, x2) := (hGh.out _ (hIb.out.1.sub _ hy0)).1.1
        have hfh := Lib.hid (first_hit hyl hy0)
        have hli := Lib.hid (fun y (hy : y ∈ linksL (theFlow c) i (x1, x2)) => dn_link hc.fine hc.i_ok hDx hy)
        generalize linksL (theFlow c) i (x1, x2) = ls at *
        have pxd : wr.drew.cell? ⟨bx, 0, none⟩ = some (.int .i64 x1) ∧ wr.drew.cell? ⟨bx, 1, none⟩ = some (.bool x2) := px
        have lxd : bx < wr.drew.heap.size := lx
        have hbxd : wr.drew.heap[bx]? = some (ndO (x1, x2)) := hbx
        have hownd : OwnI wr.drew w.heap.size u3 out := hown.of_block fun _ _ => rfl
        have hUd : MapU pr wr.drew bu W := hUW.of_block rfl
        have hgd := grow_drew hg
        have hsd := hp_sees hs
        clear hyl hy0 hDx hs px lx hbx hown hUW hg hzr
        generalize wr.drew = wd at *
        have hzd := hgd.size
        go_wp2_with (go_at_call 133; refine hL.mono ?_; rintro e w3 ⟨⟨vl, rfl, hl⟩, hB3⟩; have hll := hl.le; have hl' := hl; obtain ⟨Al, cl, rfl, -, -⟩ := hl')
        have hkl : Sees w3 (extH H wd w3) := extH.sees hsd hB3
        have hx3 := (hB3.block _ lxd).trans hbxd
        have hown3 := hownd.of_block (fun j hj => hB3.block j (hownd.lt hj).2)
        have hU3 := hUd.of_block (hB3.block _ hUd.lt)
        have hg3 : w.grownBy w3 (some bu) := hgd.trans ⟨hB3.os, hB3.tape, hB3.output, hB3.size, fun j hj _ => hB3.block j hj⟩
        have hs3 := hsd.below hB3
        have hz3 := hg3.size
        clear hL pxd lxd hbxd hownd hUd hgd hsd hB3 hzd
        generalize extH H wd w3 = KL at *
        have lx3 := (Array.getElem?_eq_some_iff.1 hx3).1
        obtain ⟨vk, hvk⟩ : ∃ vk, vk = u3 := ⟨_, rfl⟩
        rw [← hvk] at hne hown3 ⊢
        clear hvk
        go_loopw [3, 32] (fun o j wi => ∃ m : Nat, o = vk ∧ m ≤ ls.length ∧ j = .int .i64 m ∧ Aside (∀ m', m' < m → (((x1, x2), ls.getD m' (0, false)) : Pr) ∉ W) ∧ Below w3.heap.size w3 wi) (fun _ j _ => ls.length - (intOf j).toNat)
        case atStart => exact ⟨0, rfl, Nat.zero_le _, rfl, fun m' h => by omega, Below.refl _ _⟩
        case round =>
          obtain ⟨m, rfl, hm, rfl, hno, hBi⟩ := hrel
          have hnoh := Lib.hid hno
          have hlt : m < ls.length := by
            apply Classical.byContradiction
            intro hge
            obtain ⟨m', h1, h2⟩ := hfh.out
            exact hno m' (by omega) h2
          clear hno
          have hsi := hs3.below hBi
          have hzi := hBi.size
          obtain ⟨be, oe, ce, ee, -, hbe, hce, -⟩ := hl.nds (by omega)
          cases ee
          have pe := hce wr (hkl.below hBi) m hlt
          have le := (hkl.below hBi).lt' hbe
          have hyl : ls[m]? = some (ls.getD m (0, false)) := by simp [hlt]
          have hDy := hli.out _ (List.mem_of_getElem? hyl)
          have hmh := Lib.hid (show ∀ (P : Nd → Prop), P (ls.getD m (0, false)) → ∀ y, y = ls.getD m (0, false) → P y from fun P h y e => by rw [e]; exact h)
          clear hce hyl hmh
          obtain ⟨y, hy⟩ : ∃ y, y = ls.getD m (0, false) := ⟨_, rfl⟩
          rw [← hy] at pe hDy
          have hyh := Lib.hid hy
          clear hy
          obtain ⟨y1, y2⟩ := y
          simp only at pe
          go_upto_region 9 with fail
          refine wp_name fun wa hwa => ?_
          have hBa : Below w3.heap.size w3 wa := by rw [hwa]; exact hBi.alloc hzi _
          have hya : wa.heap[wr.heap.size]? = some (ndO (y1, y2)) := by rw [hwa]; exact ga_new _ _
          have hza : wa.heap.size = wr.heap.size + 1 := by rw [hwa]; simp
          clear hwa
          have hxa := (hBa.block _ lx3).trans hx3
          have hUa := hU3.of_block (hBa.block _ hU3.lt)
          have hsa := hs3.below hBa
          have qa := (box4 (hsa _ _ hN)).2.2.2
          have la := hsa.lt hN
          have px := box2 hxa
          have py := box2 hya
          have lx := (Array.getElem?_eq_some_iff.1 hxa).1
          have ly := (Array.getElem?_eq_some_iff.1 hya).1
          simp only at px py
          by_cases hin : (((x1, x2), (y1, y2)) : Pr) ∈ W
          · have hlka := Lib.hid (show ∀ (w' : World), w'.heap = wa.heap → (Instr.lookup 141 (.map (some bu)) (.agg #[.int .i64 x1, .bool x2, .int .i64 y1, .bool y2]) false).run Tryz.prog w' = .ok (.bool true) w' from fun (w' : World) (h : w'.heap = wa.heap) => by
              have := used_look (hUa.of_block (w' := w') (by rw [h])) x1 y1 x2 y2
              rw [decide_eq_true hin] at this
              exact this)
            have hinh := Lib.hid hin
            obtain ⟨lu, hMu, hlu2, -⟩ := hUa.get
            have hluh := Lib.hid hlu2
            clear hin hlu2
            have hnb : bn ≠ bu ∧ bx ≠ bu ∧ wr.heap.size ≠ bu := ⟨fun e => by (rw [e, hHu] at hN; cases hN), by omega, by omega⟩
            have hcd := Lib.hid (fun (w' : World) (h : SameBut bu wa w') => And.intro ((sb_cell h hnb.1 la _).trans qa) (And.intro (sb_lt h hnb.1 la) (And.intro ((sb_cell h hnb.2.1 lx _).trans px.1) (And.intro ((sb_cell h hnb.2.1 lx _).trans px.2) (And.intro (sb_lt h hnb.2.1 lx) (And.intro ((sb_cell h hnb.2.2 ly _).trans py.1) (And.intro ((sb_cell h hnb.2.2 ly _).trans py.2) (sb_lt h hnb.2.2 ly))))))))
            have hcs := Lib.hid (fun (w' : World) (h : w'.heap = wa.heap) => And.intro ((hp_cell h _).trans qa) (And.intro (hp_lt h la) (And.intro ((hp_cell h _).trans px.1) (And.intro ((hp_cell h _).trans px.2) (And.intro (hp_lt h lx) (And.intro ((hp_cell h _).trans py.1) (And.intro ((hp_cell h _).trans py.2) (And.intro (hp_lt h ly) (hlka.out w' h)))))))))
            refine wp_region_plan (fun w' => w'.heap = wa.heap) [(0, true), (1, true), (2, true), (3, true), (4, true), (5, true), (6, true), (7, true)] (by kernel_rfl) (by kernel_rfl) (by kernel_rfl) rfl ?_
            repeat first
              | (refine plan_skip rfl (by rfl) ?_; simp only [Act.put, List.setIfInBounds_toArray, List.set_cons_zero, List.set_cons_succ])
              | (refine plan_read (v := ?_) rfl (by rfl) ?_ ?_; rotate_left; (focus (intro w' hSw; obtain ⟨r1, r2, r3, r4, r5, r6, r7, r8, r9⟩ := hcs.out _ hSw; clear hSw; go_simp; all_goals with_reducible rfl)); simp only [Act.put, List.setIfInBounds_toArray, List.set_cons_zero, List.set_cons_succ])
            refine plan_nil (NoPanic.normal ?_)
            go_upto_region 10 with fail
            refine wp_region_plan (fun w' => SameBut bu wa w') [(0, true), (1, true), (2, true), (3, true), (4, true), (5, true), (6, true), (7, false)] (by kernel_rfl) (by kernel_rfl) (by kernel_rfl) (fun j _ _ => rfl) ?_
            repeat first
              | (refine plan_skip rfl (by rfl) ?_; simp only [Act.put, List.setIfInBounds_toArray, List.set_cons_zero, List.set_cons_succ])
              | (refine plan_read (v := ?_) rfl (by rfl) ?_ ?_; rotate_left; (focus (intro w' hSw; obtain ⟨r1, r2, r3, r4, r5, r6, r7, r8⟩ := hcd.out _ hSw; clear hSw; go_simp; all_goals with_reducible rfl)); simp only [Act.put, List.setIfInBounds_toArray, List.set_cons_zero, List.set_cons_succ])
            refine plan_step rfl (by kernel_rfl) (fun K' hK' => ?_)
            refine op_delete _ _ _ _ rfl Tryz.underlying141 pr pr_key bu lu (by rfl) (hMu.of_block rfl) ((x1, x2), (y1, y2)) (by rfl) ?_
            intro w7 hM7 hg7
            refine hK'.out _ _ (fun j hl hj => hg7.block j hl (fun e => hj (by injection e with e))) ?_
            clear hK' K'
            refine plan_nil (NoPanic.normal ?_)
            have hU8 : MapU pr w7 bu (eraseP W ((x1, x2), (y1, y2))) := MapU.delM hluh.out hMu hM7 (fun e => eraseP_mem hIb.out.1.nodup)
            have hx7 : w7.heap[bx]? = some (ndO (x1, x2)) := (hg7.block bx lx (fun e => hnb.2.1 (by injection e))).trans hxa
            have hy7 : w7.heap[wr.heap.size]? = some (ndO (y1, y2)) := (hg7.block _ ly (fun e => hnb.2.2 (by injection e))).trans hya
            have hg7a : wa.grownBy w7 (some bu) := ⟨hg7.os, hg7.tape, hg7.output, hg7.size, hg7.block⟩
            have hown7 := hown3.of_block (w1 := w7) (fun j hj => (hg7a.block j (Nat.lt_of_lt_of_le (hown3.lt hj).2 hBa.size) (fun e => by injection e with e; have := (hown3.lt hj).1; omega)).trans (hBa.block j (hown3.lt hj).2))
            have hg8 : w.grownBy w7 (some bu) := (hg3.trans ⟨hBa.os, hBa.tape, hBa.output, hBa.size, fun j hj _ => hBa.block j hj⟩).trans hg7a
            have hz7 := hg7a.size
            clear hcs hcd hlka px py lx ly qa la hUa hsa hya hxa hMu hM7 hg7 pe le
            have px7 := box2 hx7
            have py7 := box2 hy7
            have lx7 := (Array.getElem?_eq_some_iff.1 hx7).1
            have ly7 := (Array.getElem?_eq_some_iff.1 hy7).1
            simp only at px7 py7
            cases y2
            · go_upto_region 13 with (at_builtin; go_loud (refine wpL_appI rfl _ _ rfl w.heap.size _ out [y1] rfl (hown7.al _) ⟨w7.heap.size, 0, none⟩ 1 1 rfl rfl (one_new (by simp)) ?hlen ?hsz ?_); go_loud (case hlen => have := hIb.out.1.len; simp; omega); go_loud (case hsz => have := hg8.size; simp; omega); intro v8 w8 hown8 hg8a hv8)
              have hz8 := hg8a.size
              rw [World.size_alloc] at hz8
              have hx8 : w8.heap[bx]? = some (ndO (x1, x2)) := (hg8a.block bx (by simp; omega) (fun e => hne e.symm)).trans (ga_old hx7)
              have hy8 : w8.heap[wr.heap.size]? = some (ndO (y1, false)) := (hg8a.block _ (by simp; omega) (fun e => by have := (hown3.lt e.symm).2; omega)).trans (ga_old hy7)
              have hU9 := (hU8.of_block (Below.heap_alloc w7 (.cells #[.int .i64 y1] 3) _ hU8.lt)).of_block (hg8a.block _ (by have := hU8.lt; simp; omega) (fun e => by have := (hown3.lt e.symm).1; omega))
              have hg9 : w.grownBy w8 (some bu) := grow_step (grow_al hg8 (.cells #[.int .i64 y1] 3)) hg8a (fun j hj => .inl (hown3.lt hj).1)
              have px8 := box2 hx8
              have py8 := box2 hy8
              have lx8 := (Array.getElem?_eq_some_iff.1 hx8).1
              have ly8 := (Array.getElem?_eq_some_iff.1 hy8).1
              have f0 := free_blk hx8 0
              have f1 := free_blk hx8 1
              simp only at px8 py8
              clear px7 py7 lx7 ly7
              have hneb : bx ≠ bu := hnb.2.1
              go_wp2_with fail
              go_roundg W.length
              case measure => exact hIb.out.2.1
              case rel =>
                have hne8 : v8.ownBlock ≠ some bx := by
                  rcases hv8 with h9 | h9
                  · rw [h9]; exact hne
                  · rw [h9]; intro e; injection e with e; rw [World.size_alloc] at e; have := (Array.getElem?_eq_some_iff.1 hx7).1; omega
                have hnx := hIb.out.1.next hxsh.out hinh.out
                refine ⟨w8.heap.size, (y1, false), pre ++ [(x1, x2)], eraseP W ((x1, x2), (y1, false)), out ++ [y1], rfl, ga_fit (by simp [size_set]), by have := hg9.size; omega, ?_, fun e => by have := (hown8.lt e).2; omega, ?_, ⟨hnx, by have := eraseP_len hinh.out; omega, hDy, ?_⟩, grow_al (grow_set (grow_set hg9 (.inl hbl)) (.inl hbl)) _⟩
                · exact ((hown8.of_block (fun j hj => setCell_other (fun e => hne8 (by rw [hj, e])))).of_block (fun j hj => setCell_other (fun e => hne8 (by rw [hj, e])))).al _
                · exact ((hU9.of_block (setCell_other hneb.symm)).of_block (setCell_other hneb.symm)).of_block (Below.heap_alloc _ _ _ (by rw [size_set, size_set]; exact hU9.lt))
                · intro z hz
                  rcases List.mem_append.1 hz with h9 | h9
                  · exact hIb.out.2.2.2 z h9
                  · simp at h9; subst h9; exact hc.i64 hDy
            · have hneb : bx ≠ bu := hnb.2.1
              have f0 := free_blk hx7 0
              have f1 := free_blk hx7 1
              go_wp2_with fail
              go_roundg W.length
              case measure => exact hIb.out.2.1
              case rel =>
                have hnx := hIb.out.1.next hxsh.out hinh.out
                rw [if_pos rfl, List.append_nil] at hnx
                refine ⟨w7.heap.size, (y1, true), pre ++ [(x1, x2)], eraseP W ((x1, x2), (y1, true)), out, rfl, ga_fit (by simp [size_set]), by have := hg8.size; omega, ?_, fun e => by have := (hown7.lt e).2; omega, ?_, ⟨hnx, by have := eraseP_len hinh.out; omega, hDy, hIb.out.2.2.2⟩, grow_al (grow_set (grow_set hg8 (.inl hbl)) (.inl hbl)) _⟩
                · exact ((hown7.of_block (fun j hj => setCell_other (fun e => hne (by rw [hj, e])))).of_block (fun j hj => setCell_other (fun e => hne (by rw [hj, e])))).al _
                · exact ((hU8.of_block (setCell_other hneb.symm)).of_block (setCell_other hneb.symm)).of_block (Below.heap_alloc _ _ _ (by rw [size_set, size_set]; exact hU8.lt))
          · have hlka := Lib.hid (show ∀ (w' : World), w'.heap = wa.heap → (Instr.lookup 141 (.map (some bu)) (.agg #[.int .i64 x1, .bool x2, .int .i64 y1, .bool y2]) false).run Tryz.prog w' = .ok (.bool false) w' from fun (w' : World) (h : w'.heap = wa.heap) => by
              have := used_look (hUa.of_block (w' := w') (by rw [h])) x1 y1 x2 y2
              rw [decide_eq_false hin] at this
              exact this)
            have hinh := Lib.hid hin
            clear hin
            have hcs := Lib.hid (fun (w' : World) (h : w'.heap = wa.heap) => And.intro ((hp_cell h _).trans qa) (And.intro (hp_lt h la) (And.intro ((hp_cell h _).trans px.1) (And.intro ((hp_cell h _).trans px.2) (And.intro (hp_lt h lx) (And.intro ((hp_cell h _).trans py.1) (And.intro ((hp_cell h _).trans py.2) (And.intro (hp_lt h ly) (hlka.out w' h)))))))))
            refine wp_region_plan (fun w' => w'.heap = wa.heap) [(0, true), (1, true), (2, true), (3, true), (4, true), (5, true), (6, true), (7, true)] (by kernel_rfl) (by kernel_rfl) (by kernel_rfl) rfl ?_
            repeat first
              | (refine plan_skip rfl (by rfl) ?_; simp only [Act.put, List.setIfInBounds_toArray, List.set_cons_zero, List.set_cons_succ])
              | (refine plan_read (v := ?_) rfl (by rfl) ?_ ?_; rotate_left; (focus (intro w' hSw; obtain ⟨r1, r2, r3, r4, r5, r6, r7, r8, r9⟩ := hcs.out _ hSw; clear hSw; go_simp; all_goals with_reducible rfl)); simp only [Act.put, List.setIfInBounds_toArray, List.set_cons_zero, List.set_cons_succ])
            refine plan_nil (NoPanic.normal ?_)
            clear hcs hlka px py lx ly qa la hUa hsa hya hxa pe le
            go_wp2
            go_roundw
            case rel =>
              refine ⟨m + 1, rfl, by omega, by go_num, fun m' h1 => ?_, hp_drew hBa⟩
              by_cases e : m' = m
              · subst e; rw [← hyh.out]; exact hinh.out
              · exact hnoh.out m' (by omega)
            case measure => simp [intOf]; omega
end Go.Proofs.YtififjlgjmgikaaGreat
