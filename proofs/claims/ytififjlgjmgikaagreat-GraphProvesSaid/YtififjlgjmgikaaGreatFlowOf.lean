/- graph.flowOf. -/
import Derived.Test.YtififjlgjmgikaaGreatFlowN
import Derived.Deep.QuietTactic
import Derived.BigQuiet
import Derived.StillTailTactics
import Derived.Test.YtififjlgjmgikaaGreatFlowJ
namespace Go.Proofs.YtififjlgjmgikaaGreat
set_option linter.all false
open Go.RowKit

section
variable {P : Program} {l : List Oper} {Q : Exit → Act → World → Prop} {md : Region.Mode} {S : World → Prop}
theorem takeL (i : Nat) {oi : Oper} {v : Value} {fuel : Nat} {listed : Array Bool} {a : Act} {w : World} (hi : l[i]? = some oi) (hs : Region.noSelect l.toArray = true)
    (hf : Region.free md l.toArray listed i = true) (hr : (Region.ready md l.toArray listed).contains i = true) (hQ : ∀ c a w, Q (.panic c) (a.put oi.dst v) w → Q (.panic c) a w)
    (hy : YieldsIf P l.toArray S oi v a) (hS : S w) (h : wpAnyH P md l.toArray Q S fuel (listed.setIfInBounds i true) (a.put oi.dst v) w) : wpAnyH P md l.toArray Q S (fuel + 1) listed a w :=
  wpAnyH_take (by rw [List.getElem?_toArray]; exact hi) hs hf hr hQ hy hS h
theorem consL {fuel : Nat} {listed : Array Bool} {a : Act} {w : World} {i : Nat} {o : Oper} {rs : List Nat} (ho : l[i]? = some o)
    (h : ∀ K' : Act → World → Prop, Shut (∀ a w, S w → (S w → wpAnyH P md l.toArray Q S fuel (listed.setIfInBounds i true) a w) → K' a w) → if Region.wanted o (yielded l.toArray a.tmps) = true then Oper.wp P o a w K' Q else K' (a.put o.dst undef) w)
    (hs : AllReadyH P md l.toArray Q S fuel listed a w rs) : AllReadyH P md l.toArray Q S fuel listed a w (i :: rs) :=
  AllReadyH.cons (by rw [List.getElem?_toArray]; exact ho) h hs
end

set_option maxHeartbeats 8000000 in
set_option maxRecDepth 100000 in
theorem graph_flowOf (H : PH) (v : Value) (c : CodeD) (w : World) (hw : Sees w H) (hc : CodeV H v c) (hf : fineB c = true) :
    Calls Tryz.prog 47 #[v] w fun e w' => FlowRes H w c w' e ∧ Below w.heap.size w w' := by
  have hfb := fine_bounds hf
  have n0 := hfb.i1
  have n1 := hfb.i0
  have hc0 := hc
  obtain ⟨s0, s1, s2, s3, s4, s5, s6, rfl, hc⟩ := hc
  have hx0 := ga_new w (.cells #[s0, s1, s2, s3, s4, s5, s6] 30)
  have hB0 : Below w.heap.size w (w.alloc (.cells #[s0, s1, s2, s3, s4, s5, s6] 30)) := (Below.refl _ _).alloc (Nat.le_refl _) _
  have hN := Lib.hid (fun (w1 : World) (hs : Sees w1 H) => graph_nexts H _ c w1 hs hc0 hf)
  have hLd := Lib.hid (fun (K : PH) (nx : Value) (w1 : World) (hs : Sees w1 K) (hK : PH.le H K) (hnx : SlV (rSl rInt) K nx (nextsL c)) => graph_leaders K _ nx c w1 hs (hc0.mono hK) hf hnx)
  have hE := Lib.hid (fun (w1 : World) (hs : Sees w1 H) => code_Entries H _ c w1 hs hc0 hf)
  have hRd := Lib.hid (fun (w1 : World) (hs : Sees w1 H) => code_Reached H _ c w1 hs hc0 hf)
  have hNin := Lib.hid (fun (j : Nat) (hj : j < c.instrs.length) => next_in hf hj)
  have hEin := Lib.hid (entries_in hf)
  have hfine := Lib.hid hf
  have hmm := @run_makeMap Tryz.prog
  have hnl : (nextsL c).length = c.instrs.length := by simp [nextsL]
  have hnlh := Lib.hid hnl
  clear hc0 hc hf hnl
  go_enter Tryz.func47, Tryz.ntmps47
  go_wp2_with (first
    | (go_at_call 61; refine (hN.out _ (hw.below hB0)).mono ?_; rintro e w1 ⟨⟨vn, rfl, hvn⟩, hB1⟩; have hx1 := blk_keep hB1 hx0; have q := box7 hx1; have hl1 : w.heap.size < w1.heap.size := (Array.getElem?_eq_some_iff.1 hx1).1; have hvn0 := hvn; obtain ⟨bn, on, cn, rfl, -, hbn, hrow⟩ := hvn0.rows (by rw [hnlh.out]; omega); rw [hnlh.out] at hvn hrow ⊢)
    | (go_at_call 89; refine (hLd.out _ _ _ (extH.sees (hw.below hB0) hB1) (extH.le (hw.below hB0) w1) hvn).mono ?_; rintro e w2 ⟨⟨gl, bs, rfl, hgl, hA, hMk⟩, hB2⟩; clear q))
  have hBw2 : Below w.heap.size w w2 := bstep (bstep hB0 hB1) hB2
  have hs2 : Sees w2 (extH H w w2) := extH.sees hw hBw2
  have hHle : PH.le H (extH H w w2) := extH.le hw w2
  have hKK : PH.le (extH H (w.alloc (.cells #[s0, s1, s2, s3, s4, s5, s6] 30)) w1) (extH H w w2) := PH.le_trans (extH.step hB2) (extH.lower hw hB0.size)
  have hvn2 := hvn.mono hKK
  have hbn2 : extH H w w2 bn ≠ none := by
    obtain ⟨o, ho⟩ := Option.ne_none_iff_exists'.1 hbn
    rw [hKK _ _ ho]; simp
  have hx2 := blk_keep hB2 hx1
  have hz2 := hB2.size
  have hB23 : Below w2.heap.size w2 ((w2.alloc (.map #[] 0)).alloc (.cells #[.slice none 0 0, .slice none 0 0, .slice none 0 0, .slice none 0 0, .map (some w2.heap.size)] 82)) := ((Below.refl _ _).alloc (Nat.le_refl _) _).alloc (by simp) _
  have hM3 : MapL (fun x : Int => Value.int .i64 x) ((w2.alloc (.map #[] 0)).alloc (.cells #[.slice none 0 0, .slice none 0 0, .slice none 0 0, .slice none 0 0, .map (some w2.heap.size)] 82)) w2.heap.size [] :=
    (MapL.new _ w2).of_block (((Below.refl _ _).alloc (Nat.le_refl _) _ : Below (w2.alloc (.map #[] 0)).heap.size _ _).block _ (by simp))
  have hbx3 : ((w2.alloc (.map #[] 0)).alloc (.cells #[.slice none 0 0, .slice none 0 0, .slice none 0 0, .slice none 0 0, .map (some w2.heap.size)] 82)).heap[w2.heap.size + 1]? = some (.cells #[.slice none 0 0, .slice none 0 0, .slice none 0 0, .slice none 0 0, .map (some w2.heap.size)] 82 (0, 0)) := blk1 _ _ _
  have hz3 : ((w2.alloc (.map #[] 0)).alloc (.cells #[.slice none 0 0, .slice none 0 0, .slice none 0 0, .slice none 0 0, .map (some w2.heap.size)] 82)).heap.size = w2.heap.size + 2 := by simp [World.size_alloc]
  generalize ((w2.alloc (.map #[] 0)).alloc (.cells #[.slice none 0 0, .slice none 0 0, .slice none 0 0, .slice none 0 0, .map (some w2.heap.size)] 82)) = w3 at *
  have hz3h := Lib.hid hz3
  have hgl2 := hA.lt
  have hb0 : bs.getD 0 false = true := (hMk.iff_ 0 n1).2 (.inl rfl)
  have hb0h := Lib.hid hb0
  have hMkh := Lib.hid hMk
  have hbl := Lib.hid hMk.len
  obtain ⟨i0, hi0, hz00, hz01, hz02⟩ := info_parts infoInt
  have hi0h := Lib.hid hi0
  have hmeta := Lib.hid (And.intro hz00 (And.intro hz01 hz02))
  clear hz3 hmm hb0 hMk hN hLd hi0 hz00 hz01 hz02 hrow hvn hB0 hB1 hB2 hx0 hx1 hKK
  go_loopw [27] (fun i wr => ∃ (k : Nat) (vb vo : Value), k ≤ c.instrs.length ∧ i = .int .i64 k ∧ wr.heap[w2.heap.size + 1]? = some (.cells #[vb, vo, .slice none 0 0, .slice none 0 0, .map (some w2.heap.size)] 82 (0, 0)) ∧
    OwnB wr (w2.heap.size + 2) vb (rowsK bs k) ∧ OwnI wr (w2.heap.size + 2) vo (ofK bs k) ∧ Aside (∀ j, vb.ownBlock = some j → vo.ownBlock ≠ some j) ∧ w3.grownBy wr (some (w2.heap.size + 1))) (fun i _ => c.instrs.length - (intOf i).toNat)
  case atStart => exact ⟨0, _, _, Nat.zero_le _, rfl, hbx3, OwnB.nil _ _, OwnI.nil _ _, (fun j hj => by cases hj), grown_refl _ _⟩
  case round =>
    obtain ⟨k, vb, vo, hk, rfl, hbx, hvb, hvo, hdj, hg⟩ := hrel
    have hdjh := Lib.hid hdj
    have hAr : ArrB wr gl bs := hA.of_block ((hg.block gl (by have := hB23.size; omega) (by simp; omega)).trans (hB23.block gl hgl2))
    clear hdj
    by_cases hlt : k < c.instrs.length
    · have hac := hAr.cell (j := k) (by rw [hbl.out]; exact hlt)
      have hall := hAr.lt
      have q := box5 hbx
      have hfl := (Array.getElem?_eq_some_iff.1 hbx).1
      have hcl := rowsK_len bs k
      have hcle := cnt_le bs k
      have hrs0 : rowsK bs (k + 1) = endAt (if bs.getD k false then rowsK bs k ++ [((k : Int), 0)] else rowsK bs k) (k + 1) := rfl
      have hcn0 : cnt bs (k + 1) = cnt bs k + (bs.getD k false).toNat := rfl
      have hvbh := Lib.hid hvb
      clear hvb
      -- BEGIN
      cases hb : bs.getD k false
      case' false =>
        rw [hb] at hac hrs0 hcn0
        simp only [Bool.false_eq_true, if_false, Bool.toNat_false, Nat.add_zero] at hrs0 hcn0
        have hk0 : 0 < k := by
          apply Classical.byContradiction
          intro hn
          obtain rfl : k = 0 := by omega
          rw [hb0h.out] at hb
          cases hb
        have hcp := cnt_pos hb0h.out hk0
        obtain ⟨g, cap, cur, rfl, hgP, hblkg, hcap, -⟩ := hvbh.out.form (by omega)
        obtain ⟨j, hj⟩ : ∃ j, (rowsK bs k).length = j + 1 := ⟨(rowsK bs k).length - 1, by omega⟩
        obtain ⟨rows', hrows⟩ : ∃ r, r = rowsK bs k := ⟨_, rfl⟩
        rw [← hrows] at hrs0 hvbh hj hcl hbx q
        rw [hj] at hbx q hvbh
        have hjc : cnt bs (k + 1) = j + 1 := by omega
        have hrsh := Lib.hid hrs0
        have hjh := Lib.hid hj
        have hjch := Lib.hid hjc
        clear hb hrs0 hcn0 hrows hj hjc
        go_wp2_with fail
        refine wp_name fun w5 hw5 => ?_
        have hbx5 : w5.heap[w2.heap.size + 1]? = some (.cells #[.slice (some ⟨g, 0, none⟩) (j + 1) cap, vo, .slice none 0 0, .slice none 0 0, .map (some w2.heap.size)] 82 (0, 0)) := by rw [hw5]; exact hbx
        have hvb5 : OwnB w5 (w2.heap.size + 2) (.slice (some ⟨g, 0, none⟩) (j + 1) cap) rows' := by rw [hw5]; exact hvbh.out
        have hvo5 : OwnI w5 (w2.heap.size + 2) vo (ofK bs k) := by rw [hw5]; exact hvo
        have hdj5 : vo.ownBlock ≠ some g := hdjh.out g rfl
        have hg5 : w3.grownBy w5 (some (w2.heap.size + 1)) := by rw [hw5]; exact hg
        clear hw5
      case' true =>
        rw [hb] at hac hrs0 hcn0
        simp only [if_true, Bool.toNat_true] at hrs0 hcn0
        obtain ⟨rows', hrows⟩ : ∃ r, r = rowsK bs k ++ [((k : Int), 0)] := ⟨_, rfl⟩
        obtain ⟨j, hj⟩ : ∃ j, rows'.length = j + 1 := ⟨(rowsK bs k).length, by rw [hrows]; simp⟩
        rw [← hrows] at hrs0
        have hjc : cnt bs (k + 1) = j + 1 := by rw [hrows] at hj; simp at hj; omega
        have hrsh := Lib.hid hrs0
        have hjh := Lib.hid hj
        have hjch := Lib.hid hjc
        have hrowsh := Lib.hid hrows
        clear hb hrs0 hcn0 hrows hj hjc
        go_wp2_with (at_builtin; go_loud (refine wpL_appB rfl _ _ rfl (w2.heap.size + 2) vb (rowsK bs k) rfl (hvbh.out.al _) wr.heap.size 1 (k : Int) (by rfl) (ga_new _ _) ?h1 ?h2 ?_); go_loud (case h1 => omega); go_loud (case h2 => simp; omega); intro vb' w4 hvb' hg4 hk4; rw [← hrowsh.out] at hvb'; obtain ⟨g, cap, cur, rfl, hgP, hblkg, hcap, -⟩ := hvb'.form (by rw [hjh.out]; omega); rw [hjh.out] at hvb' ⊢; have hbx4 := (hg4.block (w2.heap.size + 1) (by simp; omega) (fun e => by have := (hvbh.out.lt e.symm).1; omega)).trans (ga_old hbx); clear q; have q := box5 hbx4; have hfr := free_blk hbx4 0; have hfl4 := (Array.getElem?_eq_some_iff.1 hbx4).1)
        refine wp_name fun w5 hw5 => ?_
        have hbx5 : w5.heap[w2.heap.size + 1]? = some (.cells #[.slice (some ⟨g, 0, none⟩) (j + 1) cap, vo, .slice none 0 0, .slice none 0 0, .map (some w2.heap.size)] 82 (0, 0)) := by rw [hw5]; exact set_blk hbx4 _
        have hvb5 : OwnB w5 (w2.heap.size + 2) (.slice (some ⟨g, 0, none⟩) (j + 1) cap) rows' := by rw [hw5]; exact hvb'.of_block fun i hi => setCell_other (by have := (hvb'.lt hi).1; omega)
        have hdj5 : vo.ownBlock ≠ some g := by
          intro e
          have h1 := hvo.lt e
          rcases hk4 with h2 | h2
          · exact hdjh.out g h2.symm e
          · injection h2 with h2
            simp at h2
            omega
        have hvo5 : OwnI w5 (w2.heap.size + 2) vo (ofK bs k) := by
          rw [hw5]
          exact ((hvo.al _).of_block (w1 := w4) fun i hi => hg4.block i (by have := (hvo.lt hi).2; simp; omega) (fun e => hdjh.out i e.symm hi)).of_block fun i hi => setCell_other (by have := (hvo.lt hi).1; omega)
        have hg5 : w3.grownBy w5 (some (w2.heap.size + 1)) := by
          rw [hw5]
          exact grow_set (grow_step (grow_al hg _) hg4 (fun i hi => .inl (by have := (hvbh.out.lt hi).1; have := hz3h.out; omega))) (.inr rfl)
        clear hw5
      all_goals
        clear q
        have q51 := (box5 hbx5).1
        have q52 := (box5 hbx5).2.1
        have hfr5 := free_blk hbx5 1
        have hfl5 := (Array.getElem?_eq_some_iff.1 hbx5).1
        have hvol := ofK_len bs k
        have hneo : some (w2.heap.size + 1) ≠ vo.ownBlock := fun e => by have := (hvo5.lt e.symm).1; omega
        have hneh := Lib.hid hneo
        clear hneo
        have hfz5 : ∀ o, (w5.alloc o).frozen? ⟨w2.heap.size + 1, 1, none⟩ = false := fun o => frz_al hfr5 hfl5
        have hc15 : ∀ o, (w5.alloc o).cell? ⟨w2.heap.size + 1, 1, none⟩ = some vo := fun o => cell_al q52
        have hso : ∀ (w' : World) (u : Value), (w'.setCell ⟨w2.heap.size + 1, 1, none⟩ u).cell? ⟨w2.heap.size + 1, 0, none⟩ = w'.cell? ⟨w2.heap.size + 1, 0, none⟩ := fun _ _ => set_off (by decide)
        have hjb : j < 20000 := by have := hjch.out; have := cnt_le bs (k + 1); omega
        have hwj : IntKind.i64.wrap (j : Int) = (j : Int) := IntWalk.i64_in _ (by omega)
        refine wp_region_noPanic ?_
        refine wp_region_held_drew (S := (fun w' => w'.cell? ⟨w2.heap.size + 1, 0, none⟩ = some (.slice (some ⟨g, 0, none⟩) (j + 1) cap) ∧ w'.frozen? ⟨w2.heap.size + 1, 1, none⟩ = false)) (by kernel_rfl) ?_ (fun hHeld => ?_)
        · ((try dsimp only); (first | go_keep | (go_split_ands; refine ⟨?_, ?_⟩; (rw [hg6.cell_far _ (by simp; omega) hneh.out]; assumption); (rw [hg6.frozen_far _ (by simp; omega) hneh.out]; assumption))))
        refine takeL 0 (v := ?_) rfl (by kernel_rfl) (by kernel_rfl) (by kernel_rfl) (fun _ _ _ h => h) (Or.inl ⟨by rfl, ?_⟩) hHeld ?_
        rotate_left
        · ((intro w hSw; (try dsimp only at hSw); go_simp); all_goals with_reducible rfl)
        (try simp only [Act.put, List.setIfInBounds_toArray, List.set_cons_zero, List.set_cons_succ])
        refine takeL 1 (v := ?_) rfl (by kernel_rfl) (by kernel_rfl) (by kernel_rfl) (fun _ _ _ h => h) (Or.inl ⟨by rfl, ?_⟩) hHeld ?_
        rotate_left
        · ((intro w hSw; (try dsimp only at hSw); go_simp); all_goals with_reducible rfl)
        (try simp only [Act.put, List.setIfInBounds_toArray, List.set_cons_zero, List.set_cons_succ])
        refine takeL 2 (v := ?_) rfl (by kernel_rfl) (by kernel_rfl) (by kernel_rfl) (fun _ _ _ h => h) (Or.inl ⟨by rfl, ?_⟩) hHeld ?_
        rotate_left
        · ((intro w hSw; (try dsimp only at hSw); go_simp); all_goals with_reducible rfl)
        (try simp only [Act.put, List.setIfInBounds_toArray, List.set_cons_zero, List.set_cons_succ])
        refine takeL 3 (v := ?_) rfl (by kernel_rfl) (by kernel_rfl) (by kernel_rfl) (fun _ _ _ h => h) (Or.inl ⟨by rfl, ?_⟩) hHeld ?_
        rotate_left
        · ((intro w hSw; (try dsimp only at hSw); go_simp); all_goals with_reducible rfl)
        (try simp only [Act.put, List.setIfInBounds_toArray, List.set_cons_zero, List.set_cons_succ])
        refine takeL 5 (v := ?_) rfl (by kernel_rfl) (by kernel_rfl) (by kernel_rfl) (fun _ _ _ h => h) (Or.inl ⟨by rfl, ?_⟩) hHeld ?_
        rotate_left
        · ((intro w hSw; (try dsimp only at hSw); go_simp); all_goals with_reducible rfl)
        (try simp only [Act.put, List.setIfInBounds_toArray, List.set_cons_zero, List.set_cons_succ])
        refine takeL 6 (v := ?_) rfl (by kernel_rfl) (by kernel_rfl) (by kernel_rfl) (fun _ _ _ h => h) (Or.inl ⟨by rfl, ?_⟩) hHeld ?_
        rotate_left
        · ((intro w hSw; (try dsimp only at hSw); go_simp); all_goals with_reducible rfl)
        (try simp only [Act.put, List.setIfInBounds_toArray, List.set_cons_zero, List.set_cons_succ])
        refine takeL 7 (v := ?_) rfl (by kernel_rfl) (by kernel_rfl) (by kernel_rfl) (fun _ _ _ h => h) (Or.inl ⟨by rfl, ?_⟩) hHeld ?_
        rotate_left
        · ((intro w hSw; (try dsimp only at hSw); go_simp); all_goals with_reducible rfl)
        (try simp only [Act.put, List.setIfInBounds_toArray, List.set_cons_zero, List.set_cons_succ])
        refine takeL 8 (v := ?_) rfl (by kernel_rfl) (by kernel_rfl) (by kernel_rfl) (fun _ _ _ h => h) (Or.inl ⟨by rfl, ?_⟩) hHeld ?_
        rotate_left
        · ((intro w hSw; (try dsimp only at hSw); go_simp); all_goals with_reducible rfl)
        (try simp only [Act.put, List.setIfInBounds_toArray, List.set_cons_zero, List.set_cons_succ])
        refine takeL 9 (v := ?_) rfl (by kernel_rfl) (by kernel_rfl) (by kernel_rfl) (fun _ _ _ h => h) (Or.inl ⟨by rfl, ?_⟩) hHeld ?_
        rotate_left
        · ((intro w hSw; (try dsimp only at hSw); go_simp); all_goals with_reducible rfl)
        (try simp only [Act.put, List.setIfInBounds_toArray, List.set_cons_zero, List.set_cons_succ])
        refine takeL 10 (v := ?_) rfl (by kernel_rfl) (by kernel_rfl) (by kernel_rfl) (fun _ _ _ h => h) (Or.inl ⟨by rfl, ?_⟩) hHeld ?_
        rotate_left
        · ((intro w hSw; (try dsimp only at hSw); go_simp); all_goals with_reducible rfl)
        (try simp only [Act.put, List.setIfInBounds_toArray, List.set_cons_zero, List.set_cons_succ])
        refine wpAnyH_ready (rs := [4, 11]) (by kernel_rfl) (by simp) ?_
        refine consL rfl (fun K hK => ?_) (consL rfl (fun K hK => ?_) AllReadyH.nil)
        · go_simp
          refine hK.out _ _ ?_ (fun hH2 => ?_)
          · ((try dsimp only); (first | go_keep | (go_split_ands; refine ⟨?_, ?_⟩; (rw [hg6.cell_far _ (by simp; omega) hneh.out]; assumption); (rw [hg6.frozen_far _ (by simp; omega) hneh.out]; assumption))))
          clear hK K hHeld
          have hHeld := hH2
          clear hH2
          (try simp only [Act.put, List.setIfInBounds_toArray, List.set_cons_zero, List.set_cons_succ])
          refine wpAnyH_ready (rs := [11]) (by kernel_rfl) (by simp) ?_
          refine consL rfl (fun K hK => ?_) AllReadyH.nil
          go_simp
          refine hK.out _ _ ?_ (fun hH2 => ?_)
          · ((try dsimp only); (first | go_keep | (go_split_ands; refine ⟨?_, ?_⟩; (rw [hg6.cell_far _ (by simp; omega) hneh.out]; assumption); (rw [hg6.frozen_far _ (by simp; omega) hneh.out]; assumption))))
          clear hK K hHeld
          have hHeld := hH2
          clear hH2
          (try simp only [Act.put, List.setIfInBounds_toArray, List.set_cons_zero, List.set_cons_succ])
          refine wpAnyH_ready (rs := [12]) (by kernel_rfl) (by simp) ?_
          refine consL rfl (fun K hK => ?_) AllReadyH.nil
          (refine step_appI (by rfl) _ _ (by rfl) (w2.heap.size + 2) vo (ofK bs k) (by rfl) (hvo5.al _) w5.heap.size 1 (j : Int) (by rfl) (ga_new w5 _) (by omega) (by simp; omega) ?_; intro g2 cap2 w6 hvo6 hg6 hat6 hlt6; have hc61 : w6.cell? ⟨w2.heap.size + 1, 1, none⟩ = some vo := (hg6.cell_far ⟨w2.heap.size + 1, 1, none⟩ (by simp; omega) hneh.out).trans (cell_al q52))
          refine hK.out _ _ ?_ (fun hH2 => ?_)
          · ((try dsimp only); (first | go_keep | (go_split_ands; refine ⟨?_, ?_⟩; (rw [hg6.cell_far _ (by simp; omega) hneh.out]; assumption); (rw [hg6.frozen_far _ (by simp; omega) hneh.out]; assumption))))
          clear hK K hHeld
          have hHeld := hH2
          clear hH2
          (try simp only [Act.put, List.setIfInBounds_toArray, List.set_cons_zero, List.set_cons_succ])
          refine takeL 13 (v := ?_) rfl (by kernel_rfl) (by kernel_rfl) (by kernel_rfl) (fun _ _ _ h => h) (Or.inl ⟨by rfl, ?_⟩) hHeld ?_
          rotate_left
          · ((intro w hSw; (try dsimp only at hSw); go_simp); all_goals with_reducible rfl)
          (try simp only [Act.put, List.setIfInBounds_toArray, List.set_cons_zero, List.set_cons_succ])
          refine takeL 14 (v := ?_) rfl (by kernel_rfl) (by kernel_rfl) (by kernel_rfl) (fun _ _ _ h => h) (Or.inl ⟨by rfl, ?_⟩) hHeld ?_
          rotate_left
          · ((intro w hSw; (try dsimp only at hSw); go_simp); all_goals with_reducible rfl)
          (try simp only [Act.put, List.setIfInBounds_toArray, List.set_cons_zero, List.set_cons_succ])
          refine wpAnyH_ready (rs := [15]) (by kernel_rfl) (by simp) ?_
          refine consL rfl (fun K hK => ?_) AllReadyH.nil
          go_simp
          refine hK.out _ _ ?_ (fun hH2 => ?_)
          · ((try dsimp only); (first | go_keep | (go_split_ands; refine ⟨?_, ?_⟩; (rw [hg6.cell_far _ (by simp; omega) hneh.out]; assumption); (rw [hg6.frozen_far _ (by simp; omega) hneh.out]; assumption))))
          clear hK K hHeld
          have hHeld := hH2
          clear hH2
          (try simp only [Act.put, List.setIfInBounds_toArray, List.set_cons_zero, List.set_cons_succ])
          refine wpAnyH_done (by kernel_rfl) ?_ _
          refine NoPanic.normal ?_
          clear hc15 hfz5 hwj hso q51 q52 hfr5
          go_wp2_with fail
          refine wp_name fun w7 hw7 => ?_
          have hbx6 : w6.heap[w2.heap.size + 1]? = some (.cells #[.slice (some ⟨g, 0, none⟩) (j + 1) cap, vo, .slice none 0 0, .slice none 0 0, .map (some w2.heap.size)] 82 (0, 0)) := (hg6.block _ (by simp; omega) hneh.out).trans (ga_old hbx5)
          have hbx7 : w7.heap[w2.heap.size + 1]? = some (.cells #[.slice (some ⟨g, 0, none⟩) (j + 1) cap, .slice (some ⟨g2, 0, none⟩) (k + 1) cap2, .slice none 0 0, .slice none 0 0, .map (some w2.heap.size)] 82 (0, 0)) := by rw [hw7]; exact set_blk hbx6 _
          have hgl5 := hvb5.lt (k := g) rfl
          have hvb7 : OwnB w7 (w2.heap.size + 2) (.slice (some ⟨g, 0, none⟩) (j + 1) cap) rows' := by
            rw [hw7]
            exact ((hvb5.al (.cells #[.int .i64 j] 3)).of_block (w1 := w6) fun i hi => by (have hi2 : g = i := Option.some.inj hi); subst hi2; exact hg6.block _ (by simp; omega) (fun e => hdj5 e.symm)).of_block fun i hi => setCell_other (by have hi2 : g = i := Option.some.inj hi; omega)
          have hg2P := (hvo6.lt (k := g2) rfl).1
          have hvo7 : OwnI w7 (w2.heap.size + 2) (.slice (some ⟨g2, 0, none⟩) (k + 1) cap2) (ofK bs (k + 1)) := by
            rw [hw7, ofK_succ, hjch.out]
            have h0 := hvo6
            rw [hvol] at h0
            rw [show ((j + 1 : Nat) : Int) - 1 = (j : Int) by omega]
            exact h0.of_block fun i hi => setCell_other (by have hi2 : g2 = i := Option.some.inj hi; omega)
          have hdj7 : g2 ≠ g := by
            rcases hat6 with h | h
            · intro e; rw [e] at h; exact hdj5 h
            · have h2 : g2 = (w5.alloc (.cells #[.int .i64 j] 3)).heap.size := h
              rw [World.size_alloc] at h2
              omega
          have hg7 : w3.grownBy w7 (some (w2.heap.size + 1)) := by
            rw [hw7]
            exact grow_set (grow_step (grow_drew (grow_al hg5 (.cells #[.int .i64 j] 3))) hg6 (fun i hi => .inl (by have := (hvo5.lt hi).1; have := hz3h.out; omega))) (.inr rfl)
          clear hw7 hbx6 hbx5 hvb5 hvo5 hvo6 hg6 hg5 hat6
          have hc7 := (box5 hbx7).1
          have hfl7 := (Array.getElem?_eq_some_iff.1 hbx7).1
          obtain ⟨r, hr⟩ : ∃ r, rows'[j]? = some r := ⟨_, List.getElem?_eq_getElem (by rw [hjh.out]; omega)⟩
          have hcr := (hvb7.cells hr).2.1
          have hfr := hvb7.free (j * 3 + 1)
          have hglw := (hvb7.lt (k := g) rfl).2
          clear hr
          have hwj : IntKind.i64.wrap (j : Int) = (j : Int) := IntWalk.i64_in _ (by omega)
          have hwk : IntKind.i64.wrap ((k : Int) + 1) = (k : Int) + 1 := IntWalk.i64_in _ (by omega)
          have hso : ∀ (w' : World) (u : Value), (w'.setCell ⟨g, j * 3 + 1, none⟩ u).cell? ⟨w2.heap.size + 1, 0, none⟩ = w'.cell? ⟨w2.heap.size + 1, 0, none⟩ := fun _ _ => set_other (by omega)
          have hj0 : (0 : Int) ≤ (j : Int) := Int.natCast_nonneg _
          have hj1 : (j : Int) < (j : Int) + 1 := by omega
          have hj2 : (j : Int) < ((j + 1 : Nat) : Int) := by omega
          have hj3 : IntKind.i64.wrap ((j : Int) + 1 - 1) = (j : Int) := by rw [Int.add_sub_cancel]; exact hwj
          go_region_held3 (fun w' => w'.cell? ⟨w2.heap.size + 1, 0, none⟩ = some (.slice (some ⟨g, 0, none⟩) (j + 1) cap)) (go_keep) (fail)
          clear hwj hwk hso hj0 hj1 hj2 hj3
          go_wp2_with fail
          go_roundw
          case rel =>
            refine ⟨k + 1, _, _, by omega, by go_num, (show _ from (setCell_other (w := w7) (by omega)).trans hbx7), ?_, ?_, ?_, ?_⟩
            · rw [hrsh.out]
              exact hvb7.setEnd hjh.out ((k : Int) + 1)
            · exact hvo7.of_block fun i hi => setCell_other (by have hi2 : g2 = i := Option.some.inj hi; omega)
            · intro i hi hi'
              have h1 : g = i := Option.some.inj hi
              have h2 : g2 = i := Option.some.inj hi'
              omega
            · exact grow_drew (grow_set hg7 (.inl (by have := hz3h.out; omega)))
          case measure => simp [intOf]; omega
        · go_simp
          refine hK.out _ _ ?_ (fun hH2 => ?_)
          · ((try dsimp only); (first | go_keep | (go_split_ands; refine ⟨?_, ?_⟩; (rw [hg6.cell_far _ (by simp; omega) hneh.out]; assumption); (rw [hg6.frozen_far _ (by simp; omega) hneh.out]; assumption))))
          clear hK K hHeld
          have hHeld := hH2
          clear hH2
          (try simp only [Act.put, List.setIfInBounds_toArray, List.set_cons_zero, List.set_cons_succ])
          refine wpAnyH_ready (rs := [4]) (by kernel_rfl) (by simp) ?_
          refine consL rfl (fun K hK => ?_) AllReadyH.nil
          go_simp
          refine hK.out _ _ ?_ (fun hH2 => ?_)
          · ((try dsimp only); (first | go_keep | (go_split_ands; refine ⟨?_, ?_⟩; (rw [hg6.cell_far _ (by simp; omega) hneh.out]; assumption); (rw [hg6.frozen_far _ (by simp; omega) hneh.out]; assumption))))
          clear hK K hHeld
          have hHeld := hH2
          clear hH2
          (try simp only [Act.put, List.setIfInBounds_toArray, List.set_cons_zero, List.set_cons_succ])
          refine wpAnyH_ready (rs := [12]) (by kernel_rfl) (by simp) ?_
          refine consL rfl (fun K hK => ?_) AllReadyH.nil
          (refine step_appI (by rfl) _ _ (by rfl) (w2.heap.size + 2) vo (ofK bs k) (by rfl) (hvo5.al _) w5.heap.size 1 (j : Int) (by rfl) (ga_new w5 _) (by omega) (by simp; omega) ?_; intro g2 cap2 w6 hvo6 hg6 hat6 hlt6; have hc61 : w6.cell? ⟨w2.heap.size + 1, 1, none⟩ = some vo := (hg6.cell_far ⟨w2.heap.size + 1, 1, none⟩ (by simp; omega) hneh.out).trans (cell_al q52))
          refine hK.out _ _ ?_ (fun hH2 => ?_)
          · ((try dsimp only); (first | go_keep | (go_split_ands; refine ⟨?_, ?_⟩; (rw [hg6.cell_far _ (by simp; omega) hneh.out]; assumption); (rw [hg6.frozen_far _ (by simp; omega) hneh.out]; assumption))))
          clear hK K hHeld
          have hHeld := hH2
          clear hH2
          (try simp only [Act.put, List.setIfInBounds_toArray, List.set_cons_zero, List.set_cons_succ])
          refine takeL 13 (v := ?_) rfl (by kernel_rfl) (by kernel_rfl) (by kernel_rfl) (fun _ _ _ h => h) (Or.inl ⟨by rfl, ?_⟩) hHeld ?_
          rotate_left
          · ((intro w hSw; (try dsimp only at hSw); go_simp); all_goals with_reducible rfl)
          (try simp only [Act.put, List.setIfInBounds_toArray, List.set_cons_zero, List.set_cons_succ])
          refine takeL 14 (v := ?_) rfl (by kernel_rfl) (by kernel_rfl) (by kernel_rfl) (fun _ _ _ h => h) (Or.inl ⟨by rfl, ?_⟩) hHeld ?_
          rotate_left
          · ((intro w hSw; (try dsimp only at hSw); go_simp); all_goals with_reducible rfl)
          (try simp only [Act.put, List.setIfInBounds_toArray, List.set_cons_zero, List.set_cons_succ])
          refine wpAnyH_ready (rs := [15]) (by kernel_rfl) (by simp) ?_
          refine consL rfl (fun K hK => ?_) AllReadyH.nil
          go_simp
          refine hK.out _ _ ?_ (fun hH2 => ?_)
          · ((try dsimp only); (first | go_keep | (go_split_ands; refine ⟨?_, ?_⟩; (rw [hg6.cell_far _ (by simp; omega) hneh.out]; assumption); (rw [hg6.frozen_far _ (by simp; omega) hneh.out]; assumption))))
          clear hK K hHeld
          have hHeld := hH2
          clear hH2
          (try simp only [Act.put, List.setIfInBounds_toArray, List.set_cons_zero, List.set_cons_succ])
          refine wpAnyH_done (by kernel_rfl) ?_ _
          refine NoPanic.normal ?_
          clear hc15 hfz5 hwj hso q51 q52 hfr5
          go_wp2_with fail
          refine wp_name fun w7 hw7 => ?_
          have hbx6 : w6.heap[w2.heap.size + 1]? = some (.cells #[.slice (some ⟨g, 0, none⟩) (j + 1) cap, vo, .slice none 0 0, .slice none 0 0, .map (some w2.heap.size)] 82 (0, 0)) := (hg6.block _ (by simp; omega) hneh.out).trans (ga_old hbx5)
          have hbx7 : w7.heap[w2.heap.size + 1]? = some (.cells #[.slice (some ⟨g, 0, none⟩) (j + 1) cap, .slice (some ⟨g2, 0, none⟩) (k + 1) cap2, .slice none 0 0, .slice none 0 0, .map (some w2.heap.size)] 82 (0, 0)) := by rw [hw7]; exact set_blk hbx6 _
          have hgl5 := hvb5.lt (k := g) rfl
          have hvb7 : OwnB w7 (w2.heap.size + 2) (.slice (some ⟨g, 0, none⟩) (j + 1) cap) rows' := by
            rw [hw7]
            exact ((hvb5.al (.cells #[.int .i64 j] 3)).of_block (w1 := w6) fun i hi => by (have hi2 : g = i := Option.some.inj hi); subst hi2; exact hg6.block _ (by simp; omega) (fun e => hdj5 e.symm)).of_block fun i hi => setCell_other (by have hi2 : g = i := Option.some.inj hi; omega)
          have hg2P := (hvo6.lt (k := g2) rfl).1
          have hvo7 : OwnI w7 (w2.heap.size + 2) (.slice (some ⟨g2, 0, none⟩) (k + 1) cap2) (ofK bs (k + 1)) := by
            rw [hw7, ofK_succ, hjch.out]
            have h0 := hvo6
            rw [hvol] at h0
            rw [show ((j + 1 : Nat) : Int) - 1 = (j : Int) by omega]
            exact h0.of_block fun i hi => setCell_other (by have hi2 : g2 = i := Option.some.inj hi; omega)
          have hdj7 : g2 ≠ g := by
            rcases hat6 with h | h
            · intro e; rw [e] at h; exact hdj5 h
            · have h2 : g2 = (w5.alloc (.cells #[.int .i64 j] 3)).heap.size := h
              rw [World.size_alloc] at h2
              omega
          have hg7 : w3.grownBy w7 (some (w2.heap.size + 1)) := by
            rw [hw7]
            exact grow_set (grow_step (grow_drew (grow_al hg5 (.cells #[.int .i64 j] 3))) hg6 (fun i hi => .inl (by have := (hvo5.lt hi).1; have := hz3h.out; omega))) (.inr rfl)
          clear hw7 hbx6 hbx5 hvb5 hvo5 hvo6 hg6 hg5 hat6
          have hc7 := (box5 hbx7).1
          have hfl7 := (Array.getElem?_eq_some_iff.1 hbx7).1
          obtain ⟨r, hr⟩ : ∃ r, rows'[j]? = some r := ⟨_, List.getElem?_eq_getElem (by rw [hjh.out]; omega)⟩
          have hcr := (hvb7.cells hr).2.1
          have hfr := hvb7.free (j * 3 + 1)
          have hglw := (hvb7.lt (k := g) rfl).2
          clear hr
          have hwj : IntKind.i64.wrap (j : Int) = (j : Int) := IntWalk.i64_in _ (by omega)
          have hwk : IntKind.i64.wrap ((k : Int) + 1) = (k : Int) + 1 := IntWalk.i64_in _ (by omega)
          have hso : ∀ (w' : World) (u : Value), (w'.setCell ⟨g, j * 3 + 1, none⟩ u).cell? ⟨w2.heap.size + 1, 0, none⟩ = w'.cell? ⟨w2.heap.size + 1, 0, none⟩ := fun _ _ => set_other (by omega)
          have hj0 : (0 : Int) ≤ (j : Int) := Int.natCast_nonneg _
          have hj1 : (j : Int) < (j : Int) + 1 := by omega
          have hj2 : (j : Int) < ((j + 1 : Nat) : Int) := by omega
          have hj3 : IntKind.i64.wrap ((j : Int) + 1 - 1) = (j : Int) := by rw [Int.add_sub_cancel]; exact hwj
          go_region_held3 (fun w' => w'.cell? ⟨w2.heap.size + 1, 0, none⟩ = some (.slice (some ⟨g, 0, none⟩) (j + 1) cap)) (go_keep) (fail)
          clear hwj hwk hso hj0 hj1 hj2 hj3
          go_wp2_with fail
          go_roundw
          case rel =>
            refine ⟨k + 1, _, _, by omega, by go_num, (show _ from (setCell_other (w := w7) (by omega)).trans hbx7), ?_, ?_, ?_, ?_⟩
            · rw [hrsh.out]
              exact hvb7.setEnd hjh.out ((k : Int) + 1)
            · exact hvo7.of_block fun i hi => setCell_other (by have hi2 : g2 = i := Option.some.inj hi; omega)
            · intro i hi hi'
              have h1 : g = i := Option.some.inj hi
              have h2 : g2 = i := Option.some.inj hi'
              omega
            · exact grow_drew (grow_set hg7 (.inl (by have := hz3h.out; omega)))
          case measure => simp [intOf]; omega
      -- END
    · obtain ⟨wa, rfl⟩ : ∃ wa : World, wa = wr := ⟨_, rfl⟩
      obtain rfl : k = c.instrs.length := by omega
      have hltn : ¬ (c.instrs.length : Int) < c.instrs.length := by omega
      have hcl := rowsK_len bs c.instrs.length
      have hcp := cnt_pos hb0h.out (show 0 < c.instrs.length by omega)
      have hcle := cnt_le bs c.instrs.length
      obtain ⟨M, hM⟩ : ∃ M, M = cnt bs c.instrs.length := ⟨_, rfl⟩
      rw [← hM] at hcl hcp hcle
      obtain ⟨g, cap, cur, rfl, hgP, hgblk, hcap, hcur⟩ := hvb.form (by omega)
      rw [hcl] at hbx hvb hcap hcur
      have hfl := (Array.getElem?_eq_some_iff.1 hbx).1
      have hglw := (hvb.lt (k := g) rfl).2
      have hmk := mk_bools M (by omega)
      have hMh := Lib.hid hM
      have hclh := Lib.hid hcl
      have hgblkh := Lib.hid hgblk
      have hcurh := Lib.hid hcur
      have hvol := ofK_len bs c.instrs.length
      have hdjg : vo.ownBlock ≠ some g := hdjh.out g rfl
      clear hlt hM hcl hgblk hcur hdjh hbx3
      have q0 := (box5 hbx).1
      have q2 := (box5 hbx).2.2.1
      have q3 := (box5 hbx).2.2.2.1
      have f2 := free_blk hbx 2
      have f3 := free_blk hbx 3
      have hn2 : ∀ (w' : World) (u : Value), (w'.setCell ⟨w2.heap.size + 1, 2, none⟩ u).cell? ⟨w2.heap.size + 1, 0, none⟩ = w'.cell? ⟨w2.heap.size + 1, 0, none⟩ := fun _ _ => set_off (by decide)
      have hn3 : ∀ (w' : World) (u : Value), (w'.setCell ⟨w2.heap.size + 1, 3, none⟩ u).cell? ⟨w2.heap.size + 1, 0, none⟩ = w'.cell? ⟨w2.heap.size + 1, 0, none⟩ := fun _ _ => set_off (by decide)
      have hn4 : ∀ (w' : World) (u : Value), (w'.setCell ⟨w2.heap.size + 1, 2, none⟩ u).cell? ⟨w2.heap.size + 1, 3, none⟩ = w'.cell? ⟨w2.heap.size + 1, 3, none⟩ := fun _ _ => set_off (by decide)
      have hn5 : ∀ (w' : World) (u : Value), (w'.setCell ⟨w2.heap.size + 1, 3, none⟩ u).cell? ⟨w2.heap.size + 1, 2, none⟩ = w'.cell? ⟨w2.heap.size + 1, 2, none⟩ := fun _ _ => set_off (by decide)
      have hc20 : ∀ o, (wa.alloc o).cell? ⟨w2.heap.size + 1, 2, none⟩ = some (.slice none 0 0) := fun o => cell_al q2
      have hc30 : ∀ o, (wa.alloc o).cell? ⟨w2.heap.size + 1, 3, none⟩ = some (.slice none 0 0) := fun o => cell_al q3
      have hc21 : ∀ o o', ((wa.alloc o).alloc o').cell? ⟨w2.heap.size + 1, 2, none⟩ = some (.slice none 0 0) := fun o o' => cell_al (cell_al q2)
      have hc31 : ∀ o o', ((wa.alloc o).alloc o').cell? ⟨w2.heap.size + 1, 3, none⟩ = some (.slice none 0 0) := fun o o' => cell_al (cell_al q3)
      have hz20 : ∀ o, (wa.alloc o).frozen? ⟨w2.heap.size + 1, 2, none⟩ = false := fun o => frz_al f2 hfl
      have hz30 : ∀ o, (wa.alloc o).frozen? ⟨w2.heap.size + 1, 3, none⟩ = false := fun o => frz_al f3 hfl
      have hz21 : ∀ o o', ((wa.alloc o).alloc o').frozen? ⟨w2.heap.size + 1, 2, none⟩ = false := fun o o' => frz_al (frz_al f2 hfl) (by simp; omega)
      have hz31 : ∀ o o', ((wa.alloc o).alloc o').frozen? ⟨w2.heap.size + 1, 3, none⟩ = false := fun o o' => frz_al (frz_al f3 hfl) (by simp; omega)
      have hz2s : ∀ a u o, ((wa.setCell a u).alloc o).frozen? ⟨w2.heap.size + 1, 2, none⟩ = false := fun a u o => frz_al (frz_set f2) (by rw [size_set]; exact hfl)
      have hz3s : ∀ a u o, ((wa.setCell a u).alloc o).frozen? ⟨w2.heap.size + 1, 3, none⟩ = false := fun a u o => frz_al (frz_set f3) (by rw [size_set]; exact hfl)
      have hz2t : ∀ a u o o', (((wa.setCell a u).alloc o).alloc o').frozen? ⟨w2.heap.size + 1, 2, none⟩ = false := fun a u o o' => frz_al (hz2s a u o) (by rw [World.size_alloc, size_set]; show w2.heap.size + 1 < _; omega)
      have hz3t : ∀ a u o o', (((wa.setCell a u).alloc o).alloc o').frozen? ⟨w2.heap.size + 1, 3, none⟩ = false := fun a u o o' => frz_al (hz3s a u o) (by rw [World.size_alloc, size_set]; show w2.heap.size + 1 < _; omega)
      have hc3t : ∀ u o o', (((wa.setCell ⟨w2.heap.size + 1, 2, none⟩ u).alloc o).alloc o').cell? ⟨w2.heap.size + 1, 3, none⟩ = some (.slice none 0 0) := fun u o o' => cell_al (cell_al ((set_off (by decide)).trans q3))
      have hc3s : ∀ u o, ((wa.setCell ⟨w2.heap.size + 1, 2, none⟩ u).alloc o).cell? ⟨w2.heap.size + 1, 3, none⟩ = some (.slice none 0 0) := fun u o => cell_al ((set_off (by decide)).trans q3)
      go_upto_region 12 with fail
      go_cut [5] (fun s5 wx => s5 = .pointer (some ⟨w2.heap.size + 1, 0, none⟩) ∧ ∃ ge gr : Nat, ge ≠ gr ∧ wa.heap.size ≤ ge ∧ wa.heap.size ≤ gr ∧
        wx.heap[w2.heap.size + 1]? = some (.cells #[.slice (some ⟨g, 0, none⟩) M cap, vo, .slice (some ⟨ge, 0, none⟩) M M, .slice (some ⟨gr, 0, none⟩) M M, .map (some w2.heap.size)] 82 (0, 0)) ∧
        ArrB wx ge (List.replicate M false) ∧ ArrB wx gr (List.replicate M false) ∧ wa.grownBy wx (some (w2.heap.size + 1)))
      -- BEGIN
      case first =>
        go_region_held3 (fun w' => w'.cell? ⟨w2.heap.size + 1, 0, none⟩ = some (.slice (some ⟨g, 0, none⟩) M cap) ∧ w'.frozen? ⟨w2.heap.size + 1, 2, none⟩ = false ∧ w'.frozen? ⟨w2.heap.size + 1, 3, none⟩ = false)
          (first
            | go_keep) (fail)
        all_goals (go_wp2_with fail; go_meet)
        case rel => exact ⟨rfl, wa.heap.size, wa.heap.size + 1, by omega, by omega, by omega, (bools2 hbx).1, (bools2 hbx).2.1, (bools2 hbx).2.2.1, grow_drew (bools2 hbx).2.2.2⟩
        case rel => exact ⟨rfl, wa.heap.size, wa.heap.size + 1, by omega, by omega, by omega, (bools2' hbx).1, (bools2' hbx).2.1, (bools2' hbx).2.2.1, grow_drew (bools2' hbx).2.2.2⟩
        case rel => exact ⟨rfl, wa.heap.size + 1, wa.heap.size, by omega, by omega, by omega, (bools2 hbx).1, (bools2 hbx).2.2.1, (bools2 hbx).2.1, grow_drew (bools2 hbx).2.2.2⟩
      -- END
      case rest =>
        clear hc20 hc30 hc21 hc31 hz20 hz30 hz21 hz31 hz2s hz3s hz2t hz3t hc3t hc3s hn2 hn3 hn4 hn5 q0 q2 q3 f2 f3 hmk
        obtain ⟨rfl, ge, gr, hner, hge, hgr, hbxc, hAe, hArr, hgc⟩ := hcut
        have G := hg.trans hgc
        have hsc : Sees wc (extH H w w2) := fun i o e => by
          have h1 := hs2.lt e
          exact (G.block i (by have := hB23.size; omega) (fun e2 => by have := Option.some.inj e2; omega)).trans ((hB23.block i h1).trans (hs2 i o e))
        have hscH : Sees wc H := fun i o e => hsc i o (hHle i o e)
        have hxc : wc.heap[w.heap.size]? = some (.cells #[s0, s1, s2, s3, s4, s5, s6] 30 (0, 0)) := (G.block _ (by have := hB23.size; omega) (fun e2 => by have := Option.some.inj e2; omega)).trans ((hB23.block _ (by omega)).trans hx2)
        have hMc : MapL encI wc w2.heap.size [] := hM3.of_block (G.block _ (by have := hz3h.out; omega) (fun e2 => by have := Option.some.inj e2; omega))
        obtain ⟨go, capo, rfl, hcapo, hgoP, hgol, hocell⟩ := hvo.form (by rw [hvol]; omega)
        rw [hvol] at hbxc hocell hcapo
        have q := box7 hxc
        have hlc : w.heap.size < wc.heap.size := (Array.getElem?_eq_some_iff.1 hxc).1
        have hEc := hE.out wc hscH
        go_wp2_with (go_at_call 90; refine hEc.mono ?_; rintro e w4 ⟨⟨ve, rfl, hve⟩, hB4⟩; obtain ⟨Ae, ce, rfl, -⟩ := hve.len_form; clear q)
        have hge4 : ArrB w4 ge (List.replicate M false) := hAe.of_block (hB4.block _ hAe.lt)
        have hb4 : w4.heap[w2.heap.size + 1]? = some (.cells #[.slice (some ⟨g, 0, none⟩) M cap, .slice (some ⟨go, 0, none⟩) c.instrs.length capo, .slice (some ⟨ge, 0, none⟩) M M, .slice (some ⟨gr, 0, none⟩) M M, .map (some w2.heap.size)] 82 (0, 0)) := blk_keep hB4 hbxc
        have hgoc : w4.heap[go]? = wa.heap[go]? := (hB4.block _ (by have := hgc.size; omega)).trans (hgc.block _ hgol (fun e2 => by have := Option.some.inj e2; omega))
        have hs4 : Sees w4 (extH H w w2) := hsc.below hB4
        have hMi := Lib.hid ((Marks.none_ M).congr (q := fun i => ∃ p ∈ (entriesL c).take 0, ofI bs p = i) fun j _ => ⟨fun h => h.elim, fun ⟨p, hp, _⟩ => by simp at hp⟩)
        have hElen := entries_len hfine.out
        have hgac := hgc.size
        have hge4l := hge4.lt
        have hgew := hAe.lt
        clear hAe hEc
        go_loopw [100] (fun i wr => ∃ (k : Nat) (bsE : List Bool), k ≤ (entriesL c).length ∧ i = .int .i64 k ∧ ArrB wr ge bsE ∧ Aside (Marks bsE M (fun i => ∃ p ∈ (entriesL c).take k, ofI bs p = i)) ∧ w4.grownBy wr (some ge)) (fun i _ => (entriesL c).length - (intOf i).toNat)
        case atStart => exact ⟨0, _, Nat.zero_le _, rfl, hge4, hMi.out, grown_refl _ _⟩
        clear hge4 hMi
        case round =>
          obtain ⟨k, bsE, hk, rfl, hAE, hME, hgE⟩ := hrel
          have hMEh := Lib.hid hME
          clear hME
          have hbr := (hgE.block _ (Array.getElem?_eq_some_iff.1 hb4).1 (fun e2 => by have := Option.some.inj e2; omega)).trans hb4
          have hgow : wr.heap[go]? = wa.heap[go]? := (hgE.block go (by have := hB4.size; omega) (fun e2 => by have := Option.some.inj e2; omega)).trans hgoc
          by_cases hlt : k < (entriesL c).length
          ·
            -- BEGIN
            have hve' := hve.of_block (w1 := wr) (fun j hj => hgE.block j (hve.lt hj).2 (fun e => by have := Option.some.inj e; have := (hve.lt hj).1; omega))
            obtain ⟨g9, cap9, hve9, -, -, hgl9, hcell9⟩ := hve'.form (by omega)
            cases hve9
            have hcl := hcell9 k hlt
            have hmem := List.getElem_mem hlt
            have hx : (entriesL c).getD k 0 = (entriesL c)[k] := by simp [hlt]
            rw [← hx] at hmem
            have hin := hEin.out _ hmem
            obtain ⟨q, hq⟩ : ∃ q : Nat, (entriesL c).getD k 0 = (q : Int) := ⟨((entriesL c).getD k 0).toNat, by omega⟩
            rw [hq] at hcl hin
            have hqn : q < c.instrs.length := by omega
            have hqh := Lib.hid (show (entriesL c).take (k + 1) = (entriesL c).take k ++ [(q : Int)] by rw [List.take_add_one, List.getElem?_eq_getElem hlt, ← hx, hq]; rfl)
            have hoc := hocell q hqn
            rw [ofK_at bs hqn] at hoc
            obtain ⟨z, hz⟩ : ∃ z : Nat, ofI bs q = (z : Int) := ⟨(ofI bs q).toNat, by have := ofI_range hb0h.out hqn; omega⟩
            have hzr := ofI_range hb0h.out hqn
            rw [← hMh.out, hz] at hzr
            have hzM : z < M := by omega
            rw [hz] at hoc
            replace hoc := (World.cell?_of_block (a := ⟨go, q, none⟩) hgow).trans hoc
            have hac := hAE.cell (j := z) (by rw [hMEh.out.len]; exact hzM)
            have haf := hAE.free z
            have hzh := Lib.hid hz
            have c1 := (box5 hbr).2.1
            have c2 := (box5 hbr).2.2.1
            have hfl := (Array.getElem?_eq_some_iff.1 hbr).1
            generalize bsE.getD z false = ob at hac
            clear hcell9 hx hq hmem hz
            have hz0 : (0 : Int) ≤ (z : Int) := Int.natCast_nonneg _
            have hz1 : (z : Int) < (M : Int) := by omega
            have hq0 : (0 : Int) ≤ (q : Int) := Int.natCast_nonneg _
            have hq1 : (q : Int) < (c.instrs.length : Int) := by omega
            go_wp2_with fail
            have hso1 : ∀ (w' : World) (u : Value), (w'.setCell ⟨ge, z, none⟩ u).cell? ⟨w2.heap.size + 1, 1, none⟩ = w'.cell? ⟨w2.heap.size + 1, 1, none⟩ := fun _ _ => set_other (by omega)
            have hso2 : ∀ (w' : World) (u : Value), (w'.setCell ⟨ge, z, none⟩ u).cell? ⟨w2.heap.size + 1, 2, none⟩ = w'.cell? ⟨w2.heap.size + 1, 2, none⟩ := fun _ _ => set_other (by omega)
            have hso3 : ∀ (w' : World) (u : Value), (w'.setCell ⟨ge, z, none⟩ u).cell? ⟨go, q, none⟩ = w'.cell? ⟨go, q, none⟩ := fun _ _ => set_other (by omega)
            go_region_held3 (fun w' => w'.cell? ⟨w2.heap.size + 1, 1, none⟩ = some (.slice (some ⟨go, 0, none⟩) c.instrs.length capo) ∧ w'.cell? ⟨w2.heap.size + 1, 2, none⟩ = some (.slice (some ⟨ge, 0, none⟩) M M) ∧ w'.cell? ⟨go, q, none⟩ = some (.int .i64 z)) (go_keep) (fail)
            clear hso1 hso2 hso3
            go_wp2_with fail
            go_roundw
            case rel =>
              refine ⟨k + 1, bsE.set z true, by omega, by go_num, hAE.set z true, (hMEh.out.set hzM).congr fun j _ => ?_, grow_drew (grow_set hgE (.inr rfl))⟩
              rw [hqh.out]
              constructor
              · rintro (⟨p, hp, h⟩ | rfl)
                · exact ⟨p, List.mem_append_left _ hp, h⟩
                · exact ⟨(q : Int), by simp, hzh.out⟩
              · rintro ⟨p, hp, h⟩
                rcases List.mem_append.1 hp with hp | hp
                · exact .inl ⟨p, hp, h⟩
                · simp at hp
                  subst hp
                  rw [hzh.out] at h
                  exact .inr (by omega)
            case measure => simp [intOf]; omega
            -- END
          · obtain rfl : k = (entriesL c).length := by omega
            have hltn2 : ¬ ((entriesL c).length : Int) < (entriesL c).length := by omega
            have hs5 : Sees wr (extH H w w2) := hs4.grown hgE (hs2.fresh (by omega))
            have hs5H : Sees wr H := fun i o e => hs5 i o (hHle i o e)
            have hxr : wr.heap[w.heap.size]? = some (.cells #[s0, s1, s2, s3, s4, s5, s6] 30 (0, 0)) := (hgE.block _ (by have := hB4.size; omega) (fun e2 => by have := Option.some.inj e2; omega)).trans (blk_keep hB4 hxc)
            have q := box7 hxr
            have hlr : w.heap.size < wr.heap.size := (Array.getElem?_eq_some_iff.1 hxr).1
            have hRr := hRd.out wr hs5H
            go_wp2_with (go_at_call 91; refine hRr.mono ?_; rintro e w5 ⟨⟨gR, rs, rfl, hgR, hAR, hRl, hRq⟩, hB5⟩; have hb5 := blk_keep hB5 hbr; clear q; have q := box5 hb5)
            have hblk5 : ∀ b, b < wa.heap.size → b ≠ w2.heap.size + 1 → w5.heap[b]? = wa.heap[b]? := fun b h1 h2 =>
              (hB5.block b (by have := hB4.size; have := hgE.size; omega)).trans ((hgE.block b (by have := hB4.size; omega) (fun e2 => by have := Option.some.inj e2; omega)).trans ((hB4.block b (by omega)).trans (hgc.block b h1 (fun e2 => h2 (Option.some.inj e2)))))
            have hblkI : BlkI w5 g (rowsK bs c.instrs.length) fun _ => nilV := by
              refine ⟨cur, (hblk5 g hglw (by omega)).trans hgblkh.out, fun i r hi => ?_⟩
              obtain ⟨a, b, d⟩ := rowCells_at hi
              have hil := (List.getElem?_eq_some_iff.1 hi).1
              rw [hclh.out] at hil
              have key : ∀ j u, j < M * 3 → (rowCells (rowsK bs c.instrs.length))[j]? = some u → cur[j]? = some u := fun j u hj hu => by
                rw [← hu, ← hcurh.out, List.getElem?_take, if_pos hj, Array.getElem?_toList]
              exact ⟨key _ _ (by omega) a, key _ _ (by omega) b, key _ _ (by omega) d⟩
            have hArr5 : ArrB w5 gr (List.replicate (rowsK bs c.instrs.length).length false) := by
              rw [hclh.out]
              exact hArr.of_block ((hB5.block gr (by have := hB4.size; have := hgE.size; have := hArr.lt; omega)).trans ((hgE.block gr (by have := hB4.size; have := hArr.lt; omega) (fun e2 => by have := Option.some.inj e2; omega)).trans (hB4.block gr hArr.lt)))
            have hM5 : MapL encI w5 w2.heap.size [] := hMc.of_block ((hB5.block _ (by have := hB4.size; have := hgE.size; omega)).trans ((hgE.block _ (by have := hB4.size; omega) (fun e2 => by have := Option.some.inj e2; omega)).trans (hB4.block _ (by omega))))
            have hs6 : Sees w5 (extH H w w2) := hs5.below hB5
            have hBw5 : Below w.heap.size w w5 := by
              have h1 : Below w.heap.size w w3 := bstep hBw2 hB23
              have h2 := h1.grown G h1.size (fun j hj => by have := Option.some.inj hj; omega)
              have h3 := bstep h2 hB4
              have h4 := h3.grown hgE h3.size (fun j hj => by have := Option.some.inj hj; omega)
              exact bstep h4 hB5
            obtain ⟨K0, hK0⟩ : ∃ K0 : PH, K0 = fun b => if b < w.heap.size then H b else if b = g ∨ b = gr ∨ b = w2.heap.size then none else w5.heap[b]? := ⟨_, rfl⟩
            have hKs : Sees w5 K0 := by
              intro i o e
              rw [hK0] at e
              dsimp only at e
              split at e
              · exact hs6 i o (hHle i o e)
              · split at e
                · cases e
                · exact e
            have hKe : PH.le (extH H w w2) K0 := by
              intro i o e
              have h1 := hs2.lt e
              rw [hK0]
              dsimp only
              split
              · rename_i h; unfold extH at e; rw [if_pos h] at e; exact e
              · rw [if_neg (by omega)]; exact hs6 i o e
            have hKlow : ∀ b, b < w.heap.size → K0 b = H b := fun b hb => by rw [hK0]; dsimp only; rw [if_pos hb]
            have hKat : ∀ b, w.heap.size ≤ b → b ≠ g → b ≠ gr → b ≠ w2.heap.size → K0 b = w5.heap[b]? := fun b h1 h2 h3 h4 => by rw [hK0]; dsimp only; rw [if_neg (by omega), if_neg (by simp [h2, h3, h4])]
            have hKno : ∀ b, w.heap.size ≤ b → (b = g ∨ b = gr ∨ b = w2.heap.size) → K0 b = none := fun b h1 h2 => by rw [hK0]; dsimp only; rw [if_neg (by omega), if_pos h2]
            have hK5 : K0 (w2.heap.size + 1) = some (.cells #[.slice (some ⟨g, 0, none⟩) M cap, .slice (some ⟨go, 0, none⟩) c.instrs.length capo, .slice (some ⟨ge, 0, none⟩) M M, .slice (some ⟨gr, 0, none⟩) M M, .map (some w2.heap.size)] 82 (0, 0)) := (hKat _ (by omega) (by omega) (by omega) (by omega)).trans hb5
            have hKR : K0 gR = w5.heap[gR]? := hKat gR (by omega) (by have := hgE.size; have := hB4.size; omega) (by have := hgE.size; have := hB4.size; have := hArr.lt; omega) (by have := hgE.size; have := hB4.size; omega)
            have hgRne : gR ≠ gr := by have := hgE.size; have := hB4.size; have := hArr.lt; omega
            have hKo : K0 go = w5.heap[go]? := hKat go (by omega) (fun e => hdjg (by rw [e]; rfl)) (by omega) (by omega)
            have hKE : K0 ge = w5.heap[ge]? := hKat ge (by omega) (by omega) (by omega) (by omega)
            have hI0 := FlowI.init (nx := nxF c bs) (rs := rs) hblkI hArr5 hM5 hKs (hKno g (by omega) (.inl rfl)) (hKno gr (by omega) (.inr (.inl rfl))) (hKno _ (by omega) (.inr (.inr rfl))) (by omega) (by omega) (by omega) ⟨by omega, by omega, by omega⟩ hBw5
            clear q
            have hblkK := Lib.hid (fun (wx : World) (K : PH) (hs : Sees wx K) (hl : PH.le K0 K) => (show wx.heap[go]? = w5.heap[go]? ∧ wx.heap[gR]? = w5.heap[gR]? ∧ wx.heap[w2.heap.size + 1]? = w5.heap[w2.heap.size + 1]? from by
              have key : ∀ b, b < w5.heap.size → K0 b = w5.heap[b]? → wx.heap[b]? = w5.heap[b]? := fun b hb e => by
                rw [Array.getElem?_eq_getElem hb] at e ⊢
                exact hs b _ (hl b _ e)
              have hz5 := hB5.size
              have hz4 := hB4.size
              have hzE := hgE.size
              exact ⟨key go (by omega) hKo, key gR hAR.lt hKR, key _ (by omega) (hKat _ (by omega) (by omega) (by omega) (by omega))⟩))
            have hoc5 := Lib.hid (fun (q : Nat) (hq : q < c.instrs.length) => (World.cell?_of_block (a := ⟨go, q, none⟩) (hblk5 go (by omega) (by omega))).trans (hocell q hq))
            have hz5s : wa.heap.size ≤ w5.heap.size := by have := hB5.size; have := hB4.size; have := hgE.size; omega
            have hARh := Lib.hid hAR
            have hRlh := Lib.hid hRl
            have hRqh := Lib.hid hRq
            have hKeh := Lib.hid hKe
            have hKlowh := Lib.hid hKlow
            have hb5h := Lib.hid hb5
            have hK5h := Lib.hid hK5
            have hKoh := Lib.hid hKo
            have hKEh := Lib.hid hKE
            have hAEl : bsE.length = M := hMEh.out.len
            have hof : SlV rInt K0 (.slice (some ⟨go, 0, none⟩) c.instrs.length capo) (ofK bs c.instrs.length) := by
              have h1 := hvo.of_block (w1 := w5) fun b hb => hblk5 b (by have hb2 : go = b := Option.some.inj hb; omega) (by have hb2 : go = b := Option.some.inj hb; omega)
              have h2 := h1.readK (K := K0) (fun b hb => by have hb2 : go = b := Option.some.inj hb; rw [← hb2]; exact hKo) (fun x hx => by
                obtain ⟨p, hp, rfl⟩ := List.mem_map.1 hx
                have := ofI_range hb0h.out (List.mem_range.1 hp)
                have := cnt_le bs c.instrs.length
                unfold I64
                omega) (by rw [hvol]; unfold maxN; omega)
              rw [hvol] at h2
              exact h2
            have hen : SlV rBool K0 (.slice (some ⟨ge, 0, none⟩) M M) bsE := bools_read (hKE.trans ((hB5.block ge hAE.lt).trans hAE)) hAEl.symm (by unfold maxN; omega)
            have hend := Lib.hid (And.intro hK5 (And.intro hof hen))
            have hrl := Lib.hid (show ∀ i, i < M → ∃ s t : Nat, (rowsK bs c.instrs.length)[i]? = some ((s : Int), (t : Int)) ∧ RowAt bs c.instrs.length i s t from fun i hi => rows_spec bs _ i (by rw [← hMh.out]; exact hi))
            clear hK0 hKs hKe hKlow hKat hKno hK5 hKR hKo hKE hblk5 hblkI hArr5 hM5 hb5 hAR hRl hRq hAE hgE hbr hgow hs5 hs5H hxr hlr hRr hocell hve hB4 hB5 hb4 hgoc hs4 hsc hscH hxc hMc hlc
            have hgoB : go < w5.heap.size := by have := hz5s; omega
            have hPB : w2.heap.size + 1 < w5.heap.size := by omega
            have hgRB : gR < w5.heap.size := (Array.getElem?_eq_some_iff.1 (show w5.heap[gR]? = some _ from hARh.out)).1
            have hdjo : go ≠ g := fun e => hdjg (by rw [e]; rfl)
            clear hltn2 hAEl hof hen hz5s hs6 hBw5 hE hRd hEin hfine hl1 hvn0 hbn hA hx2 hM3 hi0h hmeta hAr hvb hgblkh hcurh hArr hgc G hvo hbx hbxc hdjg hElen hgac hge4l hgew hKoh hKEh hK5h hvol hg hgl2 hz2 hbn2 hB23 hz3h hbl hltn hgR
            generalize w5.heap.size = B5 at hI0 hgoB hPB hgRB
            go_loopw [127] (fun i wr => ∃ (k : Nat) (vnx : Nat → Value) (l : IntMap) (K : PH) (bsR : List Bool), k ≤ M ∧ i = .int .i64 k ∧ FlowI (nxF c bs) rs w K0 B5 g gr w2.heap.size (rowsK bs c.instrs.length) k 0 0 k wr vnx l K bsR ∧ Aside (vnx k = nilV)) (fun i _ => M - (intOf i).toNat)
            case atStart => exact ⟨0, _, _, _, _, Nat.zero_le _, rfl, hI0, rfl⟩
            clear hI0
            case round =>
              obtain ⟨k, vnx, l, K, bsR, hk, rfl, hI, hvk⟩ := hrel
              have hvkh := Lib.hid hvk
              clear hvk
              obtain ⟨hbo, hbR, hbf⟩ := hblkK.out wr K hI.sees hI.le
              have hbr := hbf.trans hb5h.out
              by_cases hlt : k < M
              · obtain ⟨s, t, hrow, hRA⟩ := hrl.out k hlt
                obtain ⟨a0, a1, a2⟩ := hI.blk.cells hrow
                rw [show vnx k = nilV from hvkh.out] at a2
                have hst := hRA.lt
                have htn := hRA.le
                have hgw := hI.blk.lt
                have hgl := hI.ltG
                have hrh := Lib.hid hrow
                clear hbo hbR hrow
                go_wp2_with fail
                refine wp_name fun w7 hw7 => ?_
                obtain ⟨L, hL⟩ : ∃ L, L = wr.heap.size := ⟨_, rfl⟩
                have hI7 : FlowI (nxF c bs) rs w K0 B5 g gr w2.heap.size (rowsK bs c.instrs.length) k 0 0 k w7 vnx l K bsR := by rw [hw7]; exact hI.al _
                have hloc : w7.heap[L]? = some (.cells #[.int .i64 s, .int .i64 t, nilV] 41 (0, 0)) := by rw [hw7, hL]; exact ga_new _ _
                have hLB : B5 ≤ L := by rw [hL]; exact hI.size
                rw [← hL]
                clear hw7 hI hL hbr a0 a1 a2 hbf
                obtain ⟨hbo, hbR, hbf⟩ := hblkK.out w7 K hI7.sees hI7.le
                have hbr := hbf.trans hb5h.out
                have hbl' : bsR.length = M := by rw [hI7.marks.len]; exact hclh.out
                have hac := hI7.arr.cell (j := k) (by rw [hbl']; exact hlt)
                have haf := hI7.arr.free k
                have hgrl := hI7.arr.lt
                have hgrB := hI7.ltR
                have cR : w7.cell? ⟨gR, s, none⟩ = some (.bool (rs.getD s false)) := (World.cell?_of_block (a := ⟨gR, s, none⟩) hbR).trans (hARh.out.cell (by rw [hRlh.out]; omega))
                have c3 := (box5 hbr).2.2.2.1
                have cL : w7.cell? ⟨L, 0, none⟩ = some (.int .i64 s) := cell_blk hloc 0
                have hfl := (Array.getElem?_eq_some_iff.1 hbr).1
                have hLl := (Array.getElem?_eq_some_iff.1 hloc).1
                obtain ⟨rb, hrb⟩ : ∃ rb, rb = rs.getD s false := ⟨_, rfl⟩
                rw [← hrb] at cR
                have hrbh := Lib.hid hrb
                generalize bsR.getD k false = ob at hac
                have hs0 : (0 : Int) ≤ (s : Int) := Int.natCast_nonneg _
                have hs1 : (s : Int) < (c.instrs.length : Int) := by omega
                have hk0 : (0 : Int) ≤ (k : Int) := Int.natCast_nonneg _
                have hk1 : (k : Int) < (M : Int) := by omega
                have hso1 : ∀ (w' : World) (u : Value), (w'.setCell ⟨gr, k, none⟩ u).cell? ⟨w2.heap.size + 1, 3, none⟩ = w'.cell? ⟨w2.heap.size + 1, 3, none⟩ := fun _ _ => set_other (by omega)
                have hso2 : ∀ (w' : World) (u : Value), (w'.setCell ⟨gr, k, none⟩ u).cell? ⟨gR, s, none⟩ = w'.cell? ⟨gR, s, none⟩ := fun _ _ => set_other (by omega)
                have hso3 : ∀ (w' : World) (u : Value), (w'.setCell ⟨gr, k, none⟩ u).cell? ⟨L, 0, none⟩ = w'.cell? ⟨L, 0, none⟩ := fun _ _ => set_other (by omega)
                clear hrb hbo hbR hbf hbr
                go_region_held3 (fun w' => w'.cell? ⟨w2.heap.size + 1, 3, none⟩ = some (.slice (some ⟨gr, 0, none⟩) M M) ∧ w'.cell? ⟨gR, s, none⟩ = some (.bool rb) ∧ w'.cell? ⟨L, 0, none⟩ = some (.int .i64 s)) (go_keep) (fail)
                clear hso1 hso2 hso3 c3 cR cL hac haf
                go_upto_region 24 with fail
                refine wp_name fun w8 hw8 => ?_
                have hI8 : FlowI (nxF c bs) rs w K0 B5 g gr w2.heap.size (rowsK bs c.instrs.length) k 0 0 (k + 1) w8 vnx l K (bsR.set k rb) := by
                  rw [hw8]
                  refine (hI7.setR (by rw [hclh.out]; exact hlt) ?_).drew
                  rw [hrbh.out, List.getD_eq_getElem?_getD (l := rowsK _ _), hrh.out]
                  rfl
                have hloc8 : w8.heap[L]? = some (.cells #[.int .i64 s, .int .i64 t, nilV] 41 (0, 0)) := by rw [hw8]; exact (setCell_other (by omega)).trans hloc
                clear hw8 hI7 hloc
                obtain ⟨q, rfl⟩ : ∃ q, t = q + 1 := ⟨t - 1, by omega⟩
                have hqn : q < c.instrs.length := by omega
                rw [show ((q + 1 : Nat) : Int) = (q : Int) + 1 from by omega]
                have hsE : Sees w8 (extH H w w2) := fun i o e => hI8.sees i o (hI8.le i o (hKeh.out i o e))
                obtain ⟨bn', on', cn', hvne, -, hbn', hrow2⟩ := hvn2.rows (by rw [hnlh.out]; omega)
                rw [hnlh.out] at hvne hrow2
                cases hvne
                obtain ⟨u, hu, hclu⟩ := hrow2 q hqn
                rw [show (nextsL c).getD q [] = nextL c q by simp [nextsL, hqn]] at hu
                replace hclu := hclu w8 hsE
                have hbnl := hsE.lt' hbn'
                have cL1 : w8.cell? ⟨L, 1, none⟩ = some (.int .i64 ((q : Int) + 1)) := by rw [show ((q : Int) + 1) = ((q + 1 : Nat) : Int) by omega]; exact cell_blk hloc8 1
                have hLl := (Array.getElem?_eq_some_iff.1 hloc8).1
                obtain ⟨Au, cu, rfl, -, -⟩ := hu.open_
                have hul := hu.le
                have hnxk : nxF c bs k = (nextL c q).map (ofI bs) := by
                  unfold nxF
                  rw [List.getD_eq_getElem?_getD (l := rowsK _ _), hrh.out]
                  simp
                have hnxh := Lib.hid hnxk
                have hnlen := next_len c q
                clear hrow2 hloc8 hnxk hvkh
                go_wp2
                clear cL1 hclu hbnl hsE
                obtain ⟨wi, rfl⟩ : ∃ wi : World, wi = w8 := ⟨_, rfl⟩
                go_loopw [150] (fun i wr => ∃ (j : Nat) (vnx : Nat → Value) (l : IntMap) (K : PH) (bsR : List Bool), j ≤ (nextL c q).length ∧ i = .int .i64 j ∧ FlowI (nxF c bs) rs w K0 B5 g gr w2.heap.size (rowsK bs c.instrs.length) k j j (k + 1) wr vnx l K bsR) (fun i _ => (nextL c q).length - (intOf i).toNat)
                case atStart => exact ⟨0, _, _, _, _, Nat.zero_le _, rfl, hI8⟩
                clear hI8
                case round =>
                  obtain ⟨j, vnx, l, K, bsR, hj, rfl, hI⟩ := hrel
                  by_cases hjl : j < (nextL c q).length
                  ·
                    -- BEGIN
                    obtain ⟨be, oe, ce', hve, -, hbe, hce, -⟩ := hu.ints (by omega)
                    cases hve
                    have hsE : Sees wr (extH H w w2) := fun i o e => hI.sees i o (hI.le i o (hKeh.out i o e))
                    have hcl := hce wr hsE j hjl
                    have hbel := hsE.lt' hbe
                    have hx : (nextL c q)[j]? = some ((nextL c q).getD j 0) := by simp [hjl]
                    have hin := hNin.out q hqn _ (List.mem_of_getElem? hx)
                    obtain ⟨pp, hpp⟩ : ∃ pp : Nat, (nextL c q).getD j 0 = (pp : Int) := ⟨((nextL c q).getD j 0).toNat, by omega⟩
                    rw [hpp] at hcl hin hx
                    have hpn : pp < c.instrs.length := by omega
                    have hzr := ofI_range hb0h.out hpn
                    obtain ⟨z, hz⟩ : ∃ z : Nat, ofI bs pp = (z : Int) := ⟨(ofI bs pp).toNat, by omega⟩
                    have hnz : (nxF c bs k)[j]? = some (z : Int) := by rw [hnxh.out, List.getElem?_map, hx, Option.map_some, hz]
                    have hnzh := Lib.hid hnz
                    obtain ⟨hbo, -, hbf⟩ := hblkK.out wr K hI.sees hI.le
                    have hbr := hbf.trans hb5h.out
                    have co : wr.cell? ⟨go, pp, none⟩ = some (.int .i64 z) := by
                      rw [← hz, ← ofK_at bs hpn]
                      exact (World.cell?_of_block (a := ⟨go, pp, none⟩) hbo).trans (hoc5.out pp hpn)
                    have c0 := (box5 hbr).1
                    have c1 := (box5 hbr).2.1
                    have c4 := (box5 hbr).2.2.2.2
                    have hfl := (Array.getElem?_eq_some_iff.1 hbr).1
                    have a2 := (hI.blk.cells hrh.out).2.2
                    have f2 := hI.blk.free (k * 3 + 2)
                    have hgw := hI.blk.lt
                    have hgB := hI.ltG
                    have hsz := hI.size
                    have hcur := hI.cur
                    have hcl5 : ∀ b, b < B5 → some b ≠ (vnx k).ownBlock := fun b hb e => by have := (hcur.lt e.symm).1; omega
                    have hcl5h := Lib.hid hcl5
                    have hxl : ((nxF c bs k).take j).length ≤ 1000 := by rw [List.length_take]; omega
                    have hxlh := Lib.hid hxl
                    obtain ⟨xs, hxs⟩ : ∃ xs, xs = (nxF c bs k).take j := ⟨_, rfl⟩
                    rw [← hxs] at hcur hxl
                    have hxsh := Lib.hid hxs
                    have hca : ∀ o, (wr.alloc o).cell? ⟨g, k * 3 + 2, none⟩ = some (vnx k) := fun o => cell_al a2
                    have hpph := Lib.hid hx
                    clear hce hpp hx hz hnz hbo hbf hbr hxs hcl5 hzr hsE
                    have hk0 : (0 : Int) ≤ (k : Int) := Int.natCast_nonneg _
                    have hk1 : (k : Int) < (M : Int) := by omega
                    have hp0 : (0 : Int) ≤ (pp : Int) := Int.natCast_nonneg _
                    have hp1 : (pp : Int) < (c.instrs.length : Int) := by omega
                    go_upto_region 27 with fail
                    go_cut [13] (fun s13 wx => s13 = .int .i64 k ∧ ∃ vnx, FlowI (nxF c bs) rs w K0 B5 g gr w2.heap.size (rowsK bs c.instrs.length) k (j + 1) j (k + 1) wx vnx l K bsR)
                    case first =>
                      have hso1 : ∀ (w' : World) (u : Value), (w'.setCell ⟨g, k * 3 + 2, none⟩ u).cell? ⟨w2.heap.size + 1, 0, none⟩ = w'.cell? ⟨w2.heap.size + 1, 0, none⟩ := fun _ _ => set_other (by omega)
                      have hso2 : ∀ (w' : World) (u : Value), (w'.setCell ⟨g, k * 3 + 2, none⟩ u).cell? ⟨w2.heap.size + 1, 1, none⟩ = w'.cell? ⟨w2.heap.size + 1, 1, none⟩ := fun _ _ => set_other (by omega)
                      have hso3 : ∀ (w' : World) (u : Value), (w'.setCell ⟨g, k * 3 + 2, none⟩ u).cell? ⟨go, pp, none⟩ = w'.cell? ⟨go, pp, none⟩ := fun _ _ => set_other (fun e => hdjo e.symm)
                      refine wp_region_noPanic ?_
                      refine wp_region_held_drew (S := (fun w' => w'.cell? ⟨w2.heap.size + 1, 0, none⟩ = some (.slice (some ⟨g, 0, none⟩) M cap) ∧ w'.cell? ⟨w2.heap.size + 1, 1, none⟩ = some (.slice (some ⟨go, 0, none⟩) c.instrs.length capo) ∧ w'.cell? ⟨go, pp, none⟩ = some (.int .i64 z))) (by kernel_rfl) ?_ (fun hHeld => ?_)
                      · ((try dsimp only); (first | go_keep | (go_split_ands; refine ⟨?_, ?_, ?_⟩ <;> (rw [hg6.cell_far _ (by simp; omega) (hcl5h.out _ (by omega))]; assumption))))
                      refine takeL 0 (v := ?_) rfl (by kernel_rfl) (by kernel_rfl) (by kernel_rfl) (fun _ _ _ h => h) (Or.inl ⟨by rfl, ?_⟩) hHeld ?_
                      rotate_left
                      · ((intro w hSw; (try dsimp only at hSw); go_simp); all_goals with_reducible rfl)
                      (try simp only [Act.put, List.setIfInBounds_toArray, List.set_cons_zero, List.set_cons_succ])
                      refine takeL 1 (v := ?_) rfl (by kernel_rfl) (by kernel_rfl) (by kernel_rfl) (fun _ _ _ h => h) (Or.inl ⟨by rfl, ?_⟩) hHeld ?_
                      rotate_left
                      · ((intro w hSw; (try dsimp only at hSw); go_simp); all_goals with_reducible rfl)
                      (try simp only [Act.put, List.setIfInBounds_toArray, List.set_cons_zero, List.set_cons_succ])
                      refine takeL 2 (v := ?_) rfl (by kernel_rfl) (by kernel_rfl) (by kernel_rfl) (fun _ _ _ h => h) (Or.inl ⟨by rfl, ?_⟩) hHeld ?_
                      rotate_left
                      · ((intro w hSw; (try dsimp only at hSw); go_simp); all_goals with_reducible rfl)
                      (try simp only [Act.put, List.setIfInBounds_toArray, List.set_cons_zero, List.set_cons_succ])
                      refine takeL 3 (v := ?_) rfl (by kernel_rfl) (by kernel_rfl) (by kernel_rfl) (fun _ _ _ h => h) (Or.inl ⟨by rfl, ?_⟩) hHeld ?_
                      rotate_left
                      · ((intro w hSw; (try dsimp only at hSw); go_simp); all_goals with_reducible rfl)
                      (try simp only [Act.put, List.setIfInBounds_toArray, List.set_cons_zero, List.set_cons_succ])
                      refine takeL 4 (v := ?_) rfl (by kernel_rfl) (by kernel_rfl) (by kernel_rfl) (fun _ _ _ h => h) (Or.inl ⟨by rfl, ?_⟩) hHeld ?_
                      rotate_left
                      · ((intro w hSw; (try dsimp only at hSw); go_simp); all_goals with_reducible rfl)
                      (try simp only [Act.put, List.setIfInBounds_toArray, List.set_cons_zero, List.set_cons_succ])
                      refine takeL 5 (v := ?_) rfl (by kernel_rfl) (by kernel_rfl) (by kernel_rfl) (fun _ _ _ h => h) (Or.inl ⟨by rfl, ?_⟩) hHeld ?_
                      rotate_left
                      · ((intro w hSw; (try dsimp only at hSw); go_simp); all_goals with_reducible rfl)
                      (try simp only [Act.put, List.setIfInBounds_toArray, List.set_cons_zero, List.set_cons_succ])
                      refine takeL 6 (v := ?_) rfl (by kernel_rfl) (by kernel_rfl) (by kernel_rfl) (fun _ _ _ h => h) (Or.inl ⟨by rfl, ?_⟩) hHeld ?_
                      rotate_left
                      · ((intro w hSw; (try dsimp only at hSw); go_simp); all_goals with_reducible rfl)
                      (try simp only [Act.put, List.setIfInBounds_toArray, List.set_cons_zero, List.set_cons_succ])
                      refine takeL 7 (v := ?_) rfl (by kernel_rfl) (by kernel_rfl) (by kernel_rfl) (fun _ _ _ h => h) (Or.inl ⟨by rfl, ?_⟩) hHeld ?_
                      rotate_left
                      · ((intro w hSw; (try dsimp only at hSw); go_simp); all_goals with_reducible rfl)
                      (try simp only [Act.put, List.setIfInBounds_toArray, List.set_cons_zero, List.set_cons_succ])
                      refine takeL 8 (v := ?_) rfl (by kernel_rfl) (by kernel_rfl) (by kernel_rfl) (fun _ _ _ h => h) (Or.inl ⟨by rfl, ?_⟩) hHeld ?_
                      rotate_left
                      · ((intro w hSw; (try dsimp only at hSw); go_simp); all_goals with_reducible rfl)
                      (try simp only [Act.put, List.setIfInBounds_toArray, List.set_cons_zero, List.set_cons_succ])
                      refine takeL 9 (v := ?_) rfl (by kernel_rfl) (by kernel_rfl) (by kernel_rfl) (fun _ _ _ h => h) (Or.inl ⟨by rfl, ?_⟩) hHeld ?_
                      rotate_left
                      · ((intro w hSw; (try dsimp only at hSw); go_simp); all_goals with_reducible rfl)
                      (try simp only [Act.put, List.setIfInBounds_toArray, List.set_cons_zero, List.set_cons_succ])
                      refine takeL 10 (v := ?_) rfl (by kernel_rfl) (by kernel_rfl) (by kernel_rfl) (fun _ _ _ h => h) (Or.inl ⟨by rfl, ?_⟩) hHeld ?_
                      rotate_left
                      · ((intro w hSw; (try dsimp only at hSw); go_simp); all_goals with_reducible rfl)
                      (try simp only [Act.put, List.setIfInBounds_toArray, List.set_cons_zero, List.set_cons_succ])
                      refine takeL 11 (v := ?_) rfl (by kernel_rfl) (by kernel_rfl) (by kernel_rfl) (fun _ _ _ h => h) (Or.inl ⟨by rfl, ?_⟩) hHeld ?_
                      rotate_left
                      · ((intro w hSw; (try dsimp only at hSw); go_simp); all_goals with_reducible rfl)
                      (try simp only [Act.put, List.setIfInBounds_toArray, List.set_cons_zero, List.set_cons_succ])
                      refine takeL 13 (v := ?_) rfl (by kernel_rfl) (by kernel_rfl) (by kernel_rfl) (fun _ _ _ h => h) (Or.inl ⟨by rfl, ?_⟩) hHeld ?_
                      rotate_left
                      · ((intro w hSw; (try dsimp only at hSw); go_simp); all_goals with_reducible rfl)
                      (try simp only [Act.put, List.setIfInBounds_toArray, List.set_cons_zero, List.set_cons_succ])
                      refine takeL 14 (v := ?_) rfl (by kernel_rfl) (by kernel_rfl) (by kernel_rfl) (fun _ _ _ h => h) (Or.inl ⟨by rfl, ?_⟩) hHeld ?_
                      rotate_left
                      · ((intro w hSw; (try dsimp only at hSw); go_simp); all_goals with_reducible rfl)
                      (try simp only [Act.put, List.setIfInBounds_toArray, List.set_cons_zero, List.set_cons_succ])
                      refine takeL 15 (v := ?_) rfl (by kernel_rfl) (by kernel_rfl) (by kernel_rfl) (fun _ _ _ h => h) (Or.inl ⟨by rfl, ?_⟩) hHeld ?_
                      rotate_left
                      · ((intro w hSw; (try dsimp only at hSw); go_simp); all_goals with_reducible rfl)
                      (try simp only [Act.put, List.setIfInBounds_toArray, List.set_cons_zero, List.set_cons_succ])
                      refine takeL 16 (v := ?_) rfl (by kernel_rfl) (by kernel_rfl) (by kernel_rfl) (fun _ _ _ h => h) (Or.inl ⟨by rfl, ?_⟩) hHeld ?_
                      rotate_left
                      · ((intro w hSw; (try dsimp only at hSw); go_simp); all_goals with_reducible rfl)
                      (try simp only [Act.put, List.setIfInBounds_toArray, List.set_cons_zero, List.set_cons_succ])
                      refine takeL 17 (v := ?_) rfl (by kernel_rfl) (by kernel_rfl) (by kernel_rfl) (fun _ _ _ h => h) (Or.inl ⟨by rfl, ?_⟩) hHeld ?_
                      rotate_left
                      · ((intro w hSw; (try dsimp only at hSw); go_simp); all_goals with_reducible rfl)
                      (try simp only [Act.put, List.setIfInBounds_toArray, List.set_cons_zero, List.set_cons_succ])
                      refine takeL 18 (v := ?_) rfl (by kernel_rfl) (by kernel_rfl) (by kernel_rfl) (fun _ _ _ h => h) (Or.inl ⟨by rfl, ?_⟩) hHeld ?_
                      rotate_left
                      · ((intro w hSw; (try dsimp only at hSw); go_simp); all_goals with_reducible rfl)
                      (try simp only [Act.put, List.setIfInBounds_toArray, List.set_cons_zero, List.set_cons_succ])
                      refine takeL 19 (v := ?_) rfl (by kernel_rfl) (by kernel_rfl) (by kernel_rfl) (fun _ _ _ h => h) (Or.inl ⟨by rfl, ?_⟩) hHeld ?_
                      rotate_left
                      · ((intro w hSw; (try dsimp only at hSw); go_simp); all_goals with_reducible rfl)
                      (try simp only [Act.put, List.setIfInBounds_toArray, List.set_cons_zero, List.set_cons_succ])
                      refine wpAnyH_ready (rs := [12, 20]) (by kernel_rfl) (by simp) ?_
                      refine consL rfl (fun K hK => ?_) (consL rfl (fun K hK => ?_) AllReadyH.nil)
                      · go_simp
                        refine hK.out _ _ ?_ (fun hH2 => ?_)
                        · ((try dsimp only); (first | go_keep | (go_split_ands; refine ⟨?_, ?_, ?_⟩ <;> (rw [hg6.cell_far _ (by simp; omega) (hcl5h.out _ (by omega))]; assumption))))
                        clear hK K hHeld
                        have hHeld := hH2
                        clear hH2
                        (try simp only [Act.put, List.setIfInBounds_toArray, List.set_cons_zero, List.set_cons_succ])
                        refine wpAnyH_ready (rs := [20]) (by kernel_rfl) (by simp) ?_
                        refine consL rfl (fun K hK => ?_) AllReadyH.nil
                        go_simp
                        refine hK.out _ _ ?_ (fun hH2 => ?_)
                        · ((try dsimp only); (first | go_keep | (go_split_ands; refine ⟨?_, ?_, ?_⟩ <;> (rw [hg6.cell_far _ (by simp; omega) (hcl5h.out _ (by omega))]; assumption))))
                        clear hK K hHeld
                        have hHeld := hH2
                        clear hH2
                        (try simp only [Act.put, List.setIfInBounds_toArray, List.set_cons_zero, List.set_cons_succ])
                        refine wpAnyH_ready (rs := [21]) (by kernel_rfl) (by simp) ?_
                        refine consL rfl (fun K hK => ?_) AllReadyH.nil
                        (refine step_appI (by rfl) _ _ (by rfl) B5 (vnx k) xs (by rfl) (hcur.al _) wr.heap.size 1 (z : Int) (by rfl) (ga_new wr _) (by omega) (by simp; omega) ?_; intro g2 cap2 w6 hvo6 hg6 hat6 hlt6; have hc6 : w6.cell? ⟨g, k * 3 + 2, none⟩ = some (vnx k) := (hg6.cell_far ⟨g, k * 3 + 2, none⟩ (by simp; omega) (hcl5h.out _ (by omega))).trans (cell_al a2); have hf6 : w6.frozen? ⟨g, k * 3 + 2, none⟩ = false := (hg6.frozen_far ⟨g, k * 3 + 2, none⟩ (by simp; omega) (hcl5h.out _ (by omega))).trans (frz_al f2 hgw))
                        refine hK.out _ _ ?_ (fun hH2 => ?_)
                        · ((try dsimp only); (first | go_keep | (go_split_ands; refine ⟨?_, ?_, ?_⟩ <;> (rw [hg6.cell_far _ (by simp; omega) (hcl5h.out _ (by omega))]; assumption))))
                        clear hK K hHeld
                        have hHeld := hH2
                        clear hH2
                        (try simp only [Act.put, List.setIfInBounds_toArray, List.set_cons_zero, List.set_cons_succ])
                        refine takeL 22 (v := ?_) rfl (by kernel_rfl) (by kernel_rfl) (by kernel_rfl) (fun _ _ _ h => h) (Or.inl ⟨by rfl, ?_⟩) hHeld ?_
                        rotate_left
                        · ((intro w hSw; (try dsimp only at hSw); go_simp); all_goals with_reducible rfl)
                        (try simp only [Act.put, List.setIfInBounds_toArray, List.set_cons_zero, List.set_cons_succ])
                        refine takeL 23 (v := ?_) rfl (by kernel_rfl) (by kernel_rfl) (by kernel_rfl) (fun _ _ _ h => h) (Or.inl ⟨by rfl, ?_⟩) hHeld ?_
                        rotate_left
                        · ((intro w hSw; (try dsimp only at hSw); go_simp); all_goals with_reducible rfl)
                        (try simp only [Act.put, List.setIfInBounds_toArray, List.set_cons_zero, List.set_cons_succ])
                        refine wpAnyH_ready (rs := [24]) (by kernel_rfl) (by simp) ?_
                        refine consL rfl (fun K hK => ?_) AllReadyH.nil
                        go_simp
                        refine hK.out _ _ ?_ (fun hH2 => ?_)
                        · ((try dsimp only); (first | go_keep | (go_split_ands; refine ⟨?_, ?_, ?_⟩ <;> (rw [hg6.cell_far _ (by simp; omega) (hcl5h.out _ (by omega))]; assumption))))
                        clear hK K hHeld
                        have hHeld := hH2
                        clear hH2
                        (try simp only [Act.put, List.setIfInBounds_toArray, List.set_cons_zero, List.set_cons_succ])
                        refine wpAnyH_done (by kernel_rfl) ?_ _
                        refine NoPanic.normal ?_
                        go_wp2_with fail
                        go_meet
                        have h6 := hvo6
                        rw [hxsh.out] at h6
                        have h8 := ((hI.al (.cells #[.int .i64 z] 3)).drew).addN hnzh.out h6 hg6 hat6
                        rw [← hxsh.out] at h8
                        case rel => exact ⟨rfl, _, h8⟩
                      · go_simp
                        refine hK.out _ _ ?_ (fun hH2 => ?_)
                        · ((try dsimp only); (first | go_keep | (go_split_ands; refine ⟨?_, ?_, ?_⟩ <;> (rw [hg6.cell_far _ (by simp; omega) (hcl5h.out _ (by omega))]; assumption))))
                        clear hK K hHeld
                        have hHeld := hH2
                        clear hH2
                        (try simp only [Act.put, List.setIfInBounds_toArray, List.set_cons_zero, List.set_cons_succ])
                        refine wpAnyH_ready (rs := [12]) (by kernel_rfl) (by simp) ?_
                        refine consL rfl (fun K hK => ?_) AllReadyH.nil
                        go_simp
                        refine hK.out _ _ ?_ (fun hH2 => ?_)
                        · ((try dsimp only); (first | go_keep | (go_split_ands; refine ⟨?_, ?_, ?_⟩ <;> (rw [hg6.cell_far _ (by simp; omega) (hcl5h.out _ (by omega))]; assumption))))
                        clear hK K hHeld
                        have hHeld := hH2
                        clear hH2
                        (try simp only [Act.put, List.setIfInBounds_toArray, List.set_cons_zero, List.set_cons_succ])
                        refine wpAnyH_ready (rs := [21]) (by kernel_rfl) (by simp) ?_
                        refine consL rfl (fun K hK => ?_) AllReadyH.nil
                        (refine step_appI (by rfl) _ _ (by rfl) B5 (vnx k) xs (by rfl) (hcur.al _) wr.heap.size 1 (z : Int) (by rfl) (ga_new wr _) (by omega) (by simp; omega) ?_; intro g2 cap2 w6 hvo6 hg6 hat6 hlt6; have hc6 : w6.cell? ⟨g, k * 3 + 2, none⟩ = some (vnx k) := (hg6.cell_far ⟨g, k * 3 + 2, none⟩ (by simp; omega) (hcl5h.out _ (by omega))).trans (cell_al a2); have hf6 : w6.frozen? ⟨g, k * 3 + 2, none⟩ = false := (hg6.frozen_far ⟨g, k * 3 + 2, none⟩ (by simp; omega) (hcl5h.out _ (by omega))).trans (frz_al f2 hgw))
                        refine hK.out _ _ ?_ (fun hH2 => ?_)
                        · ((try dsimp only); (first | go_keep | (go_split_ands; refine ⟨?_, ?_, ?_⟩ <;> (rw [hg6.cell_far _ (by simp; omega) (hcl5h.out _ (by omega))]; assumption))))
                        clear hK K hHeld
                        have hHeld := hH2
                        clear hH2
                        (try simp only [Act.put, List.setIfInBounds_toArray, List.set_cons_zero, List.set_cons_succ])
                        refine takeL 22 (v := ?_) rfl (by kernel_rfl) (by kernel_rfl) (by kernel_rfl) (fun _ _ _ h => h) (Or.inl ⟨by rfl, ?_⟩) hHeld ?_
                        rotate_left
                        · ((intro w hSw; (try dsimp only at hSw); go_simp); all_goals with_reducible rfl)
                        (try simp only [Act.put, List.setIfInBounds_toArray, List.set_cons_zero, List.set_cons_succ])
                        refine takeL 23 (v := ?_) rfl (by kernel_rfl) (by kernel_rfl) (by kernel_rfl) (fun _ _ _ h => h) (Or.inl ⟨by rfl, ?_⟩) hHeld ?_
                        rotate_left
                        · ((intro w hSw; (try dsimp only at hSw); go_simp); all_goals with_reducible rfl)
                        (try simp only [Act.put, List.setIfInBounds_toArray, List.set_cons_zero, List.set_cons_succ])
                        refine wpAnyH_ready (rs := [24]) (by kernel_rfl) (by simp) ?_
                        refine consL rfl (fun K hK => ?_) AllReadyH.nil
                        go_simp
                        refine hK.out _ _ ?_ (fun hH2 => ?_)
                        · ((try dsimp only); (first | go_keep | (go_split_ands; refine ⟨?_, ?_, ?_⟩ <;> (rw [hg6.cell_far _ (by simp; omega) (hcl5h.out _ (by omega))]; assumption))))
                        clear hK K hHeld
                        have hHeld := hH2
                        clear hH2
                        (try simp only [Act.put, List.setIfInBounds_toArray, List.set_cons_zero, List.set_cons_succ])
                        refine wpAnyH_done (by kernel_rfl) ?_ _
                        refine NoPanic.normal ?_
                        go_wp2_with fail
                        go_meet
                        have h6 := hvo6
                        rw [hxsh.out] at h6
                        have h8 := ((hI.al (.cells #[.int .i64 z] 3)).drew).addN hnzh.out h6 hg6 hat6
                        rw [← hxsh.out] at h8
                        case rel => exact ⟨rfl, _, h8⟩
                    case rest =>
                      obtain ⟨rfl, vnx, hI9⟩ := hcut
                      clear c0 c1 c4 co a2 f2 hca hcur hcl5h hxsh hxlh hxl hI
                      have hI := hI9
                      clear hI9
                      obtain ⟨w9, rfl⟩ : ∃ w9 : World, w9 = wc := ⟨_, rfl⟩
                      go_upto_region 28 with fail
                      obtain ⟨hbo, -, hbf⟩ := hblkK.out w9 K hI.sees hI.le
                      have hbr := hbf.trans hb5h.out
                      have co : w9.cell? ⟨go, pp, none⟩ = some (.int .i64 z) := by
                        have h0 := hnzh.out
                        rw [hnxh.out, List.getElem?_map] at h0
                        have h1 := hoc5.out pp hpn
                        rw [ofK_at bs hpn, show ofI bs pp = (z : Int) from by rw [hpph.out] at h0; injection h0] at h1
                        exact (World.cell?_of_block (a := ⟨go, pp, none⟩) hbo).trans h1
                      have c1 := (box5 hbr).2.1
                      have c4 := (box5 hbr).2.2.2.2
                      have hfl9 := (Array.getElem?_eq_some_iff.1 hbr).1
                      have hsz9 := hI.size
                      have hPl := hI.map.lt
                      have hPB2 := hI.ltP
                      have hah := hI.ah (z : Int)
                      have hlk := hI.drew.map.lookup Tryz.underlying80 (keyInt Tryz.underlying3) (z := nilV) (fun _ => by kernel_rfl) (z : Int) false
                      have hlka := fun o => (hI.al o).drew.map.lookup Tryz.underlying80 (keyInt Tryz.underlying3) (z := nilV) (fun _ => by kernel_rfl) (z : Int) false
                      simp only [Bool.false_eq_true, if_false] at hlk hlka
                      have hal : (aheadIJ (nxF c bs) k j (z : Int)).length ≤ 1000000 := by
                        have := aheadIJ_len (nxF c bs) k j (z : Int) (fun i hi => nxF_len c bs i)
                        omega
                      obtain ⟨va, hva⟩ : ∃ va, va = (mget l (z : Int)).getD nilV := ⟨_, rfl⟩
                      obtain ⟨xa, hxa⟩ : ∃ xa, xa = aheadIJ (nxF c bs) k j (z : Int) := ⟨_, rfl⟩
                      rw [← hva] at hlk hah
                      have hlka2 : ∀ o, (Instr.lookup 80 (.map (some w2.heap.size)) (.int .i64 (z : Int)) false).run Tryz.prog (w9.alloc o).drew = .ok va (w9.alloc o).drew := fun o => by rw [hva]; exact hlka o
                      rw [← hxa] at hah hal
                      have hvah := Lib.hid hva
                      have hxah := Lib.hid hxa
                      have hcl5 : ∀ b, b < B5 → some b ≠ va.ownBlock := fun b hb e => by have := (hah.lt e.symm).1; omega
                      have hcl5h := Lib.hid hcl5
                      clear hlka hva hxa hcl5 hbo hbf hbr
                      go_region_held3 (fun w' => w'.cell? ⟨w2.heap.size + 1, 4, none⟩ = some (.map (some w2.heap.size)) ∧ w'.cell? ⟨w2.heap.size + 1, 1, none⟩ = some (.slice (some ⟨go, 0, none⟩) c.instrs.length capo) ∧ w'.cell? ⟨go, pp, none⟩ = some (.int .i64 z))
                        (first
                          | go_keep
                          | (go_split_ands
                             refine ⟨?_, ?_, ?_⟩
                             · (rw [hg10.cell_far _ (by simp; omega) (hcl5h.out _ (by omega))]; assumption)
                             · (rw [hg10.cell_far _ (by simp; omega) (hcl5h.out _ (by omega))]; assumption)
                             · (rw [hg10.cell_far _ (by simp; omega) (hcl5h.out _ (by omega))]; assumption))
                          | (go_split_ands
                             refine ⟨?_, ?_, ?_⟩
                             · (rw [hg11.cell_far _ (by simp; omega) (by simp)]; assumption)
                             · (rw [hg11.cell_far _ (by simp; omega) (by simp)]; assumption)
                             · (rw [hg11.cell_far _ (by simp; omega) (by simp; omega)]; assumption)))
                        ((refine step_appI (by rfl) _ _ (by rfl) B5 va xa (by rfl) (hah.al _) w9.heap.size 1 (k : Int) (by rfl) (ga_new w9 _) (by omega) (by simp; omega) ?_; intro g3 cap3 w10 hvo10 hg10 hat10 hlt10; obtain ⟨w11, hrun11, hM11, hg11⟩ := (hI.map.of_block (w' := w10) ((hg10.block w2.heap.size (by simp; omega) (hcl5h.out _ (by omega))).trans (Below.heap_alloc w9 _ w2.heap.size (by omega)))).update Tryz.underlying80 (keyInt Tryz.underlying3) (int_inj _) (z : Int) (.slice (some ⟨g3, 0, none⟩) (xa.length + 1) cap3); have hs10 : w9.heap.size + 1 ≤ w10.heap.size := by (have h0 := hg10.size; simpa using h0)))
                      all_goals
                        have h6 := hvo10
                        have h7 := hat10
                        have h8 := hg10
                        rw [hxah.out] at h6
                        rw [hvah.out] at h7 h8
                        rw [hxah.out] at hM11
                        have h9 := ((hI.al (.cells #[.int .i64 k] 3)).drew).addA hnzh.out h6 h8 h7 hM11 hg11
                        rw [← hxah.out] at h9
                        have hI12 : ∃ l', FlowI (nxF c bs) rs w K0 B5 g gr w2.heap.size (rowsK bs c.instrs.length) k (j + 1) (j + 1) (k + 1) w11 vnx l' K bsR := ⟨_, h9⟩
                        clear c1 c4 co hlk hlka2 h6 h7 h8 h9 hI hvo10 hat10 hg10 hM11 hg11 hrun11 hlt10
                        obtain ⟨l', hI⟩ := hI12
                        go_wp2_with fail
                        go_roundw
                        case rel => exact ⟨j + 1, _, _, _, _, by omega, by go_num, hI⟩
                        case measure => simp [intOf]; omega
                    -- END
                  · obtain rfl : j = (nextL c q).length := by omega
                    have hltn : ¬ ((nextL c q).length : Int) < (nextL c q).length := by omega
                    have hI2 : ∃ K', FlowI (nxF c bs) rs w K0 B5 g gr w2.heap.size (rowsK bs c.instrs.length) (k + 1) 0 0 (k + 1) wr vnx l K' bsR := by
                      have hll : (nxF c bs k).length = (nextL c q).length := by rw [hnxh.out, List.length_map]
                      have hI3 := hI
                      rw [← hll] at hI3
                      refine hI3.next (fun x hx => ?_) (by rw [hll]; unfold maxN; omega)
                      rw [hnxh.out] at hx
                      obtain ⟨p, hp, rfl⟩ := List.mem_map.1 hx
                      have h1 := hNin.out q hqn p hp
                      obtain ⟨pp, rfl⟩ : ∃ pp : Nat, p = (pp : Int) := ⟨p.toNat, by omega⟩
                      have h2 := ofI_range hb0h.out (show pp < c.instrs.length by omega)
                      have h3 := cnt_le bs c.instrs.length
                      unfold I64
                      omega
                    have hnil := Lib.hid (hI.todo (k + 1) (by omega))
                    clear hI hjl
                    obtain ⟨K', hI⟩ := hI2
                    go_wp2
                    go_roundw
                    case rel => exact ⟨k + 1, _, _, _, _, by omega, by go_num, hI, hnil.out⟩
                    case measure => simp [intOf]; omega
              · obtain rfl : k = M := by omega
                have hltn : ¬ (k : Int) < k := by omega
                have hIh := Lib.hid hI
                clear hI hbo hbR hbf hbr hlt
                go_wp2
                go_ret
                have hI := hIh.out
                have hle := PH.le_trans hI.le (hI.leE hKlowh.out)
                have hMc := hMh.out
                have hr64 : ∀ r ∈ rowsK bs c.instrs.length, I64 r.1 ∧ I64 r.2 := fun r hr => by
                  obtain ⟨i, hi⟩ := List.getElem?_of_mem hr
                  obtain ⟨s, t, h1, h2⟩ := hrl.out i (by have := (List.getElem?_eq_some_iff.1 hi).1; rw [hclh.out] at this; exact this)
                  rw [h1] at hi
                  injection hi with hi
                  subst hi
                  have := h2.lt
                  have := h2.le
                  unfold I64
                  omega
                have hnxr : ∀ i, ∀ y ∈ nxF c bs i, i < k → 0 ≤ y ∧ y < k := fun i y hy hik => by
                  obtain ⟨s, t, h1, h2⟩ := hrl.out i hik
                  unfold nxF at hy
                  rw [List.getD_eq_getElem?_getD, h1] at hy
                  obtain ⟨p, hp, rfl⟩ := List.mem_map.1 hy
                  have h5 := h2.lt
                  have h6 := h2.le
                  have h3 := hNin.out (((t : Int) - 1).toNat) (by omega) p hp
                  obtain ⟨pp, rfl⟩ : ∃ pp : Nat, p = (pp : Int) := ⟨p.toNat, by omega⟩
                  have h4 := ofI_range hb0h.out (show pp < c.instrs.length by omega)
                  rw [← hMc] at h4
                  exact h4
                have hblV := hI.blocksV hclh.out hKlowh.out hr64 hcap (by unfold maxN; omega)
                have haV := hI.aheadV (H := H) (fun y => by have := aheadIJ_len (nxF c bs) k 0 y (fun i _ => nxF_len c bs i); unfold maxN; omega) (by omega)
                have hbe : blocksF c bs = (List.range k).map fun i => ⟨((rowsK bs c.instrs.length).getD i (0, 0)).1, ((rowsK bs c.instrs.length).getD i (0, 0)).2, nxF c bs i⟩ := by unfold blocksF; rw [← hMc]
                have hbl : (blocksF c bs).length = k := by rw [hbe]; simp
                rw [← hbe] at hblV
                have hMl := hI.marks.len
                rw [hclh.out] at hMl
                have hME := hMEh.out
                refine ⟨⟨_, ⟨blocksF c bs, ofK bs c.instrs.length, bsE, bsR, aheadIJ (nxF c bs) k 0⟩, rfl, ⟨w2.heap.size + 1, _, _, _, _, _, rfl, hle _ _ hend.out.1, ⟨hblV, hend.out.2.1.mono hle, hend.out.2.2.mono hle, hI.reachedV hclh.out (by unfold maxN; omega), by rw [hbl]; exact haV, by rw [hbl]; exact hME.len, by rw [hbl]; exact hMl, by rw [hbl]; omega, fun b hb y hy => ?_, fun b hb => ?_⟩⟩, bs, hMkh.out, rfl, rfl, by rw [← hMc], ?_, ?_⟩, hI.below⟩
                · rw [hbl]
                  rw [hbe] at hb
                  obtain ⟨i, hi, rfl⟩ := List.mem_map.1 hb
                  exact hnxr i y hy (List.mem_range.1 hi)
                · rw [hbe] at hb
                  obtain ⟨i, hi, rfl⟩ := List.mem_map.1 hb
                  have := nxF_len c bs i
                  show (nxF c bs i).length ≤ 20000
                  omega
                · rw [← hMc]
                  rw [List.take_length] at hME
                  exact hME
                · rw [← hMc, ← hclh.out]
                  refine hI.marks.congr fun i hi => ?_
                  rw [hclh.out] at hi
                  obtain ⟨s, t, h1, h2⟩ := hrl.out i hi
                  have h5 := h2.lt
                  have h6 := h2.le
                  have h7 := hRqh.out s (by omega)
                  have e1 : (rowsK bs c.instrs.length).getD i (0, 0) = ((s : Int), (t : Int)) := by rw [List.getD_eq_getElem?_getD, h1]; rfl
                  rw [e1]
                  show i < k ∧ rs.getD ((s : Int)).toNat false = true ↔ ReachC c s
                  rw [Int.toNat_natCast]
                  exact ⟨fun h => h7.1 h.2, fun h => ⟨hi, h7.2 h⟩⟩
end Go.Proofs.YtififjlgjmgikaaGreat
