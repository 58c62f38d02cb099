/- code.next, code.fine, graph.fine, code.Entries, code.Next. Arrays of bools that the walk made, known whole. What sorting and compacting come to: the elements, ascending, each once. -/
import Derived.Test.YtififjlgjmgikaaGreatEntries
namespace Go.Proofs.YtififjlgjmgikaaGreat
set_option linter.all false
open Go.RowKit

def stops (op : Int) : Bool := op == 1 || op == 24 || op == 25 || op == 53
def next1 (q : InstrD) (p n : Nat) : List Int := (if q.op = 48 then [q.a] else []) ++ (if p + 1 < n then [(p : Int) + 1] else [])
def nextQ (q : InstrD) (p n : Nat) : List Int := if stops q.op then [] else if q.op = 47 then [q.a] else Go.Lib.compact (isort (next1 q p n))
def nextL (c : CodeD) (p : Nat) : List Int := nextQ (c.instrs.getD p default) p c.instrs.length
def entriesL (c : CodeD) : List Int := Go.Lib.compact (isort (entries0 c))

set_option maxHeartbeats 2000000 in
set_option maxRecDepth 100000 in
theorem code_next (H : PH) (v : Value) (c : CodeD) (w : World) (hw : Sees w H) (hc : CodeV H v c) (p : Nat) (hp : p < c.instrs.length) :
    Calls Tryz.prog 125 #[v, .int .i64 p] w fun e w' => (∃ v', e = .returned v' ∧ OwnI w' w.heap.size v' (nextL c p)) ∧ Below w.heap.size w w' := by
  obtain ⟨s0, s1, s2, s3, s4, s5, s6, rfl, hc⟩ := hc
  have b0 := hc.instrs.le
  obtain ⟨b, off, c0, rfl, k0, hb, hcell, hint⟩ := hc.instrs.instrs (by omega)
  obtain ⟨x0, x1, x2, x3⟩ := hcell w hw p hp
  have hbl := hw.lt' hb
  clear hcell hint hc
  unfold nextL
  generalize c.instrs.getD p default = q at *
  obtain ⟨po, pa, pb, pc⟩ := q
  dsimp only at *
  generalize c.instrs.length = n at *
  go_enter Tryz.func125, Tryz.ntmps125
  have hbx : ∀ (o1 o2 : Obj) (w2 : World), (((w.alloc (.cells #[.slice (some ⟨b, off, none⟩) n c0, s1, s2, s3, s4, s5, s6] 30)).alloc o1).alloc o2).grownBy w2 none → w2.cell? ⟨w.heap.size, 0, none⟩ = some (.slice (some ⟨b, off, none⟩) n c0) ∧ Below w.heap.size w w2 := by
    intro o1 o2 w2 hg
    refine ⟨cell_blk ((hg.block w.heap.size (by simp; omega) (by simp)).trans (ga_old (ga_old (ga_new w _)))) 0, ?_⟩
    exact ((((Below.refl _ _).alloc (Nat.le_refl _) _).alloc (by simp) _).alloc (by simp; omega) _).grown hg (by simp; omega) (fun k hk => by cases hk)
  have hB0 : ∀ (o1 o2 : Obj), Below w.heap.size w ((w.alloc o1).alloc o2) := fun o1 o2 => ((Below.refl _ _).alloc (Nat.le_refl _) _).alloc (by simp) _
  have hH := Lib.hid hbx
  have hH0 := Lib.hid hB0
  clear hbx hB0
  cases hs : stops po
  · by_cases h47 : po = 47
    · subst h47
      go_wp2
      go_ret
      refine ⟨⟨_, rfl, ?_⟩, (hH0.out _ _).alloc (by simp; omega) _⟩
      have := (OwnI.snoc_lit ((w.alloc (.cells #[.slice (some ⟨b, off, none⟩) n c0, s1, s2, s3, s4, s5, s6] 30)).alloc (.cells #[.int .i64 47, .int .i64 pa, .int .i64 pb, .int .i64 pc] 123)) pa).lower (base' := w.heap.size) (by simp; omega)
      simpa [nextQ, stops] using this
    · have hs0 := Lib.hid hs
      simp only [stops, Bool.or_eq_false_iff, beq_eq_false_iff_ne, ne_eq] at hs
      obtain ⟨⟨⟨t1, t2⟩, t3⟩, t4⟩ := hs
      by_cases h48 : po = 48
      · subst h48
        by_cases hl : p + 1 < n
        · have hfin := Lib.hid (show nextQ ⟨48, pa, pb, pc⟩ p n = Go.Lib.compact (isort ([pa] ++ [(p : Int) + 1])) by simp [nextQ, hs0.out, next1, hl])
          go_wp2_with (first
            | (at_builtin; refine wpL_appI rfl _ _ rfl w.heap.size _ _ [(p : Int) + 1] rfl (hown2.al _) ⟨w2.heap.size, 0, none⟩ 1 1 rfl rfl (one_new (by simp)) (by simp) (by have := h2.2.size; simp; omega) ?_; intro v3 w3 hown3 hg3 _; have hB3 := below_app (h2.2.alloc h2.2.size _) (by simp; have := h2.2.size; omega) (hown2.al _) hg3; clear hg3)
            | (at_builtin; refine wpL_appI rfl _ _ rfl w.heap.size _ _ [pa] rfl (OwnI.nil _ _) ⟨w.heap.size + 1 + 1, 0, none⟩ 1 1 rfl rfl (one_new (by simp)) (by simp) (by simp; omega) ?_; intro v2 w2 hown2 hg2 _; have h2 := hH.out _ _ _ hg2; clear hg2)
            | (go_at_call 80; refine (sort_own hown3 (by simp)).mono ?_; rintro e w4 ⟨rfl, hown4, hg4⟩; have hB4 := below_app hB3 hB3.size hown3 hg4; clear hg4)
            | (go_at_call 164; refine (compact_own hown4 (by simp [isort_length])).mono ?_; rintro e w5 ⟨v5, rfl, hown5, _, hg5⟩; have hB5 := below_app hB4 hB4.size hown4 hg5; clear hg5))
          go_ret
          exact ⟨⟨_, rfl, by rw [hfin.out]; exact hown5⟩, hB5⟩
        · have hl' : ¬ ((p : Int) + 1 < n) := by omega
          have hfin := Lib.hid (show nextQ ⟨48, pa, pb, pc⟩ p n = Go.Lib.compact (isort ([] ++ [pa])) by simp [nextQ, hs0.out, next1, hl])
          go_wp2_with (first
            | (at_builtin; refine wpL_appI rfl _ _ rfl w.heap.size _ _ [pa] rfl (OwnI.nil _ _) ⟨w.heap.size + 1 + 1, 0, none⟩ 1 1 rfl rfl (one_new (by simp)) (by simp) (by simp; omega) ?_; intro v2 w2 hown2 hg2 _; have h2 := hH.out _ _ _ hg2; clear hg2)
            | (go_at_call 80; refine (sort_own hown2 (by simp)).mono ?_; rintro e w4 ⟨rfl, hown4, hg4⟩; have hB4 := below_app h2.2 h2.2.size hown2 hg4; clear hg4)
            | (go_at_call 164; refine (compact_own hown4 (by simp [isort_length])).mono ?_; rintro e w5 ⟨v5, rfl, hown5, _, hg5⟩; have hB5 := below_app hB4 hB4.size hown4 hg5; clear hg5))
          go_ret
          exact ⟨⟨_, rfl, by rw [hfin.out]; exact hown5⟩, hB5⟩
      · by_cases hl : p + 1 < n
        · have hfin := Lib.hid (show nextQ ⟨po, pa, pb, pc⟩ p n = Go.Lib.compact (isort ([] ++ [(p : Int) + 1])) by simp [nextQ, hs0.out, next1, hl, h47, h48])
          go_wp2_with (first
            | (at_builtin; refine wpL_appI rfl _ _ rfl w.heap.size _ _ [(p : Int) + 1] rfl (OwnI.nil _ _) ⟨w.heap.size + 1 + 1, 0, none⟩ 1 1 rfl rfl (one_new (by simp)) (by simp) (by simp; omega) ?_; intro v2 w2 hown2 hg2 _; have h2 := hH.out _ _ _ hg2; clear hg2)
            | (go_at_call 80; refine (sort_own hown2 (by simp)).mono ?_; rintro e w4 ⟨rfl, hown4, hg4⟩; have hB4 := below_app h2.2 h2.2.size hown2 hg4; clear hg4)
            | (go_at_call 164; refine (compact_own hown4 (by simp [isort_length])).mono ?_; rintro e w5 ⟨v5, rfl, hown5, _, hg5⟩; have hB5 := below_app hB4 hB4.size hown4 hg5; clear hg5))
          go_ret
          exact ⟨⟨_, rfl, by rw [hfin.out]; exact hown5⟩, hB5⟩
        · have hl' : ¬ ((p : Int) + 1 < n) := by omega
          have hfin := Lib.hid (show nextQ ⟨po, pa, pb, pc⟩ p n = Go.Lib.compact (isort []) by simp [nextQ, hs0.out, next1, hl, h47, h48])
          go_wp2_with (first
            | (go_at_call 80; refine (sort_own (OwnI.nil _ w.heap.size) (by simp)).mono ?_; rintro e w4 ⟨rfl, hown4, hg4⟩; have hB4 := below_app (hH0.out _ _) (by simp; omega) (OwnI.nil _ w.heap.size) hg4; clear hg4)
            | (go_at_call 164; refine (compact_own hown4 (by simp [isort_length])).mono ?_; rintro e w5 ⟨v5, rfl, hown5, _, hg5⟩; have hB5 := below_app hB4 hB4.size hown4 hg5; clear hg5))
          go_ret
          exact ⟨⟨_, rfl, by rw [hfin.out]; exact hown5⟩, hB5⟩
  · have hs' := Lib.hid hs
    simp only [stops, Bool.or_eq_true, beq_iff_eq] at hs
    rcases hs with ((rfl | rfl) | rfl) | rfl
    all_goals
      go_wp2
      go_ret
      refine ⟨⟨_, rfl, ?_⟩, hH0.out _ _⟩
      simp only [nextQ, hs'.out, if_true]
      exact OwnI.nil _ _

set_option maxHeartbeats 400000 in
theorem code_fine (H : PH) (v : Value) (c : CodeD) (w : World) (hw : Sees w H) (hc : CodeV H v c) :
    Calls Tryz.prog 123 #[v] w fun e w' => e = .returned (.bool (fineB c)) ∧ Below w.heap.size w w' := by
  have hc0 := hc
  obtain ⟨s0, s1, s2, s3, s4, s5, s6, rfl, hc⟩ := hc
  have hB0 : ∀ o, Below w.heap.size w (w.alloc o) := fun o => (Below.refl _ _).alloc (Nat.le_refl _) _
  have hC := Lib.hid (fun (w1 : World) (hs : Sees w1 H) => code_Check H _ c w1 hs hc0)
  have hBh := Lib.hid hB0; clear hB0
  go_enter Tryz.func123, Tryz.ntmps123
  go_wp2_with (go_at_call 88; refine (hC.out _ (hw.below (hBh.out _))).mono ?_; rintro e w1 ⟨⟨r, i, rfl, hr⟩, hB1⟩; have hrh := Lib.hid hr; clear hr)
  go_ret
  exact ⟨ret_bool hrh.out, bstep (hBh.out _) hB1⟩
set_option maxHeartbeats 400000 in
theorem graph_fine (H : PH) (v : Value) (c : CodeD) (w : World) (hw : Sees w H) (hc : CodeV H v c) :
    Calls Tryz.prog 46 #[v] w fun e w' => e = .returned (.bool (fineB c)) ∧ Below w.heap.size w w' := by
  have hc0 := hc
  obtain ⟨s0, s1, s2, s3, s4, s5, s6, rfl, hc⟩ := hc
  have hB0 : ∀ o, Below w.heap.size w (w.alloc o) := fun o => (Below.refl _ _).alloc (Nat.le_refl _) _
  have hC := Lib.hid (fun (w1 : World) (hs : Sees w1 H) => code_Check H _ c w1 hs hc0)
  have hBh := Lib.hid hB0; clear hB0
  go_enter Tryz.func46, Tryz.ntmps46
  go_wp2_with (go_at_call 88; refine (hC.out _ (hw.below (hBh.out _))).mono ?_; rintro e w1 ⟨⟨r, i, rfl, hr⟩, hB1⟩; have hrh := Lib.hid hr; clear hr)
  go_ret
  exact ⟨ret_bool hrh.out, bstep (hBh.out _) hB1⟩
/-- A slice of ints and an error. -/
def SlErr (base : Nat) (w' : World) (xs : List Int) (er : Int) (e : Ending) : Prop := ∃ v', e = .returned (.tuple #[v', .int .i64 er]) ∧ OwnI w' base v' xs
set_option maxHeartbeats 400000 in
theorem code_Entries (H : PH) (v : Value) (c : CodeD) (w : World) (hw : Sees w H) (hc : CodeV H v c) (hf : fineB c = true) :
    Calls Tryz.prog 90 #[v] w fun e w' => SlErr w.heap.size w' (entriesL c) 0 e ∧ Below w.heap.size w w' := by
  have hc0 := hc
  obtain ⟨s0, s1, s2, s3, s4, s5, s6, rfl, hc⟩ := hc
  have hbx := ga_new w (.cells #[s0, s1, s2, s3, s4, s5, s6] 30)
  have hB0 : Below w.heap.size w (w.alloc (.cells #[s0, s1, s2, s3, s4, s5, s6] 30)) := (Below.refl _ _).alloc (Nat.le_refl _) _
  have hC := Lib.hid (fun (w1 : World) (hs : Sees w1 H) => code_fine H _ c w1 hs hc0)
  have hE := Lib.hid (fun (w1 : World) (hs : Sees w1 H) => code_entries H _ c w1 hs hc0 hf)
  have hfh := Lib.hid hf; clear hf
  go_enter Tryz.func90, Tryz.ntmps90
  go_wp2_with (first
    | (go_at_call 123; refine (hC.out _ (hw.below hB0)).mono ?_; rintro e w1 ⟨rfl, hB1⟩; rw [hfh.out]; replace hbx := blk_keep hB1 hbx; replace hB0 := bstep hB0 hB1; have q := box7 hbx; clear hB1)
    | (go_at_call 124; refine (hE.out _ (hw.below hB0)).mono ?_; rintro e w2 ⟨⟨v', rfl, hown⟩, hB1⟩; replace hB1 := bstep hB0 hB1))
  go_ret2
  exact ⟨⟨_, rfl, hown.lower hB0.size⟩, hB1⟩
set_option maxHeartbeats 400000 in
theorem code_Next (H : PH) (v : Value) (c : CodeD) (w : World) (hw : Sees w H) (hc : CodeV H v c) (hf : fineB c = true) (p : Nat) (hp : p < c.instrs.length) :
    Calls Tryz.prog 102 #[v, .int .i64 p] w fun e w' => SlErr w.heap.size w' (nextL c p) 0 e ∧ Below w.heap.size w w' := by
  have hc0 := hc
  obtain ⟨s0, s1, s2, s3, s4, s5, s6, rfl, hc⟩ := hc
  have b0 := hc.instrs.le
  obtain ⟨A0, c0, rfl, k0, -⟩ := hc.instrs.open_
  have hbx := ga_new w (.cells #[.slice A0 c.instrs.length c0, s1, s2, s3, s4, s5, s6] 30)
  have hB0 : Below w.heap.size w (w.alloc (.cells #[.slice A0 c.instrs.length c0, s1, s2, s3, s4, s5, s6] 30)) := (Below.refl _ _).alloc (Nat.le_refl _) _
  have hC := Lib.hid (fun (w1 : World) (hs : Sees w1 H) => code_fine H _ c w1 hs hc0)
  have hE := Lib.hid (fun (w1 : World) (hs : Sees w1 H) => code_next H _ c w1 hs hc0 p hp)
  have hfh := Lib.hid hf; clear hf
  have hin : withinB (p : Int) 0 ((c.instrs.length : Int) - 1) = true := by simp only [withinB, Bool.and_eq_true, decide_eq_true_eq]; omega
  have hinh := Lib.hid hin; clear hin
  go_enter Tryz.func102, Tryz.ntmps102
  go_wp2_with (first
    | (go_at_call 123; refine (hC.out _ (hw.below hB0)).mono ?_; rintro e w1 ⟨rfl, hB1⟩; rw [hfh.out]; replace hbx := blk_keep hB1 hbx; replace hB0 := bstep hB0 hB1; have q := box7 hbx; clear hB1)
    | (go_at_call 127; refine (code_within _ _ _ _).mono ?_; rintro e w3 ⟨rfl, rfl⟩; rw [hinh.out])
    | (go_at_call 125; refine (hE.out _ (hw.below hB0)).mono ?_; rintro e w2 ⟨⟨v', rfl, hown⟩, hB1⟩; replace hB1 := bstep hB0 hB1))
  go_ret2
  exact ⟨⟨_, rfl, hown.lower hB0.size⟩, hB1⟩
end Go.Proofs.YtififjlgjmgikaaGreat
namespace Go.Proofs.YtififjlgjmgikaaGreat
set_option linter.all false
open Go.RowKit

def ArrB (w : World) (g : Nat) (bs : List Bool) : Prop := w.heap[g]? = some (.cells (bs.map Value.bool).toArray 4 (0, 0))
theorem ArrB.lt {w : World} {g : Nat} {bs : List Bool} (h : ArrB w g bs) : g < w.heap.size := (Array.getElem?_eq_some_iff.1 h).1
theorem ArrB.cell {w : World} {g : Nat} {bs : List Bool} (h : ArrB w g bs) {j : Nat} (hj : j < bs.length) : w.cell? ⟨g, j, none⟩ = some (.bool (bs.getD j false)) := by
  rw [cell_blk h]
  simp [hj]
theorem ArrB.free {w : World} {g : Nat} {bs : List Bool} (h : ArrB w g bs) (j : Nat) : w.frozen? ⟨g, j, none⟩ = false := by
  have h' : w.heap[g]? = some (.cells (bs.map Value.bool).toArray 4 (0, 0)) := h
  simp [World.frozen?, h']
theorem ArrB.of_block {w w1 : World} {g : Nat} {bs : List Bool} (h : ArrB w g bs) (hb : w1.heap[g]? = w.heap[g]?) : ArrB w1 g bs := hb.trans h
theorem ArrB.set {w : World} {g : Nat} {bs : List Bool} (h : ArrB w g bs) (j : Nat) (b : Bool) : ArrB (w.setCell ⟨g, j, none⟩ (.bool b)) g (bs.set j b) := by
  have h' : w.heap[g]? = some (.cells (bs.map Value.bool).toArray 4 (0, 0)) := h
  unfold ArrB World.setCell
  simp [Array.getElem?_modify, h']
theorem setCell_other {w : World} {g j k : Nat} {u : Value} (h : k ≠ g) : (w.setCell ⟨g, j, none⟩ u).heap[k]? = w.heap[k]? := by
  unfold World.setCell
  simp [Array.getElem?_modify, Ne.symm h]
theorem setCell_below {B : Nat} {w w1 : World} {g j : Nat} {u : Value} (h : Below B w w1) (hg : B ≤ g) : Below B w (w1.setCell ⟨g, j, none⟩ u) :=
  ⟨h.os, h.tape, h.output, by rw [show (w1.setCell ⟨g, j, none⟩ u).heap.size = w1.heap.size by simp [World.setCell]]; exact h.size, fun k hk => (setCell_other (by omega)).trans (h.block k hk)⟩
theorem ArrB.new (w : World) (n : Nat) : ArrB (w.alloc (.cells (Array.replicate n (.bool false)) 4)) w.heap.size (List.replicate n false) := by
  unfold ArrB
  rw [ga_new]
  simp
/-- A slice cut to its first elements. -/
theorem OwnI.cut {w : World} {base : Nat} {g n cap k : Nat} {xs : List Int} (h : OwnI w base (.slice (some ⟨g, 0, none⟩) n cap) xs) (hk : k ≤ xs.length) : OwnI w base (.slice (some ⟨g, 0, none⟩) k cap) (xs.take k) := by
  rcases h.2 with ⟨e, _⟩ | ⟨g', cap', cur, e, h2, h3, h4, h5, h6, h7⟩
  · cases e
  · cases e
    have hl : (xs.take k).length = k := by simp; omega
    refine ⟨by simp [ints], .inr ⟨g, cap, cur, by rw [hl], h2, h3, by rw [hl]; omega, h5, h6, ?_⟩⟩
    rw [hl]
    have : (cur.toList.take (xs.length * 1)).take (k * 1) = (ints xs).take (k * 1) := by rw [h7]
    rw [List.take_take, Nat.min_eq_left (by omega)] at this
    rw [this]
    simp [ints]
theorem OwnI.form {w : World} {base : Nat} {v : Value} {xs : List Int} (h : OwnI w base v xs) (hx : 0 < xs.length) : ∃ g cap, v = .slice (some ⟨g, 0, none⟩) xs.length cap ∧ xs.length ≤ cap ∧ base ≤ g ∧ g < w.heap.size ∧
    ∀ j, j < xs.length → w.cell? ⟨g, j, none⟩ = some (.int .i64 (xs.getD j 0)) := by
  rcases h.2 with ⟨e, h0⟩ | ⟨g, cap, cur, rfl, h2, h3, h4, h5, h6, h7⟩
  · omega
  · refine ⟨g, cap, rfl, h4, h2, (Array.getElem?_eq_some_iff.1 h3).1, fun j hj => ?_⟩
    rw [cell_blk h3]
    have e : (cur.toList.take (xs.length * 1))[j]? = (ints xs)[j]? := by rw [h7]
    rw [List.getElem?_take, if_pos (by omega)] at e
    rw [← Array.getElem?_toList, e]
    simp [ints, hj]
theorem OwnI.len_form {w : World} {base : Nat} {v : Value} {xs : List Int} (h : OwnI w base v xs) : ∃ A cap, v = .slice A xs.length cap ∧ xs.length ≤ cap := by
  rcases h.2 with ⟨e, h0⟩ | ⟨g, cap, cur, rfl, h2, h3, h4, _⟩
  · exact ⟨none, 0, by rw [h0]; exact e, by omega⟩
  · exact ⟨_, cap, rfl, h4⟩
end Go.Proofs.YtififjlgjmgikaaGreat
namespace Go.Proofs.YtififjlgjmgikaaGreat
set_option linter.all false
open Go.Lib

theorem mem_isort {x : Int} {xs : List Int} : x ∈ isort xs ↔ x ∈ xs := by simp [isort]
theorem isort_sorted (xs : List Int) : (isort xs).Pairwise (· ≤ ·) := by
  have := List.pairwise_mergeSort (le := fun x y : Int => decide (x ≤ y)) (by intro a b c; simp; omega) (by intro a b; simp; omega) xs
  exact this.imp (by intro a b h; simpa using h)
theorem upTo_facts (zs : List Int) (hs : zs.Pairwise (· ≤ ·)) (m : Nat) (hm : m ≤ zs.length) : (∀ x, x ∈ compactUpTo zs.toArray m ↔ x ∈ zs.take m) ∧ (compactUpTo zs.toArray m).Pairwise (· < ·) := by
  induction m with
  | zero => simp [compactUpTo]
  | succ m ih =>
    obtain ⟨h1, h2⟩ := ih (by omega)
    have hm' : m < zs.length := by omega
    have hz : zs.toArray[m]! = zs[m] := by simp [hm']
    have ht : zs.take (m + 1) = zs.take m ++ [zs[m]] := by rw [List.take_add_one, List.getElem?_eq_getElem hm']; rfl
    rw [compactUpTo_succ, hz, ht]
    by_cases hk : keeps zs.toArray m = true
    · rw [if_pos hk]
      refine ⟨fun x => by rw [List.mem_append, List.mem_append, h1 x], ?_⟩
      rw [List.pairwise_append]
      refine ⟨h2, by simp, ?_⟩
      intro a ha b hb
      simp at hb
      subst hb
      have ha' := (h1 a).1 ha
      simp only [keeps, decide_eq_true_eq] at hk
      rcases hk with rfl | hk
      · simp at ha'
      · have hm0 : m - 1 < zs.length := by omega
        have hz' : zs.toArray[m - 1]! = zs[m - 1] := by simp [hm0]
        rw [hz, hz'] at hk
        obtain ⟨i, hi⟩ := List.getElem?_of_mem ha'
        have hi' := (List.getElem?_eq_some_iff.1 hi).1
        rw [List.length_take] at hi'
        rw [List.getElem?_take, if_pos (by omega), List.getElem?_eq_getElem (by omega)] at hi
        have hi2 : zs[i] = a := by simpa using hi
        have hp := List.pairwise_iff_getElem.1 hs
        have e1 : zs[i] ≤ zs[m - 1] := by
          by_cases e : i = m - 1
          · subst e; exact Int.le_refl _
          · exact hp i (m - 1) (by omega) hm0 (by omega)
        have e2 : zs[m - 1] ≤ zs[m] := hp (m - 1) m hm0 hm' (by omega)
        omega
    · rw [if_neg hk, List.append_nil]
      refine ⟨fun x => ?_, h2⟩
      rw [h1 x]
      simp only [keeps, decide_eq_true_eq, not_or, Decidable.not_not] at hk
      have hm0 : m - 1 < zs.length := by omega
      have hz' : zs.toArray[m - 1]! = zs[m - 1] := by simp [hm0]
      rw [hz, hz'] at hk
      simp only [List.mem_append, List.mem_singleton]
      constructor
      · exact fun h => .inl h
      · rintro (h | rfl)
        · exact h
        · rw [hk.2]
          exact List.mem_take_iff_getElem.2 ⟨m - 1, by omega, rfl⟩
theorem mem_compact_sorted {zs : List Int} (hs : zs.Pairwise (· ≤ ·)) (x : Int) : x ∈ compact zs ↔ x ∈ zs := by
  have := (upTo_facts zs hs zs.length (Nat.le_refl _)).1 x
  rw [List.take_length] at this
  exact this
theorem compact_sorted {zs : List Int} (hs : zs.Pairwise (· ≤ ·)) : (compact zs).Pairwise (· < ·) := (upTo_facts zs hs zs.length (Nat.le_refl _)).2
theorem mem_cs {x : Int} {xs : List Int} : x ∈ compact (isort xs) ↔ x ∈ xs := (mem_compact_sorted (isort_sorted xs) x).trans mem_isort
theorem cs_sorted (xs : List Int) : (compact (isort xs)).Pairwise (· < ·) := compact_sorted (isort_sorted xs)
/-- Two strictly ascending lists with the same elements are one. -/
theorem sorted_ext {xs ys : List Int} (hx : xs.Pairwise (· < ·)) (hy : ys.Pairwise (· < ·)) (h : ∀ a, a ∈ xs ↔ a ∈ ys) : xs = ys := by
  induction xs generalizing ys with
  | nil =>
    cases ys with
    | nil => rfl
    | cons y ys => exact absurd ((h y).2 (by simp)) (by simp)
  | cons x xs ih =>
    cases ys with
    | nil => exact absurd ((h x).1 (by simp)) (by simp)
    | cons y ys =>
      rw [List.pairwise_cons] at hx hy
      have e : x = y := by
        have h1 := (h x).1 (by simp)
        have h2 := (h y).2 (by simp)
        simp at h1 h2
        rcases h1 with h1 | h1
        · exact h1
        · rcases h2 with h2 | h2
          · exact h2.symm
          · have := hx.1 y h2; have := hy.1 x h1; omega
      subst e
      congr 1
      refine ih hx.2 hy.2 fun a => ?_
      constructor
      · intro ha
        have := (h a).1 (by simp [ha])
        simp at this
        rcases this with rfl | h1
        · have := hx.1 a ha; omega
        · exact h1
      · intro ha
        have := (h a).2 (by simp [ha])
        simp at this
        rcases this with rfl | h1
        · have := hy.1 a ha; omega
        · exact h1

/-- Places of a well-formed code. -/
theorem fine_instr {c : CodeD} (h : fineB c = true) {p : Nat} (hp : p < c.instrs.length) : instrOk c (c.instrs.getD p default) = true := by
  simp only [fineB, Bool.and_eq_true, List.all_eq_true] at h
  refine h.2 _ ?_
  rw [List.getD_eq_getElem?_getD, List.getElem?_eq_getElem hp]
  exact List.getElem_mem hp
theorem fmt_places : ∀ p ∈ fmtTab, (p.1 = 47 ∨ p.1 = 48 ∨ p.1 = 20) → p.2.k0 = 16 := by decide
theorem fine_target {c : CodeD} (h : fineB c = true) {p : Nat} (hp : p < c.instrs.length) (ho : (c.instrs.getD p default).op = 47 ∨ (c.instrs.getD p default).op = 48 ∨ (c.instrs.getD p default).op = 20) :
    0 ≤ (c.instrs.getD p default).a ∧ (c.instrs.getD p default).a < c.instrs.length := by
  have := fine_instr h hp
  unfold instrOk at this
  cases e : fmtOf (c.instrs.getD p default).op with
  | none => rw [e] at this; cases this
  | some f =>
    rw [e] at this
    have hk : f.k0 = 16 := by
      unfold fmtOf at e
      cases e2 : fmtTab.find? fun q => (c.instrs.getD p default).op == q.1 with
      | none => rw [e2] at e; cases e
      | some q =>
        rw [e2] at e
        cases e
        have h1 := List.find?_some e2
        simp at h1
        exact fmt_places q (List.mem_of_find?_eq_some e2) (by rw [← h1]; exact ho)
    simp only [opsOk, Bool.and_eq_true] at this
    have h0 := this.1.1
    rw [hk] at h0
    exact lenB_lt (by simpa [ruleB] using h0)
theorem next_in {c : CodeD} (h : fineB c = true) {p : Nat} (hp : p < c.instrs.length) : ∀ y ∈ nextL c p, 0 ≤ y ∧ y < c.instrs.length := by
  intro y hy
  unfold nextL nextQ at hy
  split at hy
  · simp at hy
  · split at hy
    · rename_i e
      simp at hy
      subst hy
      exact fine_target h hp (.inl e)
    · rw [mem_cs] at hy
      unfold next1 at hy
      simp only [List.mem_append] at hy
      rcases hy with hy | hy
      · split at hy
        · rename_i e
          simp at hy
          subst hy
          exact fine_target h hp (.inr (.inl e))
        · simp at hy
      · split at hy
        · simp at hy
          omega
        · simp at hy
theorem next_len (c : CodeD) (p : Nat) : (nextL c p).length ≤ 2 := by
  unfold nextL nextQ
  split
  · simp
  · split
    · simp
    · refine Nat.le_trans (compact_length_le _) ?_
      rw [isort_length]
      unfold next1
      simp only [List.length_append]
      split <;> split <;> simp
theorem entries_in {c : CodeD} (h : fineB c = true) : ∀ y ∈ entriesL c, 0 ≤ y ∧ y < c.instrs.length := by
  intro y hy
  have hb := fine_bounds h
  unfold entriesL at hy
  rw [mem_cs] at hy
  have h' := h
  simp only [fineB, Bool.and_eq_true, Bool.not_eq_true', tablesB, List.all_eq_true] at h
  obtain ⟨⟨_, ht⟩, _⟩ := h
  simp only [entries0, List.mem_append, List.mem_map, List.mem_flatMap, List.mem_filter, List.mem_singleton, id] at hy
  rcases hy with (((rfl | ⟨p, hp, rfl⟩) | ⟨t, ht', hy⟩) | ⟨l, hl, hy⟩) | ⟨x, ⟨hx, ho⟩, rfl⟩
  · have := hb.i0; omega
  · have := ht.1.1.1.1.1 p hp
    simp only [procB, placeB, withinB, Bool.and_eq_true, decide_eq_true_eq] at this
    omega
  · have := ht.1.1.1.1.2 t ht'
    simp only [thunkB, placeB, withinB, Bool.and_eq_true, Bool.or_eq_true, beq_iff_eq, decide_eq_true_eq] at this
    simp only [thunkPlaces, List.mem_filter, List.mem_cons, List.not_mem_nil, or_false, decide_eq_true_eq] at hy
    obtain ⟨rfl | rfl | rfl, h0⟩ := hy <;> omega
  · have := ht.1.1.1.2 l hl
    simp only [switchB, placeB, withinB, Bool.and_eq_true, Bool.not_eq_true', List.any_eq_false, decide_eq_true_eq] at this
    have := this.2 y hy
    simp at this
    omega
  · obtain ⟨p, hp⟩ := List.getElem?_of_mem hx
    obtain ⟨hl, rfl⟩ := List.getElem?_eq_some_iff.1 hp
    have := fine_target (p := p) h' hl (by simp only [List.getD_eq_getElem?_getD, List.getElem?_eq_getElem hl, Option.getD_some]; exact .inr (.inr (by simpa using ho)))
    simpa [hl] using this
end Go.Proofs.YtififjlgjmgikaaGreat
