/- code.next, code.fine, graph.fine, code.Entries, code.Next. -/
import Derived.Test.YtififjlgjmgikaaEntries
namespace Go.Proofs.Ytififjlgjmgikaa
set_option linter.all false
open Go.RowKit

def stops (op : Int) : Bool := op == 1 || op == 24 || op == 25 || op == 53
def next1 (q : InstrD) (p n : Nat) : List Int := (if q.op = 48 then [q.a] else []) ++ (if p + 1 < n then [(p : Int) + 1] else [])
def nextQ (q : InstrD) (p n : Nat) : List Int := if stops q.op then [] else if q.op = 47 then [q.a] else Go.Lib.compact (isort (next1 q p n))
def nextL (c : CodeD) (p : Nat) : List Int := nextQ (c.instrs.getD p default) p c.instrs.length
def entriesL (c : CodeD) : List Int := Go.Lib.compact (isort (entries0 c))

set_option maxHeartbeats 2000000 in
set_option maxRecDepth 100000 in
theorem code_next (H : PH) (v : Value) (c : CodeD) (w : World) (hw : Sees w H) (hc : CodeV H v c) (p : Nat) (hp : p < c.instrs.length) :
    Calls Try.prog 35 #[v, .int .i64 p] w fun e w' => (∃ v', e = .returned v' ∧ OwnI w' w.heap.size v' (nextL c p)) ∧ Below w.heap.size w w' := by
  obtain ⟨s0, s1, s2, s3, s4, s5, s6, rfl, hc⟩ := hc
  have b0 := hc.instrs.le
  obtain ⟨b, off, c0, rfl, k0, hb, hcell, hint⟩ := hc.instrs.instrs (by omega)
  obtain ⟨x0, x1, x2, x3⟩ := hcell w hw p hp
  have hbl := hw.lt' hb
  clear hcell hint hc
  unfold nextL
  generalize c.instrs.getD p default = q at *
  obtain ⟨po, pa, pb, pc⟩ := q
  dsimp only at *
  generalize c.instrs.length = n at *
  go_enter Try.func35, Try.ntmps35
  have hbx : ∀ (o1 o2 : Obj) (w2 : World), (((w.alloc (.cells #[.slice (some ⟨b, off, none⟩) n c0, s1, s2, s3, s4, s5, s6] 30)).alloc o1).alloc o2).grownBy w2 none → w2.cell? ⟨w.heap.size, 0, none⟩ = some (.slice (some ⟨b, off, none⟩) n c0) ∧ Below w.heap.size w w2 := by
    intro o1 o2 w2 hg
    refine ⟨cell_blk ((hg.block w.heap.size (by simp; omega) (by simp)).trans (ga_old (ga_old (ga_new w _)))) 0, ?_⟩
    exact ((((Below.refl _ _).alloc (Nat.le_refl _) _).alloc (by simp) _).alloc (by simp; omega) _).grown hg (by simp; omega) (fun k hk => by cases hk)
  have hB0 : ∀ (o1 o2 : Obj), Below w.heap.size w ((w.alloc o1).alloc o2) := fun o1 o2 => ((Below.refl _ _).alloc (Nat.le_refl _) _).alloc (by simp) _
  have hH := Lib.hid hbx
  have hH0 := Lib.hid hB0
  clear hbx hB0
  cases hs : stops po
  · by_cases h47 : po = 47
    · subst h47
      go_wp2
      go_ret
      refine ⟨⟨_, rfl, ?_⟩, (hH0.out _ _).alloc (by simp; omega) _⟩
      have := (OwnI.snoc_lit ((w.alloc (.cells #[.slice (some ⟨b, off, none⟩) n c0, s1, s2, s3, s4, s5, s6] 30)).alloc (.cells #[.int .i64 47, .int .i64 pa, .int .i64 pb, .int .i64 pc] 100)) pa).lower (base' := w.heap.size) (by simp; omega)
      simpa [nextQ, stops] using this
    · have hs0 := Lib.hid hs
      simp only [stops, Bool.or_eq_false_iff, beq_eq_false_iff_ne, ne_eq] at hs
      obtain ⟨⟨⟨t1, t2⟩, t3⟩, t4⟩ := hs
      by_cases h48 : po = 48
      · subst h48
        by_cases hl : p + 1 < n
        · have hfin := Lib.hid (show nextQ ⟨48, pa, pb, pc⟩ p n = Go.Lib.compact (isort ([pa] ++ [(p : Int) + 1])) by simp [nextQ, hs0.out, next1, hl])
          go_wp2_with (first
            | (at_builtin; refine wpL_appI rfl _ _ rfl w.heap.size _ _ [(p : Int) + 1] rfl (hown2.al _) ⟨w2.heap.size, 0, none⟩ 1 1 rfl rfl (one_new (by simp)) (by simp) (by have := h2.2.size; simp; omega) ?_; intro v3 w3 hown3 hg3 _; have hB3 := below_app (h2.2.alloc h2.2.size _) (by simp; have := h2.2.size; omega) (hown2.al _) hg3; clear hg3)
            | (at_builtin; refine wpL_appI rfl _ _ rfl w.heap.size _ _ [pa] rfl (OwnI.nil _ _) ⟨w.heap.size + 1 + 1, 0, none⟩ 1 1 rfl rfl (one_new (by simp)) (by simp) (by simp; omega) ?_; intro v2 w2 hown2 hg2 _; have h2 := hH.out _ _ _ hg2; clear hg2)
            | (go_at_call 48; refine (sort_own hown3 (by simp)).mono ?_; rintro e w4 ⟨rfl, hown4, hg4⟩; have hB4 := below_app hB3 hB3.size hown3 hg4; clear hg4)
            | (go_at_call 57; refine (compact_own hown4 (by simp [isort_length])).mono ?_; rintro e w5 ⟨v5, rfl, hown5, _, hg5⟩; have hB5 := below_app hB4 hB4.size hown4 hg5; clear hg5))
          go_ret
          exact ⟨⟨_, rfl, by rw [hfin.out]; exact hown5⟩, hB5⟩
        · have hl' : ¬ ((p : Int) + 1 < n) := by omega
          have hfin := Lib.hid (show nextQ ⟨48, pa, pb, pc⟩ p n = Go.Lib.compact (isort ([] ++ [pa])) by simp [nextQ, hs0.out, next1, hl])
          go_wp2_with (first
            | (at_builtin; refine wpL_appI rfl _ _ rfl w.heap.size _ _ [pa] rfl (OwnI.nil _ _) ⟨w.heap.size + 1 + 1, 0, none⟩ 1 1 rfl rfl (one_new (by simp)) (by simp) (by simp; omega) ?_; intro v2 w2 hown2 hg2 _; have h2 := hH.out _ _ _ hg2; clear hg2)
            | (go_at_call 48; refine (sort_own hown2 (by simp)).mono ?_; rintro e w4 ⟨rfl, hown4, hg4⟩; have hB4 := below_app h2.2 h2.2.size hown2 hg4; clear hg4)
            | (go_at_call 57; refine (compact_own hown4 (by simp [isort_length])).mono ?_; rintro e w5 ⟨v5, rfl, hown5, _, hg5⟩; have hB5 := below_app hB4 hB4.size hown4 hg5; clear hg5))
          go_ret
          exact ⟨⟨_, rfl, by rw [hfin.out]; exact hown5⟩, hB5⟩
      · by_cases hl : p + 1 < n
        · have hfin := Lib.hid (show nextQ ⟨po, pa, pb, pc⟩ p n = Go.Lib.compact (isort ([] ++ [(p : Int) + 1])) by simp [nextQ, hs0.out, next1, hl, h47, h48])
          go_wp2_with (first
            | (at_builtin; refine wpL_appI rfl _ _ rfl w.heap.size _ _ [(p : Int) + 1] rfl (OwnI.nil _ _) ⟨w.heap.size + 1 + 1, 0, none⟩ 1 1 rfl rfl (one_new (by simp)) (by simp) (by simp; omega) ?_; intro v2 w2 hown2 hg2 _; have h2 := hH.out _ _ _ hg2; clear hg2)
            | (go_at_call 48; refine (sort_own hown2 (by simp)).mono ?_; rintro e w4 ⟨rfl, hown4, hg4⟩; have hB4 := below_app h2.2 h2.2.size hown2 hg4; clear hg4)
            | (go_at_call 57; refine (compact_own hown4 (by simp [isort_length])).mono ?_; rintro e w5 ⟨v5, rfl, hown5, _, hg5⟩; have hB5 := below_app hB4 hB4.size hown4 hg5; clear hg5))
          go_ret
          exact ⟨⟨_, rfl, by rw [hfin.out]; exact hown5⟩, hB5⟩
        · have hl' : ¬ ((p : Int) + 1 < n) := by omega
          have hfin := Lib.hid (show nextQ ⟨po, pa, pb, pc⟩ p n = Go.Lib.compact (isort []) by simp [nextQ, hs0.out, next1, hl, h47, h48])
          go_wp2_with (first
            | (go_at_call 48; refine (sort_own (OwnI.nil _ w.heap.size) (by simp)).mono ?_; rintro e w4 ⟨rfl, hown4, hg4⟩; have hB4 := below_app (hH0.out _ _) (by simp; omega) (OwnI.nil _ w.heap.size) hg4; clear hg4)
            | (go_at_call 57; refine (compact_own hown4 (by simp [isort_length])).mono ?_; rintro e w5 ⟨v5, rfl, hown5, _, hg5⟩; have hB5 := below_app hB4 hB4.size hown4 hg5; clear hg5))
          go_ret
          exact ⟨⟨_, rfl, by rw [hfin.out]; exact hown5⟩, hB5⟩
  · have hs' := Lib.hid hs
    simp only [stops, Bool.or_eq_true, beq_iff_eq] at hs
    rcases hs with ((rfl | rfl) | rfl) | rfl
    all_goals
      go_wp2
      go_ret
      refine ⟨⟨_, rfl, ?_⟩, hH0.out _ _⟩
      simp only [nextQ, hs'.out, if_true]
      exact OwnI.nil _ _

set_option maxHeartbeats 400000 in
theorem code_fine (H : PH) (v : Value) (c : CodeD) (w : World) (hw : Sees w H) (hc : CodeV H v c) :
    Calls Try.prog 32 #[v] w fun e w' => e = .returned (.bool (fineB c)) ∧ Below w.heap.size w w' := by
  have hc0 := hc
  obtain ⟨s0, s1, s2, s3, s4, s5, s6, rfl, hc⟩ := hc
  have hB0 : ∀ o, Below w.heap.size w (w.alloc o) := fun o => (Below.refl _ _).alloc (Nat.le_refl _) _
  have hC := Lib.hid (fun (w1 : World) (hs : Sees w1 H) => code_Check H _ c w1 hs hc0)
  have hBh := Lib.hid hB0; clear hB0
  go_enter Try.func32, Try.ntmps32
  go_wp2_with (go_at_call 54; refine (hC.out _ (hw.below (hBh.out _))).mono ?_; rintro e w1 ⟨⟨r, i, rfl, hr⟩, hB1⟩; have hrh := Lib.hid hr; clear hr)
  go_ret
  exact ⟨ret_bool hrh.out, bstep (hBh.out _) hB1⟩
set_option maxHeartbeats 400000 in
theorem graph_fine (H : PH) (v : Value) (c : CodeD) (w : World) (hw : Sees w H) (hc : CodeV H v c) :
    Calls Try.prog 30 #[v] w fun e w' => e = .returned (.bool (fineB c)) ∧ Below w.heap.size w w' := by
  have hc0 := hc
  obtain ⟨s0, s1, s2, s3, s4, s5, s6, rfl, hc⟩ := hc
  have hB0 : ∀ o, Below w.heap.size w (w.alloc o) := fun o => (Below.refl _ _).alloc (Nat.le_refl _) _
  have hC := Lib.hid (fun (w1 : World) (hs : Sees w1 H) => code_Check H _ c w1 hs hc0)
  have hBh := Lib.hid hB0; clear hB0
  go_enter Try.func30, Try.ntmps30
  go_wp2_with (go_at_call 54; refine (hC.out _ (hw.below (hBh.out _))).mono ?_; rintro e w1 ⟨⟨r, i, rfl, hr⟩, hB1⟩; have hrh := Lib.hid hr; clear hr)
  go_ret
  exact ⟨ret_bool hrh.out, bstep (hBh.out _) hB1⟩
/-- A slice of ints and an error. -/
def SlErr (base : Nat) (w' : World) (xs : List Int) (er : Int) (e : Ending) : Prop := ∃ v', e = .returned (.tuple #[v', .int .i64 er]) ∧ OwnI w' base v' xs
set_option maxHeartbeats 400000 in
theorem code_Entries (H : PH) (v : Value) (c : CodeD) (w : World) (hw : Sees w H) (hc : CodeV H v c) (hf : fineB c = true) :
    Calls Try.prog 12 #[v] w fun e w' => SlErr w.heap.size w' (entriesL c) 0 e ∧ Below w.heap.size w w' := by
  have hc0 := hc
  obtain ⟨s0, s1, s2, s3, s4, s5, s6, rfl, hc⟩ := hc
  have hbx := ga_new w (.cells #[s0, s1, s2, s3, s4, s5, s6] 30)
  have hB0 : Below w.heap.size w (w.alloc (.cells #[s0, s1, s2, s3, s4, s5, s6] 30)) := (Below.refl _ _).alloc (Nat.le_refl _) _
  have hC := Lib.hid (fun (w1 : World) (hs : Sees w1 H) => code_fine H _ c w1 hs hc0)
  have hE := Lib.hid (fun (w1 : World) (hs : Sees w1 H) => code_entries H _ c w1 hs hc0 hf)
  have hfh := Lib.hid hf; clear hf
  go_enter Try.func12, Try.ntmps12
  go_wp2_with (first
    | (go_at_call 32; refine (hC.out _ (hw.below hB0)).mono ?_; rintro e w1 ⟨rfl, hB1⟩; rw [hfh.out]; replace hbx := blk_keep hB1 hbx; replace hB0 := bstep hB0 hB1; have q := box7 hbx; clear hB1)
    | (go_at_call 33; refine (hE.out _ (hw.below hB0)).mono ?_; rintro e w2 ⟨⟨v', rfl, hown⟩, hB1⟩; replace hB1 := bstep hB0 hB1))
  go_ret2
  exact ⟨⟨_, rfl, hown.lower hB0.size⟩, hB1⟩
set_option maxHeartbeats 400000 in
theorem code_Next (H : PH) (v : Value) (c : CodeD) (w : World) (hw : Sees w H) (hc : CodeV H v c) (hf : fineB c = true) (p : Nat) (hp : p < c.instrs.length) :
    Calls Try.prog 13 #[v, .int .i64 p] w fun e w' => SlErr w.heap.size w' (nextL c p) 0 e ∧ Below w.heap.size w w' := by
  have hc0 := hc
  obtain ⟨s0, s1, s2, s3, s4, s5, s6, rfl, hc⟩ := hc
  have b0 := hc.instrs.le
  obtain ⟨A0, c0, rfl, k0, -⟩ := hc.instrs.open_
  have hbx := ga_new w (.cells #[.slice A0 c.instrs.length c0, s1, s2, s3, s4, s5, s6] 30)
  have hB0 : Below w.heap.size w (w.alloc (.cells #[.slice A0 c.instrs.length c0, s1, s2, s3, s4, s5, s6] 30)) := (Below.refl _ _).alloc (Nat.le_refl _) _
  have hC := Lib.hid (fun (w1 : World) (hs : Sees w1 H) => code_fine H _ c w1 hs hc0)
  have hE := Lib.hid (fun (w1 : World) (hs : Sees w1 H) => code_next H _ c w1 hs hc0 p hp)
  have hfh := Lib.hid hf; clear hf
  have hin : withinB (p : Int) 0 ((c.instrs.length : Int) - 1) = true := by simp only [withinB, Bool.and_eq_true, decide_eq_true_eq]; omega
  have hinh := Lib.hid hin; clear hin
  go_enter Try.func13, Try.ntmps13
  go_wp2_with (first
    | (go_at_call 32; refine (hC.out _ (hw.below hB0)).mono ?_; rintro e w1 ⟨rfl, hB1⟩; rw [hfh.out]; replace hbx := blk_keep hB1 hbx; replace hB0 := bstep hB0 hB1; have q := box7 hbx; clear hB1)
    | (go_at_call 34; refine (code_within _ _ _ _).mono ?_; rintro e w3 ⟨rfl, rfl⟩; rw [hinh.out])
    | (go_at_call 35; refine (hE.out _ (hw.below hB0)).mono ?_; rintro e w2 ⟨⟨v', rfl, hown⟩, hB1⟩; replace hB1 := bstep hB0 hB1))
  go_ret2
  exact ⟨⟨_, rfl, hown.lower hB0.size⟩, hB1⟩
end Go.Proofs.Ytififjlgjmgikaa
