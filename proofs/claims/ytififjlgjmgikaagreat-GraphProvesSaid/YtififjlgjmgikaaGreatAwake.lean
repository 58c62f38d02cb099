/- manorboylaw19.sample, awake, few. -/
import Derived.Test.YtififjlgjmgikaaGreatTop
import Derived.Test.YtififjlgjmgikaaGreatSample
namespace Go.Proofs.YtififjlgjmgikaaGreat
set_option linter.all false
open Go.RowKit

theorem sample_checked : checkedE sampleD = 0 := by
  unfold checkedE
  rw [if_pos sample_fine, sample_blocks]
  rfl
def CodeRes (H : PH) (w : World) (c : CodeD) (w' : World) (e : Ending) : Prop := ∃ v, e = .returned v ∧ CodeV (extH H w w') v c
theorem slV_nil {α : Type} {r : Rp α} {H : PH} : SlV r H (.slice none 0 0) [] := SlV.nil r H
abbrev sampleArr : Array Value := #[.int .i64 4, .int .i64 1, .int .i64 0, .int .i64 0, .int .i64 48, .int .i64 4, .int .i64 0, .int .i64 0, .int .i64 2, .int .i64 5, .int .i64 0, .int .i64 0, .int .i64 47, .int .i64 5, .int .i64 0, .int .i64 0,
  .int .i64 2, .int .i64 6, .int .i64 0, .int .i64 0, .int .i64 51, .int .i64 1, .int .i64 0, .int .i64 0, .int .i64 47, .int .i64 0, .int .i64 0, .int .i64 0, .int .i64 1, .int .i64 0, .int .i64 0, .int .i64 0]
theorem sample_instrs {K : PH} {g : Nat} (h : K g = some (.cells sampleArr 123 (0, 0))) : SlV rInstr K (.slice (some ⟨g, 0, none⟩) 8 8) sampleD.instrs := by
  refine ⟨_, 8, rfl, Nat.le_refl _, by simp [maxN, sampleD], fun i x hi => ?_⟩
  have hil : i < 8 := (List.getElem?_eq_some_iff.1 hi).1
  refine ⟨g, 0, [.int .i64 x.op, .int .i64 x.a, .int .i64 x.b, .int .i64 x.c], rfl, ⟨rfl, sampleArr, _, _, h, fun j u hj => ?_⟩, rfl, ?_⟩
  · have hjl : j < 4 := (List.getElem?_eq_some_iff.1 hj).1
    obtain rfl | rfl | rfl | rfl | rfl | rfl | rfl | rfl : i = 0 ∨ i = 1 ∨ i = 2 ∨ i = 3 ∨ i = 4 ∨ i = 5 ∨ i = 6 ∨ i = 7 := by omega
    all_goals
      cases hi
      obtain rfl | rfl | rfl | rfl : j = 0 ∨ j = 1 ∨ j = 2 ∨ j = 3 := by omega
      all_goals (cases hj; rfl)
  · obtain rfl | rfl | rfl | rfl | rfl | rfl | rfl | rfl : i = 0 ∨ i = 1 ∨ i = 2 ∨ i = 3 ∨ i = 4 ∨ i = 5 ∨ i = 6 ∨ i = 7 := by omega
    all_goals
      cases hi
      simp [I64]
set_option maxHeartbeats 2000000 in
set_option maxRecDepth 100000 in
theorem law_sample (H : PH) (w : World) : Calls Tryz.prog 42 #[] w fun e w' => CodeRes H w sampleD w' e ∧ Below w.heap.size w w' := by
  go_enter Tryz.func42, Tryz.ntmps42
  go_wp2
  refine bodyPost_ret (v := .agg #[.slice (some ⟨w.heap.size + 1, 0, none⟩) 8 8, .slice none 0 0, .slice none 0 0, .slice none 0 0, .slice none 0 0, .slice none 0 0, .slice none 0 0]) (by simp [results, Tryz.results42, go_sem]) rfl ⟨⟨_, rfl, _, _, _, _, _, _, _, rfl, ⟨sample_instrs (extH.new (by omega) (blk1 _ _ _)), slV_nil, slV_nil, slV_nil, slV_nil, slV_nil, slV_nil⟩⟩, ?_⟩
  exact ((Below.refl _ _).alloc (Nat.le_refl _) _).alloc (by simp) _
theorem blocks5 {K : PH} {u : Value} (h : SlV rBlock K u [⟨0, 2, [1, 2]⟩, ⟨2, 4, [3]⟩, ⟨4, 5, [3]⟩, ⟨5, 7, [0]⟩, ⟨7, 8, []⟩]) :
    ∃ g o c g' o' c', u = .slice (some ⟨g, o, none⟩) 5 c ∧ K g ≠ none ∧ K g' ≠ none ∧ ∀ w, Sees w K → w.cell? ⟨g, o + 3, none⟩ = some (.int .i64 2) ∧ w.cell? ⟨g, o + 3 + 1, none⟩ = some (.int .i64 4) ∧ w.cell? ⟨g, o + 2, none⟩ = some (.slice (some ⟨g', o', none⟩) 2 c') ∧
      w.cell? ⟨g', o' + 1, none⟩ = some (.int .i64 2) := by
  obtain ⟨g, o, c, rfl, -, hg, hrow, -⟩ := h.blocks (by simp)
  obtain ⟨u0, hu0, hc0⟩ := hrow 0 (by simp)
  obtain ⟨u1, hu1, hc1⟩ := hrow 1 (by simp)
  obtain ⟨g', o', c', rfl, -, hg', hi, -⟩ := SlV.ints (xs := [1, 2]) hu0 (by simp)
  refine ⟨g, o, c, g', o', c', rfl, hg, hg', fun w hw => ⟨?_, ?_, ?_, ?_⟩⟩
  · have := (hc1 w hw).1
    simpa using this
  · have := (hc1 w hw).2.1
    simpa using this
  · have := (hc0 w hw).2.2
    simpa using this
  · have := hi w hw 1 (by simp)
    simpa using this
theorem ints5 {K : PH} {u : Value} {xs : List Int} (h : SlV rInt K u xs) (hl : xs.length = 5 ∧ xs.getD 0 0 = -1 ∧ xs.getD 3 0 = 0 ∧ xs.getD 4 0 = -2) :
    ∃ g o c, u = .slice (some ⟨g, o, none⟩) 5 c ∧ K g ≠ none ∧ ∀ w, Sees w K → w.cell? ⟨g, o, none⟩ = some (.int .i64 (-1)) ∧ w.cell? ⟨g, o + 3, none⟩ = some (.int .i64 0) ∧ w.cell? ⟨g, o + 4, none⟩ = some (.int .i64 (-2)) := by
  obtain ⟨g, o, c, rfl, -, hg, hi, -⟩ := h.ints (by omega)
  refine ⟨g, o, c, by rw [hl.1], hg, fun w hw => ⟨?_, ?_, ?_⟩⟩
  · have := hi w hw 0 (by omega); rw [hl.2.1] at this; simpa using this
  · have := hi w hw 3 (by omega); rw [hl.2.2.1] at this; exact this
  · have := hi w hw 4 (by omega); rw [hl.2.2.2] at this; exact this
set_option maxHeartbeats 4000000 in
set_option maxRecDepth 100000 in
theorem law_awake (w : World) : Calls Tryz.prog 11 #[] w fun e w' => e = .returned (.bool true) ∧ Below w.heap.size w w' := by
  have hS := Lib.hid (fun (w1 : World) => law_sample (full w1) w1)
  have hBk := Lib.hid (fun (K : PH) (v : Value) (w1 : World) (hs : Sees w1 K) (hc : CodeV K v sampleD) => graph_Blocks_ok K v sampleD w1 hs hc sample_fine)
  have hId := Lib.hid (fun (K : PH) (v : Value) (w1 : World) (hs : Sees w1 K) (hc : CodeV K v sampleD) => graph_Idoms_ok K v sampleD w1 hs hc sample_checked)
  have hb := sample_blocks
  obtain ⟨i1, i2, i3, i4⟩ := sample_idoms
  generalize idomL (theFlow sampleD) = ds at *
  have hbh := Lib.hid hb
  have hih := Lib.hid (And.intro i1 (And.intro i2 (And.intro i3 i4)))
  clear hb i1 i2 i3 i4
  go_enter Tryz.func11, Tryz.ntmps11
  go_wp2_with (first
    | (go_at_call 42; go_must (refine (hS.out _).mono ?_; rintro e w1 ⟨⟨v1, rfl, hc1⟩, hB1⟩))
    | (go_at_call 16; go_must (refine (hBk.out _ _ _ (extH.sees (full.sees _) hB1) hc1).mono ?_; rintro e w2 ⟨⟨u1, rfl, hu1⟩, hB2⟩; have hBa := bstep hB1 hB2; have hs2 := (extH.sees (extH.sees (full.sees _) hB1) hB2); rw [hbh.out] at hu1; obtain ⟨g1, o1, c1, g2, o2, c2, rfl, hn1, hn2, hcl⟩ := blocks5 hu1; have hclh := Lib.hid hcl; clear hcl))
    | (go_at_call 13; go_must (refine (hId.out _ _ _ (extH.sees (full.sees _) hB1) hc1).mono ?_; rintro e w4 ⟨⟨u2, rfl, hu2⟩, hB4⟩; obtain ⟨g3, o3, c3, rfl, hn3, hcl3⟩ := ints5 hu2 hih.out; have hBb := bstep hB1 hB4; have hs4 := hs2.below hBb; have q1 := hclh.out _ hs4; have q2 := hcl3 _ (extH.sees (extH.sees (full.sees _) hB1) hB4); have l1 := hs4.lt' hn1; have l2 := hs4.lt' hn2; have l3 := (extH.sees (extH.sees (full.sees _) hB1) hB4).lt' hn3; clear hcl3)))
  go_ret
  exact ⟨rfl, bstep hBa hBb⟩
end Go.Proofs.YtififjlgjmgikaaGreat
