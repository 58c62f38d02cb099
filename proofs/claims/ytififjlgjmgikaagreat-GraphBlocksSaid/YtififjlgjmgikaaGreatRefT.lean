/- The reference's Idoms, Dominates, AroundError, Blocks, BlockAt (seat .Z). -/
import Derived.Test.YtififjlgjmgikaaGreatRefY
import Derived.Test.YtififjlgjmgikaaGreatRefX
namespace Go.Proofs.YtififjlgjmgikaaGreat
set_option linter.all false
open Go.RowKit

theorem flow_nx {c : CodeD} (hf : fineB c = true) : ∀ b ∈ (theFlow c).blocks, (∀ y ∈ b.next, 0 ≤ y ∧ y < (theFlow c).blocks.length) ∧ b.next.length ≤ 20000 := by
  have hn := (fine_bounds hf).i0
  intro b hb
  obtain ⟨i, hi⟩ := List.getElem?_of_mem hb
  have hil := (List.getElem?_eq_some_iff.1 hi).1
  obtain ⟨s, t, hB⟩ := blk_at c hil
  rw [hB.blk] at hi
  injection hi with hi
  subst hi
  have hlt := hB.lt
  have hle := hB.le
  refine ⟨fun y hy => ?_, by simp only [List.length_map]; exact Nat.le_trans (nextL_len c _) (by omega)⟩
  obtain ⟨z, hz, rfl⟩ := List.mem_map.1 hy
  have h1 := next_in hf (show t - 1 < c.instrs.length by omega) z hz
  obtain ⟨p, rfl⟩ : ∃ p : Nat, z = (p : Int) := ⟨z.toNat, by omega⟩
  rw [flow_len]
  exact ofI_range (lead_zero c hn) (by omega)
theorem flow_le {c : CodeD} (hf : fineB c = true) : (theFlow c).blocks.length ≤ 20000 := by
  have h1 := flow_len c
  have h2 := cnt_le (leadB c) c.instrs.length
  have h3 := (fine_bounds hf).i1
  omega
theorem grB_of {c : CodeD} (hf : fineB c = true) {K : PH} {b : Nat} {s0 s1 s2 s3 s4 s5 s6 L E R : Value} (hb : K b = some (.cells #[s0, s1, s2, s3, s4, s5, s6, L, E, R] 65 (0, 0)))
    (hL : SlV rBlock K L (theFlow c).blocks) (hE : SlV rBool K E (theFlow c).entry) (hR : SlV rBool K R (theFlow c).reached) : GrB K b L E R (theFlow c) :=
  ⟨⟨_, _, _, _, _, _, _, hb⟩, hL, hE, hR, by rw [flow_len]; simp [theFlow], by rw [flow_len]; simp [theFlow], flow_le hf, fun b hb => (flow_nx hf b hb).1, fun b hb => (flow_nx hf b hb).2⟩
theorem checked_fine {c : CodeD} (h : checkedE c = 0) : fineB c = true := by
  cases hf : fineB c
  · simp [checkedE, hf] at h
  · rfl
/-- The immediate dominators, or an error. -/
def IdRes (H : PH) (w w' : World) (c : CodeD) (e : Ending) : Prop := ∃ u xs, e = .returned (.tuple #[u, .int .i64 (checkedE c)]) ∧ SlV rInt (extH H w w') u xs ∧ ((checkedE c = 0 ∧ xs = idomL (theFlow c)) ∨ (checkedE c ≠ 0 ∧ xs = []))
theorem graph_Idoms_rd (H : PH) (v : Value) (c : CodeD) (w : World) (hw : Sees w H) (hc : CodeV H v c) :
    Calls Tryz.prog 13 #[v] w fun e w' => IdRes H w w' c e ∧ Below w.heap.size w w' := by
  by_cases h : checkedE c = 0
  · refine (graph_Idoms_ok H v c w hw hc h).mono ?_
    rintro e w' ⟨⟨u, rfl, hu⟩, hB⟩
    exact ⟨⟨u, _, by rw [h], hu, .inl ⟨h, rfl⟩⟩, hB⟩
  · refine (graph_Idoms_no H v c w hw hc h).mono ?_
    rintro e w' ⟨rfl, hB⟩
    exact ⟨⟨_, [], rfl, SlV.nil _ _, .inr ⟨h, rfl⟩⟩, hB⟩
theorem idomL_i64 {c : CodeD} (hf : fineB c = true) : ∀ x ∈ idomL (theFlow c), I64 x := by
  intro x hx
  unfold idomL at hx
  obtain ⟨b, hb, rfl⟩ := List.mem_map.1 hx
  have h1 := bestK_range (theFlow c) b (theFlow c).blocks.length
  have h2 := flow_le hf
  unfold idomB I64
  split <;> omega
set_option maxHeartbeats 4000000 in
set_option maxRecDepth 100000 in
theorem r19_Idoms_rd (H : PH) (v : Value) (c : CodeD) (w : World) (hw : Sees w H) (hc : CodeV H v c) :
    Calls Tryz.prog 14 #[v] w fun e w' => IdRes H w w' c e ∧ Below w.heap.size w w' := by
  have hSm := Lib.hid (fun (w1 : World) (hs : Sees w1 H) => r19_Small H _ c w1 hs hc)
  have hc0 := hc
  obtain ⟨s0, s1, s2, s3, s4, s5, s6, rfl, hc⟩ := hc
  have hx0 := ga_new w (.cells #[s0, s1, s2, s3, s4, s5, s6] 30)
  have hB0 : Below w.heap.size w (w.alloc (.cells #[s0, s1, s2, s3, s4, s5, s6] 30)) := (Below.refl _ _).alloc (Nat.le_refl _) _
  clear hc hc0
  obtain ⟨CE, hE⟩ : ∃ CE, checkedE c = CE := ⟨_, rfl⟩
  have hEh := Lib.hid hE
  by_cases hE0 : CE = 0
  · have hf := checked_fine (hE.trans hE0)
    subst hE0
    have hfh := Lib.hid hf
    unfold IdRes
    rw [hE]
    clear hE hf
    go_enter Tryz.func14, Tryz.ntmps14
    go_upto_region 4 with (first
      | (go_at_call 35; refine (hSm.out _ (hw.below hB0)).mono ?_; rintro e w1 ⟨⟨t0, t1, t2, t3, t4, t5, t6, L, E, R, rfl, hone, ho3, hrd⟩, hB1⟩; go_must (rw [hEh.out]); have hBa := bstep hB0 hB1; have hsa := extH.sees (hw.below hB0) hB1; have hrdh := Lib.hid hrd; clear hrd)
      | (with_reducible refine wpL_storeG rfl _ _ rfl w1.heap.size t0 t1 t2 t3 t4 t5 t6 L E R _ rfl rfl (ga_new w1 (.cells zeroG 65)) rfl hone ho3 ?_; intro w2 hb2 hg2 hz2; rw [World.size_alloc] at hz2; have hB12 : Below w1.heap.size w1 w2 := (((Below.refl _ _).alloc (Nat.le_refl _) _).grown hg2 (by simp) fun k hk => by injection hk with hk; omega); replace hBa := bstep hBa hB12))
    obtain ⟨hL, hE, hR⟩ := hrdh.out hfh.out
    have hle := extH.step (H := H) (w := w.alloc (.cells #[s0, s1, s2, s3, s4, s5, s6] 30)) hB12
    have hG := grB_of hfh.out (extH.new (by have := hB0.size; have := hB1.size; omega) hb2) (hL.mono hle) (hE.mono hle) (hR.mono hle)
    have hI := r19_idoms _ w1.heap.size L E R c w2 (extH.sees (hw.below hB0) (bstep hB1 hB12)) hfh.out hG
    go_wp2_with (go_at_call 45; refine hI.mono ?_; rintro e w3 ⟨⟨u, rfl, hown⟩, hB3⟩)
    go_ret2
    refine ⟨⟨_, _, rfl, (OwnI.lower (base' := w.heap.size) hown hBa.size).read (fun x hx => idomL_i64 hfh.out x hx) (by simp [idomL]; have := flow_le hfh.out; unfold maxN; omega), .inl ⟨by trivial, rfl⟩⟩, bstep hBa hB3⟩
  · have hne : (CE != 0) = true := by simpa using hE0
    unfold IdRes
    rw [hE]
    clear hE
    go_enter Tryz.func14, Tryz.ntmps14
    go_wp2_with (first
      | (go_at_call 35; refine (hSm.out _ (hw.below hB0)).mono ?_; rintro e w1 ⟨⟨t0, t1, t2, t3, t4, t5, t6, L, E, R, rfl, hone, ho3, hrd⟩, hB1⟩; go_must (rw [hEh.out]); have hBa := bstep hB0 hB1; have hsa := extH.sees (hw.below hB0) hB1; have hrdh := Lib.hid hrd; clear hrd)
      | (with_reducible refine wpL_storeG rfl _ _ rfl w1.heap.size t0 t1 t2 t3 t4 t5 t6 L E R _ rfl rfl (ga_new w1 (.cells zeroG 65)) rfl hone ho3 ?_; intro w2 hb2 hg2 hz2; rw [World.size_alloc] at hz2; have hB12 : Below w1.heap.size w1 w2 := (((Below.refl _ _).alloc (Nat.le_refl _) _).grown hg2 (by simp) fun k hk => by injection hk with hk; omega); replace hBa := bstep hBa hB12))
    go_ret2
    exact ⟨⟨_, [], rfl, SlV.nil _ _, .inr ⟨hE0, rfl⟩⟩, hBa⟩
end Go.Proofs.YtififjlgjmgikaaGreat
