/- graph.Around. -/
import Derived.Test.YtififjlgjmgikaaGreatDomW
import Derived.Test.YtififjlgjmgikaaGreatTop
namespace Go.Proofs.YtififjlgjmgikaaGreat
set_option linter.all false
open Go.RowKit

theorem flow_nx {c : CodeD} (hf : fineB c = true) : ∀ b ∈ (theFlow c).blocks, (∀ y ∈ b.next, 0 ≤ y ∧ y < (theFlow c).blocks.length) ∧ b.next.length ≤ 20000 := by
  have hn := (fine_bounds hf).i0
  intro b hb
  obtain ⟨i, hi⟩ := List.getElem?_of_mem hb
  have hil := (List.getElem?_eq_some_iff.1 hi).1
  obtain ⟨s, t, hB⟩ := blk_at c hil
  rw [hB.blk] at hi
  injection hi with hi
  subst hi
  have hlt := hB.lt
  have hle := hB.le
  refine ⟨fun y hy => ?_, by simp only [List.length_map]; exact Nat.le_trans (nextL_len c _) (by omega)⟩
  obtain ⟨z, hz, rfl⟩ := List.mem_map.1 hy
  have h1 := next_in hf (show t - 1 < c.instrs.length by omega) z hz
  obtain ⟨p, rfl⟩ : ∃ p : Nat, z = (p : Int) := ⟨z.toNat, by omega⟩
  rw [flow_len]
  exact ofI_range (lead_zero c hn) (by omega)
theorem flow_le {c : CodeD} (hf : fineB c = true) : (theFlow c).blocks.length ≤ 20000 := by
  have h1 := flow_len c
  have h2 := cnt_le (leadB c) c.instrs.length
  have h3 := (fine_bounds hf).i1
  omega
theorem checked_fine {c : CodeD} (h : checkedE c = 0) : fineB c = true := by
  cases hf : fineB c
  · simp [checkedE, hf] at h
  · rfl
noncomputable def arndE (c : CodeD) (a b : Int) : Int := if checkedE c = 0 then (if bothB (theFlow c) a b = true then (if dcd (AroundR (theFlow c) a b) = true then 0 else 4) else 5) else checkedE c
def ArRes (H : PH) (w w' : World) (c : CodeD) (a b : Int) (e : Ending) : Prop :=
  ∃ v, e = .returned (.tuple #[v, .int .i64 (arndE c a b)]) ∧ ((arndE c a b ≠ 0 ∧ v = .slice none 0 0) ∨ (arndE c a b = 0 ∧ ∃ p, SlV rInt (extH H w w') v p ∧ PathTo (theFlow c).blocks.length (entriesB (theFlow c) a) (avoidNx (theFlow c) a) p b))
set_option maxHeartbeats 4000000 in
set_option maxRecDepth 100000 in
theorem graph_Around (H : PH) (v : Value) (c : CodeD) (a b : Int) (w : World) (hw : Sees w H) (hc : CodeV H v c) :
    Calls Tryz.prog 22 #[v, .int .i64 a, .int .i64 b] w fun e w' => ArRes H w w' c a b e ∧ Below w.heap.size w w' := by
  have hc0 := hc
  obtain ⟨s0, s1, s2, s3, s4, s5, s6, rfl, hc⟩ := hc
  have hB0 : Below w.heap.size w (w.alloc (.cells #[s0, s1, s2, s3, s4, s5, s6] 30)) := (Below.refl _ _).alloc (Nat.le_refl _) _
  by_cases hE : checkedE c = 0
  · have hC := graph_checked_ok H _ c _ (hw.below hB0) hc0 hE
    cases hb : bothB (theFlow c) a b
    · have he : arndE c a b = 5 := by simp [arndE, hE, hb]
      unfold ArRes
      rw [he]
      have hbh := Lib.hid hb
      clear hE hc hc0 he hb
      go_enter Tryz.func22, Tryz.ntmps22
      go_wp2_with (first
        | (go_at_call 43; refine hC.mono ?_; rintro e w1 ⟨⟨v1, rfl, hfv⟩, hB1⟩)
        | (go_at_call 52; refine (flow_both _ _ _ _ _ _ (extH.sees (hw.below hB0) hB1) hfv).mono ?_; rintro e w2 ⟨rfl, hB2⟩; rw [hbh.out]))
      go_ret2
      exact ⟨⟨_, rfl, .inl ⟨by decide, rfl⟩⟩, bstep (bstep hB0 hB1) hB2⟩
    · obtain ⟨ha1, hb1⟩ := both_range hb
      obtain ⟨k, rfl⟩ : ∃ k : Nat, b = (k : Int) := ⟨b.toNat, by omega⟩
      have hbh := Lib.hid hb
      have hkl : k < (theFlow c).blocks.length := by omega
      have hle : (theFlow c).blocks.length ≤ 20000 := flow_le (checked_fine hE)
      by_cases hD : AroundR (theFlow c) a k
      · have he : arndE c a k = 0 := by simp [arndE, hE, hb, dcd_iff.2 hD]
        unfold ArRes
        rw [he]
        have hDh := Lib.hid hD
        clear hE hc hc0 he hb hD
        obtain ⟨f, hfe⟩ : ∃ f, f = theFlow c := ⟨_, rfl⟩
        rw [← hfe] at hbh hkl hle hDh ⊢
        have hfeh := Lib.hid hfe
        clear hfe ha1 hb1
        go_enter Tryz.func22, Tryz.ntmps22
        go_wp2_with (first
          | (go_at_call 43; refine hC.mono ?_; rintro e w1 ⟨⟨v1, rfl, hfv⟩, hB1⟩; rw [← hfeh.out] at hfv; have hK1 := extH.sees (hw.below hB0) hB1)
          | (go_at_call 52; refine (flow_both _ _ _ _ _ _ hK1 hfv).mono ?_; rintro e w2 ⟨rfl, hB2⟩; rw [hbh.out])
          | (go_at_call 53; refine (flow_avoiding _ _ _ a _ (hK1.below hB2) hfv).mono ?_; rintro e w3 ⟨⟨bm, l, ρ, N, rfl, h1, hM, hI⟩, hB3⟩; have hlk := hM.lookup Tryz.underlying90 (keyInt Tryz.underlying3) (z := .int .i64 0) (fun _ => by kernel_rfl) (k : Int) true; have hkey := (hI.reach (k : Int)).2 hDh.out; have hMh := Lib.hid hM; have hIh := Lib.hid hI; obtain ⟨vv, hvv⟩ : ∃ vv, vv = (mget l (k : Int)).getD (.int .i64 0) := ⟨_, rfl⟩; simp only [if_true] at hlk; unfold hasK at hkey; rw [hkey, ← hvv] at hlk; have hkeyh := Lib.hid hkey; clear hvv hI hM hkey)
          | (go_at_call 56; refine (graph_back bm l ρ N f.blocks.length (entriesB f a) (avoidNx f a) k w3 hMh.out hIh.out.toWalkB hkeyh.out hle).mono ?_; rintro e w4 ⟨⟨u, p, rfl, hown, hP⟩, hB4⟩; have hPh := Lib.hid hP; clear hP))
        go_ret2
        have hB13 := bstep (bstep (bstep hB0 hB1) hB2) hB3
        have hnd := nodup_range hPh.out.nodup hPh.out.range
        exact ⟨⟨_, rfl, .inr ⟨by trivial, p, (OwnI.lower (base' := w.heap.size) hown hB13.size).read (fun y hy => by have := hPh.out.range y hy; exact ⟨by omega, by omega⟩) (by unfold maxN; omega), hPh.out⟩⟩, bstep hB13 hB4⟩
      · have he : arndE c a k = 4 := by
          have h9 : ¬ dcd (AroundR (theFlow c) a k) = true := fun h => hD (dcd_iff.1 h)
          simp [arndE, hE, hb, h9]
        unfold ArRes
        rw [he]
        have hDh := Lib.hid hD
        clear hE hc hc0 he hb hD
        obtain ⟨f, hfe⟩ : ∃ f, f = theFlow c := ⟨_, rfl⟩
        rw [← hfe] at hbh hkl hle hDh ⊢
        have hfeh := Lib.hid hfe
        clear hfe ha1 hb1
        go_enter Tryz.func22, Tryz.ntmps22
        go_wp2_with (first
          | (go_at_call 43; refine hC.mono ?_; rintro e w1 ⟨⟨v1, rfl, hfv⟩, hB1⟩; rw [← hfeh.out] at hfv; have hK1 := extH.sees (hw.below hB0) hB1)
          | (go_at_call 52; refine (flow_both _ _ _ _ _ _ hK1 hfv).mono ?_; rintro e w2 ⟨rfl, hB2⟩; rw [hbh.out])
          | (go_at_call 53; refine (flow_avoiding _ _ _ a _ (hK1.below hB2) hfv).mono ?_; rintro e w3 ⟨⟨bm, l, ρ, N, rfl, h1, hM, hI⟩, hB3⟩; have hlk := hM.lookup Tryz.underlying90 (keyInt Tryz.underlying3) (z := .int .i64 0) (fun _ => by kernel_rfl) (k : Int) true; have hkey := (show (mget l (k : Int)).isSome = false from Bool.eq_false_iff.2 fun h => hDh.out ((hI.reach (k : Int)).1 h)); have hMh := Lib.hid hM; have hIh := Lib.hid hI; obtain ⟨vv, hvv⟩ : ∃ vv, vv = (mget l (k : Int)).getD (.int .i64 0) := ⟨_, rfl⟩; simp only [if_true] at hlk; rw [hkey, ← hvv] at hlk; have hkeyh := Lib.hid hkey; clear hvv hI hM hkey))
        go_ret2
        exact ⟨⟨_, rfl, .inl ⟨by decide, rfl⟩⟩, bstep (bstep (bstep hB0 hB1) hB2) hB3⟩
  · have hC := graph_checked_no H _ c _ (hw.below hB0) hc0 hE
    have he : arndE c a b = checkedE c := by simp [arndE, hE]
    unfold ArRes
    rw [he]
    have hne : (checkedE c != 0) = true := by simpa using hE
    have hEh := Lib.hid hE
    clear hE hc hc0 he
    go_enter Tryz.func22, Tryz.ntmps22
    go_wp2_with (go_at_call 43; refine hC.mono ?_; rintro e w1 ⟨rfl, hB1⟩)
    go_ret2
    exact ⟨⟨_, rfl, .inl ⟨hEh.out, rfl⟩⟩, bstep hB0 hB1⟩
end Go.Proofs.YtififjlgjmgikaaGreat
