/- graph.Dominates, few. -/
import Derived.Test.YtififjlgjmgikaaGreatAwake
import Derived.Test.YtififjlgjmgikaaGreatDomM
namespace Go.Proofs.YtififjlgjmgikaaGreat
set_option linter.all false
open Go.RowKit

noncomputable def domD (f : FlowD) (a b : Int) : Bool := f.reached.getD b.toNat false && !dcd (AroundR f a b)
noncomputable def domE (c : CodeD) (a b : Int) : Int := if checkedE c = 0 then (if bothB (theFlow c) a b = true then 0 else 5) else checkedE c
noncomputable def domV (c : CodeD) (a b : Int) : Bool := decide (domE c a b = 0) && domD (theFlow c) a b
theorem both_range {f : FlowD} {a b : Int} (h : bothB f a b = true) : (0 ≤ a ∧ a < f.blocks.length) ∧ (0 ≤ b ∧ b < f.blocks.length) := by
  simp [bothB, withinB] at h
  omega
set_option maxHeartbeats 4000000 in
set_option maxRecDepth 100000 in
theorem graph_Dominates (H : PH) (v : Value) (c : CodeD) (a b : Int) (w : World) (hw : Sees w H) (hc : CodeV H v c) :
    Calls Tryz.prog 20 #[v, .int .i64 a, .int .i64 b] w fun e w' => e = .returned (.tuple #[.bool (domV c a b), .int .i64 (domE c a b)]) ∧ Below w.heap.size w w' := by
  have hc0 := hc
  obtain ⟨s0, s1, s2, s3, s4, s5, s6, rfl, hc⟩ := hc
  have hB0 : Below w.heap.size w (w.alloc (.cells #[s0, s1, s2, s3, s4, s5, s6] 30)) := (Below.refl _ _).alloc (Nat.le_refl _) _
  by_cases hE : checkedE c = 0
  · have hC := graph_checked_ok H _ c _ (hw.below hB0) hc0 hE
    cases hb : bothB (theFlow c) a b
    · have hv : domV c a b = false := by simp [domV, domE, hE, hb]
      have he : domE c a b = 5 := by simp [domE, hE, hb]
      rw [hv, he]
      have hbh := Lib.hid hb
      clear hE hc hc0 hv he hb
      go_enter Tryz.func20, Tryz.ntmps20
      go_wp2_with (first
        | (go_at_call 43; refine hC.mono ?_; rintro e w1 ⟨⟨v1, rfl, hfv⟩, hB1⟩)
        | (go_at_call 52; refine (flow_both _ _ _ _ _ _ (extH.sees (hw.below hB0) hB1) hfv).mono ?_; rintro e w2 ⟨rfl, hB2⟩; rw [hbh.out]))
      go_ret2
      exact ⟨rfl, bstep (bstep hB0 hB1) hB2⟩
    · have he : domE c a b = 0 := by simp [domE, hE, hb]
      have hv : domV c a b = domD (theFlow c) a b := by simp [domV, he]
      rw [he, hv]
      obtain ⟨ha1, hb1⟩ := both_range hb
      obtain ⟨k, rfl⟩ : ∃ k : Nat, b = (k : Int) := ⟨b.toNat, by omega⟩
      have hbh := Lib.hid hb
      have hdd : domD (theFlow c) a k = ((theFlow c).reached.getD k false && !dcd (AroundR (theFlow c) a k)) := by unfold domD; rw [Int.toNat_natCast]
      rw [hdd]
      have hkl : k < (theFlow c).blocks.length := by omega
      clear hE hc hc0 hv he hb hdd
      obtain ⟨f, hfe⟩ : ∃ f, f = theFlow c := ⟨_, rfl⟩
      rw [← hfe] at hbh hkl ⊢
      have hfeh := Lib.hid hfe
      clear hfe ha1 hb1
      cases hr : f.reached.getD k false
      · have hrh := Lib.hid hr
        simp only [Bool.false_and]
        clear hr
        go_enter Tryz.func20, Tryz.ntmps20
        go_wp2_with (first
          | (go_at_call 43; refine hC.mono ?_; rintro e w1 ⟨⟨v1, rfl, hfv⟩, hB1⟩; rw [← hfeh.out] at hfv; have hK1 := extH.sees (hw.below hB0) hB1)
          | (go_at_call 52; refine (flow_both _ _ _ _ _ _ hK1 hfv).mono ?_; rintro e w2 ⟨rfl, hB2⟩; rw [hbh.out])
          | (go_at_call 53; refine (flow_avoiding _ _ _ a _ (hK1.below hB2) hfv).mono ?_; rintro e w3 ⟨⟨bm, l, ρ, N, rfl, h1, hM, hI⟩, hB3⟩; obtain ⟨b5, t0, t1, t2, t3, m, rfl, hb5, hfc⟩ := hfv; obtain ⟨rb, ro, rc, rfl, -, hrb, hrcell⟩ := hfc.reached.bools (by have := hfc.lenR; omega); have hs3 := (hK1.below hB2).below hB3; have q := box5 (hs3 _ _ hb5); have l5 := hs3.lt hb5; have lr := hs3.lt' hrb; have hcr := hrcell _ hs3 k (by have := hfc.lenR; omega); rw [hrh.out] at hcr; have hkR : k < f.reached.length := (by have := hfc.lenR; omega); have hlk := hM.lookup Tryz.underlying90 (keyInt Tryz.underlying3) (z := .int .i64 0) (fun _ => by kernel_rfl) (k : Int) true; obtain ⟨isv, his⟩ : ∃ isv, isv = (mget l (k : Int)).isSome := ⟨_, rfl⟩; obtain ⟨vv, hvv⟩ : ∃ vv, vv = (mget l (k : Int)).getD (.int .i64 0) := ⟨_, rfl⟩; simp only [if_true] at hlk; rw [← his, ← hvv] at hlk; clear his hvv hrcell hfc hI hM))
        go_ret2
        exact ⟨rfl, bstep (bstep (bstep hB0 hB1) hB2) hB3⟩
      · have hrh := Lib.hid hr
        simp only [Bool.true_and]
        clear hr
        obtain ⟨D, hD⟩ : ∃ D, D = dcd (AroundR f a k) := ⟨_, rfl⟩
        rw [← hD]
        have hDh := Lib.hid hD
        clear hD
        go_enter Tryz.func20, Tryz.ntmps20
        go_wp2_with (first
          | (go_at_call 43; refine hC.mono ?_; rintro e w1 ⟨⟨v1, rfl, hfv⟩, hB1⟩; rw [← hfeh.out] at hfv; have hK1 := extH.sees (hw.below hB0) hB1)
          | (go_at_call 52; refine (flow_both _ _ _ _ _ _ hK1 hfv).mono ?_; rintro e w2 ⟨rfl, hB2⟩; rw [hbh.out])
          | (go_at_call 53; refine (flow_avoiding _ _ _ a _ (hK1.below hB2) hfv).mono ?_; rintro e w3 ⟨⟨bm, l, ρ, N, rfl, h1, hM, hI⟩, hB3⟩; obtain ⟨b5, t0, t1, t2, t3, m, rfl, hb5, hfc⟩ := hfv; obtain ⟨rb, ro, rc, rfl, -, hrb, hrcell⟩ := hfc.reached.bools (by have := hfc.lenR; omega); have hs3 := (hK1.below hB2).below hB3; have q := box5 (hs3 _ _ hb5); have l5 := hs3.lt hb5; have lr := hs3.lt' hrb; have hcr := hrcell _ hs3 k (by have := hfc.lenR; omega); rw [hrh.out] at hcr; have hkR : k < f.reached.length := (by have := hfc.lenR; omega); have hlk := hM.lookup Tryz.underlying90 (keyInt Tryz.underlying3) (z := .int .i64 0) (fun _ => by kernel_rfl) (k : Int) true; have hkey := hI.reach (k : Int); obtain ⟨isv, his⟩ : ∃ isv, isv = (mget l (k : Int)).isSome := ⟨_, rfl⟩; obtain ⟨vv, hvv⟩ : ∃ vv, vv = (mget l (k : Int)).getD (.int .i64 0) := ⟨_, rfl⟩; simp only [if_true] at hlk; unfold hasK at hkey; rw [← his, ← hvv] at hlk; rw [← his] at hkey; have hisD : isv = D := (by rw [hDh.out]; exact Bool.eq_iff_iff.2 (hkey.trans dcd_iff.symm)); have hisDh := Lib.hid hisD; clear his hvv hrcell hfc hI hM hkey hisD))
        go_ret2
        exact ⟨by (rw [hisDh.out]; rfl), bstep (bstep (bstep hB0 hB1) hB2) hB3⟩
  · have hC := graph_checked_no H _ c _ (hw.below hB0) hc0 hE
    have he : domE c a b = checkedE c := by simp [domE, hE]
    have hv : domV c a b = false := by simp [domV, he, hE]
    rw [he, hv]
    have hne : (checkedE c != 0) = true := by simpa using hE
    generalize checkedE c = E at *
    clear hE hc hc0 he hv
    go_enter Tryz.func20, Tryz.ntmps20
    go_wp2_with (go_at_call 43; refine hC.mono ?_; rintro e w1 ⟨rfl, hB1⟩)
    go_ret2
    exact ⟨rfl, bstep hB0 hB1⟩
set_option maxHeartbeats 1000000 in
theorem law_few (H : PH) (v : Value) (c : CodeD) (w : World) (hc : CodeV H v c) :
    Calls Tryz.prog 12 #[v] w fun e w' => e = .returned (.bool (decide (c.instrs.length ≤ 120))) ∧ Below w.heap.size w w' := by
  obtain ⟨s0, s1, s2, s3, s4, s5, s6, rfl, hc⟩ := hc
  have b0 := hc.instrs.le
  obtain ⟨A0, c0, rfl, k0, -⟩ := hc.instrs.open_
  by_cases h : c.instrs.length ≤ 120
  · have h' : (c.instrs.length : Int) ≤ 120 := by omega
    rw [decide_eq_true h]
    go_enter Tryz.func12, Tryz.ntmps12
    go_wp2
    go_ret
    exact ⟨rfl, (Below.refl _ _).alloc (Nat.le_refl _) _⟩
  · have h' : ¬ (c.instrs.length : Int) ≤ 120 := by omega
    rw [decide_eq_false h]
    go_enter Tryz.func12, Tryz.ntmps12
    go_wp2
    go_ret
    exact ⟨rfl, (Below.refl _ _).alloc (Nat.le_refl _) _⟩
/-- Dominance, as GraphOrder asks it. -/
theorem domV_iff {c : CodeD} {a b : Int} (h : domE c a b = 0) (hf : fineB c = true) : domV c a b = true ↔ DomP (theFlow c) a b := by
  have hE : checkedE c = 0 := by
    apply Classical.byContradiction
    intro hn
    simp [domE, hn] at h
  have hb : bothB (theFlow c) a b = true := by
    apply Classical.byContradiction
    intro hn
    simp [domE, hE, hn] at h
  obtain ⟨_, hb1⟩ := both_range hb
  obtain ⟨k, rfl⟩ : ∃ k : Nat, b = (k : Int) := ⟨b.toNat, by omega⟩
  unfold domV domD DomP
  rw [decide_eq_true h, Bool.true_and, Bool.and_eq_true, Int.toNat_natCast, reached_iff hf (by omega), ← around_iff]
  cases hd : dcd (AroundR (theFlow c) a k)
  · have : ¬ AroundR (theFlow c) a k := fun h => by rw [dcd_iff.2 h] at hd; cases hd
    simp [this]
  · have := dcd_iff.1 hd
    simp [this]
end Go.Proofs.YtififjlgjmgikaaGreat
