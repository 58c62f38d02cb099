/- GraphReasons, walked (seat .Z). -/
import Derived.Test.YtififjlgjmgikaaGreatRsnB
namespace Go.Proofs.YtififjlgjmgikaaGreat
set_option linter.all false
open Go.RowKit

/-- The error of Reason, on both sides. -/
noncomputable def rsnE (c : CodeD) (us ds : List Int) (a f : Int) : Int := if setsE c [us, ds] = 0 then (if factB c.instrs.length a f = true then (if dcd (LiveR (nextL c) us ds f.toNat a.toNat) = true then 0 else 4) else 5) else setsE c [us, ds]
theorem path_reach {n : Nat} {fr : List Int} {nx : Int → List Int} {p : List Int} {x : Int} (h : PathTo n fr nx p x) : Reach (· ∈ fr) (fun a b => b ∈ nx a) x := by
  have hp := h.pos
  have key : ∀ i, i < p.length → Reach (· ∈ fr) (fun a b => b ∈ nx a) (p.getD i 0) := by
    intro i
    induction i with
    | zero =>
      intro hi
      obtain ⟨y, h1, h2⟩ := h.first
      rw [List.getD_eq_getElem?_getD, h1]
      exact .start h2
    | succ i ih =>
      intro hi
      have h1 := h.step i (p.getD i 0) (p.getD (i + 1) 0) (by simp [show i < p.length by omega]) (by simp [hi])
      exact .step (ih (by omega)) h1
  have hl := h.last
  rw [List.getLast?_eq_getElem?] at hl
  have h2 := key (p.length - 1) (by omega)
  rw [List.getD_eq_getElem?_getD, hl] at h2
  exact h2
def RsAll (c : CodeD) (us ds : List Int) (a f : Int) (w w' : World) (K : PH) (e : Ending) : Prop :=
  ∃ v, e = .returned (.tuple #[v, .int .i64 (rsnE c us ds a f)]) ∧ ((rsnE c us ds a f ≠ 0 ∧ v = .slice none 0 0) ∨ (rsnE c us ds a f = 0 ∧ ∃ p, SlV rInt (extH K w w') v p ∧ RsPath c us ds p a.toNat f.toNat))
theorem graph_Reason_rd (H : PH) (v vu vd : Value) (c : CodeD) (us ds : List Int) (a f : Int) (w : World) (hw : Sees w H) (hc : CodeV H v c) (hu : SlV rInt H vu us) (hd : SlV rInt H vd ds) :
    Calls Tryz.prog 29 #[v, vu, vd, .int .i64 a, .int .i64 f] w fun e w' => RsAll c us ds a f w w' H e ∧ Below w.heap.size w w' := by
  by_cases hE : setsE c [us, ds] = 0
  · cases hF : factB c.instrs.length a f
    · refine (graph_Reason_bad H v vu vd c us ds a f w hw hc hu hd hE hF).mono ?_
      rintro e w' ⟨rfl, hB⟩
      have e1 : rsnE c us ds a f = 5 := by unfold rsnE; rw [if_pos hE, hF]; rfl
      exact ⟨⟨_, by rw [e1], .inl ⟨by rw [e1]; decide, rfl⟩⟩, hB⟩
    · obtain ⟨⟨a0, a1⟩, f0, f1⟩ := factB_iff.1 hF
      obtain ⟨f', rfl⟩ : ∃ f' : Nat, f = (f' : Int) := ⟨f.toNat, by omega⟩
      obtain ⟨a', rfl⟩ : ∃ a' : Nat, a = (a' : Int) := ⟨a.toNat, by omega⟩
      have hfi := (setsE_ok hE).1
      have hN := fun p hp => next_in hfi (p := p) hp
      have hl := rsn_live (us := us) (ds := ds) (f := f') (a := (a' : Int)) (n := c.instrs.length) hN ⟨a0, a1⟩
      have n0 := (fine_bounds hfi).i1
      refine (graph_Reason_ok H v vu vd c us ds a' f' w hw hc hu hd hE hF).mono ?_
      rintro e w' ⟨hR, hB⟩
      refine ⟨?_, hB⟩
      rcases hR with ⟨u, p, x, rfl, ho, hP, hx⟩ | ⟨rfl, hno⟩
      · have hxr := hP.range x (List.mem_of_getLast? hP.last)
        have e1 : rsnE c us ds a' f' = 0 := by unfold rsnE; rw [if_pos hE, if_pos hF, if_pos (dcd_iff.2 (by simpa using hl.1 ⟨x, path_reach hP, hxr, hx⟩))]
        refine ⟨u, by rw [e1], .inr ⟨e1, p, ho.read (fun y hy => by have := hP.range y hy; exact ⟨by omega, by omega⟩) ?_, by simpa using rs_path hP hx⟩⟩
        have h1 := nodup_range hP.nodup hP.range
        unfold maxN
        omega
      · have e1 : rsnE c us ds a' f' = 4 := by
          unfold rsnE
          rw [if_pos hE, if_pos hF, if_neg]
          intro h
          obtain ⟨x, h1, h2, h3⟩ := hl.2 (by simpa using dcd_iff.1 h)
          rw [hno x h1] at h3
          cases h3
        exact ⟨_, by rw [e1], .inl ⟨by rw [e1]; decide, rfl⟩⟩
  · refine (graph_Reason_no H v vu vd c us ds a f w hw hc hu hd hE).mono ?_
    rintro e w' ⟨rfl, hB⟩
    have e1 : rsnE c us ds a f = setsE c [us, ds] := by unfold rsnE; rw [if_neg hE]
    exact ⟨⟨_, by rw [e1], .inl ⟨by rw [e1]; exact hE, rfl⟩⟩, hB⟩
theorem r19_ReasonError_rd (H : PH) (v vu vd : Value) (c : CodeD) (us ds : List Int) (a f : Int) (w : World) (hw : Sees w H) (hc : CodeV H v c) (hu : SlV rInt H vu us) (hd : SlV rInt H vd ds) :
    Calls Tryz.prog 30 #[v, vu, vd, .int .i64 a, .int .i64 f] w fun e w' => e = .returned (.int .i64 (rsnE c us ds a f)) ∧ Below w.heap.size w w' := by
  by_cases hE : setsE c [us, ds] = 0
  · cases hF : factB c.instrs.length a f
    · have e1 : rsnE c us ds a f = 5 := by unfold rsnE; rw [if_pos hE, hF]; rfl
      rw [e1]
      exact r19_ReasonError_bad H v vu vd c us ds a f w hw hc hu hd hE hF
    · obtain ⟨⟨a0, a1⟩, f0, f1⟩ := factB_iff.1 hF
      obtain ⟨f', rfl⟩ : ∃ f' : Nat, f = (f' : Int) := ⟨f.toNat, by omega⟩
      obtain ⟨a', rfl⟩ : ∃ a' : Nat, a = (a' : Int) := ⟨a.toNat, by omega⟩
      refine (r19_ReasonError_ok H v vu vd c us ds a' f' w hw hc hu hd hE hF).mono ?_
      rintro e w' ⟨⟨xs, hx, rfl⟩, hB⟩
      refine ⟨?_, hB⟩
      congr 2
      unfold rsnE
      rw [if_pos hE, if_pos hF, Int.toNat_natCast, Int.toNat_natCast]
      have h1 := hx.iff_ a' f' (by omega)
      by_cases hL : LiveR (nextL c) us ds f' a'
      · rw [if_pos (h1.2 hL), if_pos (dcd_iff.2 hL)]
      · rw [if_neg (fun h => hL (h1.1 h)), if_neg (fun h => hL (dcd_iff.1 h))]
  · have e1 : rsnE c us ds a f = setsE c [us, ds] := by unfold rsnE; rw [if_neg hE]
    rw [e1]
    exact r19_ReasonError_no H v vu vd c us ds a f w hw hc hu hd hE
set_option maxHeartbeats 4000000 in
set_option maxRecDepth 100000 in
theorem law_Reasons (H : PH) (v vu vd : Value) (a f : Int) (c : CodeD) (us ds : List Int) (w : World) (hw : Sees w H) (hc : CodeV H v c) (hu : SlV rInt H vu us) (hd : SlV rInt H vd ds) (_ : I64 a) (_ : I64 f) :
    Calls Tryz.prog 7 #[v, vu, vd, .int .i64 a, .int .i64 f] w fun e w' => e = .returned (.bool true) ∧ Below w.heap.size w w' := by
  have hc0 := hc
  obtain ⟨s0, s1, s2, s3, s4, s5, s6, rfl, hc⟩ := hc
  have hx0 := ga_new w (.cells #[s0, s1, s2, s3, s4, s5, s6] 30)
  have hB0 : Below w.heap.size w (w.alloc (.cells #[s0, s1, s2, s3, s4, s5, s6] 30)) := (Below.refl _ _).alloc (Nat.le_refl _) _
  have hA := law_awake (w.alloc (.cells #[s0, s1, s2, s3, s4, s5, s6] 30))
  have hFw := Lib.hid (fun (w1 : World) => law_few H _ c w1 hc0)
  have hG := Lib.hid (fun (w1 : World) (hs : Sees w1 H) => graph_Reason_rd H _ vu vd c us ds a f w1 hs hc0 hu hd)
  have hR := Lib.hid (fun (w1 : World) (hs : Sees w1 H) => r19_ReasonError_rd H _ vu vd c us ds a f w1 hs hc0 hu hd)
  cases hfew : decide (c.instrs.length ≤ 120)
  · have hfh := Lib.hid hfew
    clear hfew hc hc0
    go_enter Tryz.func7, Tryz.ntmps7
    go_wp2_with (first
      | (go_at_call 11; refine hA.mono ?_; rintro e w1 ⟨rfl, hB1⟩; have hBa := bstep hB0 hB1; have hx1 := blk_keep hB1 hx0; have q := box7 hx1; have hl1 : w.heap.size < w1.heap.size := (Array.getElem?_eq_some_iff.1 hx1).1)
      | (go_at_call 12; refine (hFw.out _).mono ?_; rintro e w2 ⟨rfl, hB2⟩; rw [hfh.out]; replace hBa := bstep hBa hB2))
    go_ret
    exact ⟨rfl, hBa⟩
  · have hfh := Lib.hid hfew
    clear hfew
    obtain ⟨E, hE⟩ : ∃ E, rsnE c us ds a f = E := ⟨_, rfl⟩
    have hEh := Lib.hid hE
    have hEE : (E != E) = false := by simp
    by_cases hE0 : E = 0
    · subst hE0
      have hES : setsE c [us, ds] = 0 := by
        apply Classical.byContradiction
        intro hn
        unfold rsnE at hE
        rw [if_neg hn] at hE
        exact hn hE
      have hFa : factB c.instrs.length a f = true := by
        apply Classical.byContradiction
        intro hn
        unfold rsnE at hE
        rw [if_pos hES, if_neg hn] at hE
        cases hE
      obtain ⟨⟨a0, a1⟩, f0, f1⟩ := factB_iff.1 hFa
      obtain ⟨f', rfl⟩ : ∃ f' : Nat, f = (f' : Int) := ⟨f.toNat, by omega⟩
      obtain ⟨a', rfl⟩ : ∃ a' : Nat, a = (a' : Int) := ⟨a.toNat, by omega⟩
      have hI := Lib.hid (fun (K : PH) (w1 : World) (hK : PH.le H K) (hs : Sees w1 K) (vl : Value) (ls : List Int) (hl : SlV rInt K vl ls) (hP : RsPath c us ds ls a' f') => r19_IsReason K _ vu vd vl c us ds ls a' f' w1 hs (hc0.mono hK) (hu.mono hK) (hd.mono hK) hl hES hFa hP)
      clear hE hES hFa a0 a1 f0 f1 hc hc0 hu hd
      go_enter Tryz.func7, Tryz.ntmps7
      go_wp2_with (first
        | (go_at_call 11; refine hA.mono ?_; rintro e w1 ⟨rfl, hB1⟩; have hBa := bstep hB0 hB1; have hx1 := blk_keep hB1 hx0; have q := box7 hx1; have hl1 : w.heap.size < w1.heap.size := (Array.getElem?_eq_some_iff.1 hx1).1)
        | (go_at_call 12; refine (hFw.out _).mono ?_; rintro e w2 ⟨rfl, hB2⟩; rw [hfh.out]; replace hBa := bstep hBa hB2; replace hx1 := blk_keep hB2 hx1; clear q; have q := box7 hx1; replace hl1 : w.heap.size < w2.heap.size := (Array.getElem?_eq_some_iff.1 hx1).1)
        | (go_at_call 29; refine (hG.out _ (hw.below hBa)).mono ?_; rintro e w3 ⟨⟨vl, rfl, hla⟩, hB3⟩; rw [hEh.out] at hla; rw [hEh.out]; have hlah := Lib.hid hla; have hKa := extH.sees (hw.below hBa) hB3; have hHK := extH.le (hw.below hBa) w3; replace hBa := bstep hBa hB3; replace hx1 := blk_keep hB3 hx1; clear q hla; have q := box7 hx1; replace hl1 : w.heap.size < w3.heap.size := (Array.getElem?_eq_some_iff.1 hx1).1)
        | (go_at_call 30; refine (hR.out _ (hw.below hBa)).mono ?_; rintro e w4 ⟨rfl, hB4⟩; rw [hEh.out]; replace hKa := hKa.below hB4; replace hBa := bstep hBa hB4; replace hx1 := blk_keep hB4 hx1; clear q; have q := box7 hx1; replace hl1 : w.heap.size < w4.heap.size := (Array.getElem?_eq_some_iff.1 hx1).1)
        | (go_at_call 31; rcases hlah.out with ⟨hno, _⟩ | ⟨_, p, hp, hP⟩; exact absurd rfl hno; refine (hI.out _ _ hHK hKa _ p hp (by simpa using hP)).mono ?_; rintro e w5 ⟨rfl, hB5⟩; replace hBa := bstep hBa hB5))
      go_ret
      exact ⟨rfl, hBa⟩
    · have hne : (E != 0) = true := by simpa using hE0
      have hE0h := Lib.hid hE0
      clear hE hc hc0 hu hd hE0
      go_enter Tryz.func7, Tryz.ntmps7
      go_wp2_with (first
        | (go_at_call 11; refine hA.mono ?_; rintro e w1 ⟨rfl, hB1⟩; have hBa := bstep hB0 hB1; have hx1 := blk_keep hB1 hx0; have q := box7 hx1; have hl1 : w.heap.size < w1.heap.size := (Array.getElem?_eq_some_iff.1 hx1).1)
        | (go_at_call 12; refine (hFw.out _).mono ?_; rintro e w2 ⟨rfl, hB2⟩; rw [hfh.out]; replace hBa := bstep hBa hB2; replace hx1 := blk_keep hB2 hx1; clear q; have q := box7 hx1; replace hl1 : w.heap.size < w2.heap.size := (Array.getElem?_eq_some_iff.1 hx1).1)
        | (go_at_call 29; refine (hG.out _ (hw.below hBa)).mono ?_; rintro e w3 ⟨⟨vl, rfl, hla⟩, hB3⟩; have hvl : vl = .slice none 0 0 := (by rcases hla with ⟨_, h⟩ | ⟨h, _⟩; exact h; exact absurd (hEh.out.symm.trans h) hE0h.out); subst hvl; rw [hEh.out]; replace hBa := bstep hBa hB3; replace hx1 := blk_keep hB3 hx1; clear q hla; have q := box7 hx1; replace hl1 : w.heap.size < w3.heap.size := (Array.getElem?_eq_some_iff.1 hx1).1)
        | (go_at_call 30; refine (hR.out _ (hw.below hBa)).mono ?_; rintro e w4 ⟨rfl, hB4⟩; rw [hEh.out]; replace hBa := bstep hBa hB4; replace hx1 := blk_keep hB4 hx1; clear q; have q := box7 hx1; replace hl1 : w.heap.size < w4.heap.size := (Array.getElem?_eq_some_iff.1 hx1).1))
      go_ret
      exact ⟨rfl, hBa⟩
end Go.Proofs.YtififjlgjmgikaaGreat
