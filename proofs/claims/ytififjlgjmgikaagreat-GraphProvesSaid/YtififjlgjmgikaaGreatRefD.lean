/- The reference's layer 19: leaders (seat .Z). The reference's layer 19: valid, sets, facts, CheckLive (seat .Z). -/
import Derived.Test.YtififjlgjmgikaaGreatRefC
import Derived.Test.YtififjlgjmgikaaGreatDomM
import Derived.Test.YtififjlgjmgikaaGreatLive3
namespace Go.Proofs.YtififjlgjmgikaaGreat
set_option linter.all false
open Go.RowKit

theorem leadTo_zero {c : CodeD} {p : Nat} : LeadTo c 0 p ↔ p = 0 ∨ (p : Int) ∈ entriesL c := by
  unfold LeadTo
  constructor
  · rintro (h | h | ⟨i', h, _⟩ | ⟨i', h, _⟩)
    · exact .inl h
    · exact .inr h
    · omega
    · omega
  · rintro (h | h)
    · exact .inl h
    · exact .inr (.inl h)
theorem leadTo_end {c : CodeD} {p : Nat} (hp : p < c.instrs.length) : LeadTo c c.instrs.length p ↔ IsLeader c p := by
  unfold LeadTo IsLeader
  constructor
  · rintro (h | h | h | ⟨i', _, h⟩)
    · exact .inl h
    · exact .inr (.inl h)
    · exact .inr (.inr (.inl h))
    · exact .inr (.inr (.inr ⟨i', h⟩))
  · rintro (h | h | h | ⟨i', h, h2⟩)
    · exact .inl h
    · exact .inr (.inl h)
    · exact .inr (.inr (.inl h))
    · exact .inr (.inr (.inr ⟨i', by omega, h, h2⟩))
set_option maxHeartbeats 8000000 in
set_option maxRecDepth 100000 in
theorem r19_leaders (H : PH) (v : Value) (c : CodeD) (w : World) (hw : Sees w H) (hc : CodeV H v c) (hf : fineB c = true) :
    Calls Tryz.prog 93 #[v] w fun e w' => RowB w.heap.size c.instrs.length w' (IsLeader c) e ∧ Below w.heap.size w w' := by
  have n0 := (fine_bounds hf).i1
  have n1 := (fine_bounds hf).i0
  have hc0 := hc
  obtain ⟨s0, s1, s2, s3, s4, s5, s6, rfl, hc⟩ := hc
  obtain ⟨A0, c0, rfl, k0, -⟩ := hc.instrs.open_
  have hmk := mk_bools c.instrs.length (by omega)
  have hx00 := ga_new w (.cells #[.slice A0 c.instrs.length c0, s1, s2, s3, s4, s5, s6] 30)
  have hE := Lib.hid (fun (w1 : World) (hs : Sees w1 H) => r14_Entries H _ c w1 hs hc0 hf)
  have hN := Lib.hid (fun (w1 : World) (hs : Sees w1 H) => r14_Next H _ c w1 hs hc0 hf)
  have hEl := Lib.hid (entries_in hf)
  have hNl := Lib.hid (fun (p : Nat) (hp : p < c.instrs.length) => next_in hf hp)
  have hElen := entries_len hf
  clear hc hc0 hf
  go_enter Tryz.func93, Tryz.ntmps93
  go_upto_region 2 with fail
  refine wp_name fun W hW => ?_
  have hBW : Below w.heap.size w W := by rw [hW]; exact ((Below.refl _ _).alloc (Nat.le_refl _) _).alloc (by simp) _
  have hA : ArrB W (w.heap.size + 1) (List.replicate c.instrs.length false) := by
    rw [hW]
    have := ArrB.new (w.alloc (.cells #[.slice A0 c.instrs.length c0, s1, s2, s3, s4, s5, s6] 30)) c.instrs.length
    simpa using this
  have hx1 : W.heap[w.heap.size]? = some (.cells #[.slice A0 c.instrs.length c0, s1, s2, s3, s4, s5, s6] 30 (0, 0)) := by rw [hW]; exact ga_old hx00
  clear hW hmk hx00
  have hac := hA.cell (j := 0) (by simp; omega)
  have haf := hA.free 0
  have hlg := hA.lt
  have hn1 : (0 : Int) < c.instrs.length := by omega
  go_upto_region 3 with fail
  refine wp_name fun w0 hw0 => ?_
  have hA0 : ArrB w0 (w.heap.size + 1) ((List.replicate c.instrs.length false).set 0 true) := by rw [hw0]; exact hA.set 0 true
  have hB0 : Below w.heap.size w w0 := by rw [hw0]; exact setCell_below hBW (by omega)
  have hx0 := (show w0.heap[w.heap.size]? = W.heap[w.heap.size]? by rw [hw0]; exact setCell_other (by omega)).trans hx1
  have hs0 := hw.below hB0
  have hHg : H (w.heap.size + 1) = none := hw.fresh (by omega)
  have hmk : Hid (Marks ((List.replicate c.instrs.length false).set 0 true) c.instrs.length (fun j => j = 0 ∨ (j : Int) ∈ (entriesL c).take 0)) := Lib.hid (((Marks.none_ c.instrs.length).set (q := 0) (by omega)).congr fun j hj => by simp)
  generalize (List.replicate c.instrs.length false).set 0 true = bs0 at *
  clear hw0 hac haf hlg hA hx1 hBW
  have q := box7 hx0
  have l0 : w.heap.size < w0.heap.size := (Array.getElem?_eq_some_iff.1 hx0).1
  go_wp2_with fail
  refine (hE.out _ hs0).mono ?_
  rintro e wE ⟨⟨ve, rfl, hown⟩, hBE⟩
  have he := hown.read (H := H) (fun y hy => by have := hEl.out y hy; exact ⟨by omega, by omega⟩) (by unfold maxN; omega)
  have hKE := extH.sees hs0 hBE
  have hKg : extH H w0 wE (w.heap.size + 1) = none := by unfold extH; rw [if_pos hA0.lt]; exact hHg
  replace hA0 := hA0.of_block (hBE.block _ hA0.lt)
  replace hx0 := blk_keep hBE hx0
  replace hs0 := hs0.below hBE
  replace hB0 := bstep hB0 hBE
  generalize extH H w0 wE = K at *
  clear q l0 hown hBE hE
  have q := box7 hx0
  obtain ⟨Ae, ce, rfl, -, -⟩ := he.open_
  go_wp2_with fail
  obtain ⟨w0, rfl⟩ : ∃ w0 : World, w0 = wE := ⟨_, rfl⟩
  clear q
  go_loopw [5] (fun i wr => ∃ (k : Nat) (bs : List Bool), k ≤ (entriesL c).length ∧ i = .int .i64 k ∧ Aside (Marks bs c.instrs.length (fun j => j = 0 ∨ (j : Int) ∈ (entriesL c).take k)) ∧ ArrB wr (w.heap.size + 1) bs ∧ w0.grownBy wr (some (w.heap.size + 1))) (fun i _ => (entriesL c).length - (intOf i).toNat)
  case atStart => exact ⟨0, bs0, Nat.zero_le _, rfl, hmk.out, hA0, grown_refl _ _⟩
  case round =>
    obtain ⟨k, bs, hk, rfl, hm, hA, hg⟩ := hrel
    have hmh := Lib.hid hm
    clear hm
    have hg1 : w.heap.size + 1 < w0.heap.size := hA0.lt
    have hs1 := hs0.grown hg hHg
    have hx1 := (hg.block w.heap.size (by omega) (fun e => by injection e with e; omega)).trans hx0
    have q := box7 hx1
    have l0 : w.heap.size < wr.heap.size := (Array.getElem?_eq_some_iff.1 hx1).1
    have hlg := hA.lt
    have hbl := hmh.out.len
    by_cases hlt : k < (entriesL c).length
    · have hlt' : (k : Int) < (entriesL c).length := by omega
      obtain ⟨b, off, c', hAA, -, hb, hcell, -⟩ := he.ints (by omega)
      cases hAA
      have hsK := hKE.grown hg hKg
      have hck := hcell wr hsK k hlt
      have lb := hsK.lt' hb
      have hx : (entriesL c)[k]? = some ((entriesL c).getD k 0) := by simp [hlt]
      obtain ⟨hi0, hi1⟩ := hEl.out _ (List.mem_of_getElem? hx)
      have hmm := take_succ_getD hx
      clear hcell hx
      generalize (entriesL c).getD k 0 = x at *
      have hac := hA.cell (j := x.toNat) (by omega)
      have haf := hA.free x.toNat
      have hset := Lib.hid ((hmh.out.set (q := x.toNat) (by omega)).congr (q := fun j => j = 0 ∨ (j : Int) ∈ (entriesL c).take (k + 1)) fun j hj => by rw [hmm, List.mem_append, List.mem_singleton, or_assoc, show j = x.toNat ↔ (j : Int) = x by omega])
      clear hmm
      go_wp2
      go_roundw
      case rel => exact ⟨k + 1, bs.set x.toNat true, by omega, by go_num, hset.out, hA.set x.toNat true, grown_set hg⟩
      case measure => simp [intOf]; omega
    · have hltn : ¬ (k : Int) < (entriesL c).length := by omega
      have hmk := Lib.hid (hmh.out.congr (q := LeadTo c 0) fun j hj => by rw [List.take_of_length_le (by omega)]; exact leadTo_zero.symm)
      have hBw := hB0.grown hg (by omega) fun j hj => by injection hj with hj; omega
      go_wp2
      clear hlt hmh hltn q hB0 hg hx0 hs0 hA0 hbl hlg l0 hg1 hKE hKg he hEl
      have hA0 := hA
      have hs0 := hs1
      have hx0 := hx1
      have hB0 := hBw
      clear hA hs1 hx1 hBw
      obtain ⟨w0, rfl⟩ : ∃ w0 : World, w0 = wr := ⟨_, rfl⟩
      go_loopw [6] (fun i wr => ∃ (k : Nat) (bs : List Bool), k ≤ c.instrs.length ∧ i = .int .i64 k ∧ Aside (Marks bs c.instrs.length (LeadTo c k)) ∧ ArrB wr (w.heap.size + 1) bs ∧ w0.grownBy wr (some (w.heap.size + 1))) (fun i _ => c.instrs.length - (intOf i).toNat)
      case atStart => exact ⟨0, bs, Nat.zero_le _, rfl, hmk.out, hA0, grown_refl _ _⟩
      case round =>
        obtain ⟨k, bs, hk, rfl, hm, hA, hg⟩ := hrel
        have hmh := Lib.hid hm
        clear hm
        have hg1 : w.heap.size + 1 < w0.heap.size := hA0.lt
        have hs1 := hs0.grown hg hHg
        have hx1 := (hg.block w.heap.size (by omega) (fun e => by injection e with e; omega)).trans hx0
        have q := box7 hx1
        have l0 : w.heap.size < wr.heap.size := (Array.getElem?_eq_some_iff.1 hx1).1
        have hlg := hA.lt
        have hbl := hmh.out.len
        by_cases hlt : k < c.instrs.length
        · have hlt' : (k : Int) < c.instrs.length := by omega
          go_wp2_with fail
          refine (hN.out _ hs1 k hlt).mono ?_
          rintro e wN ⟨⟨vn, rfl, hown⟩, hBN⟩
          have hx := hown.read (H := H) (fun y hy => by have := hNl.out k hlt y hy; exact ⟨by omega, by omega⟩) (by have h1 := nextL_len c k; unfold maxN; omega)
          have hKN := extH.sees hs1 hBN
          have hKg : extH H wr wN (w.heap.size + 1) = none := by unfold extH; rw [if_pos hlg]; exact hHg
          have hgN : w0.grownBy wN (some (w.heap.size + 1)) := hg.trans (grown_below hBN _)
          replace hA := hA.of_block (hBN.block _ hA.lt)
          replace hx1 := blk_keep hBN hx1
          replace hs1 := hs1.below hBN
          have hn2 := nextL_len c k
          generalize extH H wr wN = K3 at *
          clear q l0 hown hBN hg hlg
          have hlg := hA.lt
          have q := box7 hx1
          have l0 : w.heap.size < wN.heap.size := (Array.getElem?_eq_some_iff.1 hx1).1
          obtain ⟨An, cn, rfl, -, -⟩ := hx.open_
          go_wp2_with fail
          obtain ⟨wi, rfl⟩ : ∃ wi : World, wi = wN := ⟨_, rfl⟩
          have hm0 := Lib.hid (hmh.out.congr (q := fun j => LeadTo c k j ∨ ((j : Int) ∈ (nextL c k).take 0 ∧ (k : Int) ≠ (j : Int) - 1)) fun j hj => by simp)
          clear q
          go_loopw [8] (fun i wj => ∃ (m : Nat) (bs : List Bool), m ≤ (nextL c k).length ∧ i = .int .i64 m ∧ Aside (Marks bs c.instrs.length (fun j => LeadTo c k j ∨ ((j : Int) ∈ (nextL c k).take m ∧ (k : Int) ≠ (j : Int) - 1))) ∧ ArrB wj (w.heap.size + 1) bs ∧ wi.grownBy wj (some (w.heap.size + 1))) (fun i _ => (nextL c k).length - (intOf i).toNat)
          case atStart => exact ⟨0, bs, Nat.zero_le _, rfl, hm0.out, hA, grown_refl _ _⟩
          clear hm0
          case round =>
            obtain ⟨m, bs, hmm, rfl, hm, hAj, hgj⟩ := hrel
            have hm2 := Lib.hid hm
            clear hm
            have hbl := hm2.out.len
            have hlj := hAj.lt
            have hsj := hKN.grown hgj hKg
            have hxj := (hgj.block w.heap.size l0 (fun e => by injection e with e; omega)).trans hx1
            have q := box7 hxj
            have ljx := (Array.getElem?_eq_some_iff.1 hxj).1
            by_cases hmt : m < (nextL c k).length
            · have hmt' : (m : Int) < (nextL c k).length := by omega
              obtain ⟨bm, om, cm2, em, -, hbm, hmcell, -⟩ := hx.ints (by omega)
              cases em
              have d1 := hmcell wr hsj m hmt
              have lm := hsj.lt' hbm
              have hy : (nextL c k)[m]? = some ((nextL c k).getD m 0) := by simp [hmt]
              obtain ⟨hi0, hi1⟩ := hNl.out k hlt _ (List.mem_of_getElem? hy)
              have htk := take_succ_getD hy
              clear hmcell hy
              generalize (nextL c k).getD m 0 = y at *
              by_cases e : y = (k : Int) + 1
              · have e1 : (y != (k : Int) + 1) = false := by simpa using e
                have hset := Lib.hid (hm2.out.congr (q := fun j => LeadTo c k j ∨ ((j : Int) ∈ (nextL c k).take (m + 1) ∧ (k : Int) ≠ (j : Int) - 1)) fun j hj => by
                  rw [htk, List.mem_append, List.mem_singleton]
                  exact or_congr Iff.rfl ⟨fun h => ⟨.inl h.1, h.2⟩, fun h => ⟨h.1.resolve_right (by have := h.2; omega), h.2⟩⟩)
                clear htk e1
                subst e
                have e1 : ((k : Int) + 1 != (k : Int) + 1) = false := by simp
                go_wp2
                go_roundw
                case rel => exact ⟨m + 1, bs, by omega, by go_num, hset.out, hAj, hgj⟩
                case measure => simp [intOf]; omega
              · have e1 : (y != (k : Int) + 1) = true := by simpa using e
                have hac := hAj.cell (j := y.toNat) (by omega)
                have haf := hAj.free y.toNat
                have hset := Lib.hid ((hm2.out.set (q := y.toNat) (by omega)).congr (q := fun j => LeadTo c k j ∨ ((j : Int) ∈ (nextL c k).take (m + 1) ∧ (k : Int) ≠ (j : Int) - 1)) fun j hj => by
                  rw [htk, List.mem_append, List.mem_singleton, or_assoc]
                  refine or_congr Iff.rfl ⟨?_, ?_⟩
                  · rintro (h | h)
                    · exact ⟨.inl h.1, h.2⟩
                    · exact ⟨.inr (by omega), by omega⟩
                  · rintro ⟨h | h, h2⟩
                    · exact .inl ⟨h, h2⟩
                    · exact .inr (by omega))
                clear htk e
                go_wp2
                go_roundw
                case rel => exact ⟨m + 1, bs.set y.toNat true, by omega, by go_num, hset.out, hAj.set y.toNat true, grown_set hgj⟩
                case measure => simp [intOf]; omega
            · have hltn2 : ¬ (m : Int) < (nextL c k).length := by omega
              have hmf := Lib.hid (hm2.out.congr (q := fun j => LeadTo c k j ∨ ((j : Int) ∈ nextL c k ∧ (k : Int) ≠ (j : Int) - 1)) fun j hj => by rw [List.take_of_length_le (by omega)])
              have hgt := hgN.trans hgj
              clear hmt
              by_cases hkn : k + 1 < c.instrs.length
              · have h1' : (k : Int) + 1 < c.instrs.length := by omega
                have hac := hAj.cell (j := k + 1) (by omega)
                have haf := hAj.free (k + 1)
                have hp1 : ((k : Int) + 1).toNat = k + 1 := by omega
                have hp10 : (0 : Int) ≤ (k : Int) + 1 := by omega
                by_cases hpl : nextL c k = [((k + 1 : Nat) : Int)]
                · have hset := Lib.hid (hmf.out.congr (q := LeadTo c (k + 1)) fun j hj => by
                    rw [lead_succ]
                    refine or_congr Iff.rfl ⟨.inl, ?_⟩
                    rintro (h | ⟨h1, h2⟩)
                    · exact h
                    · exact absurd (by rw [← h1]; exact hpl) h2)
                  obtain ⟨bm, om, cm2, em, -, hbm, hmcell, -⟩ := hx.ints (by rw [hpl]; simp)
                  cases em
                  have d1 := hmcell wr hsj 0 (by rw [hpl]; simp)
                  have lm := hsj.lt' hbm
                  have ln : (nextL c k).length = 1 := by rw [hpl]; rfl
                  rw [hpl] at d1
                  simp only [Nat.add_zero, List.getD_cons_zero, Int.natCast_add, Int.natCast_one] at d1
                  have b1 : (((nextL c k).length : Int) != 1) = false := by rw [ln]; rfl
                  have b2 : (0 : Int) < (nextL c k).length := by omega
                  have b3 : ((k : Int) + 1 != (k : Int) + 1) = false := by simp
                  clear hpl ln hmcell hac haf
                  go_wp2
                  go_roundw
                  case rel => exact ⟨k + 1, bs, by omega, by go_num, hset.out, hAj, hgt⟩
                  case measure => simp [intOf]; omega
                · have hset := Lib.hid ((hmf.out.set (q := k + 1) hkn).congr (q := LeadTo c (k + 1)) fun j hj => by
                    rw [lead_succ, or_assoc]
                    refine or_congr Iff.rfl (or_congr Iff.rfl ⟨fun h => ⟨h.symm, by rw [h]; exact hpl⟩, fun h => h.1.symm⟩))
                  by_cases hl1 : (nextL c k).length = 1
                  · obtain ⟨bm, om, cm2, em, -, hbm, hmcell, -⟩ := hx.ints (by omega)
                    cases em
                    have d1 := hmcell wr hsj 0 (by omega)
                    have lm := hsj.lt' hbm
                    have b1 : (((nextL c k).length : Int) != 1) = false := by rw [hl1]; rfl
                    have b2 : (0 : Int) < (nextL c k).length := by omega
                    have b3 : ((nextL c k).getD 0 0 != (k : Int) + 1) = true := by
                      simp only [bne_iff_ne, ne_eq]
                      intro h
                      obtain ⟨z, hz⟩ := List.length_eq_one_iff.1 hl1
                      rw [hz] at h hpl
                      simp at h hpl
                      exact hpl h
                    simp only [Nat.add_zero] at d1
                    clear hpl hmcell hl1
                    generalize (nextL c k).getD 0 0 = z at *
                    go_wp2
                    go_roundw
                    case rel => exact ⟨k + 1, bs.set (k + 1) true, by omega, by go_num, hset.out, hAj.set (k + 1) true, grown_set hgt⟩
                    case measure => simp [intOf]; omega
                  · have b1 : (((nextL c k).length : Int) != 1) = true := by simp; omega
                    clear hpl hl1
                    go_wp2
                    go_roundw
                    case rel => exact ⟨k + 1, bs.set (k + 1) true, by omega, by go_num, hset.out, hAj.set (k + 1) true, grown_set hgt⟩
                    case measure => simp [intOf]; omega
              · have h1' : ¬ (k : Int) + 1 < c.instrs.length := by omega
                have hset := Lib.hid (hmf.out.congr (q := LeadTo c (k + 1)) fun j hj => by
                  rw [lead_succ]
                  refine or_congr Iff.rfl ⟨.inl, ?_⟩
                  rintro (h | ⟨h1, h2⟩)
                  · exact h
                  · omega)
                go_wp2
                go_roundw
                case rel => exact ⟨k + 1, bs, by omega, by go_num, hset.out, hAj, hgt⟩
                case measure => simp [intOf]; omega
        · have hltn : ¬ (k : Int) < c.instrs.length := by omega
          obtain rfl : k = c.instrs.length := by omega
          have hfin := Lib.hid (hmh.out.congr (q := IsLeader c) fun j hj => leadTo_end hj)
          have hBw := hB0.grown hg (by omega) fun j hj => by injection hj with hj; omega
          clear hlt
          go_wp2
          go_ret
          exact ⟨⟨_, bs, rfl, by omega, hA, hfin.out⟩, hBw⟩
end Go.Proofs.YtififjlgjmgikaaGreat
namespace Go.Proofs.YtififjlgjmgikaaGreat
set_option linter.all false
open Go.RowKit

def validE (c : CodeD) : Int := if fineB c = true then 0 else 1
set_option maxHeartbeats 1000000 in
theorem r19_valid (H : PH) (v : Value) (c : CodeD) (w : World) (hw : Sees w H) (hc : CodeV H v c) :
    Calls Tryz.prog 48 #[v] w fun e w' => e = .returned (.int .i64 (validE c)) ∧ Below w.heap.size w w' := by
  have hc0 := hc
  obtain ⟨s0, s1, s2, s3, s4, s5, s6, rfl, hc⟩ := hc
  have hx0 := ga_new w (.cells #[s0, s1, s2, s3, s4, s5, s6] 30)
  have hB0 : Below w.heap.size w (w.alloc (.cells #[s0, s1, s2, s3, s4, s5, s6] 30)) := (Below.refl _ _).alloc (Nat.le_refl _) _
  have hV := Lib.hid (fun (w1 : World) (hs : Sees w1 H) => r14_Valid H _ c w1 hs hc0)
  clear hc hc0 hx0
  cases hf : fineB c
  · have he : validE c = 1 := by simp [validE, hf]
    rw [he]
    have hfh := Lib.hid hf
    clear hf he
    go_enter Tryz.func48, Tryz.ntmps48
    go_wp2_with (go_at_call 92; refine (hV.out _ (hw.below hB0)).mono ?_; rintro e w1 ⟨rfl, hB1⟩; rw [hfh.out])
    go_ret
    exact ⟨rfl, bstep hB0 hB1⟩
  · have he : validE c = 0 := by simp [validE, hf]
    rw [he]
    have hfh := Lib.hid hf
    clear hf he
    go_enter Tryz.func48, Tryz.ntmps48
    go_wp2_with (go_at_call 92; refine (hV.out _ (hw.below hB0)).mono ?_; rintro e w1 ⟨rfl, hB1⟩; rw [hfh.out])
    go_ret
    exact ⟨rfl, bstep hB0 hB1⟩
end Go.Proofs.YtififjlgjmgikaaGreat
