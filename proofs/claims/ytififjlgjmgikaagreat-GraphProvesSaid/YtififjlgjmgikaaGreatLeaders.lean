/- slices.Equal in my words; graph.leaders. -/
import Derived.Test.YtififjlgjmgikaaGreatNextsA
namespace Go.Proofs.YtififjlgjmgikaaGreat
set_option linter.all false
open Go.RowKit

/-- Which of n places are marked. -/
structure Marks (bs : List Bool) (n : Nat) (p : Nat → Prop) : Prop where
  len : bs.length = n
  iff_ : ∀ j, j < n → (bs.getD j false = true ↔ p j)
theorem Marks.none_ (n : Nat) : Marks (List.replicate n false) n fun _ => False := ⟨by simp, fun j hj => by simp [hj]⟩
theorem Marks.set {bs : List Bool} {n : Nat} {p : Nat → Prop} (h : Marks bs n p) {q : Nat} (hq : q < n) : Marks (bs.set q true) n fun j => p j ∨ j = q := by
  refine ⟨by simp [h.len], fun j hj => ?_⟩
  rw [getD_set_bool (by rw [h.len]; exact hq)]
  by_cases e : j = q
  · simp [e]
  · simp only [e, if_false, or_false]; exact h.iff_ j hj
theorem Marks.congr {bs : List Bool} {n : Nat} {p q : Nat → Prop} (h : Marks bs n p) (k : ∀ j, j < n → (p j ↔ q j)) : Marks bs n q := ⟨h.len, fun j hj => (h.iff_ j hj).trans (k j hj)⟩

set_option maxHeartbeats 400000 in
theorem equal_sl {H : PH} {v1 v2 : Value} {xs ys : List Int} {w : World} (hw : Sees w H) (h1 : SlV rInt H v1 xs) (h2 : SlV rInt H v2 ys) :
    Calls Tryz.prog 122 #[v1, v2] w fun e w' => e = .returned (.bool (decide (xs = ys))) ∧ Below w.heap.size w w' := by
  by_cases hl : xs.length = ys.length
  · by_cases hx : 0 < xs.length
    · have l1 := h1.le
      obtain ⟨b1, o1, c1, rfl, k1, _, hc1, _⟩ := h1.ints hx
      obtain ⟨b2, o2, c2, rfl, k2, _, hc2, _⟩ := h2.ints (by omega)
      refine (Tryz.slices_Equal_int b1 o1 xs.length c1 b2 o2 ys.length c2 xs ys w (Nat.le_refl _) (Nat.le_refl _) (by omega) (by omega) (hc1 w hw) (hc2 w hw)).mono ?_
      rintro e w' ⟨rfl, q, rfl⟩
      refine ⟨ret_bool ?_, ⟨rfl, rfl, rfl, Nat.le_refl _, fun _ _ => rfl⟩⟩
      rw [List.take_length, List.take_length]
      by_cases e : xs = ys <;> simp [e]
    · have e1 : xs = [] := List.eq_nil_of_length_eq_zero (by omega)
      have e2 : ys = [] := List.eq_nil_of_length_eq_zero (by omega)
      subst e1; subst e2
      obtain ⟨A1, c1, rfl, _⟩ := h1.open_
      obtain ⟨A2, c2, rfl, _⟩ := h2.open_
      refine (Tryz.slices_Equal_int_empty A1 A2 c1 0 c2 w (by omega)).mono ?_
      rintro e w' ⟨rfl, rfl⟩
      exact ⟨rfl, Below.refl _ _⟩
  · obtain ⟨A1, c1, rfl, _⟩ := h1.open_
    obtain ⟨A2, c2, rfl, _⟩ := h2.open_
    refine (Tryz.slices_Equal_int_lens A1 A2 _ c1 _ c2 w hl).mono ?_
    rintro e w' ⟨rfl, rfl⟩
    refine ⟨ret_bool ?_, Below.refl _ _⟩
    have : xs ≠ ys := fun e => hl (by rw [e])
    simp [this]

theorem grown_refl (w : World) (row : Option Nat) : w.grownBy w row := ⟨rfl, rfl, rfl, Nat.le_refl _, fun _ _ _ => rfl⟩
theorem grown_below {w w1 : World} (h : Below w.heap.size w w1) (row : Option Nat) : w.grownBy w1 row := ⟨h.os, h.tape, h.output, h.size, fun k hk _ => h.block k hk⟩
theorem grown_set {w w1 : World} {g j : Nat} {u : Value} (h : w.grownBy w1 (some g)) : w.grownBy (w1.setCell ⟨g, j, none⟩ u) (some g) :=
  ⟨h.os, h.tape, h.output, by rw [show (w1.setCell ⟨g, j, none⟩ u).heap.size = w1.heap.size by simp [World.setCell]]; exact h.size, fun k hk hr => (setCell_other (fun e => hr (by rw [e]))).trans (h.block k hk hr)⟩
theorem Sees.grown {w w1 : World} {H : PH} {g : Nat} (h : Sees w H) (hg : w.grownBy w1 (some g)) (hH : H g = none) : Sees w1 H := fun i o e =>
  (hg.block i (h.lt e) (fun k => by injection k with k; subst k; rw [hH] at e; cases e)).trans (h i o e)
def IsLeader (c : CodeD) (p : Nat) : Prop := p = 0 ∨ (p : Int) ∈ entriesL c ∨ (∃ i, i < c.instrs.length ∧ (p : Int) ∈ nextL c i ∧ (i : Int) ≠ (p : Int) - 1) ∨ (∃ i, i + 1 = p ∧ nextL c i ≠ [(p : Int)])
def RowB (base n : Nat) (w' : World) (p : Nat → Prop) (e : Ending) : Prop := ∃ g bs, e = .returned (.slice (some ⟨g, 0, none⟩) n n) ∧ base ≤ g ∧ ArrB w' g bs ∧ Marks bs n p
/-- What the second loop of leaders has seen behind i rounds. -/
def LeadTo (c : CodeD) (i p : Nat) : Prop := p = 0 ∨ (p : Int) ∈ entriesL c ∨ (∃ i', i' < i ∧ (p : Int) ∈ nextL c i' ∧ (i' : Int) ≠ (p : Int) - 1) ∨ (∃ i', i' < i ∧ i' + 1 = p ∧ nextL c i' ≠ [(p : Int)])

theorem lead_succ {c : CodeD} {i p : Nat} : LeadTo c (i + 1) p ↔ LeadTo c i p ∨ ((p : Int) ∈ nextL c i ∧ (i : Int) ≠ (p : Int) - 1) ∨ (i + 1 = p ∧ nextL c i ≠ [(p : Int)]) := by
  unfold LeadTo
  constructor
  · rintro (h | h | ⟨i', h1, h2⟩ | ⟨i', h1, h2⟩)
    · exact .inl (.inl h)
    · exact .inl (.inr (.inl h))
    · by_cases e : i' = i
      · subst e; exact .inr (.inl h2)
      · exact .inl (.inr (.inr (.inl ⟨i', by omega, h2⟩)))
    · by_cases e : i' = i
      · subst e; exact .inr (.inr h2)
      · exact .inl (.inr (.inr (.inr ⟨i', by omega, h2⟩)))
  · rintro ((h | h | ⟨i', h1, h2⟩ | ⟨i', h1, h2⟩) | h | h)
    · exact .inl h
    · exact .inr (.inl h)
    · exact .inr (.inr (.inl ⟨i', by omega, h2⟩))
    · exact .inr (.inr (.inr ⟨i', by omega, h2⟩))
    · exact .inr (.inr (.inl ⟨i, by omega, h⟩))
    · exact .inr (.inr (.inr ⟨i, by omega, h⟩))

set_option maxHeartbeats 2000000 in
set_option maxRecDepth 100000 in
theorem graph_leaders (H : PH) (v nx : Value) (c : CodeD) (w : World) (hw : Sees w H) (hc : CodeV H v c) (hf : fineB c = true) (hnx : SlV (rSl rInt) H nx (nextsL c)) :
    Calls Tryz.prog 89 #[v, nx] w fun e w' => RowB w.heap.size c.instrs.length w' (IsLeader c) e ∧ Below w.heap.size w w' := by
  have hfb := fine_bounds hf
  have n0 := hfb.i1
  have n1 := hfb.i0
  have hc0 := hc
  obtain ⟨s0, s1, s2, s3, s4, s5, s6, rfl, hc⟩ := hc
  have hnl : (nextsL c).length = c.instrs.length := by simp [nextsL]
  obtain ⟨An, cn, rfl, kn, -⟩ := hnx.open_
  rw [hnl] at hnx kn ⊢
  have hE := Lib.hid (fun (w1 : World) (hs : Sees w1 H) => code_Entries H _ c w1 hs hc0 hf)
  have hfh := Lib.hid hf; clear hf
  have hnlh := Lib.hid hnl; clear hnl
  have hmk := mk_bools c.instrs.length (by omega)
  have h00 : (Array.replicate c.instrs.length (Value.bool false))[0]? = some (.bool false) := by rw [Array.getElem?_replicate, if_pos (by omega)]
  go_enter Tryz.func89, Tryz.ntmps89
  go_wp2_with fail
  have hA1 : ArrB ((w.alloc (.cells #[s0, s1, s2, s3, s4, s5, s6] 30)).alloc (.cells ((Array.replicate c.instrs.length (Value.bool false)).setIfInBounds 0 (.bool true)) 4)) (w.heap.size + 1) ((List.replicate c.instrs.length false).set 0 true) := by
    have := ga_new (w.alloc (.cells #[s0, s1, s2, s3, s4, s5, s6] 30)) (.cells ((Array.replicate c.instrs.length (Value.bool false)).setIfInBounds 0 (.bool true)) 4)
    rw [World.size_alloc] at this
    unfold ArrB
    rw [this]
    congr 2
    rw [List.map_set, List.map_replicate, ← List.setIfInBounds_toArray, List.toArray_replicate]
  have hM1 : Marks ((List.replicate c.instrs.length false).set 0 true) c.instrs.length (fun p => p = 0) := ((Marks.none_ _).set n1).congr fun j _ => ⟨fun h => h.resolve_left id, .inr⟩
  have hB1 : Below w.heap.size w ((w.alloc (.cells #[s0, s1, s2, s3, s4, s5, s6] 30)).alloc (.cells ((Array.replicate c.instrs.length (Value.bool false)).setIfInBounds 0 (.bool true)) 4)) := ((Below.refl _ _).alloc (Nat.le_refl _) _).alloc (by simp) _
  refine (hE.out _ (hw.below hB1)).mono ?_
  rintro e w2 ⟨⟨ve, rfl, hown⟩, hB2⟩
  obtain ⟨Ae, ce, rfl, -⟩ := hown.len_form
  replace hA1 := hA1.of_block (hB2.block _ hA1.lt)
  replace hB1 := bstep hB1 hB2
  have hz2 := hB2.size
  simp only [World.size_alloc] at hown hz2
  clear hB2 h00 hmk
  have hs2 := hw.below hB1
  have hHg : H (w.heap.size + 1) = none := hw.fresh (by omega)
  have hM1h := Lib.hid hM1
  have hEin := Lib.hid (entries_in hfh.out)
  have hNin := Lib.hid (fun (j : Nat) (hj : j < c.instrs.length) => next_in hfh.out hj)
  clear hM1
  have hEl := entries_len hfh.out
  go_wp2
  go_loopw [27] (fun i wr => ∃ (k : Nat) (bs : List Bool), k ≤ (entriesL c).length ∧ i = .int .i64 k ∧ ArrB wr (w.heap.size + 1) bs ∧ Aside (Marks bs c.instrs.length (fun p => p = 0 ∨ (p : Int) ∈ (entriesL c).take k)) ∧ w2.grownBy wr (some (w.heap.size + 1))) (fun i _ => (entriesL c).length - (intOf i).toNat)
  case atStart => exact ⟨0, _, Nat.zero_le _, rfl, hA1, hM1h.out.congr fun j _ => ⟨.inl, fun h => h.resolve_right (by simp)⟩, grown_refl _ _⟩
  case round =>
    obtain ⟨k, bs, hk, rfl, hA, hM, hg⟩ := hrel
    have hal := hA.lt
    by_cases hlt : k < (entriesL c).length
    · have hown' := hown.of_block (w1 := wr) (fun j hj => hg.block j (hown.lt hj).2 (fun e => by injection e with e; have := (hown.lt hj).1; omega))
      obtain ⟨ge, cape, hve, -, -, hgl, hcell⟩ := hown'.form (by omega)
      cases hve
      have hcl := hcell k hlt
      have hmem := List.getElem_mem hlt
      have hx : (entriesL c).getD k 0 = (entriesL c)[k] := by simp [hlt]
      rw [← hx] at hmem
      have hin := hEin.out _ hmem
      obtain ⟨q, hq⟩ : ∃ q : Nat, (entriesL c).getD k 0 = (q : Int) := ⟨((entriesL c).getD k 0).toNat, by omega⟩
      rw [hq] at hcl hin
      have hqn : q < c.instrs.length := by omega
      have hac := hA.cell (j := q) (by rw [hM.out.len]; exact hqn)
      have haf := hA.free q
      have hqh := Lib.hid (hx.symm.trans hq)
      generalize bs.getD q false = ob at hac
      clear hcell hx hq hmem
      go_wp2
      go_roundw
      case rel =>
        refine ⟨k + 1, bs.set q true, by omega, by go_num, hA.set q true, (hM.out.set hqn).congr fun j _ => ?_, grown_set hg⟩
        have e : (entriesL c).take (k + 1) = (entriesL c).take k ++ [(q : Int)] := by rw [List.take_add_one, List.getElem?_eq_getElem hlt, hqh.out]; rfl
        rw [e, List.mem_append, List.mem_singleton, or_assoc]
        constructor
        · rintro (h | h | h)
          · exact .inl h
          · exact .inr (.inl h)
          · exact .inr (.inr (by rw [h]))
        · rintro (h | h | h)
          · exact .inl h
          · exact .inr (.inl h)
          · exact .inr (.inr (by omega))
      case measure => simp [intOf]; omega
    · obtain rfl : k = (entriesL c).length := by omega
      have hM2 : Marks bs c.instrs.length (LeadTo c 0) := hM.out.congr fun j _ => by simp [LeadTo]
      have hM2h := Lib.hid hM2
      have hlt' : ¬ ((entriesL c).length : Int) < (entriesL c).length := by omega
      clear hlt hM hM2 hM1h
      go_wp2
      clear hlt' hal
      refine wp_name fun w3 hw3 => ?_
      obtain rfl := hw3
      go_loopw [37] (fun i wr => ∃ (k : Nat) (bs : List Bool), k ≤ c.instrs.length ∧ i = .int .i64 k ∧ ArrB wr (w.heap.size + 1) bs ∧ Aside (Marks bs c.instrs.length (LeadTo c k)) ∧ w2.grownBy wr (some (w.heap.size + 1))) (fun i _ => c.instrs.length - (intOf i).toNat)
      case atStart => exact ⟨0, _, Nat.zero_le _, rfl, hA, hM2h.out, hg⟩
      clear hA hM2h hg
      case round =>
        obtain ⟨k, bs, hk, rfl, hA, hM, hg⟩ := hrel
        have hal := hA.lt
        have hsee := hs2.grown hg hHg
        by_cases hlt : k < c.instrs.length
        · obtain ⟨bn, on, cn', hnv, -, hbn, hrow⟩ := hnx.rows (by rw [hnlh.out]; omega)
          rw [hnlh.out] at hnv hrow
          cases hnv
          obtain ⟨u, hu, hcl⟩ := hrow k hlt
          have e : (nextsL c).getD k [] = nextL c k := by simp [nextsL, hlt]
          rw [e] at hu
          replace hcl := hcl wr hsee
          have hbl := hsee.lt' hbn
          have hul := hu.le
          have hu' := hu
          obtain ⟨Au, cu, rfl, -, -⟩ := hu'
          have hM2h := Lib.hid hM
          clear hrow e hM
          go_wp2
          obtain ⟨wo, rfl⟩ : ∃ wo : World, wo = wr := ⟨_, rfl⟩
          go_loopw [44] (fun i wr => ∃ (j : Nat) (bs : List Bool), j ≤ (nextL c k).length ∧ i = .int .i64 j ∧ ArrB wr (w.heap.size + 1) bs ∧ Aside (Marks bs c.instrs.length (fun p => LeadTo c k p ∨ ((p : Int) ∈ (nextL c k).take j ∧ (k : Int) ≠ (p : Int) - 1))) ∧ w2.grownBy wr (some (w.heap.size + 1))) (fun i _ => (nextL c k).length - (intOf i).toNat)
          case atStart => exact ⟨0, _, Nat.zero_le _, rfl, hA, hM2h.out.congr fun j _ => ⟨.inl, fun h => h.resolve_right (by simp)⟩, hg⟩
          clear hA hM2h hg hcl hbl hsee hal
          case round =>
            obtain ⟨j, bs, hj, rfl, hA, hM, hg⟩ := hrel
            have hal := hA.lt
            have hsee := hs2.grown hg hHg
            by_cases hjl : j < (nextL c k).length
            · obtain ⟨be, oe, ce', hve, -, hbe, hce, -⟩ := hu.ints (by omega)
              cases hve
              have hcl := hce wr hsee j hjl
              have hbl := hsee.lt' hbe
              have hmem := List.getElem_mem hjl
              have hx : (nextL c k).getD j 0 = (nextL c k)[j] := by simp [hjl]
              rw [← hx] at hmem
              have hin := hNin.out k hlt _ hmem
              obtain ⟨q, hq⟩ : ∃ q : Nat, (nextL c k).getD j 0 = (q : Int) := ⟨((nextL c k).getD j 0).toNat, by omega⟩
              rw [hq] at hcl hin
              have hqn : q < c.instrs.length := by omega
              have hac := hA.cell (j := q) (by rw [hM.len]; exact hqn)
              have haf := hA.free q
              have hqh := Lib.hid (show (nextL c k).take (j + 1) = (nextL c k).take j ++ [(q : Int)] by rw [List.take_add_one, List.getElem?_eq_getElem hjl, ← hx, hq]; rfl)
              generalize bs.getD q false = ob at hac
              have hMh := Lib.hid hM
              clear hce hx hq hmem hM
              by_cases hne : (k : Int) = (q : Int) - 1
              · go_wp2
                go_roundw
                case rel =>
                  refine ⟨j + 1, bs, by omega, by go_num, hA, hMh.out.congr fun i _ => ?_, hg⟩
                  rw [hqh.out, List.mem_append, List.mem_singleton]
                  constructor
                  · rintro (h | ⟨h1, h2⟩)
                    · exact .inl h
                    · exact .inr ⟨.inl h1, h2⟩
                  · rintro (h | ⟨h1 | h1, h2⟩)
                    · exact .inl h
                    · exact .inr ⟨h1, h2⟩
                    · exact absurd (by rw [h1]; exact hne) h2
                case measure => simp [intOf]; omega
              · go_wp2
                go_roundw
                case rel =>
                  refine ⟨j + 1, bs.set q true, by omega, by go_num, hA.set q true, (hMh.out.set hqn).congr fun i _ => ?_, grown_set hg⟩
                  rw [hqh.out, List.mem_append, List.mem_singleton]
                  constructor
                  · rintro ((h | ⟨h1, h2⟩) | h)
                    · exact .inl h
                    · exact .inr ⟨.inl h1, h2⟩
                    · subst h; exact .inr ⟨.inr rfl, hne⟩
                  · rintro (h | ⟨h1 | h1, h2⟩)
                    · exact .inl (.inl h)
                    · exact .inl (.inr ⟨h1, h2⟩)
                    · exact .inr (by omega)
                case measure => simp [intOf]; omega
            · obtain rfl : j = (nextL c k).length := by omega
              have hlt' : ¬ ((nextL c k).length : Int) < (nextL c k).length := by omega
              have hMh := Lib.hid hM
              have hcur : Sees wr (full wr) := full.sees wr
              have hu2 := hu.mono (full.le hsee)
              clear hjl hM
              by_cases hkn : k + 1 < c.instrs.length
              · have hkn' : (k : Int) + 1 < c.instrs.length := by omega
                have hu3 : SlV rInt (full (wr.alloc (.cells #[.int .i64 ((k : Int) + 1)] 3))) _ _ := hu2.mono (full.le (hcur.below ((Below.refl _ _).alloc (Nat.le_refl _) _)))
                have hu4 : SlV rInt (full (wr.alloc (.cells #[.int .i64 ((k : Int) + 1)] 3))) _ [(k : Int) + 1] := (OwnI.snoc_lit wr ((k : Int) + 1)).readK (fun _ _ => rfl) (fun x hx => by simp at hx; subst hx; unfold I64; omega) (by unfold maxN; simp)
                have hC := equal_sl (full.sees _) hu3 hu4
                have hac := hA.cell (j := k + 1) (by rw [hMh.out.len]; exact hkn)
                have haf := hA.free (k + 1)
                generalize bs.getD (k + 1) false = ob at hac
                clear hu2 hu3 hu4 hcur hu
                by_cases hq : nextL c k = [(k : Int) + 1]
                · have hqh := Lib.hid hq
                  clear hq
                  go_wp2_with (go_at_call 122; refine hC.mono ?_; rintro e w4 ⟨rfl, hB4⟩; rw [decide_eq_true hqh.out])
                  refine ⟨⟨k + 1, bs, by omega, by go_num, hA.of_block ((hB4.block _ (by simp; omega)).trans (ga_old hA) |>.trans hA.symm), hMh.out.congr fun i hi => ?_, hg.trans (grown_below ((Below.refl _ _).alloc (Nat.le_refl _) _ |>.trans (hB4.mono (by simp))) _)⟩, by simp [intOf]; omega⟩
                  rw [lead_succ, List.take_length]
                  constructor
                  · rintro (h | h)
                    · exact .inl h
                    · exact .inr (.inl h)
                  · rintro (h | h | ⟨h1, h2⟩)
                    · exact .inl h
                    · exact .inr h
                    · exact absurd (by rw [hqh.out, ← h1]; simp) h2
                · have hqh := Lib.hid hq
                  clear hq
                  go_wp2_with (go_at_call 122; refine hC.mono ?_; rintro e w4 ⟨rfl, hB4⟩; rw [decide_eq_false hqh.out]; replace hA := hA.of_block ((hB4.block _ (by simp; omega)).trans (ga_old hA) |>.trans hA.symm); replace hac := cell_keep hB4 (cell_al (o := .cells #[.int .i64 ((k : Int) + 1)] 3) hac); replace haf := hA.free (k + 1); replace hg := hg.trans (grown_below ((Below.refl _ _).alloc (Nat.le_refl _) (.cells #[.int .i64 ((k : Int) + 1)] 3) |>.trans (hB4.mono (by simp))) _))
                  refine ⟨⟨k + 1, bs.set (k + 1) true, by omega, by go_num, hA.set (k + 1) true, (hMh.out.set hkn).congr fun i hi => ?_, grown_set hg⟩, by simp [intOf]; omega⟩
                  rw [lead_succ, List.take_length]
                  constructor
                  · rintro ((h | h) | h)
                    · exact .inl h
                    · exact .inr (.inl h)
                    · subst h; exact .inr (.inr ⟨rfl, by simpa using hqh.out⟩)
                  · rintro (h | h | ⟨h1, h2⟩)
                    · exact .inl (.inl h)
                    · exact .inl (.inr h)
                    · exact .inr h1.symm
              · have hkn' : ¬ (k : Int) + 1 < c.instrs.length := by omega
                clear hu2 hcur hu
                go_wp2
                refine ⟨⟨k + 1, bs, by omega, by go_num, hA, hMh.out.congr fun i hi => ?_, hg⟩, by simp [intOf]; omega⟩
                rw [lead_succ, List.take_length]
                constructor
                · rintro (h | h)
                  · exact .inl h
                  · exact .inr (.inl h)
                · rintro (h | h | ⟨h1, h2⟩)
                  · exact .inl h
                  · exact .inr h
                  · omega
        · obtain rfl : k = c.instrs.length := by omega
          have hlt' : ¬ (c.instrs.length : Int) < c.instrs.length := by omega
          have hMh := Lib.hid hM
          clear hlt hM
          go_wp2
          go_ret
          refine ⟨⟨_, bs, rfl, by omega, hA, hMh.out.congr fun i hi => ?_⟩, hB1.grown hg hB1.size (fun j hj => by injection hj with hj; omega)⟩
          unfold LeadTo IsLeader
          constructor
          · rintro (h | h | h | ⟨i', h1, h2⟩)
            · exact .inl h
            · exact .inr (.inl h)
            · exact .inr (.inr (.inl h))
            · exact .inr (.inr (.inr ⟨i', h2⟩))
          · rintro (h | h | h | ⟨i', h1, h2⟩)
            · exact .inl h
            · exact .inr (.inl h)
            · exact .inr (.inr (.inl h))
            · exact .inr (.inr (.inr ⟨i', by omega, h1, h2⟩))
end Go.Proofs.YtififjlgjmgikaaGreat
