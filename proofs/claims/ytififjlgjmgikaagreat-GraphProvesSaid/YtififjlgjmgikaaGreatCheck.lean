/- code.Check. -/
import Derived.Test.YtififjlgjmgikaaGreatTables
import Derived.Test.YtififjlgjmgikaaGreatRulesA
import Derived.StillTailTactics
namespace Go.Proofs.YtififjlgjmgikaaGreat
set_option linter.all false
open Go.RowKit

def FmtD.kind (f : FmtD) (j : Nat) : Int := if j = 0 then f.k0 else if j = 1 then f.k1 else f.k2
def InstrD.arg (x : InstrD) (j : Nat) : Int := if j = 0 then x.a else if j = 1 then x.b else x.c
def opsOk (c : CodeD) (f : FmtD) (x : InstrD) : Bool := ruleB f.k0 c x.a && ruleB f.k1 c x.b && ruleB f.k2 c x.c
def instrOk (c : CodeD) (x : InstrD) : Bool := match fmtOf x.op with | none => false | some f => opsOk c f x
def fineB (c : CodeD) : Bool := !largeB c && tablesB c && c.instrs.all (instrOk c)
theorem opsOk_iff {c : CodeD} {f : FmtD} {x : InstrD} : opsOk c f x = true ↔ ∀ j, j < 3 → ruleB (f.kind j) c (x.arg j) = true := by
  unfold opsOk
  simp only [Bool.and_eq_true]
  constructor
  · rintro ⟨⟨h0, h1⟩, h2⟩ j hj
    obtain rfl | rfl | rfl : j = 0 ∨ j = 1 ∨ j = 2 := by omega
    · exact h0
    · exact h1
    · exact h2
  · intro h
    exact ⟨⟨h 0 (by omega), h 1 (by omega)⟩, h 2 (by omega)⟩
theorem fmt_kinds : ∀ p ∈ fmtTab, (0 ≤ p.2.k0 ∧ p.2.k0 ≤ 24) ∧ (0 ≤ p.2.k1 ∧ p.2.k1 ≤ 24) ∧ (0 ≤ p.2.k2 ∧ p.2.k2 ≤ 24) := by decide
theorem fmtOf_kinds {k : Int} {f : FmtD} (h : fmtOf k = some f) (j : Nat) : 0 ≤ f.kind j ∧ f.kind j ≤ 24 := by
  unfold fmtOf at h
  cases e : fmtTab.find? fun p => k == p.1 with
  | none => rw [e] at h; cases h
  | some p =>
    rw [e] at h
    cases h
    have := fmt_kinds p (List.mem_of_find?_eq_some e)
    unfold FmtD.kind
    split
    · exact this.1
    · split
      · exact this.2.1
      · exact this.2.2

def TwoInts (p : Int → Prop) (e : Ending) : Prop := ∃ r i : Int, e = .returned (.tuple #[.int .i64 r, .int .i64 i]) ∧ p r
theorem two_mk {p : Int → Prop} {r i : Int} (h : p r) : TwoInts p (.returned (.tuple #[.int .i64 r, .int .i64 i])) := ⟨r, i, rfl, h⟩
theorem fine_none {c : CodeD} {k : Nat} {x : InstrD} (h : c.instrs[k]? = some x) (hf : fmtOf x.op = none) : fineB c = false := by
  have : c.instrs.all (instrOk c) = false := List.all_eq_false.2 ⟨x, List.mem_of_getElem? h, by simp [instrOk, hf]⟩
  simp [fineB, this]
theorem fine_false {c : CodeD} {k : Nat} {x : InstrD} {f : FmtD} (h : c.instrs[k]? = some x) (hf : fmtOf x.op = some f) (j : Nat) (hj : j < 3) (hr : ruleB (f.kind j) c (x.arg j) = false) : fineB c = false := by
  have h1 : opsOk c f x = false := by
    cases e : opsOk c f x with
    | false => rfl
    | true => have := opsOk_iff.1 e j hj; rw [hr] at this; cases this
  have : c.instrs.all (instrOk c) = false := List.all_eq_false.2 ⟨x, List.mem_of_getElem? h, by simp [instrOk, hf, h1]⟩
  simp [fineB, this]
theorem fld_rule (x : Value) (w : World) : (Instr.field 157 (.agg #[x]) 0).run Tryz.prog w = .ok x w := by kernel_rfl
theorem box7 {w : World} {b : Nat} {s0 s1 s2 s3 s4 s5 s6 : Value} {T : TypeId} (h : w.heap[b]? = some (.cells #[s0, s1, s2, s3, s4, s5, s6] T (0, 0))) :
    w.cell? ⟨b, 0, none⟩ = some s0 ∧ w.cell? ⟨b, 1, none⟩ = some s1 ∧ w.cell? ⟨b, 2, none⟩ = some s2 ∧ w.cell? ⟨b, 3, none⟩ = some s3 ∧ w.cell? ⟨b, 4, none⟩ = some s4 ∧ w.cell? ⟨b, 5, none⟩ = some s5 ∧ w.cell? ⟨b, 6, none⟩ = some s6 :=
  ⟨cell_blk h 0, cell_blk h 1, cell_blk h 2, cell_blk h 3, cell_blk h 4, cell_blk h 5, cell_blk h 6⟩
theorem blk_keep {w w1 : World} (hb : Below w.heap.size w w1) {b : Nat} {o : Obj} (h : w.heap[b]? = some o) : w1.heap[b]? = some o :=
  (hb.block b (Array.getElem?_eq_some_iff.1 h).1).trans h

set_option maxHeartbeats 4000000 in
set_option maxRecDepth 100000 in
theorem code_Check (H : PH) (v : Value) (c : CodeD) (w : World) (hw : Sees w H) (hc : CodeV H v c) :
    Calls Tryz.prog 88 #[v] w fun e w' => TwoInts (fun r => (r == 0) = fineB c) e ∧ Below w.heap.size w w' := by
  have hc0 := hc
  obtain ⟨s0, s1, s2, s3, s4, s5, s6, rfl, hc⟩ := hc
  obtain ⟨A0, c0, rfl, k0, -⟩ := hc.instrs.open_
  have b0 := hc.instrs.le
  have hl := Lib.hid (fun w1 => code_large H _ c w1 hc0)
  have ht := Lib.hid (fun (w1 : World) (hs : Sees w1 H) => code_tables H _ c w1 hs hc0)
  have hbx := ga_new w (.cells #[.slice A0 c.instrs.length c0, s1, s2, s3, s4, s5, s6] 30)
  have hB0 : Below w.heap.size w (w.alloc (.cells #[.slice A0 c.instrs.length c0, s1, s2, s3, s4, s5, s6] 30)) := (Below.refl _ _).alloc (Nat.le_refl _) _
  go_enter Tryz.func88, Tryz.ntmps88
  cases h0 : largeB c
  · cases h1 : tablesB c
    all_goals have h0' := Lib.hid h0; clear h0; have h1' := Lib.hid h1; clear h1
    · go_wp2_with (first
        | (go_at_call 118; refine (hl.out _).mono ?_; rintro e w1 ⟨rfl, hB1⟩; rw [h0'.out]; replace hbx := blk_keep hB1 hbx; replace hB0 := bstep hB0 hB1; have q := box7 hbx; clear hB1)
        | (go_at_call 119; refine (ht.out _ (hw.below hB0)).mono ?_; rintro e w2 ⟨⟨r, rfl⟩, hB1⟩; replace hB0 := bstep hB0 hB1; rw [show errOf (tablesB c) = 3 by rw [h1'.out]; rfl]))
      go_ret2
      refine ⟨two_mk ?_, hB0⟩
      simp [fineB, h1'.out]
    · go_wp2_with (first
        | (go_at_call 118; refine (hl.out _).mono ?_; rintro e w1 ⟨rfl, hB1⟩; rw [h0'.out]; replace hbx := blk_keep hB1 hbx; replace hB0 := bstep hB0 hB1; have q := box7 hbx; clear hB1)
        | (go_at_call 119; refine (ht.out _ (hw.below hB0)).mono ?_; rintro e w2 ⟨⟨r, rfl⟩, hB1⟩; clear q; replace hbx := blk_keep hB1 hbx; replace hB0 := bstep hB0 hB1; have q := box7 hbx; clear hB1; rw [show errOf (tablesB c) = 0 by rw [h1'.out]; rfl])
        | (go_at_call 120; refine (code_formats _).mono ?_; rintro e w3 ⟨bf, rfl, hbf, hMf, hB1⟩; clear q; replace hbx := blk_keep hB1 hbx; replace hB0 := bstep hB0 hB1; clear hB1)
        | (go_at_call 121; refine (code_rules _).mono ?_; rintro e w4 ⟨br, lr, rfl, hbr, hMr, hkr, hB1⟩; replace hMf := hMf.of_block (hB1.block bf hMf.lt); replace hbx := blk_keep hB1 hbx; replace hB0 := bstep hB0 hB1; have q := box7 hbx; clear hB1))
      clear q
      have hs4 := hw.below hB0
      go_loopw [30] (fun i wr => ∃ k : Nat, k ≤ c.instrs.length ∧ i = .int .i64 k ∧ (∀ (j : Nat) (x : InstrD), j < k → c.instrs[j]? = some x → instrOk c x = true) ∧ Below w4.heap.size w4 wr) (fun i _ => c.instrs.length - (intOf i).toNat)
      case atStart => exact ⟨0, Nat.zero_le _, rfl, fun j x h => by omega, Below.refl _ _⟩
      case round =>
        obtain ⟨k, hk, rfl, hno, hB⟩ := hrel
        have hno' := Lib.hid hno; clear hno
        have hsee := hs4.below hB
        have hbr := blk_keep hB hbx
        have hMr' := hMr.below hB
        have hMf' := hMf.of_block (hB.block bf hMf.lt)
        by_cases hlt : k < c.instrs.length
        · obtain ⟨b, off, c', hA, -, hb, hcell, hint⟩ := hc.instrs.instrs (by omega)
          cases hA
          obtain ⟨x0, x1, x2, x3⟩ := hcell wr hsee k hlt
          have hx : c.instrs[k]? = some (c.instrs.getD k default) := by simp [hlt]
          generalize c.instrs.getD k default = p at *
          clear hcell hint
          have hbl := hsee.lt' hb
          have hH := Lib.hid hx; clear hx
          obtain ⟨po, pa, pb, pc⟩ := p
          dsimp only at *
          have hlk := (hMf'.of_block (w' := wr.alloc (.cells #[.int .i64 po, .int .i64 pa, .int .i64 pb, .int .i64 pc] 123)) ((Below.heap_alloc wr _ bf hMf'.lt))).lookup Tryz.underlying148 (keyInt Tryz.underlying3) (z := .agg #[.string ByteArray.empty, .int .i64 0, .int .i64 0, .int .i64 0]) (fun _ => by kernel_rfl) po true
          simp only [if_true, mget_fmtL] at hlk
          cases hf : fmtOf po
          · rw [hf] at hlk
            simp only [Option.map_none, Option.getD_none, Option.isSome_none] at hlk
            have hf' := Lib.hid hf; clear hf
            go_wp2
            go_ret2
            refine ⟨two_mk ?_, bstep hB0 (bstep hB ((Below.refl _ _).alloc (Nat.le_refl _) _ |>.alloc (by simp) _))⟩
            exact (fine_none hH.out hf'.out).symm
          · rename_i f
            rw [hf] at hlk
            simp only [Option.map_some, Option.getD_some, Option.isSome_some, FmtD.val] at hlk
            have hf' := Lib.hid hf; clear hf
            go_wp2
            refine wp_name fun w5 hw5 => ?_
            have hB5 : Below wr.heap.size wr w5 := by rw [hw5]; exact ((Below.refl _ _).alloc (Nat.le_refl _) _).alloc (by simp) _
            have hk5 : w5.heap[wr.heap.size + 1]? = some (.cells #[.string f.name, .int .i64 f.k0, .int .i64 f.k1, .int .i64 f.k2] 154 (0, 0)) := by
              have := ga_new (wr.alloc (.cells #[.int .i64 po, .int .i64 pa, .int .i64 pb, .int .i64 pc] 123)) (.cells #[.string f.name, .int .i64 f.k0, .int .i64 f.k1, .int .i64 f.k2] 154)
              rw [World.size_alloc] at this
              rw [hw5]
              exact this
            clear hw5
            have hs5 := hsee.below hB5
            have hb5 := blk_keep hB5 hbr
            have hM5 := hMr'.below hB5
            clear hlk
            obtain ⟨wo, rfl⟩ : ∃ wo : World, wo = wr := ⟨_, rfl⟩
            go_loopw [52] (fun i w' => ∃ j : Nat, j ≤ 3 ∧ i = .int .i64 j ∧ (∀ i, i < j → ruleB (f.kind i) c ((⟨po, pa, pb, pc⟩ : InstrD).arg i) = true) ∧ Below w5.heap.size w5 w') (fun i _ => 3 - (intOf i).toNat)
            case atStart => exact ⟨0, by omega, rfl, fun i h => by omega, Below.refl _ _⟩
            case round =>
              obtain ⟨j, hj, rfl, hok, hB'⟩ := hrel
              have hok' := Lib.hid hok; clear hok
              by_cases hj3 : j < 3
              · have hk' := blk_keep hB' hk5
                have hs' := hs5.below hB'
                have hb' := blk_keep hB' hb5
                have hM' := hM5.below hB'
                have q := box7 hb'
                have hkind := fmtOf_kinds hf'.out j
                obtain ⟨fv, hfv⟩ := Option.isSome_iff_exists.1 (hkr (f.kind j) hkind.1 hkind.2)
                obtain ⟨fn, rfl, K, cap, rfl, hE, hR⟩ := hM'.ok _ _ hfv
                unfold Enters at hE
                have hlk := (hM'.map.of_block (w' := wr.drew) rfl).lookup Tryz.underlying150 (keyInt Tryz.underlying3) (z := .agg #[.nilFunc]) (fun _ => by kernel_rfl) (f.kind j) false
                simp only [Bool.false_eq_true, if_false, hfv, Option.getD_some] at hlk
                have hR' := fun w' H' v c n h1 h2 h3 => hR w' H' v c n h1 h2 h3
                have hRh := Lib.hid hR'; clear hR hR'
                have i0 := idx3_0
                have i1 := idx3_1
                have i2 := idx3_2
                have hfl := fld_rule
                obtain rfl | rfl | rfl : j = 0 ∨ j = 1 ∨ j = 2 := by omega
                · have hkc : wr.cell? ⟨wo.heap.size + 1, 1, none⟩ = some (.int .i64 f.k0) := cell_blk hk' 1
                  have hlk' : (Instr.lookup 150 (.map (some br)) (.int .i64 f.k0) false).run Tryz.prog wr.drew = .ok (.agg #[.func (.func K) #[] cap]) wr.drew := hlk
                  clear hlk
                  cases hr : ruleB f.k0 c pa
                  all_goals
                    have hr' := Lib.hid hr; clear hr
                    go_wp2
                    go_still_tail 9, (by kernel_rfl)
                    change wpList _ _ _ _ _ wr.drew
                    generalize hwd : wr.drew = wd
                    have hBd : Below w5.heap.size w5 wd := by rw [← hwd]; exact ⟨hB'.os, hB'.tape, hB'.output, hB'.size, hB'.block⟩
                    have hsd : ∀ B b, Sees wd (newPH B b wr) := by intro B b; rw [← hwd]; exact newPH.sees B b wr
                    clear hwd hlk' hkc q
                    go_wp2_with (refine (hRh.out wd (full wd) _ c _ (full.le (hsd _ _)) (full.sees wd) (hc0.mono (full.le (hs5.below hBd)))).mono ?_; rintro e w6 ⟨rfl, hB6⟩; rw [show ruleB (f.kind 0) c pa = _ from hr'.out])
                  · go_ret2
                    refine ⟨two_mk ?_, bstep hB0 (bstep hB (bstep hB5 (bstep hBd hB6)))⟩
                    exact (fine_false hH.out hf'.out 0 (by omega) hr'.out).symm
                  · refine ⟨⟨1, by omega, rfl, fun i hi => ?_, bstep hBd hB6⟩, by simp [intOf]⟩
                    by_cases e : i = 0
                    · subst e; exact hr'.out
                    · exact hok'.out i (by omega)
                · have hkc : wr.cell? ⟨wo.heap.size + 1, 2, none⟩ = some (.int .i64 f.k1) := cell_blk hk' 2
                  have hlk' : (Instr.lookup 150 (.map (some br)) (.int .i64 f.k1) false).run Tryz.prog wr.drew = .ok (.agg #[.func (.func K) #[] cap]) wr.drew := hlk
                  clear hlk
                  cases hr : ruleB f.k1 c pb
                  all_goals
                    have hr' := Lib.hid hr; clear hr
                    go_wp2
                    go_still_tail 9, (by kernel_rfl)
                    change wpList _ _ _ _ _ wr.drew
                    generalize hwd : wr.drew = wd
                    have hBd : Below w5.heap.size w5 wd := by rw [← hwd]; exact ⟨hB'.os, hB'.tape, hB'.output, hB'.size, hB'.block⟩
                    have hsd : ∀ B b, Sees wd (newPH B b wr) := by intro B b; rw [← hwd]; exact newPH.sees B b wr
                    clear hwd hlk' hkc q
                    go_wp2_with (refine (hRh.out wd (full wd) _ c _ (full.le (hsd _ _)) (full.sees wd) (hc0.mono (full.le (hs5.below hBd)))).mono ?_; rintro e w6 ⟨rfl, hB6⟩; rw [show ruleB (f.kind 1) c pb = _ from hr'.out])
                  · go_ret2
                    refine ⟨two_mk ?_, bstep hB0 (bstep hB (bstep hB5 (bstep hBd hB6)))⟩
                    exact (fine_false hH.out hf'.out 1 (by omega) hr'.out).symm
                  · refine ⟨⟨2, by omega, rfl, fun i hi => ?_, bstep hBd hB6⟩, by simp [intOf]⟩
                    by_cases e : i = 1
                    · subst e; exact hr'.out
                    · exact hok'.out i (by omega)
                · have hkc : wr.cell? ⟨wo.heap.size + 1, 3, none⟩ = some (.int .i64 f.k2) := cell_blk hk' 3
                  have hlk' : (Instr.lookup 150 (.map (some br)) (.int .i64 f.k2) false).run Tryz.prog wr.drew = .ok (.agg #[.func (.func K) #[] cap]) wr.drew := hlk
                  clear hlk
                  cases hr : ruleB f.k2 c pc
                  all_goals
                    have hr' := Lib.hid hr; clear hr
                    go_wp2
                    go_still_tail 9, (by kernel_rfl)
                    change wpList _ _ _ _ _ wr.drew
                    generalize hwd : wr.drew = wd
                    have hBd : Below w5.heap.size w5 wd := by rw [← hwd]; exact ⟨hB'.os, hB'.tape, hB'.output, hB'.size, hB'.block⟩
                    have hsd : ∀ B b, Sees wd (newPH B b wr) := by intro B b; rw [← hwd]; exact newPH.sees B b wr
                    clear hwd hlk' hkc q
                    go_wp2_with (refine (hRh.out wd (full wd) _ c _ (full.le (hsd _ _)) (full.sees wd) (hc0.mono (full.le (hs5.below hBd)))).mono ?_; rintro e w6 ⟨rfl, hB6⟩; rw [show ruleB (f.kind 2) c pc = _ from hr'.out])
                  · go_ret2
                    refine ⟨two_mk ?_, bstep hB0 (bstep hB (bstep hB5 (bstep hBd hB6)))⟩
                    exact (fine_false hH.out hf'.out 2 (by omega) hr'.out).symm
                  · refine ⟨⟨3, by omega, rfl, fun i hi => ?_, bstep hBd hB6⟩, by simp [intOf]⟩
                    by_cases e : i = 2
                    · subst e; exact hr'.out
                    · exact hok'.out i (by omega)
              · have hj3' : ¬ (j : Int) < 3 := by omega
                have hfin : instrOk c ⟨po, pa, pb, pc⟩ = true := by
                  unfold instrOk
                  rw [show fmtOf (InstrD.op ⟨po, pa, pb, pc⟩) = some f from hf'.out]
                  exact opsOk_iff.2 fun i hi => hok'.out i (by omega)
                have hfin' := Lib.hid hfin; clear hfin hok'
                go_wp2
                exact ⟨⟨k + 1, by omega, by go_num, no_more hno'.out hH.out hfin'.out, bstep hB (bstep hB5 hB')⟩, by simp [intOf]; omega⟩
        · have hfin : fineB c = true := by
            unfold fineB
            rw [h0'.out, h1'.out, List.all_eq_true.2]
            · rfl
            · intro x hx
              obtain ⟨i, hi⟩ := List.getElem?_of_mem hx
              exact no_all hno'.out hlt i x hi
          have hfin' := Lib.hid hfin; clear hfin hno'
          have hlt' : ¬ (k : Int) < c.instrs.length := by omega
          go_wp2
          go_ret2
          refine ⟨two_mk ?_, bstep hB0 hB⟩
          rw [hfin'.out]; rfl
  · have h0' := Lib.hid h0; clear h0
    go_wp2_with (first | (go_at_call 118; refine (hl.out _).mono ?_; rintro e w1 ⟨rfl, hB1⟩; rw [h0'.out]))
    go_ret2
    refine ⟨two_mk ?_, bstep ((Below.refl _ _).alloc (Nat.le_refl _) _) hB1⟩
    simp [fineB, h0'.out]
end Go.Proofs.YtififjlgjmgikaaGreat
