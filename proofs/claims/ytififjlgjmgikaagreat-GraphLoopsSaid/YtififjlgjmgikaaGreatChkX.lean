/- graph.Check: the paths of a proof. graph.Check: one proof. graph.Check. -/
import Derived.Test.YtififjlgjmgikaaGreatKnotA
import Derived.Test.YtififjlgjmgikaaGreatProofA
namespace Go.Proofs.YtififjlgjmgikaaGreat
set_option linter.all false
open Go.RowKit Go.Shelf

theorem hp_cell {w w' : World} (h : w'.heap = w.heap) (a : Addr) : w'.cell? a = w.cell? a := by
  simp only [World.cell?, h]
theorem hp_lt {w w' : World} {b : Nat} (h : w'.heap = w.heap) (hb : b < w.heap.size) : b < w'.heap.size := by rw [h]; exact hb
theorem hp_drew {w w1 : World} (h : Below w.heap.size w w1) : Below w.heap.size w w1.drew := ⟨h.os, h.tape, h.output, h.size, h.block⟩
theorem hp_sees {w : World} {H : PH} (h : Sees w H) : Sees w.drew H := fun i o e => h i o e
theorem least_of {P : Nat → Prop} : ∀ (n : Nat), P n → ∃ k, k ≤ n ∧ P k ∧ ∀ j, j < k → ¬ P j := by
  intro n
  induction n using Nat.strongRecOn with
  | _ n ih =>
    intro h
    by_cases hn : ∃ j, j < n ∧ P j
    · obtain ⟨j, h1, h2⟩ := hn
      obtain ⟨k, k1, k2, k3⟩ := ih j h1 h2
      exact ⟨k, by omega, k2, k3⟩
    · exact ⟨n, Nat.le_refl _, h, fun j hj hp => hn ⟨j, hj, hp⟩⟩
theorem idx_last {p : List Int} {x : Int} (hne : p ≠ []) : Lib.idxOf p x = (p.length : Int) - 1 ↔ p.getLast? = some x ∧ x ∉ p.dropLast := by
  have hl := List.length_pos_iff.2 hne
  have hlast : p.getLast? = some x ↔ p.getD (p.length - 1) 0 = x := by
    rw [List.getLast?_eq_getElem?, List.getD_eq_getElem?_getD, List.getElem?_eq_getElem (by omega)]
    simp
  have hdrop : x ∉ p.dropLast ↔ ∀ j, j < p.length - 1 → p.getD j 0 ≠ x := by
    constructor
    · intro h j hj e
      refine h ?_
      rw [← e, List.getD_eq_getElem?_getD, List.getElem?_eq_getElem (by omega), Option.getD_some]
      have h9 : p.dropLast[j]'(by rw [List.length_dropLast]; exact hj) = p[j] := List.getElem_dropLast _
      rw [← h9]
      exact List.getElem_mem _
    · intro h hm
      obtain ⟨j, hj, e⟩ := List.getElem_of_mem hm
      rw [List.length_dropLast] at hj
      refine h j hj ?_
      rw [List.getElem_dropLast] at e
      rw [List.getD_eq_getElem?_getD, List.getElem?_eq_getElem (by omega), Option.getD_some]
      exact e
  rw [hlast, hdrop]
  constructor
  · intro h
    have h1 := (Lib.idxOf_nonneg_iff p x).mp (by omega)
    rw [List.contains_iff_mem] at h1
    obtain ⟨i, hi, e⟩ := List.getElem_of_mem h1
    obtain ⟨k, k1, k2, k3⟩ := least_of (P := fun k => p.getD k 0 = x) i (by rw [List.getD_eq_getElem?_getD, List.getElem?_eq_getElem hi, Option.getD_some]; exact e)
    have h2 := Lib.idxOf_hit p p.length k x (by omega) (Nat.le_refl _) k2 k3
    rw [List.take_length, h] at h2
    have : k = p.length - 1 := by omega
    subst this
    exact ⟨k2, k3⟩
  · rintro ⟨h1, h2⟩
    have h3 := Lib.idxOf_hit p p.length (p.length - 1) x (by omega) (Nat.le_refl _) h1 h2
    rw [List.take_length] at h3
    omega
theorem index_sl {H : PH} {v : Value} {xs : List Int} {w : World} (x : Int) (hw : Sees w H) (h : SlV rInt H v xs) :
    Calls Tryz.prog 129 #[v, .int .i64 x] w fun e w' => e = .returned (.int .i64 (Lib.idxOf xs x)) ∧ w' = w := by
  have hle := h.le
  by_cases hx : 0 < xs.length
  · obtain ⟨b, off, c, rfl, _, _, hc, _⟩ := h.ints hx
    refine (Tryz.slices_Index_int b off xs.length c xs x w (Nat.le_refl _) (by omega) (hc w hw)).mono ?_
    rintro e w' ⟨rfl, rfl⟩
    rw [List.take_length]
    exact ⟨rfl, rfl⟩
  · have e : xs = [] := List.eq_nil_of_length_eq_zero (by omega)
    subst e
    obtain ⟨A, c, rfl, _, _⟩ := h.open_
    exact Tryz.slices_Index_int_empty A c x w
theorem contains_none {xs : List Int} (x : Int) (h : xs = []) {n : Nat} (hn : n = 0) {A : Option Addr} {c : Nat} (w : World) : Calls Tryz.prog 106 #[.slice A n c, .int .i64 x] w fun e w' => e = .returned (.bool (xs.contains x)) ∧ w' = w := by
  subst h hn
  exact Tryz.slices_Contains_int_empty A c x w
theorem SlV.tail_ {H : PH} {b off n cap : Nat} {xs : List Int} (h : SlV rInt H (.slice (some ⟨b, off, none⟩) n cap) xs) (hne : 0 < xs.length) : SlV rInt H (.slice (some ⟨b, off + 1, none⟩) (n - 1) (cap - 1)) xs.tail := by
  obtain ⟨A, cap', e, h1, h2, h3⟩ := h
  cases e
  refine ⟨_, _, by rw [List.length_tail], by rw [List.length_tail]; omega, by rw [List.length_tail]; omega, fun i x hi => ?_⟩
  rw [List.getElem?_tail] at hi
  obtain ⟨b', off', cs, e1, e2, e3⟩ := h3 (i + 1) x hi
  cases e1
  exact ⟨_, _, cs, rfl, by rw [show off + 1 + i * rInt.sz = off + (i + 1) * rInt.sz by simp [rInt]; omega]; exact e2, e3⟩
theorem slice_tail (b off n : Nat) (h : 0 < n) (cap : Nat) (w : World) : (Instr.slice 28 (.slice (some ⟨b, off, none⟩) n cap) (some (.int .i64 1)) none none).run Tryz.prog w = .ok (.slice (if cap = 1 then some ⟨b, off, none⟩ else some ⟨b, off + 1, none⟩) (n - 1) (cap - 1)) w := by
  rw [run_slice_l (P := Tryz.prog) w 28 (some ⟨b, off, none⟩) n cap (by kernel_rfl) .i64 1 (by omega) (by omega)]
  rw [show (sizeOf (Tryz.prog.elem 28)).run Tryz.prog w = .ok 1 w from by kernel_rfl]
  simp only [Result.andThen, sliced]
  by_cases h1 : cap = 1
  · simp [h1]
  · simp [h1, Addr.add]
/-- A proof, as it reads. -/
def DomV (H : PH) (v : Value) (d : DominD) : Prop := ∃ u1 u2, v = .agg #[.int .i64 d.block, .int .i64 d.idom, u1, u2] ∧ SlV rInt H u1 d.one ∧ SlV rInt H u2 d.two
theorem DomV.mono {H H' : PH} {v : Value} {d : DominD} (h : PH.le H H') (k : DomV H v d) : DomV H' v d := by
  obtain ⟨u1, u2, e, h1, h2⟩ := k
  exact ⟨u1, u2, e, h1.mono h, h2.mono h⟩
noncomputable def leadsB (f : FlowD) (d : DominD) (p : List Int) : Bool := dcd (LeadsP f d p)
set_option maxHeartbeats 1000000 in
set_option maxRecDepth 100000 in
theorem leads_1 (H : PH) (bf : Nat) (f : FlowD) (x : Int) (w : World) (hw : Sees w H) (hF : BoxF H bf f) :
    Calls Tryz.prog 128 #[.int .i64 x, .pointer (some ⟨bf, 0, none⟩)] w fun e w' => e = .returned (.bool (!withinB x 0 ((f.blocks.length : Int) - 1))) ∧ Below w.heap.size w w' := by
  obtain ⟨v, hbf, hf⟩ := hF
  obtain ⟨b5, s0, s1, s2, s3, m, rfl, hb, hf⟩ := hf
  have q := cell_blk (hw bf _ hbf) 0
  simp only [List.getElem?_toArray, List.getElem?_cons_zero] at q
  have hbl := hw.lt hbf
  have q5 := box5 (hw b5 _ hb)
  have hbl5 := hw.lt hb
  have hle := hf.le
  obtain ⟨A0, c0, rfl, -, -⟩ := hf.blocks.open_
  clear hf
  go_enter Tryz.func128, Tryz.ntmps128
  go_wp2_with (go_at_call 50; refine (graph_within _ _ _ _).mono ?_; rintro e w3 ⟨rfl, rfl⟩)
  go_ret
  exact ⟨rfl, Below.refl _ _⟩
theorem leads_1V (H : PH) (bf : Nat) (f : FlowD) (hF : BoxF H bf f) : PredV H .i64 (.func (.func 128) #[] #[.pointer (some ⟨bf, 0, none⟩)]) (fun _ => True) (fun y => !withinB y 0 ((f.blocks.length : Int) - 1)) :=
  ⟨_, _, rfl, enters_mk Tryz.func128 (by kernel_rfl) rfl, fun w' H' x hle hs _ => leads_1 H' bf f x w' hs (by obtain ⟨v, h1, h2⟩ := hF; exact ⟨v, hle _ _ h1, h2.mono hle⟩)⟩
set_option maxHeartbeats 4000000 in
set_option maxRecDepth 100000 in
theorem flow_leads (H : PH) (v vd vp : Value) (f : FlowD) (d : DominD) (p : List Int) (w : World) (hw : Sees w H) (hf : FlowV H v f) (hd : DomV H vd d) (hp : SlV rInt H vp p) :
    Calls Tryz.prog 104 #[v, vd, vp] w fun e w' => e = .returned (.bool (leadsB f d p)) ∧ Below w.heap.size w w' := by
  have hle := hp.le
  have hf0 := hf
  obtain ⟨b5, s0, s1, s2, s3, m, rfl, hb5, hf⟩ := hf
  obtain ⟨u1, u2, rfl, -, -⟩ := hd
  have hS := Lib.hid (show leadsB f d p = true ↔ LeadsP f d p from dcd_iff)
  generalize leadsB f d p = B at *
  obtain ⟨db, di, d1, d2⟩ := d
  simp only at *
  obtain ⟨A0, c0, rfl, -, -⟩ := hf.blocks.open_
  obtain ⟨A2, c2, rfl, -, -⟩ := hf.entry.open_
  have hfle := hf.le
  have hlE := hf.lenE
  rw [hlE] at hb5
  have hmf : ∀ (fn : Fn) (first cap : Array Value) (w : World), (Instr.makeFunc fn first cap).run Tryz.prog w = .ok (.func fn first cap) w := fun _ _ _ _ => rfl
  have lE := hf.entry
  have lL := hf.blocks
  have hnx := Lib.hid hf.next
  clear hf
  by_cases hp0 : p = []
  · have hb := Lib.hid (show B = false from Bool.eq_false_iff.2 fun h => (hS.out.1 h).ne hp0)
    subst hp0
    obtain ⟨Ap, cp, rfl, -, -⟩ := hp.open_
    clear hS lE lL hnx hp
    go_enter Tryz.func104, Tryz.ntmps104
    go_wp2
    go_ret
    exact ⟨ret_bool hb.out.symm, by first | exact Below.refl _ _ | exact ((Below.refl _ _).alloc (Nat.le_refl _) _).alloc (by simp [World.size_alloc]) _⟩
  · have hpl := List.length_pos_iff.2 hp0
    obtain ⟨bp, op, cp, rfl, hcp, hbp, hpc, -⟩ := hp.ints hpl
    have htl := Lib.hid (hp.tail_ hpl)
    have hln : ((p.length : Int) == 0) = false := by rw [beq_eq_false_iff_ne]; omega
    have hwr : IntKind.i64.wrap ((p.length : Int) - 1) = (p.length : Int) - 1 := IntWalk.i64_in _ (by omega)
    go_enter Tryz.func104, Tryz.ntmps104
    go_upto_region 1 with fail
    refine wp_name fun W hW => ?_
    have x3 : W.heap[w.heap.size]? = some (.cells #[.pointer (some ⟨b5, 0, none⟩)] 76 (0, 0)) := by rw [hW]; exact ga_old (ga_new _ _)
    have x4 : W.heap[w.heap.size + 1]? = some (.cells #[.int .i64 db, .int .i64 di, u1, u2] 106 (0, 0)) := by rw [hW]; exact ga_fit (by simp [World.size_alloc])
    have hBW : Below w.heap.size w W := by rw [hW]; exact ((Below.refl _ _).alloc (Nat.le_refl _) _).alloc (by simp [World.size_alloc]) _
    clear hW
    have hsW := extH.sees hw hBW
    have hleW := extH.le hw W
    have k3 := extH.new (H := H) (Nat.le_refl _) x3
    have k4 := extH.new (H := H) (show w.heap.size ≤ w.heap.size + 1 by omega) x4
    have hP := leads_1V (extH H w W) w.heap.size f ⟨_, k3, hf0.mono hleW⟩
    have hC := slices_ContainsFunc_int (extH H w W) _ _ p (fun _ => True) _ W hsW (hp.mono hleW) hP (fun _ _ => trivial)
    have hpK := hp.mono hleW
    have lEK := lE.mono hleW
    have lLK := lL.mono hleW
    have htlK := Lib.hid (htl.out.mono hleW)
    have hb5K := hleW _ _ hb5
    clear hP hf0 hp lE lL htl hpc hbp hb5 hleW hw x3 x4
    generalize extH H w W = K at *
    cases hany : p.any (fun y => !withinB y 0 ((f.blocks.length : Int) - 1))
    · rw [hany] at hC
      have hrng : ∀ y ∈ p, 0 ≤ y ∧ y < f.blocks.length := fun y hy => by
        have := (List.any_eq_false.1 hany) y hy
        simp [withinB] at this
        omega
      have hrh := Lib.hid hrng
      clear hany hrng
      by_cases hix : Lib.idxOf p db = (p.length : Int) - 1
      · have hixh := Lib.hid ((idx_last hp0).1 hix)
        have hne : ((p.length : Int) - 1 != (p.length : Int) - 1) = false := by simp
        by_cases hone : p.length = 1
        · have hnil : p.tail = [] := List.eq_nil_of_length_eq_zero (by rw [List.length_tail, hone])
          have honeh := Lib.hid hone
          clear hone
          go_wp2_with (first
            | (go_at_call 100; refine hC.mono ?_; rintro e w2 ⟨rfl, hB2⟩; have hs2 := hsW.below hB2; have q4 := cell_blk (hs2 _ _ k4) 0; simp only [List.getElem?_toArray, List.getElem?_cons_zero] at q4; have l4 := hs2.lt k4)
            | (go_at_call 129; refine (index_sl _ hs2 hpK).mono ?_; rintro e w3 ⟨rfl, rfl⟩; rw [hix]))
          all_goals
            clear hix hC
            go_loopw [30] (fun i wr => i = .int .i64 0 ∧ Below w3.heap.size w3 wr) (fun i _ => 0)
            case atStart => exact ⟨rfl, Below.refl _ _⟩
            case round =>
              obtain ⟨rfl, hB⟩ := hrel
              have hs := hs2.below hB
              have hnoh := Lib.hid (show ∀ j, j < p.length - 1 → p.getD (j + 1) 0 ∈ nxB f (p.getD j 0) from fun j h => by have := honeh.out; omega)
              have hk1 : ¬ (0 : Int) < ((p.length - 1 : Nat) : Int) := by have := honeh.out; omega
              obtain ⟨bp2, op2, cp2, ep2, -, hbp2, hpc2, -⟩ := hpK.ints hpl
              cases ep2
              have lp := hs.lt' hbp2
              have p0 := hpc2 wr hs 0 hpl
              have hz := hrh.out (p.getD 0 0) (by rw [List.getD_eq_getElem?_getD, List.getElem?_eq_getElem hpl]; exact List.getElem_mem _)
              obtain ⟨a, ha⟩ : ∃ a : Nat, p.getD 0 0 = (a : Int) := ⟨(p.getD 0 0).toNat, by omega⟩
              have hal : a < f.blocks.length := by omega
              have ha0 : (0 : Int) ≤ a := by omega
              have ha1 : (a : Int) < f.blocks.length := by omega
              have hpl0 : (0 : Int) < p.length := by omega
              rw [ha, Nat.add_zero] at p0
              have q3 := cell_blk (hs _ _ k3) 0
              have q4 := cell_blk (hs _ _ k4) 1
              simp only [List.getElem?_toArray, List.getElem?_cons_zero, List.getElem?_cons_succ] at q3 q4
              have l3 := hs.lt k3
              have l4 := hs.lt k4
              have q5 := box5 (hs _ _ hb5K)
              have l5 := hs.lt hb5K
              have hkn : ¬ ((p.length - 1 : Nat) : Int) < (p.length - 1 : Nat) := by omega
              have hall := Lib.hid (show B = true ↔ (if di = -1 then f.entry.getD a false = true else (a : Int) = di ∧ di ∉ p.tail) from by
                rw [hS.out]
                constructor
                · intro h
                  have := h.from_
                  rw [ha, Int.toNat_natCast] at this
                  exact this
                · intro h
                  refine ⟨hp0, hrh.out, hixh.out.1, hixh.out.2, fun i x y hx hy => ?_, by rw [ha, Int.toNat_natCast]; exact h⟩
                  have hi := (List.getElem?_eq_some_iff.1 hy).1
                  have := hnoh.out i (by omega)
                  rw [List.getD_eq_getElem?_getD, List.getD_eq_getElem?_getD, hx, hy] at this
                  exact this)
              clear hpc2 hz ha
              by_cases hdi : di = -1
              · have t1 : (di == -1) = true := by simp [hdi]
                obtain ⟨b2, o2, c2', e2, -, hb2, hc2⟩ := lEK.bools (by rw [hlE]; omega)
                rw [hlE] at e2
                cases e2
                have pE := hc2 wr hs a (by rw [hlE]; exact hal)
                have lE2 := hs.lt' hb2
                have hb := Lib.hid (show B = f.entry.getD a false from by
                  have := hall.out
                  rw [if_pos hdi] at this
                  cases h9 : f.entry.getD a false
                  · rw [h9] at this; exact Bool.eq_false_iff.2 fun h => by have := this.1 h; cases this
                  · exact this.2 h9)
                clear hdi hc2
                generalize f.entry.getD a false = G at *
                go_upto_region 10 with fail
                have hcs := Lib.hid (fun (w' : World) (h : w'.heap = wr.heap) => And.intro ((hp_cell h _).trans q3) (And.intro (hp_lt h l3) (And.intro ((hp_cell h _).trans q5.2.2.1) (And.intro (hp_lt h l5) (And.intro ((hp_cell h _).trans p0) (And.intro (hp_lt h lp) (And.intro ((hp_cell h _).trans pE) (hp_lt h lE2))))))))
                refine wp_region_plan (fun w' => w'.heap = wr.heap) [(0, true), (1, true), (2, true), (3, true), (4, true), (5, true), (6, true), (7, true), (8, true), (9, true)] (by kernel_rfl) (by kernel_rfl) (by kernel_rfl) rfl ?_
                repeat first
                  | (refine plan_skip rfl (by rfl) ?_; simp only [Act.put, List.setIfInBounds_toArray, List.set_cons_zero, List.set_cons_succ])
                  | (refine plan_read (v := ?_) rfl (by rfl) ?_ ?_; rotate_left; (focus (intro w' hSw; obtain ⟨r1, r2, r3, r4, r5, r6, r7, r8⟩ := hcs.out _ hSw; clear hSw; go_simp; all_goals with_reducible rfl)); simp only [Act.put, List.setIfInBounds_toArray, List.set_cons_zero, List.set_cons_succ])
                refine plan_nil (NoPanic.normal ?_)
                go_wp2
                go_ret
                exact ⟨ret_bool hb.out.symm, bstep hBW (bstep hB2 (hp_drew hB))⟩
              · have t1 : (di == -1) = false := by simp [hdi]
                have hal2 := hall.out
                rw [if_neg hdi] at hal2
                clear hdi
                cases t2 : ((a : Int) == di)
                · have hb := Lib.hid (show B = false from Bool.eq_false_iff.2 fun h => by
                    have := (hal2.1 h).1
                    rw [this] at t2
                    simp at t2)
                  clear hal2
                  go_upto_region 11 with fail
                  have hcs := Lib.hid (fun (w' : World) (h : w'.heap = wr.heap) => And.intro ((hp_cell h _).trans p0) (And.intro (hp_lt h lp) (And.intro ((hp_cell h _).trans q4) (hp_lt h l4))))
                  refine wp_region_plan (fun w' => w'.heap = wr.heap) [(0, true), (1, true), (2, true), (3, true), (4, true), (5, true), (6, true), (7, true), (8, true), (9, true), (10, true), (11, false), (12, true), (13, true), (14, true)] (by kernel_rfl) (by kernel_rfl) (by kernel_rfl) rfl ?_
                  repeat first
                    | (refine plan_skip rfl (by rfl) ?_; simp only [Act.put, List.setIfInBounds_toArray, List.set_cons_zero, List.set_cons_succ])
                    | (refine plan_read (v := ?_) rfl (by rfl) ?_ ?_; rotate_left; (focus (intro w' hSw; obtain ⟨r1, r2, r3, r4⟩ := hcs.out _ hSw; clear hSw; go_simp; all_goals with_reducible rfl)); simp only [Act.put, List.setIfInBounds_toArray, List.set_cons_zero, List.set_cons_succ])
                  refine plan_pass rfl (by rfl) rfl ?_
                  simp only [Act.put, List.setIfInBounds_toArray, List.set_cons_zero, List.set_cons_succ]
                  repeat first
                    | (refine plan_skip rfl (by rfl) ?_; simp only [Act.put, List.setIfInBounds_toArray, List.set_cons_zero, List.set_cons_succ])
                    | (refine plan_read (v := ?_) rfl (by rfl) ?_ ?_; rotate_left; (focus (intro w' hSw; skip; clear hSw; go_simp; all_goals with_reducible rfl)); simp only [Act.put, List.setIfInBounds_toArray, List.set_cons_zero, List.set_cons_succ])
                  refine plan_nil (NoPanic.normal ?_)
                  go_wp2
                  go_ret
                  exact ⟨ret_bool hb.out.symm, bstep hBW (bstep hB2 (hp_drew hB))⟩
                · have hb := Lib.hid (show B = !p.tail.contains di from by
                    have h9 : (a : Int) = di := by simpa using t2
                    cases h8 : p.tail.contains di
                    · exact hal2.2 ⟨h9, fun h => by rw [List.contains_iff_mem.2 h] at h8; cases h8⟩
                    · exact Bool.eq_false_iff.2 fun h => (hal2.1 h).2 (List.contains_iff_mem.1 h8))
                  clear hal2
                  have hCt := fun (A : Option Addr) (c : Nat) (w0 : World) => contains_none (A := A) (c := c) di hnil (n := p.length - 1) (by rw [honeh.out]) w0
                  have hslr := slice_tail bp op p.length hpl
                  generalize p.tail.contains di = G at *
                  go_upto_region 11 with fail
                  have hcs := Lib.hid (fun (w' : World) (h : w'.heap = wr.heap) => And.intro ((hp_cell h _).trans p0) (And.intro (hp_lt h lp) (And.intro ((hp_cell h _).trans q4) (hp_lt h l4))))
                  refine wp_region_plan (fun w' => w'.heap = wr.heap) [(0, true), (1, true), (2, true), (3, true), (4, true), (5, true), (6, true), (7, true), (8, true), (9, true), (10, true), (11, false), (12, true), (13, true), (14, true)] (by kernel_rfl) (by kernel_rfl) (by kernel_rfl) rfl ?_
                  repeat first
                    | (refine plan_skip rfl (by rfl) ?_; simp only [Act.put, List.setIfInBounds_toArray, List.set_cons_zero, List.set_cons_succ])
                    | (refine plan_read (v := ?_) rfl (by rfl) ?_ ?_; rotate_left; (focus (intro w' hSw; obtain ⟨r1, r2, r3, r4⟩ := hcs.out _ hSw; clear hSw; go_simp; all_goals with_reducible rfl)); simp only [Act.put, List.setIfInBounds_toArray, List.set_cons_zero, List.set_cons_succ])
                  refine plan_step rfl (by kernel_rfl) (fun K' hK' => ?_)
                  go_simp
                  refine (hCt _ _ _).mono ?_
                  rintro e w6 ⟨rfl, rfl⟩
                  refine hK'.out _ _ rfl ?_
                  clear hK' K'
                  repeat first
                    | (refine plan_skip rfl (by rfl) ?_; simp only [Act.put, List.setIfInBounds_toArray, List.set_cons_zero, List.set_cons_succ])
                    | (refine plan_read (v := ?_) rfl (by rfl) ?_ ?_; rotate_left; (focus (intro w' hSw; skip; clear hSw; go_simp; all_goals with_reducible rfl)); simp only [Act.put, List.setIfInBounds_toArray, List.set_cons_zero, List.set_cons_succ])
                  refine plan_nil (NoPanic.normal ?_)
                  go_wp2
                  go_ret
                  exact ⟨ret_bool hb.out.symm, bstep hBW (bstep hB2 (hp_drew hB))⟩
        · have hc1 : ¬ cp = 1 := by omega
          go_wp2_with (first
            | (go_at_call 100; refine hC.mono ?_; rintro e w2 ⟨rfl, hB2⟩; have hs2 := hsW.below hB2; have q4 := cell_blk (hs2 _ _ k4) 0; simp only [List.getElem?_toArray, List.getElem?_cons_zero] at q4; have l4 := hs2.lt k4)
            | (go_at_call 129; refine (index_sl _ hs2 hpK).mono ?_; rintro e w3 ⟨rfl, rfl⟩; rw [hix]))
          clear hix hC
          go_loopw [30] (fun i wr => ∃ k : Nat, k ≤ p.length - 1 ∧ i = .int .i64 k ∧ Aside (∀ j, j < k → p.getD (j + 1) 0 ∈ nxB f (p.getD j 0)) ∧ Below w3.heap.size w3 wr) (fun i _ => (p.length - 1) - (intOf i).toNat)
          case atStart => exact ⟨0, Nat.zero_le _, rfl, fun j h => by omega, Below.refl _ _⟩
          case round =>
            obtain ⟨k, hk, rfl, hno, hB⟩ := hrel
            have hnoh := Lib.hid hno
            clear hno
            have hs := hs2.below hB
            by_cases hkl : k < p.length - 1
            · obtain ⟨bp', op', cp', ep, -, hbp, hpc, -⟩ := hpK.ints hpl
              cases ep
              have lp := hs.lt' hbp
              have q3 := cell_blk (hs _ _ k3) 0
              simp only [List.getElem?_toArray, List.getElem?_cons_zero, List.getElem?_cons_succ] at q3
              have l3 := hs.lt k3
              have q5 := box5 (hs _ _ hb5K)
              have l5 := hs.lt hb5K
              have hkl' : (k : Int) < (p.length - 1 : Nat) := by omega
              have hk0 : (0 : Int) ≤ k := by omega
              have hka := hrh.out (p.getD k 0) (by rw [List.getD_eq_getElem?_getD, List.getElem?_eq_getElem (by omega)]; exact List.getElem_mem _)
              obtain ⟨a, ha⟩ : ∃ a : Nat, p.getD k 0 = (a : Int) := ⟨(p.getD k 0).toNat, by omega⟩
              obtain ⟨y, hy⟩ : ∃ y, p.getD (k + 1) 0 = y := ⟨_, rfl⟩
              have hal : a < f.blocks.length := by omega
              have ha0 : (0 : Int) ≤ a := by omega
              have ha1 : (a : Int) < f.blocks.length := by omega
              have p1 := hpc wr hs k (by omega)
              have p2 := hpc wr hs (k + 1) (by omega)
              rw [ha] at p1
              rw [hy, show op + (k + 1) = op + 1 + k by omega] at p2
              have hkp : (k : Int) < p.length := by omega
              obtain ⟨bL, oL, cL', hLe, -, hbL, hrow, -⟩ := lLK.blocks (by omega)
              cases hLe
              obtain ⟨un, hun, huc⟩ := hrow a hal
              rw [show (f.blocks.getD a default).next = nxB f (a : Int) from rfl] at hun
              have p6 := (huc wr hs).2.2
              have lL := hs.lt' hbL
              have hst := Lib.hid (show (nxB f (a : Int)).contains y = true → ∀ j, j < k + 1 → p.getD (j + 1) 0 ∈ nxB f (p.getD j 0) from fun h j hj => by
                by_cases e : j = k
                · subst e; rw [ha, hy]; exact List.contains_iff_mem.1 h
                · exact hnoh.out j (by omega))
              have hbad := Lib.hid (show (nxB f (a : Int)).contains y = false → B = false from fun h => Bool.eq_false_iff.2 fun hB' => by
                have h1 := (hS.out.1 hB').step k a y (by rw [← ha, List.getD_eq_getElem?_getD, List.getElem?_eq_getElem (by omega)]; rfl) (by rw [← hy, List.getD_eq_getElem?_getD, List.getElem?_eq_getElem (by omega)]; rfl)
                rw [List.contains_iff_mem.2 h1] at h
                cases h)
              have hCt := contains_sl y (hp_sees hs) hun
              clear hrow huc hpc ha hy hka
              generalize (nxB f (a : Int)).contains y = G at *
              go_upto_region 6 with fail
              have hcs := Lib.hid (fun (w' : World) (h : w'.heap = wr.heap) => And.intro ((hp_cell h _).trans q3) (And.intro (hp_lt h l3) (And.intro ((hp_cell h _).trans q5.1) (And.intro (hp_lt h l5) (And.intro ((hp_cell h _).trans p1) (And.intro (hp_lt h lp) (And.intro ((hp_cell h _).trans p6) (hp_lt h lL))))))))
              refine wp_region_plan (fun w' => w'.heap = wr.heap) [(0, true), (1, true), (2, true), (3, true), (4, true), (5, true), (6, true), (7, true), (8, true), (9, true), (10, true), (11, true), (12, false), (13, true)] (by kernel_rfl) (by kernel_rfl) (by kernel_rfl) rfl ?_
              repeat first
                | (refine plan_skip rfl (by rfl) ?_; simp only [Act.put, List.setIfInBounds_toArray, List.set_cons_zero, List.set_cons_succ])
                | (refine plan_read (v := ?_) rfl (by rfl) ?_ ?_; rotate_left; (focus (intro w' hSw; obtain ⟨r1, r2, r3, r4, r5, r6, r7, r8⟩ := hcs.out _ hSw; clear hSw; go_simp; all_goals with_reducible rfl)); simp only [Act.put, List.setIfInBounds_toArray, List.set_cons_zero, List.set_cons_succ])
              refine plan_step rfl (by rfl) (fun K' hK' => ?_)
              go_simp
              refine hCt.mono ?_
              rintro e w6 ⟨rfl, rfl⟩
              refine hK'.out _ _ rfl ?_
              clear hK' K'
              repeat first
                | (refine plan_skip rfl (by rfl) ?_; simp only [Act.put, List.setIfInBounds_toArray, List.set_cons_zero, List.set_cons_succ])
                | (refine plan_read (v := ?_) rfl (by rfl) ?_ ?_; rotate_left; (focus (intro w' hSw; skip; clear hSw; go_simp; all_goals with_reducible rfl)); simp only [Act.put, List.setIfInBounds_toArray, List.set_cons_zero, List.set_cons_succ])
              refine plan_nil (NoPanic.normal ?_)
              cases G
              · go_wp2
                go_ret
                exact ⟨ret_bool (hbad.out trivial).symm, bstep hBW (bstep hB2 (hp_drew hB))⟩
              · go_wp2
                go_roundw
                case rel => exact ⟨k + 1, by omega, by go_num, hst.out rfl, hp_drew hB⟩
                case measure => simp [intOf]; omega
            · obtain rfl : k = p.length - 1 := by omega
              obtain ⟨bp2, op2, cp2, ep2, -, hbp2, hpc2, -⟩ := hpK.ints hpl
              cases ep2
              have lp := hs.lt' hbp2
              have p0 := hpc2 wr hs 0 hpl
              have hz := hrh.out (p.getD 0 0) (by rw [List.getD_eq_getElem?_getD, List.getElem?_eq_getElem hpl]; exact List.getElem_mem _)
              obtain ⟨a, ha⟩ : ∃ a : Nat, p.getD 0 0 = (a : Int) := ⟨(p.getD 0 0).toNat, by omega⟩
              have hal : a < f.blocks.length := by omega
              have ha0 : (0 : Int) ≤ a := by omega
              have ha1 : (a : Int) < f.blocks.length := by omega
              have hpl0 : (0 : Int) < p.length := by omega
              rw [ha, Nat.add_zero] at p0
              have q3 := cell_blk (hs _ _ k3) 0
              have q4 := cell_blk (hs _ _ k4) 1
              simp only [List.getElem?_toArray, List.getElem?_cons_zero, List.getElem?_cons_succ] at q3 q4
              have l3 := hs.lt k3
              have l4 := hs.lt k4
              have q5 := box5 (hs _ _ hb5K)
              have l5 := hs.lt hb5K
              have hkn : ¬ ((p.length - 1 : Nat) : Int) < (p.length - 1 : Nat) := by omega
              have hall := Lib.hid (show B = true ↔ (if di = -1 then f.entry.getD a false = true else (a : Int) = di ∧ di ∉ p.tail) from by
                rw [hS.out]
                constructor
                · intro h
                  have := h.from_
                  rw [ha, Int.toNat_natCast] at this
                  exact this
                · intro h
                  refine ⟨hp0, hrh.out, hixh.out.1, hixh.out.2, fun i x y hx hy => ?_, by rw [ha, Int.toNat_natCast]; exact h⟩
                  have hi := (List.getElem?_eq_some_iff.1 hy).1
                  have := hnoh.out i (by omega)
                  rw [List.getD_eq_getElem?_getD, List.getD_eq_getElem?_getD, hx, hy] at this
                  exact this)
              clear hpc2 hz ha
              by_cases hdi : di = -1
              · have t1 : (di == -1) = true := by simp [hdi]
                obtain ⟨b2, o2, c2', e2, -, hb2, hc2⟩ := lEK.bools (by rw [hlE]; omega)
                rw [hlE] at e2
                cases e2
                have pE := hc2 wr hs a (by rw [hlE]; exact hal)
                have lE2 := hs.lt' hb2
                have hb := Lib.hid (show B = f.entry.getD a false from by
                  have := hall.out
                  rw [if_pos hdi] at this
                  cases h9 : f.entry.getD a false
                  · rw [h9] at this; exact Bool.eq_false_iff.2 fun h => by have := this.1 h; cases this
                  · exact this.2 h9)
                clear hdi hc2
                generalize f.entry.getD a false = G at *
                go_upto_region 10 with fail
                have hcs := Lib.hid (fun (w' : World) (h : w'.heap = wr.heap) => And.intro ((hp_cell h _).trans q3) (And.intro (hp_lt h l3) (And.intro ((hp_cell h _).trans q5.2.2.1) (And.intro (hp_lt h l5) (And.intro ((hp_cell h _).trans p0) (And.intro (hp_lt h lp) (And.intro ((hp_cell h _).trans pE) (hp_lt h lE2))))))))
                refine wp_region_plan (fun w' => w'.heap = wr.heap) [(0, true), (1, true), (2, true), (3, true), (4, true), (5, true), (6, true), (7, true), (8, true), (9, true)] (by kernel_rfl) (by kernel_rfl) (by kernel_rfl) rfl ?_
                repeat first
                  | (refine plan_skip rfl (by rfl) ?_; simp only [Act.put, List.setIfInBounds_toArray, List.set_cons_zero, List.set_cons_succ])
                  | (refine plan_read (v := ?_) rfl (by rfl) ?_ ?_; rotate_left; (focus (intro w' hSw; obtain ⟨r1, r2, r3, r4, r5, r6, r7, r8⟩ := hcs.out _ hSw; clear hSw; go_simp; all_goals with_reducible rfl)); simp only [Act.put, List.setIfInBounds_toArray, List.set_cons_zero, List.set_cons_succ])
                refine plan_nil (NoPanic.normal ?_)
                go_wp2
                go_ret
                exact ⟨ret_bool hb.out.symm, bstep hBW (bstep hB2 (hp_drew hB))⟩
              · have t1 : (di == -1) = false := by simp [hdi]
                have hal2 := hall.out
                rw [if_neg hdi] at hal2
                clear hdi
                cases t2 : ((a : Int) == di)
                · have hb := Lib.hid (show B = false from Bool.eq_false_iff.2 fun h => by
                    have := (hal2.1 h).1
                    rw [this] at t2
                    simp at t2)
                  clear hal2
                  go_upto_region 11 with fail
                  have hcs := Lib.hid (fun (w' : World) (h : w'.heap = wr.heap) => And.intro ((hp_cell h _).trans p0) (And.intro (hp_lt h lp) (And.intro ((hp_cell h _).trans q4) (hp_lt h l4))))
                  refine wp_region_plan (fun w' => w'.heap = wr.heap) [(0, true), (1, true), (2, true), (3, true), (4, true), (5, true), (6, true), (7, true), (8, true), (9, true), (10, true), (11, false), (12, true), (13, true), (14, true)] (by kernel_rfl) (by kernel_rfl) (by kernel_rfl) rfl ?_
                  repeat first
                    | (refine plan_skip rfl (by rfl) ?_; simp only [Act.put, List.setIfInBounds_toArray, List.set_cons_zero, List.set_cons_succ])
                    | (refine plan_read (v := ?_) rfl (by rfl) ?_ ?_; rotate_left; (focus (intro w' hSw; obtain ⟨r1, r2, r3, r4⟩ := hcs.out _ hSw; clear hSw; go_simp; all_goals with_reducible rfl)); simp only [Act.put, List.setIfInBounds_toArray, List.set_cons_zero, List.set_cons_succ])
                  refine plan_pass rfl (by rfl) rfl ?_
                  simp only [Act.put, List.setIfInBounds_toArray, List.set_cons_zero, List.set_cons_succ]
                  repeat first
                    | (refine plan_skip rfl (by rfl) ?_; simp only [Act.put, List.setIfInBounds_toArray, List.set_cons_zero, List.set_cons_succ])
                    | (refine plan_read (v := ?_) rfl (by rfl) ?_ ?_; rotate_left; (focus (intro w' hSw; skip; clear hSw; go_simp; all_goals with_reducible rfl)); simp only [Act.put, List.setIfInBounds_toArray, List.set_cons_zero, List.set_cons_succ])
                  refine plan_nil (NoPanic.normal ?_)
                  go_wp2
                  go_ret
                  exact ⟨ret_bool hb.out.symm, bstep hBW (bstep hB2 (hp_drew hB))⟩
                · have hb := Lib.hid (show B = !p.tail.contains di from by
                    have h9 : (a : Int) = di := by simpa using t2
                    cases h8 : p.tail.contains di
                    · exact hal2.2 ⟨h9, fun h => by rw [List.contains_iff_mem.2 h] at h8; cases h8⟩
                    · exact Bool.eq_false_iff.2 fun h => (hal2.1 h).2 (List.contains_iff_mem.1 h8))
                  clear hal2
                  have hCt := contains_sl di (hp_sees hs) htlK.out
                  have hslr := slice_tail bp op p.length hpl
                  generalize p.tail.contains di = G at *
                  go_upto_region 11 with fail
                  have hcs := Lib.hid (fun (w' : World) (h : w'.heap = wr.heap) => And.intro ((hp_cell h _).trans p0) (And.intro (hp_lt h lp) (And.intro ((hp_cell h _).trans q4) (hp_lt h l4))))
                  refine wp_region_plan (fun w' => w'.heap = wr.heap) [(0, true), (1, true), (2, true), (3, true), (4, true), (5, true), (6, true), (7, true), (8, true), (9, true), (10, true), (11, false), (12, true), (13, true), (14, true)] (by kernel_rfl) (by kernel_rfl) (by kernel_rfl) rfl ?_
                  repeat first
                    | (refine plan_skip rfl (by rfl) ?_; simp only [Act.put, List.setIfInBounds_toArray, List.set_cons_zero, List.set_cons_succ])
                    | (refine plan_read (v := ?_) rfl (by rfl) ?_ ?_; rotate_left; (focus (intro w' hSw; obtain ⟨r1, r2, r3, r4⟩ := hcs.out _ hSw; clear hSw; go_simp; all_goals with_reducible rfl)); simp only [Act.put, List.setIfInBounds_toArray, List.set_cons_zero, List.set_cons_succ])
                  refine plan_step rfl (by kernel_rfl) (fun K' hK' => ?_)
                  go_simp
                  refine hCt.mono ?_
                  rintro e w6 ⟨rfl, rfl⟩
                  refine hK'.out _ _ rfl ?_
                  clear hK' K'
                  repeat first
                    | (refine plan_skip rfl (by rfl) ?_; simp only [Act.put, List.setIfInBounds_toArray, List.set_cons_zero, List.set_cons_succ])
                    | (refine plan_read (v := ?_) rfl (by rfl) ?_ ?_; rotate_left; (focus (intro w' hSw; skip; clear hSw; go_simp; all_goals with_reducible rfl)); simp only [Act.put, List.setIfInBounds_toArray, List.set_cons_zero, List.set_cons_succ])
                  refine plan_nil (NoPanic.normal ?_)
                  go_wp2
                  go_ret
                  exact ⟨ret_bool hb.out.symm, bstep hBW (bstep hB2 (hp_drew hB))⟩
      · have hb := Lib.hid (show B = false from Bool.eq_false_iff.2 fun h => hix ((idx_last hp0).2 ⟨(hS.out.1 h).last, (hS.out.1 h).once⟩))
        have hne : (Lib.idxOf p db != (p.length : Int) - 1) = true := by simpa using hix
        obtain ⟨ix, hixe⟩ : ∃ ix, Lib.idxOf p db = ix := ⟨_, rfl⟩
        have hixg := Lib.hid hixe
        rw [hixe] at hne
        clear hixe
        clear hS hix hrh hnx
        go_wp2_with (first
          | (go_at_call 100; refine hC.mono ?_; rintro e w2 ⟨rfl, hB2⟩; have hs2 := hsW.below hB2; have q4 := cell_blk (hs2 _ _ k4) 0; simp only [List.getElem?_toArray, List.getElem?_cons_zero] at q4; have l4 := hs2.lt k4)
          | (go_at_call 129; refine (index_sl _ hs2 hpK).mono ?_; rintro e w3 ⟨rfl, rfl⟩; go_must (rw [hixg.out])))
        go_ret
        exact ⟨ret_bool hb.out.symm, bstep hBW hB2⟩
    · rw [hany] at hC
      have hb := Lib.hid (show B = false from Bool.eq_false_iff.2 fun h => by
        obtain ⟨y, hy, h1⟩ := List.any_eq_true.1 hany
        have := (hS.out.1 h).range y hy
        simp [withinB] at h1
        omega)
      clear hany hS hnx
      go_wp2_with (go_at_call 100; refine hC.mono ?_; rintro e w2 ⟨rfl, hB2⟩)
      go_ret
      exact ⟨ret_bool hb.out.symm, bstep hBW hB2⟩
/-- The map of immediate dominators. -/
def DomMap (H : PH) (m : Nat) (l : List DominD) : Prop := ∃ ml : IntMap, (∀ w, Sees w H → MapL encI w m ml) ∧ ∀ y, mget ml y = (l.find? fun d => decide (d.block = y)).map fun d => .int .i64 d.idom
noncomputable def metB (l : List DominD) (v b : Int) : Bool := dcd (metP l v b)
theorem idomAt_get {ml : IntMap} {l : List DominD} {y : Int} (h : mget ml y = (l.find? fun d => decide (d.block = y)).map fun d => Value.int .i64 d.idom) : (mget ml y).getD (.int .i64 0) = .int .i64 (idomAt l y) := by
  rw [h]
  unfold idomAt
  cases l.find? fun d => decide (d.block = y) <;> rfl
theorem itI_snoc (l : List DominD) (k : Nat) (x : Int) : itI l (k + 1) x = stepI l (itI l k x) := by rw [itI_add]; rfl
set_option maxHeartbeats 1000000 in
theorem graph_met (H : PH) (m : Nat) (l : List DominD) (v b : Int) (w : World) (hw : Sees w H) (hm : DomMap H m l) (hend : metP l v (-1)) :
    Calls Tryz.prog 72 #[.map (some m), .int .i64 v, .int .i64 b] w fun e w' => e = .returned (.bool (metB l v b)) ∧ w = w' := by
  obtain ⟨ml, hM, hg⟩ := hm
  obtain ⟨N, hN⟩ := hend
  have hML := hM w hw
  have hKY : KeyK Tryz.prog 3 (fun x : Int => Value.int .i64 x) := keyInt Tryz.underlying3
  have hlk := Lib.hid (fun y => by
    have h := hML.lookup Tryz.underlying90 hKY (z := .int .i64 0) (fun _ => by kernel_rfl) y false
    simp only [Bool.false_eq_true, if_false, idomAt_get (hg y)] at h
    exact h)
  have hS := Lib.hid (show metB l v b = true ↔ metP l v b from dcd_iff)
  generalize metB l v b = B at *
  have hNh := Lib.hid hN
  clear hM hg hML hN hw hKY
  go_enter Tryz.func72, Tryz.ntmps72
  go_wp2
  go_loopg [1] N (fun gk x wr => ∃ (k : Nat) (y : Int), gk + k = N ∧ x = .int .i64 y ∧ y = itI l k v ∧ wr = w ∧ Aside (∀ j, j < k → itI l j v ≠ b))
  case atStart => exact ⟨0, v, by omega, rfl, rfl, rfl, fun j h => by omega⟩
  case round =>
    obtain ⟨k, y, hk, rfl, hy, rfl, hno⟩ := hrel
    have hyh := Lib.hid hy
    have hnoh := Lib.hid hno
    clear hy hno
    by_cases hy1 : y = -1
    · subst hy1
      have hb := Lib.hid (show B = (-1 == b) from by
        rw [Bool.eq_iff_iff, hS.out, beq_iff_eq]
        constructor
        · rintro ⟨j, hj⟩
          by_cases e : j < k
          · exact absurd hj (hnoh.out j e)
          · rw [show j = k + (j - k) by omega, itI_add, ← hyh.out, itI_no] at hj
            exact hj
        · intro e; exact ⟨k, by rw [← hyh.out, e]⟩)
      go_wp2
      go_ret
      exact ⟨ret_bool hb.out.symm, rfl⟩
    · have t1 : (y != -1) = true := by simpa using hy1
      by_cases hyb : y = b
      · have hb := Lib.hid (show B = true from hS.out.2 ⟨k, by rw [← hyh.out, hyb]⟩)
        have t2 : (y != b) = false := by simpa using hyb
        have t3 : (y == b) = true := by simpa using hyb
        clear hyb hy1
        go_wp2
        go_ret
        exact ⟨ret_bool hb.out.symm, rfl⟩
      · have t2 : (y != b) = true := by simpa using hyb
        have hkN : k < N := by
          apply Classical.byContradiction
          intro hn
          apply hy1
          rw [hyh.out, show k = N + (k - N) by omega, itI_add, hNh.out, itI_no]
        have hl := hlk.out y
        have hstep := Lib.hid (show idomAt l y = itI l (k + 1) v from by rw [itI_snoc, ← hyh.out]; unfold stepI; rw [if_neg hy1])
        have hybh := Lib.hid hyb
        clear hy1 hyb
        go_wp2
        go_roundg (gk - 1)
        case measure => omega
        case rel =>
          refine ⟨k + 1, _, by omega, rfl, hstep.out, rfl, fun j hj => ?_⟩
          by_cases e : j = k
          · subst e; rw [← hyh.out]; exact hybh.out
          · exact hnoh.out j (by omega)
end Go.Proofs.YtififjlgjmgikaaGreat
namespace Go.Proofs.YtififjlgjmgikaaGreat
set_option linter.all false
open Go.RowKit Go.Shelf

/-- A proof in its box. -/
def BoxD (H : PH) (b : Nat) (d : DominD) : Prop := ∃ u1 u2, H b = some (.cells #[.int .i64 d.block, .int .i64 d.idom, u1, u2] 106 (0, 0)) ∧ SlV rInt H u1 d.one ∧ SlV rInt H u2 d.two
theorem BoxD.mono {H H' : PH} {b : Nat} {d : DominD} (h : PH.le H H') (k : BoxD H b d) : BoxD H' b d := by
  obtain ⟨u1, u2, e, h1, h2⟩ := k
  exact ⟨u1, u2, h _ _ e, h1.mono h, h2.mono h⟩
theorem boxD4 {w : World} {b : Nat} {s0 s1 s2 s3 : Value} {T : TypeId} (h : w.heap[b]? = some (.cells #[s0, s1, s2, s3] T (0, 0))) :
    w.cell? ⟨b, 0, none⟩ = some s0 ∧ w.cell? ⟨b, 1, none⟩ = some s1 ∧ w.cell? ⟨b, 2, none⟩ = some s2 ∧ w.cell? ⟨b, 3, none⟩ = some s3 ∧ b < w.heap.size := by
  have q0 := cell_blk h 0
  have q1 := cell_blk h 1
  have q2 := cell_blk h 2
  have q3 := cell_blk h 3
  simp only [List.getElem?_toArray, List.getElem?_cons_zero, List.getElem?_cons_succ] at q0 q1 q2 q3
  exact ⟨q0, q1, q2, q3, (Array.getElem?_eq_some_iff.1 h).1⟩
def apartB (d : DominD) (x : Int) : Bool := x != d.block && (x != d.idom && d.two.contains x)
set_option maxHeartbeats 1000000 in
set_option maxRecDepth 100000 in
theorem proves_1 (H : PH) (bd : Nat) (d : DominD) (x : Int) (w : World) (hw : Sees w H) (hd : BoxD H bd d) :
    Calls Tryz.prog 105 #[.int .i64 x, .pointer (some ⟨bd, 0, none⟩)] w fun e w' => e = .returned (.bool (apartB d x)) ∧ Below w.heap.size w w' := by
  obtain ⟨u1, u2, hb, -, h2⟩ := hd
  have hC := contains_sl x hw h2
  have q0 := cell_blk (hw _ _ hb) 0
  have q1 := cell_blk (hw _ _ hb) 1
  have q3 := cell_blk (hw _ _ hb) 3
  simp only [List.getElem?_toArray, List.getElem?_cons_zero, List.getElem?_cons_succ] at q0 q1 q3
  have lq := hw.lt hb
  obtain ⟨db, di, d1, d2⟩ := d
  simp only at *
  have hR : apartB ⟨db, di, d1, d2⟩ x = (x != db && (x != di && d2.contains x)) := rfl
  rw [hR]
  generalize d2.contains x = C at *
  clear hR hb h2
  go_enter Tryz.func105, Tryz.ntmps105
  cases t1 : (x != db)
  · go_wp2
    go_ret
    exact ⟨rfl, Below.refl _ _⟩
  · cases t2 : (x != di)
    · go_wp2
      go_ret
      exact ⟨rfl, Below.refl _ _⟩
    · go_wp2_with (go_at_call 106; refine hC.mono ?_; rintro e w1 ⟨rfl, rfl⟩)
      go_ret
      exact ⟨rfl, Below.refl _ _⟩
theorem proves_1V (H : PH) (bd : Nat) (d : DominD) (hd : BoxD H bd d) : PredV H .i64 (.func (.func 105) #[] #[.pointer (some ⟨bd, 0, none⟩)]) (fun _ => True) (apartB d) :=
  ⟨_, _, rfl, enters_mk Tryz.func105 (by kernel_rfl) rfl, fun w' H' x hle hs _ => proves_1 H' bd d x w' hs (hd.mono hle)⟩
noncomputable def provesB (f : FlowD) (d : DominD) : Bool := dcd (ProvesP f d)
set_option maxHeartbeats 4000000 in
set_option maxRecDepth 100000 in
theorem flow_proves (H : PH) (v vd : Value) (f : FlowD) (d : DominD) (w : World) (hw : Sees w H) (hf : FlowV H v f) (hd : DomV H vd d) (hb : 0 ≤ d.block ∧ d.block < f.blocks.length) :
    Calls Tryz.prog 70 #[v, vd] w fun e w' => e = .returned (.bool (provesB f d)) ∧ Below w.heap.size w w' := by
  have hf0 := hf
  have hd0 := hd
  obtain ⟨b5, s0, s1, s2, s3, m, rfl, hb5, hf⟩ := hf
  obtain ⟨u1, u2, rfl, h1, h2⟩ := hd
  have hS := Lib.hid (show provesB f d = true ↔ ProvesP f d from dcd_iff)
  generalize provesB f d = B at *
  obtain ⟨db, di, d1, d2⟩ := d
  simp only at *
  obtain ⟨A0, c0, rfl, -, -⟩ := hf.blocks.open_
  have hfle := hf.le
  have hlE := hf.lenE
  have hlR := hf.lenR
  obtain ⟨m, rfl⟩ : ∃ m : Nat, db = (m : Int) := ⟨db.toNat, by omega⟩
  have hm : m < f.blocks.length := by omega
  have hm0 : (0 : Int) ≤ m := by omega
  have hm1 : (m : Int) < f.blocks.length := by omega
  obtain ⟨b2, o2, c2, rfl, -, hb2, hc2⟩ := hf.entry.bools (by omega)
  rw [hlE] at hb5
  obtain ⟨b3, o3, c3, rfl, -, hb3, hc3⟩ := hf.reached.bools (by omega)
  rw [hlR] at hb5
  clear hf
  go_enter Tryz.func70, Tryz.ntmps70
  go_upto_region 1 with fail
  refine wp_name fun W hW => ?_
  have x3 : W.heap[w.heap.size]? = some (.cells #[.int .i64 (m : Int), .int .i64 di, u1, u2] 106 (0, 0)) := by rw [hW]; exact ga_new _ _
  have hBW : Below w.heap.size w W := by rw [hW]; exact (Below.refl _ _).alloc (Nat.le_refl _) _
  clear hW
  have hsW := extH.sees hw hBW
  have hleW := extH.le hw W
  have k3 := extH.new (H := H) (Nat.le_refl _) x3
  have hRK := Lib.hid (fun (i : Nat) (hi : i < f.blocks.length) => hc3 W (fun j o e => hsW j o (hleW j o e)) i (by omega))
  have pE := hc2 W (fun j o e => hsW j o (hleW j o e)) m (by omega)
  have lE := hsW.lt' (b := b2) (fun e => hb2 (by cases h9 : H b2 with | none => rfl | some o => rw [hleW _ _ h9] at e; cases e))
  have lR := hsW.lt' (b := b3) (fun e => hb3 (by cases h9 : H b3 with | none => rfl | some o => rw [hleW _ _ h9] at e; cases e))
  have q5 := box5 (hsW _ _ (hleW _ _ hb5))
  have l5 := hsW.lt (hleW _ _ hb5)
  have q0 := cell_blk x3 0
  have q1 := cell_blk x3 1
  have q2 := cell_blk x3 2
  have q3 := cell_blk x3 3
  simp only [List.getElem?_toArray, List.getElem?_cons_zero, List.getElem?_cons_succ] at q0 q1 q2 q3
  have lq := hsW.lt k3
  have hq := Lib.hid (fun (w' : World) (h : w'.heap = W.heap) => And.intro ((hp_cell h _).trans q0) (And.intro ((hp_cell h _).trans q1) (And.intro ((hp_cell h _).trans q2) (And.intro ((hp_cell h _).trans q3) (hp_lt h lq)))))
  have hqK := Lib.hid (fun (w' : World) (hs : Sees w' (extH H w W)) => boxD4 (hs _ _ k3))
  have h5 := Lib.hid (fun (w' : World) (h : w'.heap = W.heap) => And.intro ((hp_cell h _).trans q5.1) (And.intro ((hp_cell h _).trans q5.2.2.1) (And.intro ((hp_cell h _).trans q5.2.2.2.1) (hp_lt h l5))))
  have hpe := Lib.hid (fun (w' : World) (h : w'.heap = W.heap) => And.intro ((hp_cell h _).trans pE) (hp_lt h lE))
  have hF1 := hf0.mono hleW
  have hD1 := hd0.mono hleW
  have hLd1 := Lib.hid (fun (w' : World) (hs : Sees w' (extH H w W)) => flow_leads _ _ _ u1 f ⟨(m : Int), di, d1, d2⟩ d1 w' hs hF1 hD1 (h1.mono hleW))
  have hLd2 := Lib.hid (fun (w' : World) (hs : Sees w' (extH H w W)) => flow_leads _ _ _ u2 f ⟨(m : Int), di, d1, d2⟩ d2 w' hs hF1 hD1 (h2.mono hleW))
  have hP := proves_1V (extH H w W) w.heap.size ⟨(m : Int), di, d1, d2⟩ ⟨_, _, k3, h1.mono hleW, h2.mono hleW⟩
  have hCF := Lib.hid (fun (w' : World) (hs : Sees w' (extH H w W)) => slices_ContainsFunc_int (extH H w W) _ _ d1 (fun _ => True) _ w' hs (h1.mono hleW) hP (fun _ _ => trivial))
  have g1 := h1.mono hleW
  have g2 := h2.mono hleW
  have hmf : ∀ (fn : Fn) (first cap : Array Value) (w : World), (Instr.makeFunc fn first cap).run Tryz.prog w = .ok (.func fn first cap) w := fun _ _ _ _ => rfl
  clear hc2 hc3 q5 q0 q1 q2 q3 x3 hb2 hb3 pE lE l5 lq hb5 hF1 hD1 hP h1 h2 hf0 hd0 hleW
  generalize extH H w W = K at *
  have hent := Lib.hid (show B = true → f.entry.getD m false = true → di = -1 from fun h he => (hS.out.1 h).ent (by simpa using he))
  have hown := Lib.hid (show B = true → di ≠ -1 → (0 ≤ di ∧ di < f.blocks.length) ∧ rchB f di = true ∧ di ≠ m from fun h he => (hS.out.1 h).own he)
  have hB1 := Lib.hid (show leadsB f ⟨(m : Int), di, d1, d2⟩ d1 = false → B = false from fun h => Bool.eq_false_iff.2 fun h' => by
    have := dcd_iff.2 (hS.out.1 h').one
    rw [show dcd (LeadsP f ⟨(m : Int), di, d1, d2⟩ d1) = leadsB f ⟨(m : Int), di, d1, d2⟩ d1 from rfl, h] at this
    cases this)
  have hB2 := Lib.hid (show leadsB f ⟨(m : Int), di, d1, d2⟩ d2 = false → B = false from fun h => Bool.eq_false_iff.2 fun h' => by
    have := dcd_iff.2 (hS.out.1 h').two
    rw [show dcd (LeadsP f ⟨(m : Int), di, d1, d2⟩ d2) = leadsB f ⟨(m : Int), di, d1, d2⟩ d2 from rfl, h] at this
    cases this)
  have hB3 := Lib.hid (show (f.entry.getD m false = true → di = -1) → (di ≠ -1 → (0 ≤ di ∧ di < f.blocks.length) ∧ rchB f di = true ∧ di ≠ m) → leadsB f ⟨(m : Int), di, d1, d2⟩ d1 = true → leadsB f ⟨(m : Int), di, d1, d2⟩ d2 = true → B = !d1.any (apartB ⟨(m : Int), di, d1, d2⟩) from fun a1 a2 a3 a4 => by
    have hap : d1.any (apartB ⟨(m : Int), di, d1, d2⟩) = false ↔ ∀ b ∈ d1, b ≠ m → b ≠ di → b ∉ d2 := by
      rw [List.any_eq_false]
      unfold apartB
      constructor
      · intro h b hb h1 h2 h3
        have := h b hb
        simp [h1, h2, h3] at this
      · intro h b hb
        have := h b hb
        simp only [Bool.and_eq_true, bne_iff_ne, List.contains_iff_mem, not_and]
        exact this
    cases h9 : d1.any (apartB ⟨(m : Int), di, d1, d2⟩)
    · exact hS.out.2 ⟨fun h => a1 (by simpa using h), a2, dcd_iff.1 a3, dcd_iff.1 a4, hap.1 h9⟩
    · refine Bool.eq_false_iff.2 fun h => ?_
      rw [hap.2 (hS.out.1 h).apart] at h9
      cases h9)
  clear hS
  generalize leadsB f ⟨(m : Int), di, d1, d2⟩ d1 = L1 at *
  generalize leadsB f ⟨(m : Int), di, d1, d2⟩ d2 = L2 at *
  generalize apartB ⟨(m : Int), di, d1, d2⟩ = ap at *
  obtain ⟨e, he⟩ : ∃ e, f.entry.getD m false = e := ⟨_, rfl⟩
  rw [he] at hpe hent hB3
  clear he
  have hlR2 := Lib.hid hlR
  clear hlR hlE
  by_cases hdi : di = -1
  · have t1 : (di != -1) = false := by simp [hdi]
    have hB4 := Lib.hid (fun (a3 : L1 = true) (a4 : L2 = true) => hB3.out (fun _ => hdi) (fun h => absurd hdi h) a3 a4)
    clear hdi hB3 hent hown hRK lR
    cases e
    · refine wp_region_plan (fun w' => w'.heap = W.heap) [(0, true), (1, true), (2, true), (3, true), (4, true), (5, true), (6, true), (7, true), (8, true), (9, true), (10, true), (11, true), (12, true)] (by kernel_rfl) (by kernel_rfl) (by kernel_rfl) rfl ?_
      repeat first
        | (refine plan_skip rfl (by rfl) ?_; simp only [Act.put, List.setIfInBounds_toArray, List.set_cons_zero, List.set_cons_succ])
        | (refine plan_read (v := ?_) rfl (by rfl) ?_ ?_; rotate_left; (focus (intro w' hSw; obtain ⟨r1, r2, r3, r4, r5⟩ := hq.out _ hSw; obtain ⟨r6, r7, r8, r9⟩ := h5.out _ hSw; obtain ⟨r10, r11⟩ := hpe.out _ hSw; clear hSw; go_simp; all_goals with_reducible rfl)); simp only [Act.put, List.setIfInBounds_toArray, List.set_cons_zero, List.set_cons_succ])
      refine plan_nil (NoPanic.normal ?_)
      go_upto_region 3 with fail
      refine wp_region_plan (fun w' => w'.heap = W.heap) [(0, true), (1, true), (2, true), (3, true), (4, true), (5, true), (6, true), (7, true), (8, true), (9, true), (10, true), (11, true), (12, false), (13, true), (14, true), (15, true), (16, true), (17, true), (18, true), (19, true), (20, true), (21, true), (22, true), (23, true), (24, true), (25, true), (26, true), (27, true), (28, true), (29, true), (30, true), (31, true), (32, true)] (by kernel_rfl) (by kernel_rfl) (by kernel_rfl) rfl ?_
      repeat first
        | (refine plan_skip rfl (by rfl) ?_; simp only [Act.put, List.setIfInBounds_toArray, List.set_cons_zero, List.set_cons_succ])
        | (refine plan_read (v := ?_) rfl (by rfl) ?_ ?_; rotate_left; (focus (intro w' hSw; obtain ⟨r1, r2, r3, r4, r5⟩ := hq.out _ hSw; obtain ⟨r6, r7, r8, r9⟩ := h5.out _ hSw; clear hSw; go_simp; all_goals with_reducible rfl)); simp only [Act.put, List.setIfInBounds_toArray, List.set_cons_zero, List.set_cons_succ])
      refine plan_pass rfl (by kernel_rfl) rfl ?_
      simp only [Act.put, List.setIfInBounds_toArray, List.set_cons_zero, List.set_cons_succ]
      repeat first
        | (refine plan_skip rfl (by rfl) ?_; simp only [Act.put, List.setIfInBounds_toArray, List.set_cons_zero, List.set_cons_succ])
        | (refine plan_read (v := ?_) rfl (by rfl) ?_ ?_; rotate_left; (focus (intro w' hSw; obtain ⟨r1, r2, r3, r4, r5⟩ := hq.out _ hSw; obtain ⟨r6, r7, r8, r9⟩ := h5.out _ hSw; clear hSw; go_simp; all_goals with_reducible rfl)); simp only [Act.put, List.setIfInBounds_toArray, List.set_cons_zero, List.set_cons_succ])
      refine plan_nil (NoPanic.normal ?_)
      go_upto_region 5 with fail
      refine wp_name fun W2 hW2 => ?_
      have hh2 : W2.heap = W.heap := by rw [hW2]; rfl
      have hBW2 : Below w.heap.size w W2 := by rw [hW2]; exact hp_drew (hp_drew hBW)
      clear hW2
      obtain ⟨r1, r2, r3, r4, r5⟩ := hq.out _ hh2
      have hs2 : Sees W2 K := fun i o e => by rw [hh2]; exact hsW i o e
      cases L1
      · have hb := Lib.hid (hB1.out (by trivial))
        clear hB1 hB2 hB4
        go_wp2_with (go_at_call 104; refine (hLd1.out _ hs2).mono ?_; rintro e w3 ⟨rfl, hB3⟩)
        go_ret
        exact ⟨ret_bool hb.out.symm, bstep hBW2 hB3⟩
      · clear hB1
        cases L2
        · have hb := Lib.hid (hB2.out (by trivial))
          clear hB2 hB4
          go_wp2_with (first
            | (go_at_call 104; have h9 := hs3; clear h9; refine (hLd2.out _ hs3).mono ?_; rintro e w4 ⟨rfl, hB4⟩; obtain ⟨r1, r2, r3, r4, r5⟩ := hqK.out _ (hs3.below hB4))
            | (go_at_call 104; refine (hLd1.out _ hs2).mono ?_; rintro e w3 ⟨rfl, hB3⟩; have hs3 := hs2.below hB3; obtain ⟨r1, r2, r3, r4, r5⟩ := hqK.out _ hs3))
          go_ret
          exact ⟨ret_bool hb.out.symm, bstep hBW2 (bstep hB3 hB4)⟩
        · have hb := Lib.hid (hB4.out (by trivial) (by trivial))
          clear hB2 hB4
          go_wp2_with (first
            | (go_at_call 104; have h9 := hs3; clear h9; refine (hLd2.out _ hs3).mono ?_; rintro e w4 ⟨rfl, hB4⟩; obtain ⟨r1, r2, r3, r4, r5⟩ := hqK.out _ (hs3.below hB4))
            | (go_at_call 104; refine (hLd1.out _ hs2).mono ?_; rintro e w3 ⟨rfl, hB3⟩; have hs3 := hs2.below hB3; obtain ⟨r1, r2, r3, r4, r5⟩ := hqK.out _ hs3)
            | (go_at_call 100; refine (hCF.out _ (hs3.below hB4)).mono ?_; rintro e w5 ⟨rfl, hB5⟩))
          go_ret
          exact ⟨ret_bool hb.out.symm, bstep hBW2 (bstep hB3 (bstep hB4 hB5))⟩
    · refine wp_region_plan (fun w' => w'.heap = W.heap) [(0, true), (1, true), (2, true), (3, true), (4, true), (5, true), (6, true), (7, true), (8, true), (9, true), (10, true), (11, true), (12, true)] (by kernel_rfl) (by kernel_rfl) (by kernel_rfl) rfl ?_
      repeat first
        | (refine plan_skip rfl (by rfl) ?_; simp only [Act.put, List.setIfInBounds_toArray, List.set_cons_zero, List.set_cons_succ])
        | (refine plan_read (v := ?_) rfl (by rfl) ?_ ?_; rotate_left; (focus (intro w' hSw; obtain ⟨r1, r2, r3, r4, r5⟩ := hq.out _ hSw; obtain ⟨r6, r7, r8, r9⟩ := h5.out _ hSw; obtain ⟨r10, r11⟩ := hpe.out _ hSw; clear hSw; go_simp; all_goals with_reducible rfl)); simp only [Act.put, List.setIfInBounds_toArray, List.set_cons_zero, List.set_cons_succ])
      refine plan_nil (NoPanic.normal ?_)
      go_upto_region 3 with fail
      refine wp_region_plan (fun w' => w'.heap = W.heap) [(0, true), (1, true), (2, true), (3, true), (4, true), (5, true), (6, true), (7, true), (8, true), (9, true), (10, true), (11, true), (12, false), (13, true), (14, true), (15, true), (16, true), (17, true), (18, true), (19, true), (20, true), (21, true), (22, true), (23, true), (24, true), (25, true), (26, true), (27, true), (28, true), (29, true), (30, true), (31, true), (32, true)] (by kernel_rfl) (by kernel_rfl) (by kernel_rfl) rfl ?_
      repeat first
        | (refine plan_skip rfl (by rfl) ?_; simp only [Act.put, List.setIfInBounds_toArray, List.set_cons_zero, List.set_cons_succ])
        | (refine plan_read (v := ?_) rfl (by rfl) ?_ ?_; rotate_left; (focus (intro w' hSw; obtain ⟨r1, r2, r3, r4, r5⟩ := hq.out _ hSw; obtain ⟨r6, r7, r8, r9⟩ := h5.out _ hSw; clear hSw; go_simp; all_goals with_reducible rfl)); simp only [Act.put, List.setIfInBounds_toArray, List.set_cons_zero, List.set_cons_succ])
      refine plan_pass rfl (by kernel_rfl) rfl ?_
      simp only [Act.put, List.setIfInBounds_toArray, List.set_cons_zero, List.set_cons_succ]
      repeat first
        | (refine plan_skip rfl (by rfl) ?_; simp only [Act.put, List.setIfInBounds_toArray, List.set_cons_zero, List.set_cons_succ])
        | (refine plan_read (v := ?_) rfl (by rfl) ?_ ?_; rotate_left; (focus (intro w' hSw; obtain ⟨r1, r2, r3, r4, r5⟩ := hq.out _ hSw; obtain ⟨r6, r7, r8, r9⟩ := h5.out _ hSw; clear hSw; go_simp; all_goals with_reducible rfl)); simp only [Act.put, List.setIfInBounds_toArray, List.set_cons_zero, List.set_cons_succ])
      refine plan_nil (NoPanic.normal ?_)
      go_upto_region 5 with fail
      refine wp_name fun W2 hW2 => ?_
      have hh2 : W2.heap = W.heap := by rw [hW2]; rfl
      have hBW2 : Below w.heap.size w W2 := by rw [hW2]; exact hp_drew (hp_drew hBW)
      clear hW2
      obtain ⟨r1, r2, r3, r4, r5⟩ := hq.out _ hh2
      have hs2 : Sees W2 K := fun i o e => by rw [hh2]; exact hsW i o e
      cases L1
      · have hb := Lib.hid (hB1.out (by trivial))
        clear hB1 hB2 hB4
        go_wp2_with (go_at_call 104; refine (hLd1.out _ hs2).mono ?_; rintro e w3 ⟨rfl, hB3⟩)
        go_ret
        exact ⟨ret_bool hb.out.symm, bstep hBW2 hB3⟩
      · clear hB1
        cases L2
        · have hb := Lib.hid (hB2.out (by trivial))
          clear hB2 hB4
          go_wp2_with (first
            | (go_at_call 104; have h9 := hs3; clear h9; refine (hLd2.out _ hs3).mono ?_; rintro e w4 ⟨rfl, hB4⟩; obtain ⟨r1, r2, r3, r4, r5⟩ := hqK.out _ (hs3.below hB4))
            | (go_at_call 104; refine (hLd1.out _ hs2).mono ?_; rintro e w3 ⟨rfl, hB3⟩; have hs3 := hs2.below hB3; obtain ⟨r1, r2, r3, r4, r5⟩ := hqK.out _ hs3))
          go_ret
          exact ⟨ret_bool hb.out.symm, bstep hBW2 (bstep hB3 hB4)⟩
        · have hb := Lib.hid (hB4.out (by trivial) (by trivial))
          clear hB2 hB4
          go_wp2_with (first
            | (go_at_call 104; have h9 := hs3; clear h9; refine (hLd2.out _ hs3).mono ?_; rintro e w4 ⟨rfl, hB4⟩; obtain ⟨r1, r2, r3, r4, r5⟩ := hqK.out _ (hs3.below hB4))
            | (go_at_call 104; refine (hLd1.out _ hs2).mono ?_; rintro e w3 ⟨rfl, hB3⟩; have hs3 := hs2.below hB3; obtain ⟨r1, r2, r3, r4, r5⟩ := hqK.out _ hs3)
            | (go_at_call 100; refine (hCF.out _ (hs3.below hB4)).mono ?_; rintro e w5 ⟨rfl, hB5⟩))
          go_ret
          exact ⟨ret_bool hb.out.symm, bstep hBW2 (bstep hB3 (bstep hB4 hB5))⟩
  · have t1 : (di != -1) = true := by simp [hdi]
    cases e
    · have hown2 := hown.out
      have hB3b := Lib.hid (fun (a2 : (0 ≤ di ∧ di < f.blocks.length) ∧ rchB f di = true ∧ di ≠ m) (a3 : L1 = true) (a4 : L2 = true) => hB3.out (fun h => by cases h) (fun _ => a2) a3 a4)
      have hown3 := Lib.hid (fun (h : B = true) => hown2 h hdi)
      clear hown hown2 hB3 hent hdi
      refine wp_region_plan (fun w' => w'.heap = W.heap) [(0, true), (1, true), (2, true), (3, true), (4, true), (5, true), (6, true), (7, true), (8, true), (9, true), (10, true), (11, true), (12, true)] (by kernel_rfl) (by kernel_rfl) (by kernel_rfl) rfl ?_
      repeat first
        | (refine plan_skip rfl (by rfl) ?_; simp only [Act.put, List.setIfInBounds_toArray, List.set_cons_zero, List.set_cons_succ])
        | (refine plan_read (v := ?_) rfl (by rfl) ?_ ?_; rotate_left; (focus (intro w' hSw; obtain ⟨r1, r2, r3, r4, r5⟩ := hq.out _ hSw; obtain ⟨r6, r7, r8, r9⟩ := h5.out _ hSw; obtain ⟨r10, r11⟩ := hpe.out _ hSw; clear hSw; go_simp; all_goals with_reducible rfl)); simp only [Act.put, List.setIfInBounds_toArray, List.set_cons_zero, List.set_cons_succ])
      refine plan_nil (NoPanic.normal ?_)
      have hwr : IntKind.i64.wrap ((f.blocks.length : Int) - 1) = (f.blocks.length : Int) - 1 := IntWalk.i64_in _ (by omega)
      cases hwi : withinB di 0 ((f.blocks.length : Int) - 1)
      · have hb := Lib.hid (show B = false from Bool.eq_false_iff.2 fun h => by
          have := (hown3.out h).1
          simp [withinB] at hwi
          omega)
        clear hB3b hown3 hRK lR hB1 hB2
        go_upto_region 3 with fail
        refine wp_region_plan (fun w' => w'.heap = W.heap) [(0, true), (1, true), (2, true), (3, true), (4, true), (5, true), (6, true), (7, true), (8, true), (9, true), (10, true), (11, true), (12, false), (13, true), (14, true), (15, true), (16, true), (17, true), (18, true), (19, true), (20, true), (21, true), (22, true), (23, true), (24, true), (25, true), (26, true), (27, true), (28, true), (29, true), (30, true), (31, true), (32, true)] (by kernel_rfl) (by kernel_rfl) (by kernel_rfl) rfl ?_
        repeat first
          | (refine plan_skip rfl (by rfl) ?_; simp only [Act.put, List.setIfInBounds_toArray, List.set_cons_zero, List.set_cons_succ])
          | (refine plan_read (v := ?_) rfl (by rfl) ?_ ?_; rotate_left; (focus (intro w' hSw; obtain ⟨r1, r2, r3, r4, r5⟩ := hq.out _ hSw; obtain ⟨r6, r7, r8, r9⟩ := h5.out _ hSw; clear hSw; go_simp; all_goals with_reducible rfl)); simp only [Act.put, List.setIfInBounds_toArray, List.set_cons_zero, List.set_cons_succ])
        refine plan_step rfl (by kernel_rfl) (fun K' hK' => ?_)
        go_simp
        refine (graph_within _ _ _ _).mono ?_
        rintro e w6 ⟨rfl, rfl⟩
        rw [hwi]
        refine hK'.out _ _ rfl ?_
        clear hK' K'
        repeat first
          | (refine plan_skip rfl (by rfl) ?_; simp only [Act.put, List.setIfInBounds_toArray, List.set_cons_zero, List.set_cons_succ])
          | (refine plan_read (v := ?_) rfl (by rfl) ?_ ?_; rotate_left; (focus (intro w' hSw; obtain ⟨r1, r2, r3, r4, r5⟩ := hq.out _ hSw; obtain ⟨r6, r7, r8, r9⟩ := h5.out _ hSw; skip; clear hSw; go_simp; all_goals with_reducible rfl)); simp only [Act.put, List.setIfInBounds_toArray, List.set_cons_zero, List.set_cons_succ])
        refine plan_nil (NoPanic.normal ?_)
        go_wp2
        go_ret
        exact ⟨ret_bool hb.out.symm, hp_drew (hp_drew hBW)⟩
      · have hdr : 0 ≤ di ∧ di < f.blocks.length := by
          simp [withinB] at hwi
          omega
        obtain ⟨a, rfl⟩ : ∃ a : Nat, di = (a : Int) := ⟨di.toNat, by omega⟩
        have hal : a < f.blocks.length := by omega
        have ha0 : (0 : Int) ≤ a := by omega
        have ha1 : (a : Int) < f.blocks.length := by omega
        have hra := hRK.out a hal
        have hrb : rchB f (a : Int) = f.reached.getD a false := rfl
        have hpr := Lib.hid (fun (w' : World) (h : w'.heap = W.heap) => And.intro ((hp_cell h _).trans hra) (hp_lt h lR))
        rw [hrb] at hown3 hB3b
        obtain ⟨ra, hre⟩ : ∃ ra, f.reached.getD a false = ra := ⟨_, rfl⟩
        rw [hre] at hpr hown3 hB3b
        clear hra hrb hre hRK hdr
        cases ra
        · have hb := Lib.hid (show B = false from Bool.eq_false_iff.2 fun h => by have := (hown3.out h).2.1; cases this)
          clear hB3b hown3 lR hB1 hB2
          go_upto_region 3 with fail
          refine wp_region_plan (fun w' => w'.heap = W.heap) [(0, true), (1, true), (2, true), (3, true), (4, true), (5, true), (6, true), (7, true), (8, true), (9, true), (10, true), (11, true), (12, false), (13, true), (14, true), (15, true), (16, true), (17, true), (18, true), (19, true), (20, true), (21, true), (22, true), (23, true), (24, true), (25, true), (26, true), (27, true), (28, true), (29, true), (30, true), (31, true), (32, true)] (by kernel_rfl) (by kernel_rfl) (by kernel_rfl) rfl ?_
          repeat first
            | (refine plan_skip rfl (by rfl) ?_; simp only [Act.put, List.setIfInBounds_toArray, List.set_cons_zero, List.set_cons_succ])
            | (refine plan_read (v := ?_) rfl (by rfl) ?_ ?_; rotate_left; (focus (intro w' hSw; obtain ⟨r1, r2, r3, r4, r5⟩ := hq.out _ hSw; obtain ⟨r6, r7, r8, r9⟩ := h5.out _ hSw; clear hSw; go_simp; all_goals with_reducible rfl)); simp only [Act.put, List.setIfInBounds_toArray, List.set_cons_zero, List.set_cons_succ])
          refine plan_step rfl (by kernel_rfl) (fun K' hK' => ?_)
          go_simp
          refine (graph_within _ _ _ _).mono ?_
          rintro e w6 ⟨rfl, rfl⟩
          rw [hwi]
          refine hK'.out _ _ rfl ?_
          clear hK' K'
          repeat first
            | (refine plan_skip rfl (by rfl) ?_; simp only [Act.put, List.setIfInBounds_toArray, List.set_cons_zero, List.set_cons_succ])
            | (refine plan_read (v := ?_) rfl (by rfl) ?_ ?_; rotate_left; (focus (intro w' hSw; obtain ⟨r1, r2, r3, r4, r5⟩ := hq.out _ hSw; obtain ⟨r6, r7, r8, r9⟩ := h5.out _ hSw; obtain ⟨r10, r11⟩ := hpr.out _ hSw; clear hSw; go_simp; all_goals with_reducible rfl)); simp only [Act.put, List.setIfInBounds_toArray, List.set_cons_zero, List.set_cons_succ])
          refine plan_nil (NoPanic.normal ?_)
          go_wp2
          go_ret
          exact ⟨ret_bool hb.out.symm, hp_drew (hp_drew hBW)⟩
        · by_cases ham : (a : Int) = m
          · have t2 : ((a : Int) == m) = true := by simp [ham]
            have hb := Lib.hid (show B = false from Bool.eq_false_iff.2 fun h => (hown3.out h).2.2 ham)
            clear hB3b hown3 lR hB1 hB2 ham
            go_upto_region 3 with fail
            refine wp_region_plan (fun w' => w'.heap = W.heap) [(0, true), (1, true), (2, true), (3, true), (4, true), (5, true), (6, true), (7, true), (8, true), (9, true), (10, true), (11, true), (12, false), (13, true), (14, true), (15, true), (16, true), (17, true), (18, true), (19, true), (20, true), (21, true), (22, true), (23, true), (24, true), (25, true), (26, true), (27, true), (28, true), (29, true), (30, true), (31, true), (32, true)] (by kernel_rfl) (by kernel_rfl) (by kernel_rfl) rfl ?_
            repeat first
              | (refine plan_skip rfl (by rfl) ?_; simp only [Act.put, List.setIfInBounds_toArray, List.set_cons_zero, List.set_cons_succ])
              | (refine plan_read (v := ?_) rfl (by rfl) ?_ ?_; rotate_left; (focus (intro w' hSw; obtain ⟨r1, r2, r3, r4, r5⟩ := hq.out _ hSw; obtain ⟨r6, r7, r8, r9⟩ := h5.out _ hSw; clear hSw; go_simp; all_goals with_reducible rfl)); simp only [Act.put, List.setIfInBounds_toArray, List.set_cons_zero, List.set_cons_succ])
            refine plan_step rfl (by kernel_rfl) (fun K' hK' => ?_)
            go_simp
            refine (graph_within _ _ _ _).mono ?_
            rintro e w6 ⟨rfl, rfl⟩
            rw [hwi]
            refine hK'.out _ _ rfl ?_
            clear hK' K'
            repeat first
              | (refine plan_skip rfl (by rfl) ?_; simp only [Act.put, List.setIfInBounds_toArray, List.set_cons_zero, List.set_cons_succ])
              | (refine plan_read (v := ?_) rfl (by rfl) ?_ ?_; rotate_left; (focus (intro w' hSw; obtain ⟨r1, r2, r3, r4, r5⟩ := hq.out _ hSw; obtain ⟨r6, r7, r8, r9⟩ := h5.out _ hSw; obtain ⟨r10, r11⟩ := hpr.out _ hSw; clear hSw; go_simp; all_goals with_reducible rfl)); simp only [Act.put, List.setIfInBounds_toArray, List.set_cons_zero, List.set_cons_succ])
            refine plan_nil (NoPanic.normal ?_)
            go_wp2
            go_ret
            exact ⟨ret_bool hb.out.symm, hp_drew (hp_drew hBW)⟩
          · have t2 : ((a : Int) == m) = false := by simpa using ham
            have hB4 := Lib.hid (fun (a3 : L1 = true) (a4 : L2 = true) => hB3b.out ⟨⟨ha0, ha1⟩, rfl, ham⟩ a3 a4)
            clear hB3b hown3 lR ham
            go_upto_region 3 with fail
            refine wp_region_plan (fun w' => w'.heap = W.heap) [(0, true), (1, true), (2, true), (3, true), (4, true), (5, true), (6, true), (7, true), (8, true), (9, true), (10, true), (11, true), (12, false), (13, true), (14, true), (15, true), (16, true), (17, true), (18, true), (19, true), (20, true), (21, true), (22, true), (23, true), (24, true), (25, true), (26, true), (27, true), (28, true), (29, true), (30, true), (31, true), (32, true)] (by kernel_rfl) (by kernel_rfl) (by kernel_rfl) rfl ?_
            repeat first
              | (refine plan_skip rfl (by rfl) ?_; simp only [Act.put, List.setIfInBounds_toArray, List.set_cons_zero, List.set_cons_succ])
              | (refine plan_read (v := ?_) rfl (by rfl) ?_ ?_; rotate_left; (focus (intro w' hSw; obtain ⟨r1, r2, r3, r4, r5⟩ := hq.out _ hSw; obtain ⟨r6, r7, r8, r9⟩ := h5.out _ hSw; clear hSw; go_simp; all_goals with_reducible rfl)); simp only [Act.put, List.setIfInBounds_toArray, List.set_cons_zero, List.set_cons_succ])
            refine plan_step rfl (by kernel_rfl) (fun K' hK' => ?_)
            go_simp
            refine (graph_within _ _ _ _).mono ?_
            rintro e w6 ⟨rfl, rfl⟩
            rw [hwi]
            refine hK'.out _ _ rfl ?_
            clear hK' K'
            repeat first
              | (refine plan_skip rfl (by rfl) ?_; simp only [Act.put, List.setIfInBounds_toArray, List.set_cons_zero, List.set_cons_succ])
              | (refine plan_read (v := ?_) rfl (by rfl) ?_ ?_; rotate_left; (focus (intro w' hSw; obtain ⟨r1, r2, r3, r4, r5⟩ := hq.out _ hSw; obtain ⟨r6, r7, r8, r9⟩ := h5.out _ hSw; obtain ⟨r10, r11⟩ := hpr.out _ hSw; clear hSw; go_simp; all_goals with_reducible rfl)); simp only [Act.put, List.setIfInBounds_toArray, List.set_cons_zero, List.set_cons_succ])
            refine plan_nil (NoPanic.normal ?_)
            go_upto_region 5 with fail
            refine wp_name fun W2 hW2 => ?_
            have hh2 : W2.heap = W.heap := by rw [hW2]; rfl
            have hBW2 : Below w.heap.size w W2 := by rw [hW2]; exact hp_drew (hp_drew hBW)
            clear hW2
            obtain ⟨r1, r2, r3, r4, r5⟩ := hq.out _ hh2
            have hs2 : Sees W2 K := fun i o e => by rw [hh2]; exact hsW i o e
            cases L1
            · have hb := Lib.hid (hB1.out (by trivial))
              clear hB1 hB2 hB4
              go_wp2_with (go_at_call 104; refine (hLd1.out _ hs2).mono ?_; rintro e w3 ⟨rfl, hB3⟩)
              go_ret
              exact ⟨ret_bool hb.out.symm, bstep hBW2 hB3⟩
            · clear hB1
              cases L2
              · have hb := Lib.hid (hB2.out (by trivial))
                clear hB2 hB4
                go_wp2_with (first
                  | (go_at_call 104; have h9 := hs3; clear h9; refine (hLd2.out _ hs3).mono ?_; rintro e w4 ⟨rfl, hB4⟩; obtain ⟨r1, r2, r3, r4, r5⟩ := hqK.out _ (hs3.below hB4))
                  | (go_at_call 104; refine (hLd1.out _ hs2).mono ?_; rintro e w3 ⟨rfl, hB3⟩; have hs3 := hs2.below hB3; obtain ⟨r1, r2, r3, r4, r5⟩ := hqK.out _ hs3))
                go_ret
                exact ⟨ret_bool hb.out.symm, bstep hBW2 (bstep hB3 hB4)⟩
              · have hb := Lib.hid (hB4.out (by trivial) (by trivial))
                clear hB2 hB4
                go_wp2_with (first
                  | (go_at_call 104; have h9 := hs3; clear h9; refine (hLd2.out _ hs3).mono ?_; rintro e w4 ⟨rfl, hB4⟩; obtain ⟨r1, r2, r3, r4, r5⟩ := hqK.out _ (hs3.below hB4))
                  | (go_at_call 104; refine (hLd1.out _ hs2).mono ?_; rintro e w3 ⟨rfl, hB3⟩; have hs3 := hs2.below hB3; obtain ⟨r1, r2, r3, r4, r5⟩ := hqK.out _ hs3)
                  | (go_at_call 100; refine (hCF.out _ (hs3.below hB4)).mono ?_; rintro e w5 ⟨rfl, hB5⟩))
                go_ret
                exact ⟨ret_bool hb.out.symm, bstep hBW2 (bstep hB3 (bstep hB4 hB5))⟩
    · have hb := Lib.hid (show B = false from Bool.eq_false_iff.2 fun h => hdi (hent.out h rfl))
      clear hdi hB3 hent hown hRK lR hB1 hB2
      refine wp_region_plan (fun w' => w'.heap = W.heap) [(0, true), (1, true), (2, true), (3, true), (4, true), (5, true), (6, true), (7, true), (8, true), (9, true), (10, true), (11, true), (12, true)] (by kernel_rfl) (by kernel_rfl) (by kernel_rfl) rfl ?_
      repeat first
        | (refine plan_skip rfl (by rfl) ?_; simp only [Act.put, List.setIfInBounds_toArray, List.set_cons_zero, List.set_cons_succ])
        | (refine plan_read (v := ?_) rfl (by rfl) ?_ ?_; rotate_left; (focus (intro w' hSw; obtain ⟨r1, r2, r3, r4, r5⟩ := hq.out _ hSw; obtain ⟨r6, r7, r8, r9⟩ := h5.out _ hSw; obtain ⟨r10, r11⟩ := hpe.out _ hSw; clear hSw; go_simp; all_goals with_reducible rfl)); simp only [Act.put, List.setIfInBounds_toArray, List.set_cons_zero, List.set_cons_succ])
      refine plan_nil (NoPanic.normal ?_)
      go_wp2
      go_ret
      exact ⟨ret_bool hb.out.symm, hp_drew hBW⟩
end Go.Proofs.YtififjlgjmgikaaGreat
namespace Go.Proofs.YtififjlgjmgikaaGreat
set_option linter.all false
open Go.RowKit Go.Shelf
attribute [local go_sem] Oper.semAt_some

noncomputable def chkE (c : CodeD) (l : List DominD) : Int := if checkedE c = 0 then (if dcd (PrfP (theFlow c) l) = true then 0 else 8) else checkedE c
theorem res_cell {tmps : Array Value} {w : World} {b : Nat} {x : Int} (ht : tmps[4]? = some (.pointer (some ⟨b, 0, none⟩))) (hb : w.heap[b]? = some (.cells #[.int .i64 x] 33 (0, 0))) : (results Tryz.f32 tmps).run Tryz.prog w = .ok (.int .i64 x) w := by
  have q := cell_blk hb 0
  simp only [List.getElem?_toArray, List.getElem?_cons_zero] at q
  have h1 : Tryz.f32.results = #[.cell 4 33] := rfl
  simp [results, h1, ht, go_sem, q]
theorem cell_free {w : World} {b : Nat} {arr : Array Value} {T : TypeId} (h : w.heap[b]? = some (.cells arr T (0, 0))) (j : Nat) : w.frozen? ⟨b, j, none⟩ = false := by simp [World.frozen?, h]
theorem chk_end {w W : World} {b : Nat} {x y : Int} (hB : Below w.heap.size w W) (hb : W.heap[b]? = some (.cells #[.int .i64 y] 33 (0, 0))) (hle : w.heap.size ≤ b) :
    (W.setCell ⟨b, 0, none⟩ (.int .i64 x)).heap[b]? = some (.cells #[.int .i64 x] 33 (0, 0)) ∧ Below w.heap.size w (W.setCell ⟨b, 0, none⟩ (.int .i64 x)) := by
  have hlt := (Array.getElem?_eq_some_iff.1 hb).1
  constructor
  · simp [World.setCell, Array.getElem?_modify, hb]
  · refine ⟨hB.os, hB.tape, hB.output, by simp [World.setCell]; exact hB.size, fun k hk => ?_⟩
    rw [← hB.block k hk]
    simp only [World.setCell, Array.getElem?_modify]
    rw [if_neg (by omega)]
set_option maxHeartbeats 2000000 in
set_option maxRecDepth 100000 in
theorem graph_Check_no (H : PH) (v vl : Value) (c : CodeD) (l : List DominD) (w : World) (hw : Sees w H) (hc : CodeV H v c) (hE : checkedE c ≠ 0) :
    Calls Tryz.prog 32 #[v, vl] w fun e w' => e = .returned (.int .i64 (checkedE c)) ∧ Below w.heap.size w w' := by
  have hc0 := hc
  obtain ⟨s0, s1, s2, s3, s4, s5, s6, rfl, hc⟩ := hc
  obtain ⟨W0, hW0⟩ : ∃ W0, W0 = (w.alloc (.cells #[s0, s1, s2, s3, s4, s5, s6] 30)).alloc (.cells #[.int .i64 0] 33) := ⟨_, rfl⟩
  have hB0 : Below w.heap.size w W0 := by rw [hW0]; exact ((Below.refl _ _).alloc (Nat.le_refl _) _).alloc (by simp [World.size_alloc]) _
  have hx0 : W0.heap[w.heap.size]? = some (.cells #[s0, s1, s2, s3, s4, s5, s6] 30 (0, 0)) := by rw [hW0]; exact ga_old (ga_new _ _)
  have hx1 : W0.heap[w.heap.size + 1]? = some (.cells #[.int .i64 0] 33 (0, 0)) := by rw [hW0]; exact ga_fit (by simp [World.size_alloc])
  have hC := graph_checked_no H _ c _ (hw.below hB0) hc0 hE
  have hne : (checkedE c != 0) = true := by simpa using hE
  generalize checkedE c = E at *
  clear hE hc0 hc
  refine (callsIn_wide (n := 8)).1 ?_
  refine callsIn_of_wp_marks Tryz.func32 rfl trivial ?_ rfl
  refine wpIn_wide.2 ?_
  simp only [Tryz.ntmps32, List.size_toArray, List.length_cons, List.length_nil, Nat.reduceAdd, Nat.reduceSub, Array.replicate_succ, Array.replicate_zero, List.push_toArray, List.append_toArray, List.nil_append, List.cons_append]
  go_upto_region 1 with fail
  refine wp_name fun w0 hw0 => ?_
  rw [← hW0] at hw0
  subst hw0
  have q := box7 hx0
  have lq := (Array.getElem?_eq_some_iff.1 hx0).1
  clear hW0
  go_wp2_with (go_at_call 43; refine hC.mono ?_; rintro e w1 ⟨rfl, hB1⟩; have hy1 := blk_keep hB1 hx1; have ly := (Array.getElem?_eq_some_iff.1 hy1).1; have qe := cell_blk hy1 0; simp only [List.getElem?_toArray, List.getElem?_cons_zero] at qe; have qf := cell_free hy1 0; have hend := chk_end (x := E) (bstep hB0 hB1) hy1 (by omega))
  exact ⟨_, res_cell rfl hend.1, rfl, hend.2⟩
def wantK (f : FlowD) (k : Nat) : List Int := ((List.range k).filter fun b => f.reached.getD b false).map fun (b : Nat) => (b : Int)
theorem wantK_succ (f : FlowD) (k : Nat) : wantK f (k + 1) = wantK f k ++ if f.reached.getD k false = true then [(k : Int)] else [] := by
  unfold wantK
  rw [List.range_succ, List.filter_append, List.map_append]
  congr 1
  by_cases h : f.reached.getD k false = true
  · rw [if_pos h, List.filter_cons, if_pos h]; rfl
  · rw [if_neg h, List.filter_cons, if_neg h]; rfl
theorem wantK_len (f : FlowD) (k : Nat) : (wantK f k).length ≤ k := by
  unfold wantK
  rw [List.length_map]
  refine Nat.le_trans (List.length_filter_le _ _) (by simp)
theorem find_snoc {l : List DominD} {d : DominD} (hn : ((l ++ [d]).map (·.block)).Nodup) (y : Int) : ((l ++ [d]).find? fun e => decide (e.block = y)) = if y = d.block then some d else l.find? fun e => decide (e.block = y) := by
  rw [List.find?_append]
  by_cases h : y = d.block
  · rw [if_pos h]
    have : (l.find? fun e => decide (e.block = y)) = none := by
      rw [List.find?_eq_none]
      intro e he
      rw [List.map_append, List.nodup_append] at hn
      have := hn.2.2 e.block (List.mem_map_of_mem he) d.block (by simp)
      simp only [decide_eq_true_eq]
      intro k
      exact this (k.trans h)
    rw [this]
    simp [h]
  · rw [if_neg h]
    have : ([d].find? fun e => decide (e.block = y)) = none := by
      rw [List.find?_eq_none]
      intro e he
      simp at he
      subst he
      simp only [decide_eq_true_eq]
      exact fun k => h k.symm
    rw [this]
    simp
theorem mput_more {ml : IntMap} {k : Int} {v : Value} (h : mget ml k = none) : (mput ml k v).length = ml.length + 1 := by
  unfold mget at h
  unfold mput
  cases e : findL ml k 0 with
  | none => simp
  | some p => rw [e] at h; cases h
theorem MapL.len_ {w : World} {b : Nat} {l : IntMap} (h : MapL encI w b l) {T K E : TypeId} (hT : Tryz.prog.underlying T = some (.map K E)) (ty : TypeId) : (Builtin.len_ #[T] ty #[.map (some b)]).run Tryz.prog w = .ok (.int .i64 l.length) w := by
  obtain ⟨es, clock, h1, h2, -⟩ := h
  have e : es.size = l.length := by have := congrArg List.length h2; simpa using this
  have hg : (getObj b).run Tryz.prog w = .ok (.map es clock) w := by simp [getObj, Sem.run, h1]
  simp [Builtin.len_, run_underlying hT, hg, goInt, e]
/-- A way that comes to an end is short. -/
theorem ends_len {l : List DominD} {x : Int} (hcl : ∀ y ∈ l.map (·.block), stepI l y = -1 ∨ stepI l y ∈ l.map (·.block)) (hx : x ∈ l.map (·.block)) (hend : metP l x (-1)) {j : Nat} (hj : itI l j x ≠ -1) : j < l.length := by
  have hne : ∀ i, i ≤ j → itI l i x ≠ -1 := fun i hi e => hj (by rw [show j = i + (j - i) by omega, itI_add, e, itI_no])
  have hin : ∀ i, i ≤ j → itI l i x ∈ l.map (·.block) := by
    intro i
    induction i with
    | zero => intro _; exact hx
    | succ i ih =>
      intro hi
      rcases hcl _ (ih (by omega)) with h | h
      · exact absurd (by rw [itI_snoc]; exact h) (hne (i + 1) hi)
      · rw [itI_snoc]; exact h
  have hinj : ∀ a b, a < b → b ≤ j → itI l a x ≠ itI l b x := by
    intro a b hab hb e
    have hper : ∀ t, itI l (a + t * (b - a)) x = itI l a x := by
      intro t
      induction t with
      | zero => simp
      | succ t ih =>
        rw [show a + (t + 1) * (b - a) = (a + t * (b - a)) + (b - a) by rw [Nat.succ_mul]; omega, itI_add, ih, ← itI_add, show a + (b - a) = b by omega, ← e]
    obtain ⟨N, hN⟩ := hend
    have h1 : itI l (a + N * (b - a)) x = -1 := by
      have hle : N ≤ a + N * (b - a) := by
        have : N * 1 ≤ N * (b - a) := Nat.mul_le_mul_left _ (by omega)
        omega
      rw [show a + N * (b - a) = N + (a + N * (b - a) - N) by omega, itI_add, hN, itI_no]
    rw [hper] at h1
    exact hne a (by omega) h1
  have hn : ((List.range (j + 1)).map fun i => itI l i x).Nodup := by
    unfold List.Nodup
    rw [List.pairwise_map]
    refine (List.pairwise_lt_range (n := j + 1)).imp_of_mem fun {a b} _ hb h => ?_
    have := List.mem_range.1 hb
    exact hinj a b h (by omega)
  have h2 := nodup_len hn (ys := l.map (·.block)) fun y hy => by
    obtain ⟨i, hi, rfl⟩ := List.mem_map.1 hy
    exact hin i (by have := List.mem_range.1 hi; omega)
  simp at h2
  omega
/-- What is known behind some proofs. -/
def PrfI (f : FlowD) (l : List DominD) (k : Nat) (ml : IntMap) : Prop := ml.length = k ∧ (∀ y, mget ml y = ((l.take k).find? fun d => decide (d.block = y)).map fun d => .int .i64 d.idom) ∧ (l.take k).map (·.block) = (wantL f).take k ∧ ∀ d ∈ l.take k, ProvesP f d
theorem PrfI.more {f : FlowD} {l : List DominD} {k : Nat} {ml : IntMap} (h : PrfI f l k ml) {d : DominD} (hd : l[k]? = some d) (hb : (wantL f)[k]? = some d.block) (hp : ProvesP f d) : PrfI f l (k + 1) (mput ml d.block (.int .i64 d.idom)) := by
  obtain ⟨h0, h1, h2, h3⟩ := h
  have e1 : l.take (k + 1) = l.take k ++ [d] := by rw [List.take_add_one, hd]; rfl
  have e2 : (wantL f).take (k + 1) = (wantL f).take k ++ [d.block] := by rw [List.take_add_one, hb]; rfl
  have e3 : (l.take k ++ [d]).map (·.block) = (wantL f).take (k + 1) := by rw [List.map_append, h2, e2]; rfl
  have hnd : ((l.take k ++ [d]).map (·.block)).Nodup := by rw [e3]; exact (wantL_nodup f).sublist (List.take_sublist _ _)
  refine ⟨by
    rw [mput_more, h0]
    rw [h1]
    have : ((l.take k).find? fun e => decide (e.block = d.block)) = none := by
      rw [List.find?_eq_none]
      intro e he
      rw [List.map_append, List.nodup_append] at hnd
      have := hnd.2.2 e.block (List.mem_map_of_mem he) d.block (by simp)
      simpa using this
    rw [this]
    rfl, fun y => ?_, by rw [e1]; exact e3, fun x hx => ?_⟩
  · rw [e1, find_snoc hnd, mget_put]
    by_cases h : y = d.block
    · rw [if_pos h, if_pos h]; rfl
    · rw [if_neg h, if_neg h]; exact h1 y
  · rw [e1] at hx
    rcases List.mem_append.1 hx with h | h
    · exact h3 x h
    · simp at h; subst h; exact hp
theorem wp_frame {P : Program} {c : Code} {Q : Exit → Act → World → Prop} {T : Array Value} {D : List Deferred} {W : World} (h : ∀ T', T' = T → c.wp P Q { tmps := T', defers := D } W) : c.wp P Q { tmps := T, defers := D } W := h T rfl
set_option maxHeartbeats 8000000 in
set_option maxRecDepth 100000 in
theorem graph_Check_ok (H : PH) (v vl : Value) (c : CodeD) (l : List DominD) (w : World) (hw : Sees w H) (hc : CodeV H v c) (hl : SlV rDomin H vl l) (hE : checkedE c = 0) :
    Calls Tryz.prog 32 #[v, vl] w fun e w' => e = .returned (.int .i64 (if dcd (PrfP (theFlow c) l) = true then 0 else 8)) ∧ Below w.heap.size w w' := by
  have hc0 := hc
  obtain ⟨s0, s1, s2, s3, s4, s5, s6, rfl, hc⟩ := hc
  obtain ⟨W0, hW0⟩ : ∃ W0, W0 = (w.alloc (.cells #[s0, s1, s2, s3, s4, s5, s6] 30)).alloc (.cells #[.int .i64 0] 33) := ⟨_, rfl⟩
  have hB0 : Below w.heap.size w W0 := by rw [hW0]; exact ((Below.refl _ _).alloc (Nat.le_refl _) _).alloc (by simp [World.size_alloc]) _
  have hx0 : W0.heap[w.heap.size]? = some (.cells #[s0, s1, s2, s3, s4, s5, s6] 30 (0, 0)) := by rw [hW0]; exact ga_old (ga_new _ _)
  have hx1 : W0.heap[w.heap.size + 1]? = some (.cells #[.int .i64 0] 33 (0, 0)) := by rw [hW0]; exact ga_fit (by simp [World.size_alloc])
  have hC := graph_checked_ok H _ c _ (hw.below hB0) hc0 hE
  have hok := lpOk hE
  obtain ⟨X, hX⟩ : ∃ X : Int, (if dcd (PrfP (theFlow c) l) = true then 0 else 8) = X := ⟨_, rfl⟩
  have hS := Lib.hid (show (PrfP (theFlow c) l → X = 0) ∧ (¬ PrfP (theFlow c) l → X = 8) from ⟨fun h => by rw [← hX, if_pos (dcd_iff.2 h)], fun h => by rw [← hX, if_neg (fun k => h (dcd_iff.1 k))]⟩)
  rw [hX]
  clear hX
  have hreach := Lib.hid (fun (d : DominD) (hd : ProvesP (theFlow c) d) (hi : d.idom ≠ -1) => hd.own hi)
  unfold FlowErr at hC
  generalize theFlow c = f at *
  have h2 := Lib.hid hok.two
  have hlel := hl.le
  clear hc0 hc hok hE
  refine (callsIn_wide (n := 8)).1 ?_
  refine callsIn_of_wp_marks Tryz.func32 rfl trivial ?_ rfl
  refine wpIn_wide.2 ?_
  simp only [Tryz.ntmps32, List.size_toArray, List.length_cons, List.length_nil, Nat.reduceAdd, Nat.reduceSub, Array.replicate_succ, Array.replicate_zero, List.push_toArray, List.append_toArray, List.nil_append, List.cons_append]
  go_upto_region 1 with fail
  refine wp_name fun w0 hw0 => ?_
  rw [← hW0] at hw0
  subst hw0
  have q := box7 hx0
  have lq := (Array.getElem?_eq_some_iff.1 hx0).1
  have hz0 : w0.heap.size = w.heap.size + 2 := by rw [hW0]; simp [World.size_alloc]
  clear hW0
  go_upto_region 4 with (go_at_call 43; refine hC.mono ?_; rintro e w1 ⟨⟨v1, rfl, hfv⟩, hB1⟩)
  have hBw := bstep hB0 hB1
  have hy1 := blk_keep hB1 hx1
  have kE := extH.new (H := H) (show w.heap.size ≤ w.heap.size + 1 by omega) hy1
  have hs1 := extH.sees hw hBw
  have hf1 : FlowV (extH H w w1) v1 f := hfv.mono (extH.lower hw (by omega))
  have hl1 := hl.mono (extH.le hw w1)
  have hz1 := hB1.size
  clear hfv hl hx0 hx1 hB0 hB1 hy1 q lq hC hw
  obtain ⟨b4, hb4⟩ : ∃ b4, w.heap.size + 1 = b4 := ⟨_, rfl⟩
  rw [hb4] at kE
  rw [hb4]
  have hbz : w.heap.size < b4 := by omega
  have hbz1 : b4 < w1.heap.size := by omega
  clear hb4
  generalize extH H w w1 = K at *
  have hf0 := hf1
  obtain ⟨b5, u0, u1, u2, u3, m, rfl, hb5, hf⟩ := hf1
  have hfle := hf.le
  have hlR := hf.lenR
  have hRe := hf.reached
  obtain ⟨A3, c3, rfl, -, -⟩ := hf.reached.open_
  rw [hlR] at hb5
  clear hf
  have hb5n : K b5 ≠ none := by rw [hb5]; simp
  have q5 := box5 (hs1 _ _ hb5)
  have l5 := hs1.lt' hb5n
  have hlRh := Lib.hid hlR
  clear hlR
  go_wp2
  clear q5 l5
  go_loopw [7, 30] (fun o i wr => ∃ k : Nat, k ≤ f.blocks.length ∧ i = .int .i64 k ∧ OwnI wr w1.heap.size o (wantK f k) ∧ Below w1.heap.size w1 wr) (fun _ i _ => f.blocks.length - (intOf i).toNat)
  case atStart => exact ⟨0, Nat.zero_le _, rfl, OwnI.nil _ _, Below.refl _ _⟩
  case round =>
    obtain ⟨k, hk, rfl, hown, hB⟩ := hrel
    have hs := hs1.below hB
    by_cases hlt : k < f.blocks.length
    · have hlt' : (k : Int) < f.blocks.length := by omega
      have hk0 : (0 : Int) ≤ k := by omega
      obtain ⟨rb, ro, rc, hve, -, hrb, hrcell⟩ := hRe.bools (by rw [hlRh.out]; omega)
      rw [hlRh.out] at hve
      cases hve
      have hcr := hrcell wr hs k (by rw [hlRh.out]; exact hlt)
      have lr := hs.lt' hrb
      have hlen := wantK_len f k
      have hst := Lib.hid (wantK_succ f k)
      clear hrcell
      generalize wantK f k = es at *
      cases hg : f.reached.getD k false
      · rw [hg] at hcr
        have hst2 := Lib.hid (show wantK f (k + 1) = es by rw [hst.out, hg]; simp)
        clear hg hst
        go_wp2
        go_roundw
        case rel => exact ⟨k + 1, by omega, by go_num, by rw [hst2.out]; exact hown, hB⟩
        case measure => simp [intOf]; omega
      · rw [hg] at hcr
        have hst2 := Lib.hid (show wantK f (k + 1) = es ++ [(k : Int)] by rw [hst.out, hg]; simp)
        clear hg hst
        go_wp2_with (at_builtin; go_loud (refine wpL_appI rfl _ _ rfl w1.heap.size _ es [(k : Int)] rfl (hown.al _) ⟨wr.heap.size, 0, none⟩ 1 1 rfl rfl (one_new (by simp)) ?hlen ?hsz ?_); go_loud (case hlen => first | omega | (simp; omega)); go_loud (case hsz => have := hB.size; first | omega | (simp; omega)); intro v2 w2 hown2 hg2 _)
        go_roundw
        case rel => exact ⟨k + 1, by omega, by go_num, by rw [hst2.out]; exact hown2, (hB.alloc hB.size _).grown hg2 (by have := hB.size; simp; omega) (fun j hj => (hown.lt hj).1)⟩
        case measure => simp [intOf]; omega
    · obtain rfl : k = f.blocks.length := by omega
      have hwl : wantK f f.blocks.length = wantL f := rfl
      rw [hwl] at hown
      clear hlt hwl
      have hmm := @run_makeMap Tryz.prog
      obtain ⟨Aw, cw, rfl, hform⟩ := hown.len_form
      have hwlen : (wantL f).length ≤ f.blocks.length := wantK_len f f.blocks.length
      go_upto_region 12 with fail
      refine wp_name fun W3 hW3 => ?_
      obtain ⟨M, hM⟩ : ∃ M, wr.heap.size = M := ⟨_, rfl⟩
      have hzr := hB.size
      have hz3 : W3.heap.size = M + 2 := by rw [hW3]; simp [World.size_alloc, hM]
      have x2 : W3.heap[M]? = some (.map #[] 0) := by rw [hW3]; exact ga_old (ga_fit hM)
      have x3 : W3.heap[M + 1]? = some (.cells #[.map (some M)] 90 (0, 0)) := by rw [hW3, hM]; exact ga_fit (by simp [World.size_alloc, hM])
      have hB13 : Below w1.heap.size w1 W3 := by rw [hW3]; exact (hB.alloc hB.size _).alloc (by simp [World.size_alloc]; omega) _
      have hBW3 := bstep hBw hB13
      have hown3 : OwnI W3 w1.heap.size (.slice Aw (wantL f).length cw) (wantL f) := by rw [hW3]; exact (hown.al _).al _
      have hnoM : ∀ k, (Value.slice Aw (wantL f).length cw).ownBlock = some k → k ≠ M ∧ w1.heap.size ≤ k := fun k hk => by have := hown.lt hk; omega
      have hs3' := extH.sees hs1 hB13
      have hK3 : ∀ i, i ≠ M → exM K w1 W3 M i = extH K w1 W3 i := fun i hi => by unfold exM; rw [if_neg hi]
      have hKM : exM K w1 W3 M M = none := by unfold exM; rw [if_pos rfl]
      have hs3 : Sees W3 (exM K w1 W3 M) := fun i o e => by
        unfold exM at e
        split at e
        · cases e
        · exact hs3' i o e
      have hKK : PH.le K (exM K w1 W3 M) := fun i o e => by
        have := hs1.lt e
        rw [hK3 i (by omega)]
        exact extH.le hs1 W3 i o e
      have k10 : exM K w1 W3 M (M + 1) = some (.cells #[.map (some M)] 90 (0, 0)) := by rw [hK3 _ (by omega)]; exact extH.new (by omega) x3
      have hwant : SlV rInt (exM K w1 W3 M) (.slice Aw (wantL f).length cw) (wantL f) := hown3.readK (fun k hk => by
        obtain ⟨h8, h9⟩ := hnoM k hk
        rw [hK3 k h8]
        exact extH.at_ h9) (fun x hx => by have := (wantL_mem.1 hx).1; unfold I64; omega) (by unfold maxN; omega)
      have hM0 : MapL encI W3 M [] := ⟨#[], 0, x2, rfl, by simp, by simp, by simp⟩
      have hf3 := hf0.mono hKK
      have hl3 := hl1.mono hKK
      have kE3 := hKK _ _ kE
      have hMz : w.heap.size ≤ M := by have := hBw.size; omega
      have hlow3 : ∀ i o, exM K w1 W3 M i = some o → i < W3.heap.size := fun i o e => hs3.lt e
      clear hW3 hmm x2 x3 hB13 hown3 hnoM hs3' hK3 hKK hform hown hB hs hs1 hRe hb5n hb5 kE hl1 hf0 hBw hz0 hz1 hlRh
      generalize exM K w1 W3 M = K3 at *
      rw [hM]
      clear hM hz3 hzr
      by_cases hlen : l.length = (wantL f).length
      · have t1 : (l.length != (wantL f).length) = false := by simpa using hlen
        have t2 : ((l.length : Int) != (wantL f).length) = false := by rw [bne_eq_false_iff_eq]; omega
        obtain ⟨Al, cl, rfl, -, -⟩ := hl3.open_
        have hlenh := Lib.hid hlen
        clear hlen
        obtain ⟨wa, rfl⟩ : ∃ wa : World, wa = wr := ⟨_, rfl⟩
        go_wp2
        go_loopw [49] (fun i wr => ∃ (k : Nat) (ml : IntMap), k ≤ l.length ∧ i = .int .i64 k ∧ MapL encI wr M ml ∧ Aside (PrfI f l k ml) ∧ Sees wr K3 ∧ Below w.heap.size w wr) (fun i _ => l.length - (intOf i).toNat)
        case atStart => exact ⟨0, [], Nat.zero_le _, rfl, hM0, ⟨rfl, fun y => by simp [mget, findL], by simp, fun d hd => by simp at hd⟩, hs3, hBW3⟩
        clear hM0 hs3 hBW3 hlow3
        case round =>
          obtain ⟨k, ml, hk, rfl, hMl, hI, hs, hB⟩ := hrel
          have hIh := Lib.hid hI
          clear hI
          by_cases hkl : k < l.length
          · have hkl' : (k : Int) < l.length := by omega
            have hk0 : (0 : Int) ≤ k := by omega
            obtain ⟨bl, ol, cl', e9, hbl, hrow⟩ := hl3.domins (by omega)
            cases e9
            obtain ⟨v1, v2, hv1, hv2, i1, i2, hcell⟩ := hrow k hkl
            obtain ⟨p0, p1, p2, p3⟩ := hcell wr hs
            have ll := hs.lt' hbl
            have hdk : l[k]? = some (l.getD k default) := by rw [List.getD_eq_getElem?_getD, List.getElem?_eq_getElem hkl]; rfl
            have hkw : k < (wantL f).length := by rw [← hlenh.out]; exact hkl
            have hkw' : (k : Int) < (wantL f).length := by omega
            obtain ⟨bw, ow, cw', e8, -, hbw, hcw, -⟩ := hwant.ints (by omega)
            cases e8
            have pw := hcw wr hs k hkw
            have lw := hs.lt' hbw
            have hwk : (wantL f)[k]? = some ((wantL f).getD k 0) := by rw [List.getD_eq_getElem?_getD, List.getElem?_eq_getElem hkw]; rfl
            have hwr := wantL_mem.1 (List.mem_of_getElem? hwk)
            clear hrow hcell hcw
            generalize l.getD k default = d at *
            obtain ⟨wk, hwke⟩ : ∃ wk, (wantL f).getD k 0 = wk := ⟨_, rfl⟩
            rw [hwke] at hwk pw hwr
            clear hwke
            obtain ⟨db, di, d1, d2⟩ := d
            simp only at hv1 hv2 i1 i2 p0 p1 p2 p3
            obtain ⟨A1, cp1, rfl, -, -⟩ := hv1.open_
            obtain ⟨A2, cp2, rfl, -, -⟩ := hv2.open_
            have hset := set_new wr
            go_upto_region 17 with fail
            clear hset p0 p1 p2 p3
            refine wp_name fun W5 hW5 => ?_
            have x5 : W5.heap[wr.heap.size]? = some (.cells #[.int .i64 db, .int .i64 di, .slice A1 d1.length cp1, .slice A2 d2.length cp2] 106 (0, 0)) := by rw [hW5]; exact ga_new _ _
            have hBW5 : Below wr.heap.size wr W5 := by rw [hW5]; exact (Below.refl _ _).alloc (Nat.le_refl _) _
            have hM5 := hMl.of_block (hBW5.block _ hMl.lt)
            have hs5 := hs.below hBW5
            have hB5 := bstep hB hBW5
            have q := boxD4 x5
            have pw5 := (cell_heap1 (i := ow + k) (hBW5.block bw lw)).trans pw
            have lw5 := lt_heap1 (hBW5.block bw lw) lw
            clear hW5 pw lw
            have hcs := Lib.hid (fun (w' : World) (h : w'.heap = W5.heap) => And.intro ((hp_cell h _).trans q.1) (And.intro ((hp_cell h _).trans q.2.1) (And.intro ((hp_cell h _).trans q.2.2.1) (And.intro ((hp_cell h _).trans q.2.2.2.1) (And.intro (hp_lt h q.2.2.2.2) (And.intro ((hp_cell h _).trans pw5) (hp_lt h lw5)))))))
            have hcsB := Lib.hid (fun (w' : World) (h : Below W5.heap.size W5 w') => And.intro (boxD4 (blk_keep h x5)) (And.intro ((cell_heap1 (i := ow + k) (h.block bw lw5)).trans pw5) (lt_heap1 (h.block bw lw5) lw5)))
            clear q pw5 lw5
            have qe := cell_blk (hs5 _ _ kE3) 0
            simp only [List.getElem?_toArray, List.getElem?_cons_zero] at qe
            have le := hs5.lt kE3
            by_cases hdw : db = wk
            · subst hdw
              have t3 : (db != db) = false := by simp
              have hPr := flow_proves K3 _ _ f ⟨db, di, d1, d2⟩ W5.drew (hp_sees hs5) hf3 ⟨_, _, rfl, hv1, hv2⟩ hwr.1
              have x5d : W5.drew.heap[wr.heap.size]? = some (.cells #[.int .i64 db, .int .i64 di, .slice A1 d1.length cp1, .slice A2 d2.length cp2] 106 (0, 0)) := x5
              cases hpb : provesB f ⟨db, di, d1, d2⟩
              · rw [hpb] at hPr
                have hb := Lib.hid (hS.out.2 fun h => by
                  have := dcd_iff.2 (h.all _ (List.mem_of_getElem? hdk))
                  rw [show dcd (ProvesP f ⟨db, di, d1, d2⟩) = provesB f ⟨db, di, d1, d2⟩ from rfl, hpb] at this
                  cases this)
                clear hpb hS hreach
                refine wp_region_plan (fun w' => Below W5.heap.size W5 w') [(0, true), (1, true), (2, true), (3, true), (4, true), (5, true), (6, true), (7, true), (8, true), (9, true), (10, false), (11, true), (12, true)] (by kernel_rfl) (by kernel_rfl) (by kernel_rfl) (hp_drew (Below.refl _ _)) ?_
                repeat first
                  | (refine plan_skip rfl (by rfl) ?_; simp only [Act.put, List.setIfInBounds_toArray, List.set_cons_zero, List.set_cons_succ])
                  | (refine plan_read (v := ?_) rfl (by rfl) ?_ ?_; rotate_left; (focus (intro w' hSw; obtain ⟨⟨r1, r2, r3, r4, r5⟩, r6, r7⟩ := hcsB.out _ hSw; clear hSw; go_simp; all_goals with_reducible rfl)); simp only [Act.put, List.setIfInBounds_toArray, List.set_cons_zero, List.set_cons_succ])
                refine plan_step rfl (by kernel_rfl) (fun K' hK' => ?_)
                go_simp
                refine hPr.mono ?_
                rintro e w6 ⟨rfl, hB6⟩
                refine hK'.out _ _ (bstep (hp_drew (Below.refl _ _)) hB6) ?_
                clear hK' K'
                repeat first
                  | (refine plan_skip rfl (by rfl) ?_; simp only [Act.put, List.setIfInBounds_toArray, List.set_cons_zero, List.set_cons_succ])
                  | (refine plan_read (v := ?_) rfl (by rfl) ?_ ?_; rotate_left; (focus (intro w' hSw; skip; clear hSw; go_simp; all_goals with_reducible rfl)); simp only [Act.put, List.setIfInBounds_toArray, List.set_cons_zero, List.set_cons_succ])
                refine plan_nil (NoPanic.normal ?_)
                have hs6 := (hp_sees hs5).below hB6
                have qe6 := cell_blk (hs6 _ _ kE3) 0
                simp only [List.getElem?_toArray, List.getElem?_cons_zero] at qe6
                have le6 := hs6.lt kE3
                have hend := chk_end (x := 8) (bstep (hp_drew hB5) hB6) (hs6 _ _ kE3) (by omega)
                have qf6 := cell_free (hs6 _ _ kE3) 0
                go_wp2
                rw [hb.out]
                exact ⟨_, res_cell rfl hend.1, rfl, hend.2⟩
              · rw [hpb] at hPr
                have hI2 := Lib.hid (hIh.out.more hdk hwk (dcd_iff.1 hpb))
                clear hpb
                refine wp_region_plan (fun w' => Below W5.heap.size W5 w') [(0, true), (1, true), (2, true), (3, true), (4, true), (5, true), (6, true), (7, true), (8, true), (9, true), (10, false), (11, true), (12, true)] (by kernel_rfl) (by kernel_rfl) (by kernel_rfl) (hp_drew (Below.refl _ _)) ?_
                repeat first
                  | (refine plan_skip rfl (by rfl) ?_; simp only [Act.put, List.setIfInBounds_toArray, List.set_cons_zero, List.set_cons_succ])
                  | (refine plan_read (v := ?_) rfl (by rfl) ?_ ?_; rotate_left; (focus (intro w' hSw; obtain ⟨⟨r1, r2, r3, r4, r5⟩, r6, r7⟩ := hcsB.out _ hSw; clear hSw; go_simp; all_goals with_reducible rfl)); simp only [Act.put, List.setIfInBounds_toArray, List.set_cons_zero, List.set_cons_succ])
                refine plan_step rfl (by kernel_rfl) (fun K' hK' => ?_)
                go_simp
                refine hPr.mono ?_
                rintro e w6 ⟨rfl, hB6⟩
                refine hK'.out _ _ (bstep (hp_drew (Below.refl _ _)) hB6) ?_
                clear hK' K'
                repeat first
                  | (refine plan_skip rfl (by rfl) ?_; simp only [Act.put, List.setIfInBounds_toArray, List.set_cons_zero, List.set_cons_succ])
                  | (refine plan_read (v := ?_) rfl (by rfl) ?_ ?_; rotate_left; (focus (intro w' hSw; skip; clear hSw; go_simp; all_goals with_reducible rfl)); simp only [Act.put, List.setIfInBounds_toArray, List.set_cons_zero, List.set_cons_succ])
                refine plan_nil (NoPanic.normal ?_)
                have hs6 := (hp_sees hs5).below hB6
                have qe6 := cell_blk (hs6 _ _ kE3) 0
                simp only [List.getElem?_toArray, List.getElem?_cons_zero] at qe6
                have le6 := hs6.lt kE3
                have hB56 := bstep (hp_drew hB5) hB6
                have hM6 := MapL.of_block (w' := w6) (h := hM5) (hB6.block M hM5.lt)
                have q6 := boxD4 (blk_keep hB6 x5d)
                have q10 := cell_blk (hs6 _ _ k10) 0
                simp only [List.getElem?_toArray, List.getElem?_cons_zero] at q10
                have l10 := hs6.lt k10
                have hKY : KeyK Tryz.prog 3 (fun x : Int => Value.int .i64 x) := keyInt Tryz.underlying3
                have hz56 := hB6.size
                go_wp2_with (at_mapUpdate; go_loud (refine wpL_mapUpdate rfl _ _ _ 90 rfl Tryz.underlying90 (fun x : Int => Value.int .i64 x) hKY (int_inj _) _ _ rfl hM6 db (.int .i64 di) (by rfl) (by rfl) ?_); intro w7 hM7 hg7)
                go_roundw
                case rel => exact ⟨k + 1, _, by omega, by go_num, hM7, hI2.out, hs6.grown hg7 hKM, hB56.grown hg7 hB56.size (fun j e => by injection e with e; omega)⟩
                case measure => simp [intOf]; omega
            · have hb := Lib.hid (hS.out.2 fun h => hdw (by
                have h9 := congrArg (fun x => x[k]?) h.want
                simp only [List.getElem?_map, hdk, hwk] at h9
                simpa using h9))
              have t3 : (db != wk) = true := by simpa using hdw
              have hend := chk_end (x := 8) (hp_drew hB5) (hs5 _ _ kE3) (by omega)
              have qf := cell_free (hs5 _ _ kE3) 0
              clear hdw hS hreach
              refine wp_region_plan (fun w' => w'.heap = W5.heap) [(0, true), (1, true), (2, true), (3, true), (4, true), (5, true), (6, true), (7, true), (8, true), (9, true), (10, false), (11, true), (12, true)] (by kernel_rfl) (by kernel_rfl) (by kernel_rfl) rfl ?_
              repeat first
                | (refine plan_skip rfl (by rfl) ?_; simp only [Act.put, List.setIfInBounds_toArray, List.set_cons_zero, List.set_cons_succ])
                | (refine plan_read (v := ?_) rfl (by rfl) ?_ ?_; rotate_left; (focus (intro w' hSw; obtain ⟨r1, r2, r3, r4, r5, r6, r7⟩ := hcs.out _ hSw; clear hSw; go_simp; all_goals with_reducible rfl)); simp only [Act.put, List.setIfInBounds_toArray, List.set_cons_zero, List.set_cons_succ])
              refine plan_pass rfl (by kernel_rfl) rfl ?_
              simp only [Act.put, List.setIfInBounds_toArray, List.set_cons_zero, List.set_cons_succ]
              repeat first
                | (refine plan_skip rfl (by rfl) ?_; simp only [Act.put, List.setIfInBounds_toArray, List.set_cons_zero, List.set_cons_succ])
                | (refine plan_read (v := ?_) rfl (by rfl) ?_ ?_; rotate_left; (focus (intro w' hSw; skip; clear hSw; go_simp; all_goals with_reducible rfl)); simp only [Act.put, List.setIfInBounds_toArray, List.set_cons_zero, List.set_cons_succ])
              refine plan_nil (NoPanic.normal ?_)
              have qe' : W5.drew.cell? ⟨b4, 0, none⟩ = some (.int .i64 0) := qe
              have qf' : W5.drew.frozen? ⟨b4, 0, none⟩ = false := qf
              have le' : b4 < W5.drew.heap.size := le
              go_wp2
              rw [hb.out]
              exact ⟨_, res_cell rfl hend.1, rfl, hend.2⟩
          · obtain rfl : k = l.length := by omega
            have hkn : ¬ (l.length : Int) < l.length := by omega
            clear hkl
            obtain ⟨hml, hmap, hblk, hall⟩ := hIh.out
            rw [List.take_length] at hmap hblk hall
            rw [hlenh.out, List.take_length] at hblk
            have hcl : ∀ y ∈ l.map (·.block), stepI l y = -1 ∨ stepI l y ∈ l.map (·.block) := by
              intro y hy
              obtain ⟨d, hd, rfl⟩ := List.mem_map.1 hy
              have hst : stepI l d.block = d.idom := by
                have : d.block ∈ wantL f := by rw [← hblk]; exact hy
                have := (wantL_mem.1 this).1
                unfold stepI
                rw [if_neg (by omega)]
                exact idomAt_of (by rw [hblk]; exact wantL_nodup f) hd
              rw [hst]
              by_cases e : d.idom = -1
              · exact .inl e
              · obtain ⟨h1, h2, _⟩ := (hall d hd).own e
                exact .inr (by rw [hblk]; exact wantL_mem.2 ⟨h1, h2⟩)
            have hkey : ∀ p ∈ ml, p.1 ∈ l.map (·.block) := by
              intro p hp
              have h9 : hasK ml p.1 := hasK_keys.2 (List.mem_map_of_mem hp)
              unfold hasK at h9
              rw [hmap] at h9
              cases e : l.find? fun d => decide (d.block = p.1) with
              | none => rw [e] at h9; simp at h9
              | some d =>
                have := List.find?_some e
                have h8 := List.mem_of_find?_eq_some e
                simp only [decide_eq_true_eq] at this
                rw [← this]
                exact List.mem_map_of_mem h8
            have hkey2 : ∀ y ∈ l.map (·.block), hasK ml y := by
              intro y hy
              obtain ⟨d, hd, rfl⟩ := List.mem_map.1 hy
              unfold hasK
              rw [hmap]
              cases e : l.find? fun d' => decide (d'.block = d.block) with
              | none => have := List.find?_eq_none.1 e d hd; simp at this
              | some d => rfl
            have hallh := Lib.hid (And.intro hblk (And.intro hall (And.intro hcl (And.intro hkey hkey2))))
            have hmaph := Lib.hid hmap
            have hget := Lib.hid (fun y => idomAt_get (hmap y))
            clear hblk hall hcl hkey hkey2 hIh hmap hwant
            have q10 := cell_blk (hs _ _ k10) 0
            simp only [List.getElem?_toArray, List.getElem?_cons_zero] at q10
            have l10 := hs.lt k10
            obtain ⟨w6, hrun6, hR6, hg6, hz6⟩ := hMl.range (P := Tryz.prog) Tryz.underlying90
            have hs6 := hs.grownR hg6 (fun j e => by cases e)
            have hB6 := hB.grown hg6 hB.size (fun j e => by cases e)
            have hnR : K3 wr.heap.size = none := by
              cases e : K3 wr.heap.size with
              | none => rfl
              | some o => have := hs.lt e; omega
            have hzb := hB.size
            obtain ⟨wb, rfl⟩ : ∃ wb : World, wb = wr := ⟨_, rfl⟩
            obtain ⟨R, hRz⟩ : ∃ R, wb.heap.size = R := ⟨_, rfl⟩
            have hwR : w.heap.size ≤ R := by omega
            go_wp2_with fail
            rw [hRz] at hR6 hnR
            clear hrun6 hg6 hz6 q10 l10 hMl hs hB hRz hzb
            go_loopw [13] (fun x wr => ∃ gone, MapR encI wr M R ml gone ∧ Aside (∀ y ∈ gone, metP l y (-1)) ∧ Sees wr K3 ∧ Below w.heap.size w wr) (fun x wr => wr.rangeLeft M R)
            case atStart => exact ⟨[], hR6, fun y hy => by simp at hy, hs6, hB6⟩
            clear hs6 hB6 hR6
            case round =>
              obtain ⟨gone, hR, hgo, hs, hB⟩ := hrel
              have hgoh := Lib.hid hgo
              clear hgo
              rcases hR.next (P := Tryz.prog) 0 with ⟨hdone, hrun⟩ | ⟨x, xv, w7, hxl, hxg, hrun, hR7, hg7, hz7, hent, hms⟩
              · have hends := Lib.hid (show ∀ d ∈ l, metP l d.block (-1) from fun d hd => by
                  obtain ⟨p, hp, h9⟩ := List.mem_map.1 (hasK_keys.1 (hallh.out.2.2.2.2 d.block (List.mem_map_of_mem hd)))
                  have := hgoh.out p.1 (hdone p hp)
                  rwa [h9] at this)
                have hMl := hR.mapL
                clear hdone hgoh hR
                have hiter := Lib.hid (And.intro hMl (And.intro hs hB))
                clear hMl hs hB
                go_wp2_with (go_at_call 71; refine (flow_edges _ _).mono ?_; rintro e w8 ⟨rfl, rfl⟩)
                refine wp_name fun w8 hW8 => ?_
                clear hrun
                obtain ⟨hMl, hs, hB⟩ := hiter.out
                have hBe : Below wr.heap.size wr w8 := by rw [hW8]; exact (Below.refl _ _).alloc (Nat.le_refl _) _
                have xe : w8.heap[wr.heap.size]? = some (.cells #[.pointer (some ⟨b5, 0, none⟩)] 76 (0, 0)) := by rw [hW8]; exact ga_new _ _
                have hs8 := hs.below hBe
                have hB8 := bstep hB hBe
                have hM8 := hMl.of_block (hBe.block _ hMl.lt)
                have hF8 := hf3.mono (full.le hs8)
                have k10' := full.le hs8 _ _ k10
                have kE' := full.le hs8 _ _ kE3
                have ke' : full w8 wr.heap.size = some (.cells #[.pointer (some ⟨b5, 0, none⟩)] 76 (0, 0)) := xe
                have hDM : DomMap (full w8) M l := ⟨ml, fun w' hs' => hM8.of_block (by
                  have hlt := hM8.lt
                  have e : full w8 M = some w8.heap[M] := by unfold full; rw [Array.getElem?_eq_getElem hlt]
                  rw [hs' _ _ e, Array.getElem?_eq_getElem hlt]), hmaph.out⟩
                have hs4 := full.sees w8
                have hlt4 : ∀ i o, full w8 i = some o → i < w8.heap.size := fun i o e => hs4.lt e
                clear hiter hMl hs hB hW8 hs8 hBe hM8 xe hf3
                generalize full w8 = K4 at *
                obtain ⟨be, hbe⟩ : ∃ be, wr.heap.size = be := ⟨_, rfl⟩
                rw [hbe] at ke'
                rw [hbe]
                clear hbe
                refine wp_frame fun T hT => ?_
                refine (wpIn_wide (n := 8)).1 ?_
                refine wpIn_rangeFunc_ownG rfl (by omega) (gf := 107) (lb := #[.pointer (some ⟨be, 0, none⟩)]) (by rw [hT]; rfl) trivial (enters_of Tryz.func107 (by kernel_rfl) rfl)
                  (edges_stops Fence.wide (8 - 1) (fun _ => trivial) rfl (by omega) be K4 f ⟨_, ke', hF8⟩ (fun x => Nat.le_trans (h2.out x) (by omega)) w8 hs4) (fun h k hs => k (h hs))
                  (fun W l' o o' hl' hlo hc hwk hs i ob e => (World.putObj_heap_other (by have := hlt4 _ _ e; omega)).trans (hs i ob e)) (Below.refl _ _) (fun _ => rfl)
                  (fun pre W => Sees W K4 ∧ Below w.heap.size w W ∧ Aside (∀ x ∈ pre, idomAt l x.1.2 ≠ -1 → metP l x.1.1 (idomAt l x.1.2)))
                  (fun c pre W => c = .ret ∧ W.heap[b4]? = some (.cells #[.int .i64 8] 33 (0, 0)) ∧ Below w.heap.size w W ∧ Aside (X = 8))
                  (fun s A B row hs hg hr => ⟨fun i o e => (hg.block i (hs.1.lt e) (fun e2 => by have := (hr i e2.symm).1; have := hlt4 _ _ e; omega)).trans (hs.1 i o e), hs.2.1.grown hg hs.2.1.size (fun j hj => by have := (hr j hj).1; have := hB8.size; omega), hs.2.2⟩)
                  (fun c s A B row hs hg hr => ⟨hs.1, (hg.block b4 (Array.getElem?_eq_some_iff.1 hs.2.1).1 (fun e2 => by have := (hr b4 e2.symm).1; have := hlt4 _ _ kE'; omega)).trans hs.2.1, hs.2.2.1.grown hg hs.2.2.1.size (fun j hj => by have := (hr j hj).1; have := hB8.size; omega), hs.2.2.2⟩)
                  ⟨hs4, hB8, fun x hx => by simp at hx⟩
                  (fun x => { tmps := (((T.setIfInBounds 92 (.int .i64 x.1.1)).setIfInBounds 93 (.int .i64 x.1.2)).setIfInBounds 15 (.int .i64 x.1.1)).setIfInBounds 16 (.int .i64 x.1.2), defers := [] }) ?assign ?body ?done ?stop
                case assign =>
                  intro l' x W K hK
                  subst hT
                  simp only [encE]
                  gi_wp2
                  exact hK
                case stop =>
                  rintro D c pre W hD _ ⟨rfl, hx, hBW, h8⟩ hDk
                  have h8h := Lib.hid h8
                  have hb4D : b4 < w8.heap.size := hlt4 _ _ kE'
                  clear h8
                  subst hT
                  gi_wp2
                  refine ⟨by simp, .inl ⟨_, _, rfl, run_takeDeferred hDk, ?_⟩⟩
                  refine ⟨_, res_cell rfl (b := b4) (x := 8) ?_, by rw [h8h.out], hBW.grown (grownBy_putObj' W D (.deferred none)) hBW.size (fun j hj => by injection hj with hj; have := hB8.size; omega)⟩
                  rw [World.putObj_heap_other (by omega)]
                  exact hx
                case done =>
                  rintro D ys W hD rfl ⟨hsW, hBW, hall2⟩ hDk
                  have h0 := Lib.hid (hS.out.1 ⟨hallh.out.1, hallh.out.2.1, hends.out, fun e he => by
                    have h9 : e ∈ (subE f (edgesR f)).map (·.1) := by rw [subE_val edgesR_all]; exact he
                    obtain ⟨x, hx, rfl⟩ := List.mem_map.1 h9
                    exact hall2 x hx⟩)
                  have hb4D : b4 < w8.heap.size := hlt4 _ _ kE'
                  have qe := cell_blk (hsW _ _ kE') 0
                  simp only [List.getElem?_toArray, List.getElem?_cons_zero] at qe
                  have le := hsW.lt kE'
                  have qf := cell_free (hsW _ _ kE') 0
                  have hend := chk_end (x := 0) hBW (hsW _ _ kE') (by omega)
                  have hDk2 : (W.setCell ⟨b4, 0, none⟩ (.int .i64 0)).heap[D]? = some (.deferred (some [])) := by rw [Below.heap_setCell _ _ _ _ (by simp only; omega)]; exact hDk
                  clear hall2 hS hreach
                  subst hT
                  go_wp2
                  refine ⟨by simp, .inl ⟨_, _, rfl, run_takeDeferred hDk2, ?_⟩⟩
                  refine ⟨_, res_cell rfl (b := b4) (x := 0) ?_, by rw [h0.out], hend.2.grown (grownBy_putObj' _ D (.deferred none)) hend.2.size (fun j hj => by injection hj with hj; have := hB8.size; omega)⟩
                  rw [World.putObj_heap_other (by omega)]
                  exact hend.1
                case body =>
                  rintro l' pre ⟨⟨xa, xy⟩, hx⟩ W ⟨hsW, hBW, hpre⟩ hlenp
                  have hpreh := Lib.hid hpre
                  have hmem := Lib.hid (edgesR_mem.2 hx)
                  have hxa : xa ∈ wantL f := wantL_mem.2 ⟨hx.1, hx.2.1⟩
                  have hend1 : metP l xa (-1) := by
                    rw [← hallh.out.1] at hxa
                    obtain ⟨d, hd, rfl⟩ := List.mem_map.1 hxa
                    exact hends.out d hd
                  have hMt := fun (b : Int) => graph_met K4 M l xa b W hsW hDM hend1
                  have q10 := cell_blk (hsW _ _ k10') 0
                  have qe := cell_blk (hsW _ _ kE') 0
                  simp only [List.getElem?_toArray, List.getElem?_cons_zero] at q10 qe
                  have l10 := hsW.lt k10'
                  have le := hsW.lt kE'
                  have qf := cell_free (hsW _ _ kE') 0
                  have hKY : KeyK Tryz.prog 3 (fun x : Int => Value.int .i64 x) := keyInt Tryz.underlying3
                  have hlk : (Instr.lookup 90 (.map (some M)) (.int .i64 xy) false).run Tryz.prog W = .ok (.int .i64 (idomAt l xy)) W := by
                    obtain ⟨ml', h1, h2⟩ := hDM
                    have h := (h1 W hsW).lookup Tryz.underlying90 hKY (z := .int .i64 0) (fun _ => by kernel_rfl) xy false
                    simp only [Bool.false_eq_true, if_false, idomAt_get (h2 xy)] at h
                    exact h
                  have hB4 : ∀ b, metB l xa b = true ↔ metP l xa b := fun b => dcd_iff
                  have hB4h := Lib.hid hB4
                  have hst := Lib.hid (fun (h : idomAt l xy ≠ -1 → metP l xa (idomAt l xy)) => (show ∀ x ∈ pre ++ [(⟨(xa, xy), hx⟩ : EdgeT f)], idomAt l x.1.2 ≠ -1 → metP l x.1.1 (idomAt l x.1.2) from fun x hxm => by
                    rcases List.mem_append.1 hxm with k | k
                    · exact hpreh.out x k
                    · simp at k; subst k; exact h))
                  have hbad := Lib.hid (fun (h1 : idomAt l xy ≠ -1) (h2 : ¬ metP l xa (idomAt l xy)) => hS.out.2 fun h => h2 (h.fit _ hmem.out h1))
                  clear hpre hxa hend1 hKY hB4 hDM hS hreach
                  have hMt2 := hMt (idomAt l xy)
                  have hB5 := hB4h.out (idomAt l xy)
                  generalize idomAt l xy = im at *
                  clear hMt
                  by_cases him : im = -1
                  · have t1 : (im != -1) = false := by simp [him]
                    have hst2 := Lib.hid (hst.out fun h => absurd him h)
                    clear him hst hbad hB5 hMt2
                    subst hT
                    simp only [List.setIfInBounds_toArray, List.set_cons_zero, List.set_cons_succ]
                    gi_wp2
                    refine ⟨trivial, ?_⟩
                    gi_wp2
                    exact ⟨KeepsFrom.refl _ _, fun h => h, hsW, hBW, hst2.out⟩
                  · have t1 : (im != -1) = true := by simpa using him
                    cases hmb : metB l xa im
                    · rw [hmb] at hMt2 hB5
                      have h8 := Lib.hid (hbad.out him fun h => by have := hB5.2 h; cases this)
                      have hend := chk_end (x := 8) hBW (hsW _ _ kE') (by omega)
                      have hkp : KeepsFrom w8.heap.size W (W.setCell ⟨b4, 0, none⟩ (.int .i64 8)) := KeepsFrom.of_grownBy (grownBy_setCell' W b4 (.int .i64 8)) (fun j e => by have := Option.some.inj e; have := hlt4 _ _ kE'; omega)
                      clear him hst hbad hB5 hmb
                      subst hT
                      simp only [List.setIfInBounds_toArray, List.set_cons_zero, List.set_cons_succ]
                      gi_wp2_with (refine ⟨trivial, ?_⟩; gi_at_call 72; refine (CallsIn.inRound l' (callsIn_wide.2 hMt2)).mono ?_; rintro e w9 ⟨rfl, rfl⟩)
                      exact ⟨hkp, rfl, hend.1, hend.2, h8.out⟩
                    · rw [hmb] at hMt2 hB5
                      have hst2 := Lib.hid (hst.out fun _ => hB5.1 rfl)
                      clear him hst hbad hB5 hmb
                      subst hT
                      simp only [List.setIfInBounds_toArray, List.set_cons_zero, List.set_cons_succ]
                      gi_wp2_with (refine ⟨trivial, ?_⟩; gi_at_call 72; refine (CallsIn.inRound l' (callsIn_wide.2 hMt2)).mono ?_; rintro e w9 ⟨rfl, rfl⟩)
                      exact ⟨KeepsFrom.refl _ _, fun h => h, hsW, hBW, hst2.out⟩
              · have hxk := Lib.hid (hallh.out.2.2.2.1 _ hxl)
                have hs7 := hs.grown hg7 hnR
                have hB7 := hB.grown hg7 hB.size (fun j e => by injection e with e; omega)
                have hM7 := hR7.mapL
                have q10 := cell_blk (hs7 _ _ k10) 0
                have qe := cell_blk (hs7 _ _ kE3) 0
                simp only [List.getElem?_toArray, List.getElem?_cons_zero] at q10 qe
                have l10 := hs7.lt k10
                have le := hs7.lt kE3
                have qf := cell_free (hs7 _ _ kE3) 0
                clear hR hxl hxg hs hB hg7 hz7
                go_wp2
                clear hrun hent
                have hln := fun ty => hM7.len_ Tryz.underlying90 ty
                rw [hml] at hln
                have hKY : KeyK Tryz.prog 3 (fun x : Int => Value.int .i64 x) := keyInt Tryz.underlying3
                have hlk := Lib.hid (fun y => by
                  have h := hM7.lookup Tryz.underlying90 hKY (z := .int .i64 0) (fun _ => by kernel_rfl) y false
                  simp only [Bool.false_eq_true, if_false, hget.out y] at h
                  exact h)
                clear hKY hM7
                go_loopw [13, 14] (fun b n wi => ∃ (j : Nat) (y : Int), b = .int .i64 y ∧ n = .int .i64 j ∧ y = itI l j x ∧ j ≤ l.length + 1 ∧ wi = w7) (fun _ n _ => l.length + 2 - (intOf n).toNat)
                case atStart => exact ⟨0, x, rfl, rfl, rfl, by omega, rfl⟩
                case round =>
                  obtain ⟨j, y, rfl, rfl, hy, hj, hwe⟩ := hrel
                  subst hwe
                  have hyh := Lib.hid hy
                  clear hy
                  by_cases hy1 : y = -1
                  · subst hy1
                    have hme := Lib.hid (show metP l x (-1) from ⟨j, hyh.out.symm⟩)
                    have t1 : ((-1 : Int) != -1) = false := by decide
                    go_wp2
                    go_roundw
                    case rel =>
                      refine ⟨gone ++ [x], hR7, fun y hy => ?_, hs7, hB7⟩
                      rcases List.mem_append.1 hy with h | h
                      · exact hgoh.out y h
                      · simp at h; subst h; exact hme.out
                    case measure => exact hms
                  · have t1 : (y != -1) = true := by simpa using hy1
                    by_cases hjl : j ≤ l.length
                    · have t5 : decide ((l.length : Int) < j) = false := decide_eq_false (by omega)
                      have t6 : decide (l.length < j) = false := decide_eq_false (by omega)
                      have hl := hlk.out y
                      have hstep := Lib.hid (show idomAt l y = itI l (j + 1) x from by rw [itI_snoc, ← hyh.out]; unfold stepI; rw [if_neg hy1])
                      clear hy1
                      go_wp2
                      go_roundw
                      case rel => exact ⟨j + 1, _, rfl, by go_num, hstep.out, by omega, trivial⟩
                      case measure => simp [intOf]; omega
                    · have hb := Lib.hid (hS.out.2 fun h => hjl (by
                        obtain ⟨d, hd, h9⟩ := List.mem_map.1 hxk.out
                        have := ends_len hallh.out.2.2.1 hxk.out (by rw [← h9]; exact h.ends d hd) (j := j) (by rw [← hyh.out]; exact hy1)
                        omega))
                      have t5 : decide ((l.length : Int) < j) = true := decide_eq_true (by omega)
                      have t6 : decide (l.length < j) = true := decide_eq_true (by omega)
                      have hend := chk_end (x := 8) hB7 (hs7 _ _ kE3) (by omega)
                      clear hy1 hjl hS hreach
                      go_wp2
                      rw [hb.out]
                      exact ⟨_, res_cell rfl hend.1, rfl, hend.2⟩
      · have hb := Lib.hid (hS.out.2 fun h => hlen (by have := congrArg List.length h.want; simpa using this))
        have t1 : (l.length != (wantL f).length) = true := by simpa using hlen
        have t2 : ((l.length : Int) != (wantL f).length) = true := by rw [bne_iff_ne]; omega
        obtain ⟨Al, cl, rfl, -, -⟩ := hl3.open_
        have qe := cell_blk (hs3 _ _ kE3) 0
        simp only [List.getElem?_toArray, List.getElem?_cons_zero] at qe
        have qf := cell_free (hs3 _ _ kE3) 0
        have le := hs3.lt kE3
        have hend := chk_end (x := 8) hBW3 (hs3 _ _ kE3) (by omega)
        clear hlen hS hreach
        go_wp2
        rw [hb.out]
        exact ⟨_, res_cell rfl hend.1, rfl, hend.2⟩
theorem graph_Check (H : PH) (v vl : Value) (c : CodeD) (l : List DominD) (w : World) (hw : Sees w H) (hc : CodeV H v c) (hl : SlV rDomin H vl l) :
    Calls Tryz.prog 32 #[v, vl] w fun e w' => e = .returned (.int .i64 (chkE c l)) ∧ Below w.heap.size w w' := by
  unfold chkE
  by_cases hE : checkedE c = 0
  · rw [if_pos hE]
    exact graph_Check_ok H v vl c l w hw hc hl hE
  · rw [if_neg hE]
    exact graph_Check_no H v vl c l w hw hc hE
end Go.Proofs.YtififjlgjmgikaaGreat
