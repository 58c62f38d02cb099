/- The closures of graph.knot. graph.knot. -/
import Derived.Test.YtififjlgjmgikaaGreatLoopB
import Derived.Test.YtififjlgjmgikaaGreatShelf
namespace Go.Proofs.YtififjlgjmgikaaGreat
set_option linter.all false
open Go.RowKit Go.Shelf

def BoxH (H : PH) (b : Nat) (f : FlowD) : Prop := ∃ m, H b = some (.cells #[.map (some m)] 80 (0, 0)) ∧ HeadsV H m f
theorem HeadsV.mono {H H' : PH} {m : Nat} {f : FlowD} (hle : PH.le H H') (h : HeadsV H m f) : HeadsV H' m f := by
  obtain ⟨l, h1, h2, h3⟩ := h
  exact ⟨l, fun w hw => h1 w (fun i o e => hw i o (hle i o e)), fun y => (h2 y).mono hle, h3⟩
theorem BoxH.mono {H H' : PH} {b : Nat} {f : FlowD} (hle : PH.le H H') (h : BoxH H b f) : BoxH H' b f := by
  obtain ⟨m, h1, h2⟩ := h
  exact ⟨m, hle _ _ h1, h2.mono hle⟩
/-- slices.Contains in my words. -/
theorem contains_sl {H : PH} {v : Value} {xs : List Int} {w : World} (x : Int) (hw : Sees w H) (h : SlV rInt H v xs) :
    Calls Tryz.prog 106 #[v, .int .i64 x] w fun e w' => e = .returned (.bool (xs.contains x)) ∧ w' = w := by
  have hle := h.le
  by_cases hx : 0 < xs.length
  · obtain ⟨b, off, c, rfl, _, _, hc, _⟩ := h.ints hx
    refine (Tryz.slices_Contains_int b off xs.length c xs x w (Nat.le_refl _) (by omega) (hc w hw)).mono ?_
    rintro e w' ⟨rfl, rfl⟩
    rw [List.take_length]
    exact ⟨rfl, rfl⟩
  · have e : xs = [] := List.eq_nil_of_length_eq_zero (by omega)
    subst e
    obtain ⟨A, c, rfl, _, _⟩ := h.open_
    exact Tryz.slices_Contains_int_empty A c x w
set_option maxHeartbeats 1000000 in
theorem knot_11 (H : PH) (bh bv : Nat) (f : FlowD) (v y : Int) (w : World) (hw : Sees w H) (hh : BoxH H bh f) (hv : BoxI H bv v) :
    Calls Tryz.prog 117 #[.int .i64 y, .pointer (some ⟨bh, 0, none⟩), .pointer (some ⟨bv, 0, none⟩)] w fun e w' => e = .returned (.bool ((tailsR f y).contains v)) ∧ Below w.heap.size w w' := by
  obtain ⟨m, hb, l, hM, hr, -⟩ := hh
  have q := cell_blk (hw bh _ hb) 0
  simp only [List.getElem?_toArray, List.getElem?_cons_zero] at q
  have lq := hw.lt hb
  have q2 := cell_blk (hw bv _ hv) 0
  simp only [List.getElem?_toArray, List.getElem?_cons_zero] at q2
  have lq2 := hw.lt hv
  have hKY : KeyK Tryz.prog 3 (fun x : Int => Value.int .i64 x) := keyInt Tryz.underlying3
  have hlk := (hM w hw).lookup Tryz.underlying80 hKY (z := .slice none 0 0) (fun _ => by kernel_rfl) y false
  simp only [Bool.false_eq_true, if_false] at hlk
  have hC := contains_sl v hw (show SlV rInt H ((mget l y).getD (.slice none 0 0)) (tailsR f y) from hr y)
  clear hM hr hb hv
  generalize (mget l y).getD (.slice none 0 0) = u at *
  generalize (tailsR f y).contains v = B at *
  go_enter Tryz.func117, Tryz.ntmps117
  go_wp2_with (go_at_call 106; refine hC.mono ?_; rintro e w1 ⟨rfl, rfl⟩)
  go_ret
  exact ⟨rfl, Below.refl _ _⟩
theorem knot_11V (H : PH) (bh bv : Nat) (f : FlowD) (v : Int) (hh : BoxH H bh f) (hv : BoxI H bv v) : PredV H .i64 (.func (.func 117) #[] #[.pointer (some ⟨bh, 0, none⟩), .pointer (some ⟨bv, 0, none⟩)]) (fun _ => True) (fun y => (tailsR f y).contains v) :=
  ⟨_, _, rfl, enters_mk Tryz.func117 (by kernel_rfl) rfl, fun w' H' x hle hs _ => knot_11 H' bh bv f v x w' hs (hh.mono hle) (hle _ _ hv)⟩
/-- What a knot's walk goes on to: what follows but by an edge that leads back. -/
noncomputable def knotNx (f : FlowD) (v : Int) : List Int := (nxB f v).filter fun y => !(tailsR f y).contains v
set_option maxHeartbeats 4000000 in
set_option maxRecDepth 100000 in
theorem knot_1 (H : PH) (bf bh : Nat) (f : FlowD) (x : Int) (w : World) (hw : Sees w H) (hF : BoxF H bf f) (hh : BoxH H bh f) (hx : 0 ≤ x ∧ x < f.blocks.length) :
    Calls Tryz.prog 116 #[.int .i64 x, .pointer (some ⟨bf, 0, none⟩), .pointer (some ⟨bh, 0, none⟩)] w fun e w' => SlRes H w w' (knotNx f x) e ∧ Below w.heap.size w w' := by
  obtain ⟨v, hbf, hf⟩ := hF
  obtain ⟨b5, s0, s1, s2, s3, m, rfl, hb, hf⟩ := hf
  obtain ⟨k, rfl⟩ : ∃ k : Nat, x = (k : Int) := ⟨x.toNat, by omega⟩
  have hk : k < f.blocks.length := by omega
  have hk0 : (0 : Int) ≤ k := by omega
  have hk1 : (k : Int) < f.blocks.length := by omega
  obtain ⟨bb, off, cap, rfl, hcap, hbb, hrow, -⟩ := hf.blocks.blocks (by omega)
  obtain ⟨u, hu, hcells⟩ := hrow k hk
  have hmem : f.blocks.getD k default ∈ f.blocks := by
    rw [List.getD_eq_getElem?_getD, List.getElem?_eq_getElem hk]
    exact List.getElem_mem hk
  have hnl := hf.nlen _ hmem
  have hle := hf.le
  have hI : ∀ y ∈ (f.blocks.getD k default).next, I64 y := fun y hy => by have := hf.next _ hmem y hy; unfold I64; omega
  have hres : knotNx f (k : Int) = (f.blocks.getD k default).next.filter fun y => !(tailsR f y).contains (k : Int) := rfl
  rw [hres]
  generalize (f.blocks.getD k default).next = nx at *
  obtain ⟨W0, hW0⟩ : ∃ W0, W0 = w.alloc (.cells #[.int .i64 (k : Int)] 3) := ⟨_, rfl⟩
  have hB0 : Below w.heap.size w W0 := by rw [hW0]; exact (Below.refl _ _).alloc (Nat.le_refl _) _
  have hxk : W0.heap[w.heap.size]? = some (.cells #[.int .i64 (k : Int)] 3 (0, 0)) := by rw [hW0]; exact ga_new w _
  have hbk : BoxI (extH H w W0) w.heap.size (k : Int) := extH.new (Nat.le_refl _) hxk
  have hK0 := extH.sees hw hB0
  have hHK := extH.le hw W0
  have hP := knot_11V _ bh w.heap.size f (k : Int) (hh.mono hHK) hbk
  have huK := hu.mono hHK
  have hbfK := hHK _ _ hbf
  have hbK := hHK _ _ hb
  have hcs := Lib.hid (fun (w' : World) (hs : Sees w' (extH H w W0)) => And.intro (cell_blk (hs bf _ hbfK) 0) (And.intro (hs.lt hbfK) (And.intro (cell_blk (hs _ _ hbk) 0) (And.intro (hs.lt hbk) (And.intro (box5 (hs b5 _ hbK)) (And.intro (hs.lt hbK) (And.intro (hcells w' (fun i o e => hs i o (hHK i o e))).2.2 ((show Sees w' H from fun i o e => hs i o (hHK i o e)).lt' hbb))))))))
  simp only [List.getElem?_toArray, List.getElem?_cons_zero] at hcs
  obtain ⟨es, hes⟩ : ∃ es, es = nx.filter fun y => !(tailsR f y).contains (k : Int) := ⟨_, rfl⟩
  rw [← hes]
  have hesh := Lib.hid hes
  have hIh := Lib.hid hI
  have hHw : ∀ i, w.heap.size ≤ i → H i = none := fun i hi => hw.fresh hi
  have hKf : ∀ i, W0.heap.size ≤ i → extH H w W0 i = none := fun i hi => hK0.fresh hi
  clear hes hI hmem hres hrow hcells hbf hb hf hh hbfK hbK hbk hxk hu
  have hz0 := hB0.size
  go_enter Tryz.func116, Tryz.ntmps116
  go_upto_region 1 with fail
  refine wp_name fun w0 hw0 => ?_
  rw [← hW0] at hw0
  subst hw0
  clear hW0
  generalize extH H w w0 = K at *
  refine wp_region_plan (fun w' => Sees w' K) [(0, true), (1, true), (2, true), (3, true), (4, true), (5, true), (6, true), (7, true), (9, true), (8, false), (10, false), (11, true)] (by kernel_rfl) (by kernel_rfl) (by kernel_rfl) hK0 ?_
  repeat first
    | (refine plan_skip rfl (by rfl) ?_; simp only [Act.put, List.setIfInBounds_toArray, List.set_cons_zero, List.set_cons_succ])
    | (refine plan_read (v := ?_) rfl (by rfl) ?_ ?_; rotate_left; (focus (intro w' hSw; obtain ⟨p1, p2, p3, p4, p5, p6, p7, p8⟩ := hcs.out _ hSw; clear hSw; go_simp; all_goals with_reducible rfl)); simp only [Act.put, List.setIfInBounds_toArray, List.set_cons_zero, List.set_cons_succ])
  have hKd : Sees w0.drew K := by exact fun i o e => hK0 i o e
  refine plan_step rfl (by rfl) (fun K' hK' => ?_)
  go_simp
  refine (clone_sl hKd huK (by omega)).mono ?_
  rintro e w1 ⟨⟨vq, rfl, hown⟩, hB1⟩
  have hs1 := hKd.below hB1
  refine hK'.out _ _ (by first | exact .inr hs1 | exact hs1) ?_
  clear hK' K'
  repeat first
    | (refine plan_skip rfl (by rfl) ?_; simp only [Act.put, List.setIfInBounds_toArray, List.set_cons_zero, List.set_cons_succ])
    | (refine plan_read (v := ?_) rfl (by rfl) ?_ ?_; rotate_left; (focus (intro w' hSw; skip; clear hSw; go_simp; all_goals with_reducible rfl)); simp only [Act.put, List.setIfInBounds_toArray, List.set_cons_zero, List.set_cons_succ])
  refine plan_step rfl (by rfl) (fun K' hK' => ?_)
  go_simp
  refine (delete_own K _ _ _ (fun _ => True) (fun y => (tailsR f y).contains (k : Int)) w0.drew.heap.size w1 hs1 hown (fun j hj => hKf j (hown.lt hj).1) hP (fun _ _ => trivial) hIh.out (by omega)).mono ?_
  rintro e w2 ⟨⟨v2, rfl, hown2, -⟩, hg2⟩
  rw [← hesh.out] at hown2
  have hB2 := hB1.grown hg2 hB1.size (fun j hj => (hown.lt hj).1)
  refine hK'.out _ _ (by first | exact .inr (hKd.below hB2) | exact hKd.below hB2) ?_
  clear hK' K'
  repeat first
    | (refine plan_skip rfl (by rfl) ?_; simp only [Act.put, List.setIfInBounds_toArray, List.set_cons_zero, List.set_cons_succ])
    | (refine plan_read (v := ?_) rfl (by rfl) ?_ ?_; rotate_left; (focus (intro w' hSw; skip; clear hSw; go_simp; all_goals with_reducible rfl)); simp only [Act.put, List.setIfInBounds_toArray, List.set_cons_zero, List.set_cons_succ])
  refine plan_nil (NoPanic.normal ?_)
  go_wp2
  go_ret
  have hBf : Below w.heap.size w w2 := bstep hB0 (⟨hB2.os, hB2.tape, hB2.output, hB2.size, hB2.block⟩ : Below w0.heap.size w0 w2)
  refine ⟨⟨_, rfl, (hown2.lower (show w.heap.size ≤ w0.drew.heap.size from hz0)).read (fun y hy => ?_) ?_⟩, hBf⟩
  · rw [hesh.out] at hy
    exact hIh.out y (List.mem_filter.1 hy).1
  · have h1 : es.length ≤ nx.length := by rw [hesh.out]; exact List.length_filter_le _ _
    unfold maxN
    omega
theorem knot_1V (H : PH) (bf bh : Nat) (f : FlowD) (hF : BoxF H bf f) (hh : BoxH H bh f) :
    NextV H (.func (.func 116) #[] #[.pointer (some ⟨bf, 0, none⟩), .pointer (some ⟨bh, 0, none⟩)]) f.blocks.length (knotNx f) :=
  ⟨_, _, rfl, enters_mk Tryz.func116 (by kernel_rfl) rfl, fun w' H' x hle hs hx => knot_1 H' bf bh f x w' hs (by
    obtain ⟨v, h1, h2⟩ := hF
    exact ⟨v, hle _ _ h1, h2.mono hle⟩) (hh.mono hle) hx⟩
end Go.Proofs.YtififjlgjmgikaaGreat
namespace Go.Proofs.YtififjlgjmgikaaGreat
set_option linter.all false
open Go.RowKit Go.Shelf

/-- A block that leads back to itself by edges that do not lead back to a head. -/
def CycR (f : FlowD) (b : Int) : Prop := Reach (· ∈ knotNx f b) (fun a y => y ∈ knotNx f a) b
def KnR (H : PH) (w w' : World) (f : FlowD) (e : Ending) : Prop :=
  (e = .returned nilV ∧ ∀ b : Nat, b < f.blocks.length → f.reached.getD b false = true → ¬ CycR f b) ∨
  ∃ (b : Nat) (p : List Int) (ad : Addr) (cap : Nat), b < f.blocks.length ∧ f.reached.getD b false = true ∧ PathTo f.blocks.length (knotNx f b) (knotNx f) p b ∧ e = .returned (.slice (some ad) p.length cap) ∧ SlV rInt (extH H w w') (.slice (some ad) p.length cap) ((b : Int) :: p.dropLast)
theorem knotNx_range {H : PH} {s0 s1 s2 s3 : Value} {m : Nat} {f : FlowD} (hf : FlowC H s0 s1 s2 s3 m f) {x : Int} (hx : 0 ≤ x ∧ x < f.blocks.length) : ∀ y ∈ knotNx f x, 0 ≤ y ∧ y < f.blocks.length := by
  intro y hy
  have hk : x.toNat < f.blocks.length := by omega
  refine hf.next (f.blocks.getD x.toNat default) ?_ y (List.mem_filter.1 hy).1
  rw [List.getD_eq_getElem?_getD, List.getElem?_eq_getElem hk]
  exact List.getElem_mem _
set_option maxHeartbeats 4000000 in
set_option maxRecDepth 100000 in
theorem flow_knot (H : PH) (v : Value) (f : FlowD) (w : World) (hw : Sees w H) (hf : FlowV H v f) (h2 : ∀ x, (nxB f x).length ≤ 2) :
    Calls Tryz.prog 84 #[v] w fun e w' => KnR H w w' f e ∧ Below w.heap.size w w' := by
  have hf0 := hf
  obtain ⟨b5, u0, u1, u2, u3, m5, rfl, hb5, hfc⟩ := hf
  have hle := hfc.le
  obtain ⟨W0, hW0⟩ : ∃ W0, W0 = w.alloc (.cells #[.pointer (some ⟨b5, 0, none⟩)] 76) := ⟨_, rfl⟩
  have hB0 : Below w.heap.size w W0 := by rw [hW0]; exact (Below.refl _ _).alloc (Nat.le_refl _) _
  have hx0 : W0.heap[w.heap.size]? = some (.cells #[.pointer (some ⟨b5, 0, none⟩)] 76 (0, 0)) := by rw [hW0]; exact ga_new w _
  have q := cell_blk hx0 0
  simp only [List.getElem?_toArray, List.getElem?_cons_zero] at q
  have lq := (Array.getElem?_eq_some_iff.1 hx0).1
  have hHd := flow_heads H _ f W0 (hw.below hB0) hf0 h2
  go_enter Tryz.func84, Tryz.ntmps84
  go_upto_region 1 with fail
  refine wp_name fun w0 hw0 => ?_
  rw [← hW0] at hw0
  subst hw0
  clear hW0
  go_upto_region 2 with (go_at_call 76; refine hHd.mono ?_; rintro e w1 ⟨⟨m2, rfl, hm2, hHv⟩, hB1⟩; have hset := set_new w1)
  clear hset hHd
  refine wp_name fun W2 hW2 => ?_
  have hB12 : Below w1.heap.size w1 W2 := by rw [hW2]; exact (Below.refl _ _).alloc (Nat.le_refl _) _
  have hx2 : W2.heap[w1.heap.size]? = some (.cells #[.map (some m2)] 80 (0, 0)) := by rw [hW2]; exact ga_new w1 _
  have hBw := bstep hB0 (bstep hB1 hB12)
  have hsz := hB1.size
  have hsz0 := hB0.size
  have hsK := extH.sees hw hBw
  have hHK := extH.le hw W2
  have hbx : extH H w W2 w.heap.size = some (.cells #[.pointer (some ⟨b5, 0, none⟩)] 76 (0, 0)) := extH.new (Nat.le_refl _) ((bstep hB1 hB12).block _ lq |>.trans hx0)
  have hbF : BoxF (extH H w W2) w.heap.size f := ⟨_, hbx, hf0.mono hHK⟩
  have hbH : BoxH (extH H w W2) w1.heap.size f := ⟨m2, extH.new (by omega) hx2, hHv.mono (fun i o e => extH.step hB12 i o (extH.lower hw hsz0 i o e))⟩
  have hK2 : ∀ i o, extH H w W2 i = some o → extH H w W2 i = some o := fun i o e => e
  have hKe : extH H w W2 = extH H w W2 := rfl
  clear hW2 q lq hx0 hx2 hHv hB0 hB1 hB12 hf0 hK2 hKe
  obtain ⟨K, hKd⟩ : ∃ K, K = extH H w W2 := ⟨_, rfl⟩
  rw [← hKd] at hsK hHK hbF hbH hbx
  have hKdh := Lib.hid hKd
  clear hKd
  have hfK := (show FlowC K u0 u1 u2 u3 m5 f from ⟨hfc.blocks.mono hHK, hfc.of_.mono hHK, hfc.entry.mono hHK, hfc.reached.mono hHK, hfc.ahead.mono hHK, hfc.lenE, hfc.lenR, hfc.le, hfc.next, hfc.nlen⟩)
  have hb5K := hHK _ _ hb5
  have hlR := hfc.lenR
  have hrd := hfK.reached
  obtain ⟨A3, c3, rfl, -, -⟩ := hrd.open_
  rw [hlR] at hb5K hrd
  have hlRh := Lib.hid hlR
  have hfKh := Lib.hid hfK
  have hmf : ∀ (fn : Fn) (first cap : Array Value) (w : World), (Instr.makeFunc fn first cap).run Tryz.prog w = .ok (.func fn first cap) w := fun _ _ _ _ => rfl
  have q := cell_blk (hsK _ _ hbx) 0
  simp only [List.getElem?_toArray, List.getElem?_cons_zero] at q
  have lq := hsK.lt hbx
  have q5 := box5 (hsK _ _ hb5K)
  have lq5 := hsK.lt hb5K
  clear hfK hfc hlR hb5
  go_wp2_with fail
  clear q lq q5 lq5 hmf
  have hEn : Enters 116 := enters_mk Tryz.func116 (by kernel_rfl) rfl
  unfold Enters at hEn
  go_loopw [19] (fun i wr => ∃ k : Nat, k ≤ f.blocks.length ∧ i = .int .i64 k ∧ Aside (∀ b : Nat, b < k → f.reached.getD b false = true → ¬ CycR f b) ∧ Below W2.heap.size W2 wr) (fun i _ => f.blocks.length - (intOf i).toNat)
  case atStart => exact ⟨0, Nat.zero_le _, rfl, fun b h => by omega, Below.refl _ _⟩
  case round =>
    obtain ⟨k, hk, rfl, hno, hB⟩ := hrel
    have hs := hsK.below hB
    have hnoh := Lib.hid hno
    clear hno
    by_cases hkl : k < f.blocks.length
    · have hkl' : (k : Int) < f.blocks.length := by omega
      have hk0 : (0 : Int) ≤ k := by omega
      obtain ⟨rb, ro, rc, hve, -, hrb, hrcell⟩ := hrd.bools (by rw [hlRh.out]; omega)
      rw [hlRh.out] at hve
      cases hve
      have hrk := hrcell wr hs k (by rw [hlRh.out]; exact hkl)
      have hrl := hs.lt' hrb
      clear hrcell
      cases hrv : f.reached.getD k false
      · rw [hrv] at hrk
        have hrvh := Lib.hid hrv
        clear hrv
        go_wp2
        go_roundw
        case rel =>
          refine ⟨k + 1, by omega, by go_num, fun b hb hr => ?_, hB⟩
          by_cases e : b = k
          · subst e; rw [hrvh.out] at hr; cases hr
          · exact hnoh.out b (by omega) hr
        case measure => simp [intOf]; omega
      · rw [hrv] at hrk
        have hrvh := Lib.hid hrv
        clear hrv
        go_upto_region 8 with (first
          | (go_at_call 116; refine (knot_1 K _ _ f (k : Int) wr hs hbF hbH ⟨hk0, hkl'⟩).mono ?_; rintro e w3 ⟨⟨vn, rfl, hvn⟩, hB3⟩)
          | (go_at_call 67
             have hs3 := extH.sees hs hB3
             have hle3 := extH.le hs w3
             refine (graph_walk (extH K wr w3) vn _ (knotNx f (k : Int)) f.blocks.length (knotNx f) w3 hs3 hvn hle (Nat.le_trans (List.length_filter_le _ _) (Nat.le_trans (h2 _) (by omega))) (fun x hx => knotNx_range hfKh.out ⟨hk0, hkl'⟩ x hx) (fun x hx => knotNx_range hfKh.out hx) (knot_1V _ _ _ f (by obtain ⟨v9, h8, h9⟩ := hbF; exact ⟨v9, hle3 _ _ h8, h9.mono hle3⟩) (hbH.mono hle3))).mono ?_
             rintro e w4 ⟨⟨bm, l, ρ, N, rfl, h1, hml, hwi⟩, hB4⟩))
        have hreach : hasK l (k : Int) ↔ CycR f (k : Int) := hwi.reach (k : Int)
        have hKY : KeyK Tryz.prog 3 (fun x : Int => Value.int .i64 x) := keyInt Tryz.underlying3
        have hlk := hml.lookup Tryz.underlying90 hKY (z := .int .i64 0) (fun _ => by kernel_rfl) (k : Int) true
        simp only [if_true] at hlk
        have hB4w := bstep hB (bstep hB3 hB4)
        cases hsome : (mget l (k : Int)).isSome
        · have hnc := Lib.hid (show ¬ CycR f (k : Int) from fun h => by have := hreach.2 h; unfold hasK at this; rw [hsome] at this; cases this)
          rw [hsome] at hlk
          clear hsome hreach hrk hrl
          go_wp2
          go_roundw
          case rel =>
            refine ⟨k + 1, by omega, by go_num, fun b hb hr => ?_, hB4w⟩
            by_cases e : b = k
            · subst e; exact hnc.out
            · exact hnoh.out b (by omega) hr
          case measure => simp [intOf]; omega
        · have hkk : hasK l (k : Int) := hsome
          rw [hsome] at hlk
          have hBk := graph_back bm l ρ N f.blocks.length (knotNx f (k : Int)) (knotNx f) (k : Int) w4 hml hwi.toWalkB hkk hle
          clear hsome hreach hrk hrl
          go_upto_region 11 with (go_at_call 56; refine hBk.mono ?_; rintro e w5 ⟨⟨vp, p, rfl, hown, hPT⟩, hB5⟩)
          clear hlk hBk
          have hpl : 0 < p.length := by
            obtain ⟨y, hy, -⟩ := hPT.first
            exact (List.getElem?_eq_some_iff.1 hy).1
          have hpn := nodup_range hPT.nodup hPT.range
          have hpw : IntKind.i64.wrap ((p.length : Int) - 1) = ((p.length - 1 : Nat) : Int) := by rw [show (p.length : Int) - 1 = ((p.length - 1 : Nat) : Int) by omega]; exact IntWalk.i64_in _ (by omega)
          obtain ⟨g, cap, rfl, hcap, hg1, hg2, -⟩ := hown.form hpl
          have hnews : ∀ j y, p.dropLast[j]? = some y → (w5.alloc (.cells #[.int .i64 (k : Int)] 3)).cell? ((⟨g, 0, none⟩ : Addr).add j) = some (.int .i64 y) := by
            intro j y hj
            have hjl := (List.getElem?_eq_some_iff.1 hj).1
            rw [List.length_dropLast] at hjl
            have hj2 : p[j]? = some y := by rw [List.dropLast_eq_take, List.getElem?_take] at hj; rw [if_pos hjl] at hj; exact hj
            exact (hown.al (.cells #[.int .i64 (k : Int)] 3)).news.2 j y hj2
          have hB5w := bstep hB4w hB5
          have hm0 : (0 : Int) ≤ ((p.length - 1 : Nat) : Int) := by omega
          have hm1 : ((p.length - 1 : Nat) : Int) ≤ (cap : Int) := by omega
          have hm2 : p.length - 1 ≤ cap := by omega
          go_wp2_with (at_builtin; go_loud (refine wpL_appI rfl _ _ rfl w5.heap.size _ [(k : Int)] p.dropLast rfl (OwnI.snoc_lit w5 k) ⟨g, 0, none⟩ (p.length - 1) cap rfl (by simp) hnews ?hlen ?hsz ?_); go_loud (case hlen => simp; omega); go_loud (case hsz => simp); intro v6 w6 hown6 hg6 _)
          have hB56 : Below w5.heap.size w5 w6 := ((Below.refl _ _).alloc (Nat.le_refl _) _).grown hg6 (by simp) (fun j hj => by have : w5.heap.size = j := Option.some.inj hj; omega)
          have hz5 := hB5w.size
          have hz2 := hBw.size
          obtain ⟨g6, cap6, rfl, -, -⟩ := hown6.form (by simp)
          have hlen6 : ([(k : Int)] ++ p.dropLast).length = p.length := by simp; omega
          rw [hlen6] at hown6
          go_wp2_with fail
          go_ret
          refine ⟨.inr ⟨k, p, ⟨g6, 0, none⟩, cap6, hkl, hrvh.out, hPT, (by rw [← hlen6]; rfl), ?_⟩, bstep hBw (bstep hB5w hB56)⟩
          refine (hown6.lower (show w.heap.size ≤ w5.heap.size by omega)).read (fun y hy => ?_) (by rw [hlen6]; unfold maxN; omega)
          rcases List.mem_append.1 hy with h9 | h9
          · simp at h9; unfold I64; omega
          · have := hPT.range y (List.dropLast_subset _ h9); unfold I64; omega
    · obtain rfl : k = f.blocks.length := by omega
      have hkn : ¬ (f.blocks.length : Int) < f.blocks.length := by omega
      clear hkl
      go_wp2
      go_ret
      exact ⟨.inl ⟨rfl, hnoh.out⟩, bstep hBw hB⟩
/-- No block leads back to itself by edges that do not lead back to a head. -/
def NoCyc (f : FlowD) : Prop := ∀ b : Nat, b < f.blocks.length → f.reached.getD b false = true → ¬ CycR f b
noncomputable def redB (f : FlowD) : Bool := dcd (NoCyc f)
noncomputable def redV (c : CodeD) : Bool := if checkedE c = 0 then redB (theFlow c) else false
noncomputable def ktE (c : CodeD) : Int := if checkedE c = 0 then (if redB (theFlow c) = true then 5 else 0) else checkedE c
/-- A knot, or an error. -/
def KtRes (H : PH) (w w' : World) (c : CodeD) (e : Ending) : Prop := ∃ u xs, e = .returned (.tuple #[u, .int .i64 (ktE c)]) ∧ SlV rInt (extH H w w') u xs ∧ (ktE c ≠ 0 → xs = []) ∧
  (ktE c = 0 → ∃ (b : Nat) (p : List Int), b < (theFlow c).blocks.length ∧ (theFlow c).reached.getD b false = true ∧ PathTo (theFlow c).blocks.length (knotNx (theFlow c) b) (knotNx (theFlow c)) p b ∧ xs = (b : Int) :: p.dropLast)
theorem knot_red {f : FlowD} {b : Nat} {p : List Int} (hb : b < f.blocks.length) (hr : f.reached.getD b false = true) (hp : PathTo f.blocks.length (knotNx f b) (knotNx f) p b) : redB f = false := by
  cases h : redB f
  · rfl
  · exfalso
    refine dcd_iff.1 h b hb hr ?_
    have key : ∀ (i : Nat) (a : Int), p[i]? = some a → Reach (· ∈ knotNx f b) (fun a y => y ∈ knotNx f a) a := by
      intro i
      induction i with
      | zero =>
        intro a ha
        obtain ⟨y, h1, h2⟩ := hp.first
        rw [ha] at h1
        injection h1 with h1
        subst h1
        exact .start h2
      | succ i ih =>
        intro a ha
        have hl := (List.getElem?_eq_some_iff.1 ha).1
        have h3 : p[i]? = some (p[i]'(by omega)) := List.getElem?_eq_getElem (by omega)
        exact .step (ih _ h3) (hp.step i _ _ h3 ha)
    have hl := hp.last
    rw [List.getLast?_eq_getElem?] at hl
    exact key _ _ hl
theorem eql_some (ad : Addr) (n cap : Nat) (w : World) : (binOp BinOp.eql 28 (.slice (some ad) n cap) (.slice none 0 0)).run Tryz.prog w = .ok (.bool false) w := by kernel_rfl
theorem eql_none (w : World) : (binOp BinOp.eql 28 (.slice none 0 0) (.slice none 0 0)).run Tryz.prog w = .ok (.bool true) w := by kernel_rfl
section
variable (H : PH) (v : Value) (c : CodeD) (w : World)
set_option maxHeartbeats 2000000 in
set_option maxRecDepth 100000 in
theorem graph_Reducible (hw : Sees w H) (hc : CodeV H v c) :
    Calls Tryz.prog 38 #[v] w fun e w' => e = .returned (.tuple #[.bool (redV c), .int .i64 (checkedE c)]) ∧ Below w.heap.size w w' := by
  have hc0 := hc
  obtain ⟨s0, s1, s2, s3, s4, s5, s6, rfl, hc⟩ := hc
  have hB0 : Below w.heap.size w (w.alloc (.cells #[s0, s1, s2, s3, s4, s5, s6] 30)) := (Below.refl _ _).alloc (Nat.le_refl _) _
  by_cases hE : checkedE c = 0
  · have hC := graph_checked_ok H _ c _ (hw.below hB0) hc0 hE
    have hok := lpOk hE
    have hv : redV c = redB (theFlow c) := by unfold redV; rw [if_pos hE]
    rw [hv, hE]
    unfold FlowErr at hC
    generalize theFlow c = f at *
    have hred : ∀ {b : Nat} {p : List Int}, b < f.blocks.length → f.reached.getD b false = true → PathTo f.blocks.length (knotNx f b) (knotNx f) p b → redB f = false := fun h1 h2 h3 => knot_red h1 h2 h3
    have hredh := Lib.hid (And.intro @hred (show NoCyc f → redB f = true from fun h => dcd_iff.2 h))
    have hKn := Lib.hid (fun (w1 : World) (v1 : Value) (hs : Sees w1 (extH H (w.alloc (.cells #[s0, s1, s2, s3, s4, s5, s6] 30)) w1)) (hf : FlowV (extH H (w.alloc (.cells #[s0, s1, s2, s3, s4, s5, s6] 30)) w1) v1 f) => flow_knot _ v1 f w1 hs hf hok.two)
    clear hE hc0 hc hv hok hred
    cases hB : redB f
    · have hcl := Lib.hid (fun (w1 w2 : World) (e : Ending) (h : KnR (extH H (w.alloc (.cells #[s0, s1, s2, s3, s4, s5, s6] 30)) w1) w1 w2 f e) => (show ∃ ad n cap, e = .returned (.slice (some ad) n cap) from by
        rcases h with ⟨-, h9⟩ | ⟨b, p, ad, cap, -, -, -, h9, -⟩
        · have := hredh.out.2 h9
          rw [hB] at this; cases this
        · exact ⟨ad, _, cap, h9⟩))
      clear hB hredh
      go_enter Tryz.func38, Tryz.ntmps38
      go_wp2_with (first
        | (go_at_call 43; refine hC.mono ?_; rintro e w1 ⟨⟨v1, rfl, hfv⟩, hB1⟩)
        | (go_at_call 84; refine (hKn.out w1 v1 (extH.sees (hw.below hB0) hB1) hfv).mono ?_; rintro e w2 ⟨hkr, hB2⟩; obtain ⟨ad, n, cap, rfl⟩ := hcl.out _ _ _ hkr; have hel := eql_some))
      go_ret2
      exact ⟨rfl, bstep (bstep hB0 hB1) hB2⟩
    · have hcl := Lib.hid (fun (w1 w2 : World) (e : Ending) (h : KnR (extH H (w.alloc (.cells #[s0, s1, s2, s3, s4, s5, s6] 30)) w1) w1 w2 f e) => (show e = .returned (.slice none 0 0) from by
        rcases h with ⟨h9, -⟩ | ⟨b, p, ad, cap, k1, k2, k3, -, -⟩
        · exact h9
        · have := hredh.out.1 k1 k2 k3
          rw [hB] at this; cases this))
      clear hB hredh
      go_enter Tryz.func38, Tryz.ntmps38
      go_wp2_with (first
        | (go_at_call 43; refine hC.mono ?_; rintro e w1 ⟨⟨v1, rfl, hfv⟩, hB1⟩)
        | (go_at_call 84; refine (hKn.out w1 v1 (extH.sees (hw.below hB0) hB1) hfv).mono ?_; rintro e w2 ⟨hkr, hB2⟩; obtain rfl := hcl.out _ _ _ hkr; have hel := eql_none))
      go_ret2
      exact ⟨rfl, bstep (bstep hB0 hB1) hB2⟩
  · have hC := graph_checked_no H _ c _ (hw.below hB0) hc0 hE
    have hne : (checkedE c != 0) = true := by simpa using hE
    have hv : redV c = false := by unfold redV; rw [if_neg hE]
    rw [hv]
    generalize checkedE c = E at *
    clear hE hc0 hc
    go_enter Tryz.func38, Tryz.ntmps38
    go_wp2_with (go_at_call 43; refine hC.mono ?_; rintro e w1 ⟨rfl, hB1⟩)
    go_ret2
    exact ⟨rfl, bstep hB0 hB1⟩
set_option maxHeartbeats 2000000 in
set_option maxRecDepth 100000 in
theorem graph_Knot (hw : Sees w H) (hc : CodeV H v c) :
    Calls Tryz.prog 40 #[v] w fun e w' => KtRes H w w' c e ∧ Below w.heap.size w w' := by
  have hc0 := hc
  obtain ⟨s0, s1, s2, s3, s4, s5, s6, rfl, hc⟩ := hc
  obtain ⟨W0, hW0⟩ : ∃ W0, W0 = w.alloc (.cells #[s0, s1, s2, s3, s4, s5, s6] 30) := ⟨_, rfl⟩
  have hB0 : Below w.heap.size w W0 := by rw [hW0]; exact (Below.refl _ _).alloc (Nat.le_refl _) _
  by_cases hE : checkedE c = 0
  · have hC := graph_checked_ok H _ c _ (hw.below hB0) hc0 hE
    have hok := lpOk hE
    unfold KtRes ktE
    rw [if_pos hE]
    unfold FlowErr at hC
    generalize theFlow c = f at *
    have hred : ∀ {b : Nat} {p : List Int}, b < f.blocks.length → f.reached.getD b false = true → PathTo f.blocks.length (knotNx f b) (knotNx f) p b → redB f = false := fun h1 h2 h3 => knot_red h1 h2 h3
    have hredh := Lib.hid (And.intro @hred (show NoCyc f → redB f = true from fun h => dcd_iff.2 h))
    have hKn := Lib.hid (fun (w1 : World) (v1 : Value) (hs : Sees w1 (extH H W0 w1)) (hf : FlowV (extH H W0 w1) v1 f) => flow_knot _ v1 f w1 hs hf hok.two)
    clear hE hc0 hc hok hred
    cases hB : redB f
    · simp only [Bool.false_eq_true, if_false]
      have hcl := Lib.hid (fun (w1 w2 : World) (e : Ending) (h : KnR (extH H W0 w1) w1 w2 f e) => (show ∃ (b : Nat) (p : List Int) (ad : Addr) (cap : Nat), e = .returned (.slice (some ad) p.length cap) ∧ SlV rInt (extH (extH H W0 w1) w1 w2) (.slice (some ad) p.length cap) ((b : Int) :: p.dropLast) ∧ b < f.blocks.length ∧ f.reached.getD b false = true ∧ PathTo f.blocks.length (knotNx f b) (knotNx f) p b from by
        rcases h with ⟨-, h9⟩ | ⟨b, p, ad, cap, k1, k2, k3, h9, h8⟩
        · have := hredh.out.2 h9
          rw [hB] at this; cases this
        · exact ⟨b, p, ad, cap, h9, h8, k1, k2, k3⟩))
      clear hB hredh
      go_enter Tryz.func40, Tryz.ntmps40
      go_upto_region 1 with fail
      refine wp_name fun w0 hw0 => ?_
      rw [← hW0] at hw0
      subst hw0
      have hx0 : w0.heap[w.heap.size]? = some (.cells #[s0, s1, s2, s3, s4, s5, s6] 30 (0, 0)) := by rw [hW0]; exact ga_new w _
      have q := box7 hx0
      have lq := (Array.getElem?_eq_some_iff.1 hx0).1
      clear hW0
      go_wp2_with (first
        | (go_at_call 43; refine hC.mono ?_; rintro e w1 ⟨⟨v1, rfl, hfv⟩, hB1⟩)
        | (go_at_call 84; refine (hKn.out w1 v1 (extH.sees (hw.below hB0) hB1) hfv).mono ?_; rintro e w2 ⟨hkr, hB2⟩; obtain ⟨b, p, ad, cap, rfl, hsl, k1, k2, k3⟩ := hcl.out _ _ _ hkr; have hel := eql_some))
      go_ret2
      refine ⟨⟨_, (b : Int) :: p.dropLast, rfl, hsl.mono (fun i o e => ?_), fun h => absurd rfl h, fun _ => ⟨b, p, k1, k2, k3, rfl⟩⟩, bstep (bstep hB0 hB1) hB2⟩
      unfold extH at e ⊢
      split at e
      · rename_i h9
        split at e
        · have h8 := hw.lt e
          rw [if_pos h8]; exact e
        · rename_i h8
          rw [if_neg (by have := hB0.size; omega), hB2.block i h9]; exact e
      · rename_i h9
        rw [if_neg (by have := hB0.size; have := hB1.size; omega)]; exact e
    · simp only [if_true]
      have hcl := Lib.hid (fun (w1 w2 : World) (e : Ending) (h : KnR (extH H W0 w1) w1 w2 f e) => (show e = .returned (.slice none 0 0) from by
        rcases h with ⟨h9, -⟩ | ⟨b, p, ad, cap, k1, k2, k3, -, -⟩
        · exact h9
        · have := hredh.out.1 k1 k2 k3
          rw [hB] at this; cases this))
      clear hB hredh
      go_enter Tryz.func40, Tryz.ntmps40
      go_upto_region 1 with fail
      refine wp_name fun w0 hw0 => ?_
      rw [← hW0] at hw0
      subst hw0
      have hx0 : w0.heap[w.heap.size]? = some (.cells #[s0, s1, s2, s3, s4, s5, s6] 30 (0, 0)) := by rw [hW0]; exact ga_new w _
      have q := box7 hx0
      have lq := (Array.getElem?_eq_some_iff.1 hx0).1
      clear hW0
      go_wp2_with (first
        | (go_at_call 43; refine hC.mono ?_; rintro e w1 ⟨⟨v1, rfl, hfv⟩, hB1⟩)
        | (go_at_call 84; refine (hKn.out w1 v1 (extH.sees (hw.below hB0) hB1) hfv).mono ?_; rintro e w2 ⟨hkr, hB2⟩; obtain rfl := hcl.out _ _ _ hkr; have hel := eql_none))
      go_ret2
      exact ⟨⟨_, [], rfl, SlV.nil _ _, fun _ => rfl, fun h => absurd h (by decide)⟩, bstep (bstep hB0 hB1) hB2⟩
  · have hC := graph_checked_no H _ c _ (hw.below hB0) hc0 hE
    have hne : (checkedE c != 0) = true := by simpa using hE
    have hv : ktE c = checkedE c := by unfold ktE; rw [if_neg hE]
    unfold KtRes
    rw [hv]
    have hEh := Lib.hid hE
    generalize checkedE c = E at *
    clear hE hc0 hc
    rw [hW0] at hC hB0
    go_enter Tryz.func40, Tryz.ntmps40
    go_wp2_with (go_at_call 43; refine hC.mono ?_; rintro e w1 ⟨rfl, hB1⟩)
    go_ret2
    exact ⟨⟨_, [], rfl, SlV.nil _ _, fun _ => rfl, fun h => absurd h hEh.out⟩, bstep hB0 hB1⟩
end
end Go.Proofs.YtififjlgjmgikaaGreat
