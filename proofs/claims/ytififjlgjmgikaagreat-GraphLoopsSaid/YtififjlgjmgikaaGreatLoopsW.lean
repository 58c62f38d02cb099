/- The reference's IsKnot; GraphLoops, walked (seat .Z). -/
import Derived.Test.YtififjlgjmgikaaGreatRefN
import Derived.Test.YtififjlgjmgikaaGreatChkX
import Derived.Test.YtififjlgjmgikaaGreatKnotM
namespace Go.Proofs.YtififjlgjmgikaaGreat
set_option linter.all false
open Go.RowKit Go.Shelf

/-- What IsKnot asks. -/
structure KnotOk (f : FlowD) (xs : List Int) : Prop where
  path : PathP f xs (xs.getD (xs.length - 1) 0)
  nodup : xs.Nodup
  close : xs.getD 0 0 ∈ nxB f (xs.getD (xs.length - 1) 0)
  all : ∀ i, i < xs.length → ∃ k, k < xs.length ∧ RA f (· = xs.getD i 0) (xs.getD k 0)
theorem knot_ok {c : CodeD} (hf : fineB c = true) {b : Nat} {p : List Int} (hb : b < (theFlow c).blocks.length) (hr : (theFlow c).reached.getD b false = true) (hp : PathTo (theFlow c).blocks.length (knotNx (theFlow c) b) (knotNx (theFlow c)) p b) : KnotOk (theFlow c) ((b : Int) :: p.dropLast) := by
  have h2 := knot_two hf hb hr hp
  have hbr := (reached_iff hf hb).1 hr
  have hlen : ((b : Int) :: p.dropLast).length = p.length := by simp; omega
  obtain ⟨xs, hxs⟩ : ∃ xs, ((b : Int) :: p.dropLast) = xs := ⟨_, rfl⟩
  have h0 : xs.getD 0 0 = (b : Int) := by rw [← hxs]; rfl
  have hsucc : ∀ i, i + 1 < p.length → xs.getD (i + 1) 0 = p.getD i 0 := fun i hi => by
    rw [← hxs, List.getD_cons_succ, List.getD_eq_getElem?_getD, List.getD_eq_getElem?_getD, List.getElem?_dropLast, if_pos (by omega)]
  have hpl : p.getD (p.length - 1) 0 = (b : Int) := by
    have := hp.last
    rw [List.getLast?_eq_getElem?] at this
    rw [List.getD_eq_getElem?_getD, this]
    rfl
  have hp0 : p.getD 0 0 ∈ knotNx (theFlow c) b := by
    obtain ⟨y, hy, hyb⟩ := hp.first
    rw [List.getD_eq_getElem?_getD, hy]
    exact hyb
  have hps : ∀ i, i + 1 < p.length → p.getD (i + 1) 0 ∈ knotNx (theFlow c) (p.getD i 0) := fun i hi => hp.step i _ _ (by rw [List.getD_eq_getElem?_getD, List.getElem?_eq_getElem (by omega)]; rfl) (by rw [List.getD_eq_getElem?_getD, List.getElem?_eq_getElem hi]; rfl)
  rw [hxs] at hlen ⊢
  have hst : ∀ i, i + 1 < xs.length → xs.getD (i + 1) 0 ∈ knotNx (theFlow c) (xs.getD i 0) := by
    intro i hi
    rw [hsucc i (by omega)]
    cases i with
    | zero => rw [h0]; exact hp0
    | succ i => rw [hsucc i (by omega)]; exact hps i (by omega)
  have hcl : xs.getD 0 0 ∈ knotNx (theFlow c) (xs.getD (xs.length - 1) 0) := by
    obtain ⟨m, hm⟩ : ∃ m, p.length = m + 2 := ⟨p.length - 2, by omega⟩
    rw [hlen, hm, show m + 2 - 1 = m + 1 by omega, hsucc m (by omega), h0, ← hpl, hm, show m + 2 - 1 = m + 1 by omega]
    exact hps m (by omega)
  have hra : ∀ i, i < xs.length → RA (theFlow c) (fun _ => False) (xs.getD i 0) := by
    intro i
    induction i with
    | zero => intro _; rw [h0]; exact hbr
    | succ i ih => intro hi; exact (ih (by omega)).more ((knotNx_mem hf).1 (hst i hi)).1 (fun k => k)
  have hmem : ∀ x ∈ xs, RA (theFlow c) (fun _ => False) x := fun x hx => by
    obtain ⟨i, hi, rfl⟩ := List.getElem_of_mem hx
    have := hra i hi
    rwa [List.getD_eq_getElem?_getD, List.getElem?_eq_getElem hi] at this
  have hgm : ∀ i, i < xs.length → xs.getD i 0 ∈ xs := fun i hi => by rw [List.getD_eq_getElem?_getD, List.getElem?_eq_getElem hi]; exact List.getElem_mem _
  refine ⟨⟨by omega, rfl, fun i hi => ?_, fun i hi => ((knotNx_mem hf).1 (hst i hi)).1⟩, ?_, ((knotNx_mem hf).1 hcl).1, fun i hi => ?_⟩
  · obtain ⟨k, hk, hkl⟩ := reach_in hf (hra i hi)
    have hr9 := hra i hi
    rw [hk] at hr9 ⊢
    exact ⟨by omega, by rw [Int.toNat_natCast]; exact (reached_iff hf hkl).2 hr9⟩
  · have hne : p ≠ [] := List.ne_nil_of_length_pos (by omega)
    have hpn := hp.nodup
    have hsp := List.dropLast_concat_getLast hne
    have hgl : p.getLast hne = (b : Int) := by
      have := hp.last
      rw [List.getLast?_eq_some_getLast hne] at this
      exact Option.some.inj this
    rw [← hsp, hgl, List.nodup_append] at hpn
    rw [← hxs, List.nodup_cons]
    exact ⟨fun hm => hpn.2.2 _ hm _ (by simp) rfl, hpn.1⟩
  · have hno : ∀ k, k < xs.length → xs.getD i 0 ∈ knotNx (theFlow c) (xs.getD k 0) → RA (theFlow c) (· = xs.getD i 0) (xs.getD k 0) := fun k hk hx => by
      apply Classical.byContradiction
      intro hn
      exact knot_none hf hmem hx (hgm k hk) ⟨hra k hk, hn⟩
    cases i with
    | zero => exact ⟨xs.length - 1, by omega, hno _ (by omega) hcl⟩
    | succ i => exact ⟨i, by omega, hno i (by omega) (hst i hi)⟩
set_option maxHeartbeats 8000000 in
set_option maxRecDepth 100000 in
theorem r19_IsKnot (H : PH) (v vl : Value) (c : CodeD) (xs : List Int) (w : World) (hw : Sees w H) (hc : CodeV H v c) (hl : SlV rInt H vl xs) (hE : checkedE c = 0) (hk : KnotOk (theFlow c) xs) :
    Calls Tryz.prog 41 #[v, vl] w fun e w' => e = .returned (.bool true) ∧ Below w.heap.size w w' := by
  have hSm := Lib.hid (fun (w1 : World) (hs : Sees w1 H) => r19_Small H _ c w1 hs hc)
  have hf := checked_fine hE
  have hfh := Lib.hid hf
  have hpos := hk.path.pos
  have hll := hl.le
  have hok := Lib.hid hk.path.ok
  have hpb : pathB (theFlow c) xs (xs.getD (xs.length - 1) 0) = true := dcd_iff.2 hk.path
  have hdf : diffB xs = true := decide_eq_true hk.nodup
  have hinb : inB (xs.getD 0 0) (nxB (theFlow c) (xs.getD (xs.length - 1) 0)) = true := decide_eq_true hk.close
  have hall := Lib.hid hk.all
  have hlast := hk.path.ok (xs.length - 1) (by omega)
  have hc0 := hc
  obtain ⟨s0, s1, s2, s3, s4, s5, s6, rfl, hc⟩ := hc
  have hx0 := ga_new w (.cells #[s0, s1, s2, s3, s4, s5, s6] 30)
  have hB0 : Below w.heap.size w (w.alloc (.cells #[s0, s1, s2, s3, s4, s5, s6] 30)) := (Below.refl _ _).alloc (Nat.le_refl _) _
  have hl0 := hl
  obtain ⟨bl, ol, cl, rfl, -, hbl, hlc, -⟩ := hl0.ints hpos
  have hEh := Lib.hid hE
  have hpbh := Lib.hid hpb
  have hinbh := Lib.hid hinb
  have hdfh := Lib.hid hdf
  have hpos' : ((xs.length : Int) == 0) = false := by rw [beq_eq_false_iff_ne]; omega
  have hw1 : IntKind.i64.wrap ((xs.length : Int) - 1) = ((xs.length - 1 : Nat) : Int) := by rw [show (xs.length : Int) - 1 = ((xs.length - 1 : Nat) : Int) by omega]; exact IntWalk.i64_in _ (by omega)
  have hm0 : (0 : Int) ≤ ((xs.length - 1 : Nat) : Int) := by omega
  have hm1 : ((xs.length - 1 : Nat) : Int) < xs.length := by omega
  have hx0 : (0 : Int) < xs.length := by omega
  obtain ⟨z, hz⟩ : ∃ z : Nat, xs.getD (xs.length - 1) 0 = (z : Int) := ⟨(xs.getD (xs.length - 1) 0).toNat, by omega⟩
  obtain ⟨y, hy⟩ : ∃ y, xs.getD 0 0 = y := ⟨_, rfl⟩
  rw [hz] at hlast
  have hzl : z < (theFlow c).blocks.length := by omega
  have hz0 : (0 : Int) ≤ z := by omega
  have hz1 : (z : Int) < (theFlow c).blocks.length := by omega
  rw [hz] at hpbh
  rw [hy, hz] at hinbh
  have hlch := Lib.hid (fun (w1 : World) (hs : Sees w1 H) => And.intro ((hlc w1 hs (xs.length - 1) (by omega)).trans (by rw [hz])) ((hlc w1 hs 0 hpos).trans (by rw [hy])))
  have hlcA := Lib.hid (fun (w1 : World) (hs : Sees w1 H) => hlc w1 hs)
  clear hc hc0 hE hf hpb hdf hinb hlc hl0 hk hlast hz hy
  go_enter Tryz.func41, Tryz.ntmps41
  go_upto_region 2 with (first
    | (go_at_call 35; refine (hSm.out _ (hw.below hB0)).mono ?_; rintro e w1 ⟨⟨t0, t1, t2, t3, t4, t5, t6, L, E, R, rfl, hone, ho3, hrd⟩, hB1⟩; go_must (rw [hEh.out]); have hBa := bstep hB0 hB1; have hsa := extH.sees (hw.below hB0) hB1; have hrdh := Lib.hid hrd; clear hrd)
    | (with_reducible refine wpL_storeG rfl _ _ rfl w1.heap.size t0 t1 t2 t3 t4 t5 t6 L E R _ rfl rfl (ga_new w1 (.cells zeroG 65)) rfl hone ho3 ?_; intro w2 hb2 hg2 hz2; rw [World.size_alloc] at hz2; have hB12 : Below w1.heap.size w1 w2 := (((Below.refl _ _).alloc (Nat.le_refl _) _).grown hg2 (by simp) fun k hk => by injection hk with hk; omega); replace hBa := bstep hBa hB12))
  obtain ⟨hL, hEe, hR⟩ := hrdh.out hfh.out
  have hle := extH.step (H := H) (w := w.alloc (.cells #[s0, s1, s2, s3, s4, s5, s6] 30)) hB12
  have hG := grB_of hfh.out (extH.new (by have := hB0.size; have := hB1.size; omega) hb2) (hL.mono hle) (hEe.mono hle) (hR.mono hle)
  have hs2 := extH.sees (hw.below hB0) (bstep hB1 hB12)
  have hHK := extH.le (hw.below hB0) w2
  have hlK := hl.mono hHK
  have hbk := extH.new (H := H) (w := w.alloc (.cells #[s0, s1, s2, s3, s4, s5, s6] 30)) (by have := hB0.size; have := hB1.size; omega) hb2
  have hBw2 := hBa
  clear hL hEe hR hle hrdh hfh hSm hEh hB1 hB12 hb2 hg2 hz2 hBa hone ho3 hl hx0 hB0
  generalize extH H (w.alloc (.cells #[s0, s1, s2, s3, s4, s5, s6] 30)) w2 = K at *
  obtain ⟨bg, hbg⟩ : ∃ bg, w1.heap.size = bg := ⟨_, rfl⟩
  rw [hbg] at hG hbk ⊢
  clear hbg
  generalize theFlow c = f at *
  have hGh := Lib.hid hG
  have hL := hG.blocks
  obtain ⟨bL, oL, cL, rfl, -, hbL, hrow, -⟩ := hL.blocks (by omega)
  obtain ⟨un, hun, huc⟩ := hrow z hzl
  rw [show (f.blocks.getD z default).next = nxB f (z : Int) from rfl] at hun
  have hPa := Lib.hid (fun (w9 : World) (hs : Sees w9 K) => r19_path K bg _ E R _ f xs z w9 hs hG hlK)
  have hDi := Lib.hid (fun (w9 : World) (hs : Sees w9 K) => r19_different K _ xs w9 hs hlK)
  have hIn := Lib.hid (fun (w9 : World) (hs : Sees w9 K) => r19_in K y _ (nxB f (z : Int)) w9 hs hun)
  have hSp := Lib.hid (fun (x : Int) (w9 : World) (hs : Sees w9 K) => r19_spread K bg _ E R f x w9 hs hG)
  have hcs := Lib.hid (fun (w' : World) (hs : Sees w' K) => And.intro ((hlch.out w' (fun i o e => hs i o (hHK i o e))).1) (And.intro (((hlch.out w' (fun i o e => hs i o (hHK i o e))).2)) (And.intro (hs.lt' (fun e => hbl (by cases h9 : H bl with | none => rfl | some o => rw [hHK _ _ h9] at e; cases e))) (And.intro (box10 (hs _ _ hbk)).2.2.2.2.2.2.2.1 (And.intro (hs.lt hbk) (And.intro (huc w' hs).2.2 (hs.lt' hbL)))))))
  simp only [Nat.add_zero] at hcs
  have hlcK := Lib.hid (fun (w' : World) (hs : Sees w' K) => And.intro (hlcA.out w' (fun i o e => hs i o (hHK i o e))) (hs.lt' (fun e => hbl (by cases h9 : H bl with | none => rfl | some o => rw [hHK _ _ h9] at e; cases e))))
  clear hG hL hrow huc hun hlK hbk hlch hlcA
  go_upto_region 2 with fail
  refine wp_region_plan (fun w' => Sees w' K ∧ Below w.heap.size w w') [(0, true), (1, true), (2, true), (3, true), (4, true), (5, true), (6, true), (7, true), (8, true), (9, true), (10, true), (11, true), (12, true), (13, true), (14, true), (15, false), (16, true), (17, true), (18, true), (19, true), (20, false), (21, true), (22, true), (23, true), (24, true), (25, true), (26, true), (27, true), (28, true), (29, true), (30, true), (31, true), (32, true), (33, true), (34, true), (35, true), (36, true), (37, true), (38, false), (39, true), (40, true)] (by kernel_rfl) (by kernel_rfl) (by kernel_rfl) ⟨hp_sees hs2, hp_drew hBw2⟩ ?_
  repeat first
    | (refine plan_skip rfl (by rfl) ?_; simp only [Act.put, List.setIfInBounds_toArray, List.set_cons_zero, List.set_cons_succ])
    | (refine plan_read (v := ?_) rfl (by rfl) ?_ ?_; rotate_left; (focus (intro w' hSw; obtain ⟨r1, r2, r3, r4, r5, r6, r7⟩ := hcs.out _ hSw.1; clear hSw; go_simp; all_goals with_reducible rfl)); simp only [Act.put, List.setIfInBounds_toArray, List.set_cons_zero, List.set_cons_succ])
  refine plan_step rfl (by kernel_rfl) (fun K' hK' => ?_)
  go_simp
  refine (hPa.out _ (hp_sees hs2)).mono ?_
  rintro e w3 ⟨rfl, hB3⟩
  rw [hpbh.out]
  have hs3 := (hp_sees hs2).below hB3
  have hBw3 := bstep (hp_drew hBw2) hB3
  refine hK'.out _ _ ⟨hs3, hBw3⟩ ?_
  clear hK' K'
  repeat first
    | (refine plan_skip rfl (by rfl) ?_; simp only [Act.put, List.setIfInBounds_toArray, List.set_cons_zero, List.set_cons_succ])
    | (refine plan_read (v := ?_) rfl (by rfl) ?_ ?_; rotate_left; (focus (intro w' hSw; obtain ⟨r1, r2, r3, r4, r5, r6, r7⟩ := hcs.out _ hSw.1; clear hSw; go_simp; all_goals with_reducible rfl)); simp only [Act.put, List.setIfInBounds_toArray, List.set_cons_zero, List.set_cons_succ])
  refine plan_step rfl (by kernel_rfl) (fun K' hK' => ?_)
  go_simp
  refine (hDi.out _ hs3).mono ?_
  rintro e w4 ⟨rfl, hB4⟩
  rw [hdfh.out]
  have hs4 := hs3.below hB4
  have hBw4 := bstep hBw3 hB4
  refine hK'.out _ _ ⟨hs4, hBw4⟩ ?_
  clear hK' K'
  repeat first
    | (refine plan_skip rfl (by rfl) ?_; simp only [Act.put, List.setIfInBounds_toArray, List.set_cons_zero, List.set_cons_succ])
    | (refine plan_read (v := ?_) rfl (by rfl) ?_ ?_; rotate_left; (focus (intro w' hSw; obtain ⟨r1, r2, r3, r4, r5, r6, r7⟩ := hcs.out _ hSw.1; clear hSw; go_simp; all_goals with_reducible rfl)); simp only [Act.put, List.setIfInBounds_toArray, List.set_cons_zero, List.set_cons_succ])
  refine plan_step rfl (by kernel_rfl) (fun K' hK' => ?_)
  go_simp
  refine (hIn.out _ hs4).mono ?_
  rintro e w5 ⟨rfl, rfl⟩
  rw [hinbh.out]
  refine hK'.out _ _ ⟨hs4, hBw4⟩ ?_
  clear hK' K'
  repeat first
    | (refine plan_skip rfl (by rfl) ?_; simp only [Act.put, List.setIfInBounds_toArray, List.set_cons_zero, List.set_cons_succ])
    | (refine plan_read (v := ?_) rfl (by rfl) ?_ ?_; rotate_left; (focus (intro w' hSw; skip; clear hSw; go_simp; all_goals with_reducible rfl)); simp only [Act.put, List.setIfInBounds_toArray, List.set_cons_zero, List.set_cons_succ])
  refine plan_nil (NoPanic.normal ?_)
  go_wp2
  go_loopw [7] (fun i wr => ∃ k : Nat, k ≤ xs.length ∧ i = .int .i64 k ∧ Sees wr K ∧ Below w.heap.size w wr) (fun i _ => xs.length - (intOf i).toNat)
  case atStart => exact ⟨0, Nat.zero_le _, rfl, hs4, hBw4⟩
  clear hs4 hBw4 hs3 hBw3 hB4 hB3 hs2 hBw2
  case round =>
    obtain ⟨k, hk, rfl, hs, hB⟩ := hrel
    by_cases hlt : k < xs.length
    · have hlt' : (k : Int) < xs.length := by omega
      have hk0 : (0 : Int) ≤ k := by omega
      obtain ⟨pA, l1⟩ := hlcK.out wr hs
      have p1 := pA k hlt
      clear pA
      obtain ⟨j0, hj0, hj0r⟩ := hall.out k hlt
      obtain ⟨x, hx⟩ : ∃ x, xs.getD k 0 = x := ⟨_, rfl⟩
      rw [hx] at p1 hj0r
      have hex := Lib.hid (And.intro hj0 hj0r)
      clear hx hj0 hj0r
      go_wp2_with (go_at_call 55; refine (hSp.out x wr hs).mono ?_; rintro e w6 ⟨⟨g, bs, rfl, -, hA, hMk⟩, hB6⟩)
      have hs6 := hs.below hB6
      have hB6w := bstep hB hB6
      have hMh := Lib.hid hMk
      clear p1 l1
      go_loop [9, 10] (fun a i => ∃ (m : Nat) (B : Bool), m ≤ xs.length ∧ i = .int .i64 m ∧ a = .bool B ∧ Aside (B = true → ∀ j, j < m → bs.getD (xs.getD j 0).toNat false = false)) (fun _ i => xs.length - (intOf i).toNat)
      case atStart => exact ⟨0, true, Nat.zero_le _, rfl, rfl, fun _ j h => by omega⟩
      case round =>
        obtain ⟨m, B, hm, rfl, rfl, hI⟩ := hrel
        have hIh := Lib.hid hI
        clear hI
        by_cases hml : m < xs.length
        · have hml' : (m : Int) < xs.length := by omega
          have hm0' : (0 : Int) ≤ m := by omega
          obtain ⟨pA, l1⟩ := hlcK.out w6 hs6
          have p1 := pA m hml
          clear pA
          have hxr := hok.out m hml
          obtain ⟨t, ht⟩ : ∃ t : Nat, xs.getD m 0 = (t : Int) := ⟨(xs.getD m 0).toNat, by omega⟩
          have htl : t < f.blocks.length := by omega
          have ht0 : (0 : Int) ≤ t := by omega
          have ht1 : (t : Int) < f.blocks.length := by omega
          rw [ht] at p1
          have hbl2 := hMh.out.len
          have hac := hA.cell (j := t) (by omega)
          have hAl := hA.lt
          have hst := Lib.hid (show (B && !bs.getD t false) = true → ∀ j, j < m + 1 → bs.getD (xs.getD j 0).toNat false = false from fun h j hj => by
            rw [Bool.and_eq_true] at h
            by_cases e : j = m
            · subst e; rw [ht, Int.toNat_natCast]; simpa using h.2
            · exact hIh.out h.1 j (by omega))
          clear ht hxr
          generalize bs.getD t false = tv at *
          cases B
          · go_wp2
            go_round
            case rel => exact ⟨m + 1, false, by omega, by go_num, rfl, fun h => by cases h⟩
            case measure => simp [intOf]; omega
          · cases tv
            · go_wp2
              go_round
              case rel => exact ⟨m + 1, true, by omega, by go_num, rfl, fun _ => hst.out rfl⟩
              case measure => simp [intOf]; omega
            · go_wp2
              go_round
              case rel => exact ⟨m + 1, false, by omega, by go_num, rfl, fun h => by cases h⟩
              case measure => simp [intOf]; omega
        · obtain rfl : m = xs.length := by omega
          have hmn : ¬ (xs.length : Int) < xs.length := by omega
          have hBf : B = false := Bool.eq_false_iff.2 fun h => by
            obtain ⟨j, hj⟩ : ∃ j, j < xs.length ∧ RA f (· = x) (xs.getD j 0) := ⟨_, hex.out⟩
            have h1 := hIh.out h j hj.1
            have h3 := hok.out j hj.1
            obtain ⟨t, ht⟩ : ∃ t : Nat, xs.getD j 0 = (t : Int) := ⟨(xs.getD j 0).toNat, by omega⟩
            rw [ht] at h1 hj h3
            rw [Int.toNat_natCast, (hMh.out.iff_ t (by omega)).2 hj.2] at h1
            cases h1
          subst hBf
          clear hml
          go_wp2
          go_roundw
          case rel => exact ⟨k + 1, by omega, by go_num, hs6, hB6w⟩
          case measure => simp [intOf]; omega
    · obtain rfl : k = xs.length := by omega
      have hltn : ¬ (xs.length : Int) < xs.length := by omega
      clear hlt
      go_wp2
      go_ret
      exact ⟨rfl, hB⟩
theorem SlV.loops2 {H : PH} {v : Value} {xs : List LoopD} (h : SlV rLoop H v xs) (hne : 0 < xs.length) :
    ∃ b off cap, v = .slice (some ⟨b, off, none⟩) xs.length cap ∧ H b ≠ none ∧
      (∀ i, i < xs.length → ∃ u, SlV rInt H u (xs.getD i default).body ∧ ∀ w, Sees w H → w.cell? ⟨b, off + i * 2, none⟩ = some (.int .i64 (xs.getD i default).head) ∧ w.cell? ⟨b, off + i * 2 + 1, none⟩ = some u) := by
  obtain ⟨b, off, cap, rfl, hc, hb, he⟩ := h.base hne
  refine ⟨b, off, cap, rfl, hb, fun i hi => ?_⟩
  obtain ⟨cs, ⟨u, rfl, _, hu⟩, hcell⟩ := he i xs[i] (by simp [hi])
  refine ⟨u, by simpa [hi] using hu, fun w hw => ?_⟩
  have h0 := hcell w hw 0 _ rfl
  have h1 := hcell w hw 1 _ rfl
  simpa [rLoop, hi] using ⟨h0, h1⟩
set_option maxHeartbeats 8000000 in
set_option maxRecDepth 100000 in
theorem law_Loops (H : PH) (v : Value) (c : CodeD) (w : World) (hw : Sees w H) (hc : CodeV H v c) :
    Calls Tryz.prog 10 #[v] w fun e w' => e = .returned (.bool true) ∧ Below w.heap.size w w' := by
  have hc0 := hc
  obtain ⟨s0, s1, s2, s3, s4, s5, s6, rfl, hc⟩ := hc
  have hx0 := ga_new w (.cells #[s0, s1, s2, s3, s4, s5, s6] 30)
  have hB0 : Below w.heap.size w (w.alloc (.cells #[s0, s1, s2, s3, s4, s5, s6] 30)) := (Below.refl _ _).alloc (Nat.le_refl _) _
  have hA := law_awake (w.alloc (.cells #[s0, s1, s2, s3, s4, s5, s6] 30))
  have hFw := Lib.hid (fun (w1 : World) => law_few H _ c w1 hc0)
  have hGl := Lib.hid (fun (w1 : World) (hs : Sees w1 H) => graph_Loops_rd H _ c w1 hs hc0)
  have hRl := Lib.hid (fun (w1 : World) (hs : Sees w1 H) => r19_Loops H _ c w1 hs hc0)
  have hGr := Lib.hid (fun (w1 : World) (hs : Sees w1 H) => graph_Reducible H _ c w1 hs hc0)
  have hRr := Lib.hid (fun (w1 : World) (hs : Sees w1 H) => r19_Reducible H _ c w1 hs hc0)
  have hGk := Lib.hid (fun (w1 : World) (hs : Sees w1 H) => graph_Knot H _ c w1 hs hc0)
  have hRk := Lib.hid (fun (K : PH) (w1 : World) (vl : Value) (xs : List Int) (hK : PH.le H K) (hs : Sees w1 K) (hl : SlV rInt K vl xs) (hE : checkedE c = 0) (hk : KnotOk (theFlow c) xs) => r19_IsKnot K _ vl c xs w1 hs (hc0.mono hK) hl hE hk)
  have hko := Lib.hid (fun (hE : checkedE c = 0) (b : Nat) (p : List Int) (hb : b < (theFlow c).blocks.length) (hr : (theFlow c).reached.getD b false = true) (hp : PathTo (theFlow c).blocks.length (knotNx (theFlow c) b) (knotNx (theFlow c)) p b) => knot_ok (checked_fine hE) hb hr hp)
  have hke : ktE c = if checkedE c = 0 then (if redV c = true then 5 else 0) else checkedE c := by
    unfold ktE redV
    by_cases hE : checkedE c = 0
    · rw [if_pos hE, if_pos hE, if_pos hE]
    · rw [if_neg hE, if_neg hE]
  have hrv : checkedE c ≠ 0 → redV c = false := fun h => by unfold redV; rw [if_neg h]
  have hll : (lpsL c).length ≤ 20000 := by
    unfold lpsL
    by_cases hE : checkedE c = 0
    · rw [if_pos hE]
      exact Nat.le_trans (loopsTo_len _ _) (flow_le (checked_fine hE))
    · rw [if_neg hE]; simp
  unfold KtRes at hGk
  unfold LpRes at hGl
  unfold LpF at hRl
  obtain ⟨CE, hE⟩ : ∃ CE, checkedE c = CE := ⟨_, rfl⟩
  obtain ⟨KE, hKE⟩ : ∃ KE, ktE c = KE := ⟨_, rfl⟩
  obtain ⟨RB, hRB⟩ : ∃ RB, redV c = RB := ⟨_, rfl⟩
  obtain ⟨lps, hlps⟩ : ∃ lps, lpsL c = lps := ⟨_, rfl⟩
  rw [hE] at hGl hRl hGr hRr hRk hko hke hrv
  rw [hRB] at hGr hRr hke hrv
  rw [hKE] at hGk hke
  rw [hlps] at hGl hRl hll
  have hkeh := Lib.hid hke
  have hrvh := Lib.hid hrv
  clear hE hKE hRB hlps hke hrv hc hc0
  cases hfew : decide (c.instrs.length ≤ 120)
  · have hfh := Lib.hid hfew
    clear hfew
    go_enter Tryz.func10, Tryz.ntmps10
    go_wp2_with (first
      | (go_at_call 11; refine hA.mono ?_; rintro e w1 ⟨rfl, hB1⟩; have hBa := bstep hB0 hB1; have hx1 := blk_keep hB1 hx0; have q := box7 hx1; have hl1 : w.heap.size < w1.heap.size := (Array.getElem?_eq_some_iff.1 hx1).1)
      | (go_at_call 12; refine (hFw.out _).mono ?_; rintro e w2 ⟨rfl, hB2⟩; rw [hfh.out]; replace hBa := bstep hBa hB2; replace hx1 := blk_keep hB2 hx1; clear q; have q := box7 hx1; replace hl1 : w.heap.size < w2.heap.size := (Array.getElem?_eq_some_iff.1 hx1).1))
    go_ret
    exact ⟨rfl, hBa⟩
  · have hfh := Lib.hid hfew
    have tCE : (CE != CE) = false := by simp
    have tCE2 : (CE == CE) = true := by simp
    have tRB : (RB != RB) = false := by simp
    have tl1 : (lps.length != lps.length) = false := by simp
    have tl2 : ((lps.length : Int) != lps.length) = false := by simp
    clear hfew
    go_enter Tryz.func10, Tryz.ntmps10
    go_upto_region 8 with (first
      | (go_at_call 11; refine hA.mono ?_; rintro e w1 ⟨rfl, hB1⟩; have hBa := bstep hB0 hB1; have hx1 := blk_keep hB1 hx0; have q := box7 hx1; have hl1 : w.heap.size < w1.heap.size := (Array.getElem?_eq_some_iff.1 hx1).1)
      | (go_at_call 12; refine (hFw.out _).mono ?_; rintro e w2 ⟨rfl, hB2⟩; rw [hfh.out]; replace hBa := bstep hBa hB2; replace hx1 := blk_keep hB2 hx1; clear q; have q := box7 hx1; replace hl1 : w.heap.size < w2.heap.size := (Array.getElem?_eq_some_iff.1 hx1).1)
      | (go_at_call 36; refine (hGl.out _ (hw.below hBa)).mono ?_; rintro e w3 ⟨⟨u3, rfl, hu3⟩, hB3⟩; have hKa := extH.sees (hw.below hBa) hB3; obtain ⟨A3, c3, rfl, -, -⟩ := hu3.open_; replace hBa := bstep hBa hB3; replace hx1 := blk_keep hB3 hx1; clear q; have q := box7 hx1; replace hl1 : w.heap.size < w3.heap.size := (Array.getElem?_eq_some_iff.1 hx1).1)
      | (go_at_call 37; refine (hRl.out _ (hw.below hBa)).mono ?_; rintro e w4 ⟨⟨u4, rfl, hu4⟩, hB4⟩; obtain ⟨A4, c4, rfl, -, -⟩ := hu4.open_; replace hBa := bstep hBa hB4; replace hx1 := blk_keep hB4 hx1; clear q; have q := box7 hx1; replace hl1 : w.heap.size < w4.heap.size := (Array.getElem?_eq_some_iff.1 hx1).1))
    have hu3K := hu3.mono (show PH.le _ (full w4) from hKa.below hB4)
    have hsK := full.sees w4
    have kC := show full w4 w.heap.size = some (.cells #[s0, s1, s2, s3, s4, s5, s6] 30 (0, 0)) from hx1
    have hBw4 := hBa
    clear hu3 hKa hGl hRl hFw hA hfh hB0 hB1 hB2 hB3 hB4 q hl1 hx0 hBa hx1
    have hHK : PH.le H (full w4) := full.le (hw.below hBw4)
    generalize full w4 = K at *
    go_wp2_with fail
    go_loopw [8] (fun i wr => ∃ k : Nat, k ≤ lps.length ∧ i = .int .i64 k ∧ Sees wr K ∧ Below w.heap.size w wr) (fun i _ => lps.length - (intOf i).toNat)
    case atStart => exact ⟨0, Nat.zero_le _, rfl, hsK, hBw4⟩
    clear hsK hBw4
    case round =>
      obtain ⟨k, hk, rfl, hs, hB⟩ := hrel
      by_cases hlt : k < lps.length
      · have hlt' : (k : Int) < lps.length := by omega
        have hk0 : (0 : Int) ≤ k := by omega
        obtain ⟨b1, o1, c1', e1, hb1, hrow1⟩ := hu3K.loops2 (by omega)
        cases e1
        obtain ⟨b2, o2, c2', e2, hb2, hrow2⟩ := hu4.loops2 (by omega)
        cases e2
        obtain ⟨x1, hx1, hc1⟩ := hrow1 k hlt
        obtain ⟨x2, hx2, hc2⟩ := hrow2 k hlt
        have hcs := Lib.hid (fun (w' : World) (h : Sees w' K) => And.intro (hc1 w' h).1 (And.intro (hc1 w' h).2 (And.intro (h.lt' hb1) (And.intro (hc2 w' h).1 (And.intro (hc2 w' h).2 (h.lt' hb2))))))
        clear hrow1 hrow2 hc1 hc2
        generalize lps.getD k default = x at *
        obtain ⟨xh, xb⟩ := x
        simp only at hx1 hx2 hcs
        have hsame := r14_SameInts K _ _ xb xb wr.drew (hp_sees hs) hx1 hx2
        rw [show sameB xb xb = true from decide_eq_true rfl] at hsame
        have t1 : (xh != xh) = false := by simp
        go_upto_region 11 with fail
        refine wp_region_plan (fun w' => Sees w' K ∧ Below w.heap.size w w') [(0, true), (1, true), (2, true), (3, true), (4, true), (5, true), (6, true), (7, true), (8, true), (9, true), (10, true), (11, true), (12, true), (13, true), (14, true), (15, true), (16, true), (17, true), (18, true), (19, true), (20, true), (21, true), (22, false), (23, true), (24, true)] (by kernel_rfl) (by kernel_rfl) (by kernel_rfl) ⟨hp_sees hs, hp_drew hB⟩ ?_
        repeat first
          | (refine plan_skip rfl (by rfl) ?_; simp only [Act.put, List.setIfInBounds_toArray, List.set_cons_zero, List.set_cons_succ])
          | (refine plan_read (v := ?_) rfl (by rfl) ?_ ?_; rotate_left; (focus (intro w' hSw; obtain ⟨r1, r2, r3, r4, r5, r6⟩ := hcs.out _ hSw.1; clear hSw; go_simp; all_goals with_reducible rfl)); simp only [Act.put, List.setIfInBounds_toArray, List.set_cons_zero, List.set_cons_succ])
        refine plan_step rfl (by kernel_rfl) (fun K' hK' => ?_)
        go_simp
        refine hsame.mono ?_
        rintro e w5 ⟨rfl, hB5⟩
        have hs5 := (hp_sees hs).below hB5
        have hB5w := bstep (hp_drew hB) hB5
        refine hK'.out _ _ ⟨hs5, hB5w⟩ ?_
        clear hK' K'
        repeat first
          | (refine plan_skip rfl (by rfl) ?_; simp only [Act.put, List.setIfInBounds_toArray, List.set_cons_zero, List.set_cons_succ])
          | (refine plan_read (v := ?_) rfl (by rfl) ?_ ?_; rotate_left; (focus (intro w' hSw; skip; clear hSw; go_simp; all_goals with_reducible rfl)); simp only [Act.put, List.setIfInBounds_toArray, List.set_cons_zero, List.set_cons_succ])
        refine plan_nil (NoPanic.normal ?_)
        go_wp2
        go_roundw
        case rel => exact ⟨k + 1, by omega, by go_num, hs5, hB5w⟩
        case measure => simp [intOf]; omega
      · obtain rfl : k = lps.length := by omega
        have hltn : ¬ (lps.length : Int) < lps.length := by omega
        have hBa := hB
        have hx1 := hs _ _ kC
        have q := box7 hx1
        have hl1 := hs.lt kC
        clear hlt hB hs
        by_cases hCE : CE = 0
        · have hkeo := hkeh.out
          rw [if_pos hCE] at hkeo
          subst hCE
          have t0 : ((0 : Int) != 0) = false := by decide
          cases RB
          · rw [if_neg (by simp)] at hkeo
            subst hkeo
            have t9 : ((0 : Int) == 0) = true := by decide
            go_wp2_with (first
              | (go_at_call 38; refine (hGr.out _ (hw.below hBa)).mono ?_; rintro e w6 ⟨rfl, hB6⟩; replace hBa := bstep hBa hB6; replace hx1 := blk_keep hB6 hx1; clear q; have q := box7 hx1; replace hl1 : w.heap.size < w6.heap.size := (Array.getElem?_eq_some_iff.1 hx1).1)
              | (go_at_call 39; refine (hRr.out _ (hw.below hBa)).mono ?_; rintro e w7 ⟨rfl, hB7⟩; replace hBa := bstep hBa hB7; replace hx1 := blk_keep hB7 hx1; clear q; have q := box7 hx1; replace hl1 : w.heap.size < w7.heap.size := (Array.getElem?_eq_some_iff.1 hx1).1)
              | (go_at_call 40; refine (hGk.out _ (hw.below hBa)).mono ?_; rintro e w8 ⟨⟨u8, xs8, rfl, hu8, -, hk8⟩, hB8⟩; go_loud (obtain ⟨b8, p8, k1, k2, k3, rfl⟩ := hk8 (by first | rfl | trivial)); go_loud (have hKo := hko.out (by first | rfl | trivial) b8 p8 k1 k2 k3); have hs8 := extH.sees (hw.below hBa) hB8; have hH8 := extH.le (hw.below hBa) w8; go_loud (have hIk := hRk.out _ w8 _ _ hH8 hs8 hu8 (by first | rfl | trivial) hKo); clear k1 k2 k3 hk8 hu8; replace hBa := bstep hBa hB8; replace hx1 := blk_keep hB8 hx1; clear q; have q := box7 hx1; replace hl1 : w.heap.size < w8.heap.size := (Array.getElem?_eq_some_iff.1 hx1).1)
              | (go_at_call 41; refine hIk.mono ?_; rintro e w9 ⟨rfl, hB9⟩; replace hBa := bstep hBa hB9))
            go_ret
            exact ⟨rfl, hBa⟩
          · rw [if_pos rfl] at hkeo
            subst hkeo
            have t9 : ((5 : Int) == 5) = true := by decide
            go_wp2_with (first
              | (go_at_call 38; refine (hGr.out _ (hw.below hBa)).mono ?_; rintro e w6 ⟨rfl, hB6⟩; replace hBa := bstep hBa hB6; replace hx1 := blk_keep hB6 hx1; clear q; have q := box7 hx1; replace hl1 : w.heap.size < w6.heap.size := (Array.getElem?_eq_some_iff.1 hx1).1)
              | (go_at_call 39; refine (hRr.out _ (hw.below hBa)).mono ?_; rintro e w7 ⟨rfl, hB7⟩; replace hBa := bstep hBa hB7; replace hx1 := blk_keep hB7 hx1; clear q; have q := box7 hx1; replace hl1 : w.heap.size < w7.heap.size := (Array.getElem?_eq_some_iff.1 hx1).1)
              | (go_at_call 40; refine (hGk.out _ (hw.below hBa)).mono ?_; rintro e w8 ⟨⟨u8, xs8, rfl, hu8, hx8, -⟩, hB8⟩; obtain rfl := hx8 (by decide); obtain ⟨A8, c8, rfl, -, -⟩ := hu8.open_; clear hu8 hx8; replace hBa := bstep hBa hB8; replace hx1 := blk_keep hB8 hx1; clear q; have q := box7 hx1; replace hl1 : w.heap.size < w8.heap.size := (Array.getElem?_eq_some_iff.1 hx1).1))
            go_ret
            exact ⟨rfl, hBa⟩
        · have hkeo := hkeh.out
          rw [if_neg hCE] at hkeo
          subst hkeo
          have t0 : (KE != 0) = true := by simpa using hCE
          have hCEh := Lib.hid hCE
          clear hCE
          go_wp2_with (first
            | (go_at_call 38; refine (hGr.out _ (hw.below hBa)).mono ?_; rintro e w6 ⟨rfl, hB6⟩; replace hBa := bstep hBa hB6; replace hx1 := blk_keep hB6 hx1; clear q; have q := box7 hx1; replace hl1 : w.heap.size < w6.heap.size := (Array.getElem?_eq_some_iff.1 hx1).1)
            | (go_at_call 39; refine (hRr.out _ (hw.below hBa)).mono ?_; rintro e w7 ⟨rfl, hB7⟩; replace hBa := bstep hBa hB7; replace hx1 := blk_keep hB7 hx1; clear q; have q := box7 hx1; replace hl1 : w.heap.size < w7.heap.size := (Array.getElem?_eq_some_iff.1 hx1).1)
            | (go_at_call 40; refine (hGk.out _ (hw.below hBa)).mono ?_; rintro e w8 ⟨⟨u8, xs8, rfl, hu8, hx8, -⟩, hB8⟩; obtain rfl := hx8 hCEh.out; obtain ⟨A8, c8, rfl, -, -⟩ := hu8.open_; clear hu8 hx8; replace hBa := bstep hBa hB8; replace hx1 := blk_keep hB8 hx1; clear q; have q := box7 hx1; replace hl1 : w.heap.size < w8.heap.size := (Array.getElem?_eq_some_iff.1 hx1).1))
          go_ret
          exact ⟨rfl, hBa⟩
end Go.Proofs.YtififjlgjmgikaaGreat
