/- graph.Reason's two closures; the reference's isFact. graph.Reason. graph.Reason at a fact and a place. -/
import Derived.Test.YtififjlgjmgikaaGreatLive2
import Derived.Test.YtififjlgjmgikaaGreatAvoid
import Derived.Test.YtififjlgjmgikaaGreatPlan
import Derived.Test.YtififjlgjmgikaaGreatDiff
namespace Go.Proofs.YtififjlgjmgikaaGreat
set_option linter.all false
open Go.RowKit

/-- A shift and a mask ask for one fact. -/
theorem bit_and (s : Int) (f : Nat) (hs : FS s) : bits .and .i64 (s / 2 ^ f) 1 = if fb s f = true then 1 else 0 := by
  obtain ⟨a, rfl, ha⟩ := fs_nat hs
  have h1 : ((a : Int) / 2 ^ f) = ((a / 2 ^ f : Nat) : Int) := by
    rw [Int.natCast_ediv]; simp
  have h2 : a / 2 ^ f < 2 ^ 60 := Nat.lt_of_le_of_lt (Nat.div_le_self _ _) ha
  rw [h1]
  show IntKind.i64.wrap ((BitVec.ofInt 64 ((a / 2 ^ f : Nat) : Int) &&& BitVec.ofInt 64 ((1 : Nat) : Int)).toNat : Int) = _
  rw [ofInt64 _ h2, ofInt64 1 (by decide), BitVec.toNat_and, ofNat64 _ h2, ofNat64 1 (by decide), Nat.and_one_is_mod]
  unfold fb
  rw [Int.toNat_natCast, Nat.testBit_eq_decide_div_mod_eq]
  have h3 : a / 2 ^ f % 2 < 2 := Nat.mod_lt _ (by decide)
  rw [wrap_i64_small _ (by omega) (by omega)]
  by_cases h : a / 2 ^ f % 2 = 1
  · simp [h]
  · simp only [h, decide_false, Bool.false_eq_true, if_false]; omega
theorem bit_is (s : Int) (f : Nat) (hs : FS s) : (bits .and .i64 (s / 2 ^ f) 1 == 1) = fb s f := by
  rw [bit_and s f hs]
  cases fb s f <;> rfl
theorem reason_1 (H : PH) (bf f : Nat) (s : Int) (w : World) (hw : Sees w H) (hb : BoxI H bf f) (hs : FS s) (hf : f < 60) :
    Calls Tryz.prog 66 #[.int .i64 s, .pointer (some ⟨bf, 0, none⟩)] w fun e w' => e = .returned (.bool (fb s f)) ∧ w = w' := by
  have hbx := hw bf _ hb
  have q := cell_blk hbx 0
  simp only [List.getElem?_toArray, List.getElem?_cons_zero] at q
  have hbl := hw.lt hb
  rw [← bit_is s f hs]
  clear hs
  go_enter Tryz.func66, Tryz.ntmps66
  go_wp2
  go_ret
  exact ⟨rfl, rfl⟩
/-- Where Reason's walk goes on to. -/
def rsN (c : CodeD) (us ds : List Int) (f : Nat) (x : Int) : List Int := if (fb (us.getD x.toNat 0) f || fb (ds.getD x.toNat 0) f) = true then [] else nextL c x.toNat
theorem rsN_mem {c : CodeD} {us ds : List Int} {f : Nat} {a b : Int} : b ∈ rsN c us ds f a ↔ fb (us.getD a.toNat 0) f = false ∧ fb (ds.getD a.toNat 0) f = false ∧ b ∈ nextL c a.toNat := by
  unfold rsN
  cases fb (us.getD a.toNat 0) f <;> cases fb (ds.getD a.toNat 0) f <;> simp
def hasV (bf : Nat) : Value := .func (.func 66) #[] #[.pointer (some ⟨bf, 0, none⟩)]
set_option maxHeartbeats 2000000 in
set_option maxRecDepth 100000 in
theorem reason_2 (H : PH) (bh bu bd bn bf f : Nat) (vu vd vn : Value) (c : CodeD) (us ds : List Int) (x : Int) (w : World) (hw : Sees w H) (hF : fineB c = true) (hh : H bh = some (.cells #[hasV bf] 102 (0, 0))) (hbf : BoxI H bf f)
    (hbu : H bu = some (.cells #[vu] 28 (0, 0))) (hu : SlV rInt H vu us) (hbd : H bd = some (.cells #[vd] 28 (0, 0))) (hd : SlV rInt H vd ds)
    (hbn : H bn = some (.cells #[vn] 25 (0, 0))) (hn : SlV (rSl rInt) H vn (nextsL c)) (hul : us.length = c.instrs.length) (hdl : ds.length = c.instrs.length)
    (hufs : ∀ p, p < c.instrs.length → FS (us.getD p 0)) (hdfs : ∀ p, p < c.instrs.length → FS (ds.getD p 0)) (hf : f < 60) (hx : 0 ≤ x ∧ x < c.instrs.length) :
    Calls Tryz.prog 68 #[.int .i64 x, .pointer (some ⟨bh, 0, none⟩), .pointer (some ⟨bu, 0, none⟩), .pointer (some ⟨bd, 0, none⟩), .pointer (some ⟨bn, 0, none⟩)] w fun e w' => SlRes H w w' (rsN c us ds f x) e ∧ Below w.heap.size w w' := by
  have hR1 := Lib.hid (fun (w1 : World) (hs : Sees w1 H) (s : Int) (h : FS s) => reason_1 H bf f s w1 hs hbf h hf)
  have hEn : Enters 66 := enters_mk Tryz.func66 (by kernel_rfl) rfl
  unfold Enters at hEn
  obtain ⟨k, rfl⟩ : ∃ k : Nat, x = (k : Int) := ⟨x.toNat, by omega⟩
  have hk : k < c.instrs.length := by omega
  have n1 := (fine_bounds hF).i0
  have n0 := (fine_bounds hF).i1
  have hnl : (nextsL c).length = c.instrs.length := by simp [nextsL]
  obtain ⟨au, ou, cu, rfl, hcu, hau, hucell, -⟩ := hu.ints (by omega)
  obtain ⟨ad, od, cd, rfl, hcd, had, hdcell, -⟩ := hd.ints (by omega)
  obtain ⟨an, on, cn, rfl, hcn, han, hrow⟩ := hn.rows (by omega)
  obtain ⟨u, hur, hncell⟩ := hrow k (by omega)
  rw [show (nextsL c).getD k [] = nextL c k by simp [nextsL, hk]] at hur
  rw [hul, hdl, hnl] at *
  have q1 := cell_blk (hw _ _ hh) 0
  have q2 := cell_blk (hw _ _ hbu) 0
  have q3 := cell_blk (hw _ _ hbd) 0
  have q4 := cell_blk (hw _ _ hbn) 0
  simp only [List.getElem?_toArray, List.getElem?_cons_zero, hasV] at q1 q2 q3 q4
  have q5 := hucell w hw k (by omega)
  have q6 := hdcell w hw k (by omega)
  have q7 := hncell w hw
  have l1 := hw.lt hh
  have l2 := hw.lt hbu
  have l3 := hw.lt hbd
  have l4 := hw.lt hbn
  have l5 := hw.lt' hau
  have l6 := hw.lt' had
  have l7 := hw.lt' han
  have hnx : rsN c us ds f (k : Int) = if (fb (us.getD k 0) f || fb (ds.getD k 0) f) = true then [] else nextL c k := by simp [rsN]
  rw [hnx]
  have hfu := hufs k hk
  have hfd := hdfs k hk
  generalize us.getD k 0 = yu at *
  generalize ds.getD k 0 = yd at *
  have hrh := Lib.hid hur
  have hR1u := Lib.hid (fun (w1 : World) (hs : Sees w1 H) => hR1.out w1 hs yu hfu)
  have hR1d := Lib.hid (fun (w1 : World) (hs : Sees w1 H) => hR1.out w1 hs yd hfd)
  clear hrow hur hucell hdcell hncell hR1 hfu hfd hufs hdfs hu hd hn hnx
  have hcs := Lib.hid (fun (w' : World) (h : w'.heap = w.heap) => And.intro ((cell_heap h _).trans q1) (And.intro ((cell_heap h _).trans q2) (And.intro ((cell_heap h _).trans q3) (And.intro ((cell_heap h _).trans q5) (And.intro ((cell_heap h _).trans q6) (And.intro (size_heap h l1) (And.intro (size_heap h l2) (And.intro (size_heap h l3) (And.intro (size_heap h l5) (size_heap h l6))))))))))
  cases hbu1 : fb yu f
  · cases hbd1 : fb yd f
    · rw [hbu1] at hR1u
      rw [hbd1] at hR1d
      go_enter Tryz.func68, Tryz.ntmps68
      go_upto_region 1 with fail
      refine wp_region_plan (fun w' => w'.heap = w.heap) [(0, true), (1, true), (2, true), (3, true), (4, true), (5, false), (6, true), (7, true), (8, true), (9, true), (10, true), (11, true), (12, false), (13, true)] (by kernel_rfl) (by kernel_rfl) (by kernel_rfl) rfl ?_
      repeat first
        | (refine plan_skip rfl (by rfl) ?_; simp only [Act.put, List.setIfInBounds_toArray, List.set_cons_zero, List.set_cons_succ])
        | (refine plan_read (v := ?_) rfl (by rfl) ?_ ?_; rotate_left; (focus (intro w' hSw; obtain ⟨p1, p2, p3, p4, p5, m1, m2, m3, m4, m5⟩ := hcs.out _ hSw; clear hSw; go_simp; all_goals with_reducible rfl)); simp only [Act.put, List.setIfInBounds_toArray, List.set_cons_zero, List.set_cons_succ])
      refine plan_step rfl (by rfl) (fun K hK => ?_)
      go_simp
      refine (hR1u.out _ (by exact fun i o e => hw i o e)).mono ?_
      rintro e w6 ⟨rfl, rfl⟩
      refine hK.out _ _ rfl ?_
      clear hK K
      repeat first
        | (refine plan_skip rfl (by rfl) ?_; simp only [Act.put, List.setIfInBounds_toArray, List.set_cons_zero, List.set_cons_succ])
        | (refine plan_read (v := ?_) rfl (by rfl) ?_ ?_; rotate_left; (focus (intro w' hSw; obtain ⟨p1, p2, p3, p4, p5, m1, m2, m3, m4, m5⟩ := hcs.out _ hSw; clear hSw; go_simp; all_goals with_reducible rfl)); simp only [Act.put, List.setIfInBounds_toArray, List.set_cons_zero, List.set_cons_succ])
      refine plan_step rfl (by rfl) (fun K hK => ?_)
      go_simp
      refine (hR1d.out _ (by exact fun i o e => hw i o e)).mono ?_
      rintro e w6 ⟨rfl, rfl⟩
      refine hK.out _ _ rfl ?_
      clear hK K
      repeat first
        | (refine plan_skip rfl (by rfl) ?_; simp only [Act.put, List.setIfInBounds_toArray, List.set_cons_zero, List.set_cons_succ])
        | (refine plan_read (v := ?_) rfl (by rfl) ?_ ?_; rotate_left; (focus (intro w' hSw; obtain ⟨p1, p2, p3, p4, p5, m1, m2, m3, m4, m5⟩ := hcs.out _ hSw; clear hSw; go_simp; all_goals with_reducible rfl)); simp only [Act.put, List.setIfInBounds_toArray, List.set_cons_zero, List.set_cons_succ])
      refine plan_nil (NoPanic.normal ?_)
      have q4' := (cell_heap (w' := w.drew) (w := w) rfl _).trans q4
      have q7' := (cell_heap (w' := w.drew) (w := w) rfl _).trans q7
      have l4' := size_heap (w' := w.drew) (w := w) rfl l4
      have l7' := size_heap (w' := w.drew) (w := w) rfl l7
      go_wp2
      go_ret
      exact ⟨⟨_, rfl, by simpa using hrh.out.mono (extH.le hw _)⟩, ⟨rfl, rfl, rfl, Nat.le_refl _, fun _ _ => rfl⟩⟩
    · rw [hbu1] at hR1u
      rw [hbd1] at hR1d
      go_enter Tryz.func68, Tryz.ntmps68
      go_upto_region 1 with fail
      refine wp_region_plan (fun w' => w'.heap = w.heap) [(0, true), (1, true), (2, true), (3, true), (4, true), (5, false), (6, true), (7, true), (8, true), (9, true), (10, true), (11, true), (12, false), (13, true)] (by kernel_rfl) (by kernel_rfl) (by kernel_rfl) rfl ?_
      repeat first
        | (refine plan_skip rfl (by rfl) ?_; simp only [Act.put, List.setIfInBounds_toArray, List.set_cons_zero, List.set_cons_succ])
        | (refine plan_read (v := ?_) rfl (by rfl) ?_ ?_; rotate_left; (focus (intro w' hSw; obtain ⟨p1, p2, p3, p4, p5, m1, m2, m3, m4, m5⟩ := hcs.out _ hSw; clear hSw; go_simp; all_goals with_reducible rfl)); simp only [Act.put, List.setIfInBounds_toArray, List.set_cons_zero, List.set_cons_succ])
      refine plan_step rfl (by rfl) (fun K hK => ?_)
      go_simp
      refine (hR1u.out _ (by exact fun i o e => hw i o e)).mono ?_
      rintro e w6 ⟨rfl, rfl⟩
      refine hK.out _ _ rfl ?_
      clear hK K
      repeat first
        | (refine plan_skip rfl (by rfl) ?_; simp only [Act.put, List.setIfInBounds_toArray, List.set_cons_zero, List.set_cons_succ])
        | (refine plan_read (v := ?_) rfl (by rfl) ?_ ?_; rotate_left; (focus (intro w' hSw; obtain ⟨p1, p2, p3, p4, p5, m1, m2, m3, m4, m5⟩ := hcs.out _ hSw; clear hSw; go_simp; all_goals with_reducible rfl)); simp only [Act.put, List.setIfInBounds_toArray, List.set_cons_zero, List.set_cons_succ])
      refine plan_step rfl (by rfl) (fun K hK => ?_)
      go_simp
      refine (hR1d.out _ (by exact fun i o e => hw i o e)).mono ?_
      rintro e w6 ⟨rfl, rfl⟩
      refine hK.out _ _ rfl ?_
      clear hK K
      repeat first
        | (refine plan_skip rfl (by rfl) ?_; simp only [Act.put, List.setIfInBounds_toArray, List.set_cons_zero, List.set_cons_succ])
        | (refine plan_read (v := ?_) rfl (by rfl) ?_ ?_; rotate_left; (focus (intro w' hSw; obtain ⟨p1, p2, p3, p4, p5, m1, m2, m3, m4, m5⟩ := hcs.out _ hSw; clear hSw; go_simp; all_goals with_reducible rfl)); simp only [Act.put, List.setIfInBounds_toArray, List.set_cons_zero, List.set_cons_succ])
      refine plan_nil (NoPanic.normal ?_)
      go_wp2
      go_ret
      exact ⟨⟨_, rfl, by simpa using SlV.nil _ _⟩, ⟨rfl, rfl, rfl, Nat.le_refl _, fun _ _ => rfl⟩⟩
  · rw [hbu1] at hR1u
    go_enter Tryz.func68, Tryz.ntmps68
    go_upto_region 1 with fail
    refine wp_region_plan (fun w' => w'.heap = w.heap) [(0, true), (1, true), (2, true), (3, true), (4, true), (5, false), (6, true), (7, true), (8, true), (9, true), (10, true), (11, true), (12, true), (13, true)] (by kernel_rfl) (by kernel_rfl) (by kernel_rfl) rfl ?_
    repeat first
      | (refine plan_skip rfl (by rfl) ?_; simp only [Act.put, List.setIfInBounds_toArray, List.set_cons_zero, List.set_cons_succ])
      | (refine plan_read (v := ?_) rfl (by rfl) ?_ ?_; rotate_left; (focus (intro w' hSw; obtain ⟨p1, p2, p3, p4, p5, m1, m2, m3, m4, m5⟩ := hcs.out _ hSw; clear hSw; go_simp; all_goals with_reducible rfl)); simp only [Act.put, List.setIfInBounds_toArray, List.set_cons_zero, List.set_cons_succ])
    refine plan_step rfl (by rfl) (fun K hK => ?_)
    go_simp
    refine (hR1u.out _ (by exact fun i o e => hw i o e)).mono ?_
    rintro e w6 ⟨rfl, rfl⟩
    refine hK.out _ _ rfl ?_
    clear hK K
    repeat first
      | (refine plan_skip rfl (by rfl) ?_; simp only [Act.put, List.setIfInBounds_toArray, List.set_cons_zero, List.set_cons_succ])
      | (refine plan_read (v := ?_) rfl (by rfl) ?_ ?_; rotate_left; (focus (intro w' hSw; obtain ⟨p1, p2, p3, p4, p5, m1, m2, m3, m4, m5⟩ := hcs.out _ hSw; clear hSw; go_simp; all_goals with_reducible rfl)); simp only [Act.put, List.setIfInBounds_toArray, List.set_cons_zero, List.set_cons_succ])
    refine plan_nil (NoPanic.normal ?_)
    go_wp2
    go_ret
    exact ⟨⟨_, rfl, by simpa using SlV.nil _ _⟩, ⟨rfl, rfl, rfl, Nat.le_refl _, fun _ _ => rfl⟩⟩
/-- The function that graph.Reason's walk goes by. -/
theorem reason_2V (H : PH) (bh bu bd bn bf f : Nat) (vu vd vn : Value) (c : CodeD) (us ds : List Int) (hF : fineB c = true) (hh : H bh = some (.cells #[hasV bf] 102 (0, 0))) (hbf : BoxI H bf f)
    (hbu : H bu = some (.cells #[vu] 28 (0, 0))) (hu : SlV rInt H vu us) (hbd : H bd = some (.cells #[vd] 28 (0, 0))) (hd : SlV rInt H vd ds)
    (hbn : H bn = some (.cells #[vn] 25 (0, 0))) (hn : SlV (rSl rInt) H vn (nextsL c)) (hul : us.length = c.instrs.length) (hdl : ds.length = c.instrs.length)
    (hufs : ∀ p, p < c.instrs.length → FS (us.getD p 0)) (hdfs : ∀ p, p < c.instrs.length → FS (ds.getD p 0)) (hf : f < 60) :
    NextV H (.func (.func 68) #[] #[.pointer (some ⟨bh, 0, none⟩), .pointer (some ⟨bu, 0, none⟩), .pointer (some ⟨bd, 0, none⟩), .pointer (some ⟨bn, 0, none⟩)]) c.instrs.length (rsN c us ds f) :=
  ⟨_, _, rfl, enters_mk Tryz.func68 (by kernel_rfl) rfl, fun w' H' x hle hs hx => reason_2 H' bh bu bd bn bf f vu vd vn c us ds x w' hs hF (hle _ _ hh) (hle _ _ hbf) (hle _ _ hbu) (hu.mono hle) (hle _ _ hbd) (hd.mono hle) (hle _ _ hbn) (hn.mono hle) hul hdl hufs hdfs hf hx⟩
end Go.Proofs.YtififjlgjmgikaaGreat
namespace Go.Proofs.YtififjlgjmgikaaGreat
set_option linter.all false
open Go.RowKit

theorem ga_at {w : World} {o : Obj} {k : Nat} (h : w.heap.size = k) : (w.alloc o).heap[k]? = some o := by subst h; exact ga_new w o
def factB (n : Nat) (a f : Int) : Bool := withinB a 0 ((n : Int) - 1) && withinB f 0 59
theorem factB_iff {n : Nat} {a f : Int} : factB n a f = true ↔ (0 ≤ a ∧ a < n) ∧ (0 ≤ f ∧ f < 60) := by
  simp [factB, withinB]; omega
set_option maxHeartbeats 2000000 in
set_option maxRecDepth 100000 in
theorem graph_Reason_no (H : PH) (v vu vd : Value) (c : CodeD) (us ds : List Int) (a f : Int) (w : World) (hw : Sees w H) (hc : CodeV H v c) (hu : SlV rInt H vu us) (hd : SlV rInt H vd ds) (hE : setsE c [us, ds] ≠ 0) :
    Calls Tryz.prog 29 #[v, vu, vd, .int .i64 a, .int .i64 f] w fun e w' => e = .returned (.tuple #[.slice none 0 0, .int .i64 (setsE c [us, ds])]) ∧ Below w.heap.size w w' := by
  have hc0 := hc
  obtain ⟨s0, s1, s2, s3, s4, s5, s6, rfl, hc⟩ := hc
  obtain ⟨W1, hW1⟩ : ∃ W1, W1 = w.alloc (.cells #[s0, s1, s2, s3, s4, s5, s6] 30) := ⟨_, rfl⟩
  obtain ⟨W2, hW2⟩ : ∃ W2, W2 = W1.alloc (.cells #[vu] 28) := ⟨_, rfl⟩
  obtain ⟨W3, hW3⟩ : ∃ W3, W3 = W2.alloc (.cells #[vd] 28) := ⟨_, rfl⟩
  obtain ⟨W4, hW4⟩ : ∃ W4, W4 = W3.alloc (.cells #[.int .i64 f] 3) := ⟨_, rfl⟩
  obtain ⟨W5, hW5⟩ : ∃ W5, W5 = W4.alloc (.cells #[vu, vd] 28) := ⟨_, rfl⟩
  have z1 : W1.heap.size = w.heap.size + 1 := by rw [hW1, World.size_alloc]
  have z2 : W2.heap.size = w.heap.size + 2 := by rw [hW2, World.size_alloc, z1]
  have z3 : W3.heap.size = w.heap.size + 3 := by rw [hW3, World.size_alloc, z2]
  have z4 : W4.heap.size = w.heap.size + 4 := by rw [hW4, World.size_alloc, z3]
  have z5 : W5.heap.size = w.heap.size + 5 := by rw [hW5, World.size_alloc, z4]
  have hB1 : Below w.heap.size w W1 := by rw [hW1]; exact (Below.refl _ _).alloc (Nat.le_refl _) _
  have hB2 : Below w.heap.size w W2 := by rw [hW2]; exact hB1.alloc hB1.size _
  have hB3 : Below w.heap.size w W3 := by rw [hW3]; exact hB2.alloc hB2.size _
  have hB4 : Below w.heap.size w W4 := by rw [hW4]; exact hB3.alloc hB3.size _
  have hB5 : Below w.heap.size w W5 := by rw [hW5]; exact hB4.alloc hB4.size _
  have x0 : W5.heap[w.heap.size]? = some (.cells #[s0, s1, s2, s3, s4, s5, s6] 30 (0, 0)) := by rw [hW5]; refine ga_old ?_; rw [hW4]; refine ga_old ?_; rw [hW3]; refine ga_old ?_; rw [hW2]; refine ga_old ?_; rw [hW1]; exact ga_at rfl
  have x1 : W5.heap[w.heap.size + 1]? = some (.cells #[vu] 28 (0, 0)) := by rw [hW5]; refine ga_old ?_; rw [hW4]; refine ga_old ?_; rw [hW3]; refine ga_old ?_; rw [hW2]; exact ga_at z1
  have x2 : W5.heap[w.heap.size + 2]? = some (.cells #[vd] 28 (0, 0)) := by rw [hW5]; refine ga_old ?_; rw [hW4]; refine ga_old ?_; rw [hW3]; exact ga_at z2
  have x3 : W5.heap[w.heap.size + 3]? = some (.cells #[.int .i64 f] 3 (0, 0)) := by rw [hW5]; refine ga_old ?_; rw [hW4]; exact ga_at z3
  have x4 : W5.heap[w.heap.size + 4]? = some (.cells #[vu, vd] 28 (0, 0)) := by rw [hW5]; exact ga_at z4
  have hS := fun (K : PH) (hK : PH.le H K) (hs : Sees W5 K) (hg : K (w.heap.size + 4) = some (.cells #[vu, vd] 28 (0, 0))) => graph_sets K _ _ c [us, ds] _ hs (hc0.mono hK) (two_rows hg (hu.mono hK) (hd.mono hK))
  have hS2 := hS (extH H w _) (extH.le hw _) (extH.sees hw hB5) (extH.new (by omega) x4)
  clear hS
  clear hc0 hc
  generalize setsE c [us, ds] = E at *
  obtain ⟨Au, cu, rfl, -, -⟩ := hu.open_
  obtain ⟨Ad, cd, rfl, -, -⟩ := hd.open_
  have hne : (E != 0) = true := by simpa using hE
  clear hE x0 x1 x2 x3 x4 z1 z2 z3 z4 z5 hB1 hB2 hB3 hB4
  subst hW5 hW4 hW3 hW2 hW1
  go_enter Tryz.func29, Tryz.ntmps29
  go_wp2_with (go_at_call 60; refine hS2.mono ?_; rintro e w1 ⟨rfl, hBx⟩)
  go_ret2
  exact ⟨rfl, bstep hB5 hBx⟩
set_option maxHeartbeats 2000000 in
set_option maxRecDepth 100000 in
theorem graph_Reason_bad (H : PH) (v vu vd : Value) (c : CodeD) (us ds : List Int) (a f : Int) (w : World) (hw : Sees w H) (hc : CodeV H v c) (hu : SlV rInt H vu us) (hd : SlV rInt H vd ds) (hE : setsE c [us, ds] = 0) (hF : factB c.instrs.length a f = false) :
    Calls Tryz.prog 29 #[v, vu, vd, .int .i64 a, .int .i64 f] w fun e w' => e = .returned (.tuple #[.slice none 0 0, .int .i64 5]) ∧ Below w.heap.size w w' := by
  obtain ⟨hf, hls⟩ := setsE_ok hE
  have hfb := fine_bounds hf
  have n0 := hfb.i1
  have n1 := hfb.i0
  have hc0 := hc
  obtain ⟨s0, s1, s2, s3, s4, s5, s6, rfl, hc⟩ := hc
  obtain ⟨W1, hW1⟩ : ∃ W1, W1 = w.alloc (.cells #[s0, s1, s2, s3, s4, s5, s6] 30) := ⟨_, rfl⟩
  obtain ⟨W2, hW2⟩ : ∃ W2, W2 = W1.alloc (.cells #[vu] 28) := ⟨_, rfl⟩
  obtain ⟨W3, hW3⟩ : ∃ W3, W3 = W2.alloc (.cells #[vd] 28) := ⟨_, rfl⟩
  obtain ⟨W4, hW4⟩ : ∃ W4, W4 = W3.alloc (.cells #[.int .i64 f] 3) := ⟨_, rfl⟩
  obtain ⟨W5, hW5⟩ : ∃ W5, W5 = W4.alloc (.cells #[vu, vd] 28) := ⟨_, rfl⟩
  have z1 : W1.heap.size = w.heap.size + 1 := by rw [hW1, World.size_alloc]
  have z2 : W2.heap.size = w.heap.size + 2 := by rw [hW2, World.size_alloc, z1]
  have z3 : W3.heap.size = w.heap.size + 3 := by rw [hW3, World.size_alloc, z2]
  have z4 : W4.heap.size = w.heap.size + 4 := by rw [hW4, World.size_alloc, z3]
  have z5 : W5.heap.size = w.heap.size + 5 := by rw [hW5, World.size_alloc, z4]
  have hB1 : Below w.heap.size w W1 := by rw [hW1]; exact (Below.refl _ _).alloc (Nat.le_refl _) _
  have hB2 : Below w.heap.size w W2 := by rw [hW2]; exact hB1.alloc hB1.size _
  have hB3 : Below w.heap.size w W3 := by rw [hW3]; exact hB2.alloc hB2.size _
  have hB4 : Below w.heap.size w W4 := by rw [hW4]; exact hB3.alloc hB3.size _
  have hB5 : Below w.heap.size w W5 := by rw [hW5]; exact hB4.alloc hB4.size _
  have x0 : W5.heap[w.heap.size]? = some (.cells #[s0, s1, s2, s3, s4, s5, s6] 30 (0, 0)) := by rw [hW5]; refine ga_old ?_; rw [hW4]; refine ga_old ?_; rw [hW3]; refine ga_old ?_; rw [hW2]; refine ga_old ?_; rw [hW1]; exact ga_at rfl
  have x1 : W5.heap[w.heap.size + 1]? = some (.cells #[vu] 28 (0, 0)) := by rw [hW5]; refine ga_old ?_; rw [hW4]; refine ga_old ?_; rw [hW3]; refine ga_old ?_; rw [hW2]; exact ga_at z1
  have x2 : W5.heap[w.heap.size + 2]? = some (.cells #[vd] 28 (0, 0)) := by rw [hW5]; refine ga_old ?_; rw [hW4]; refine ga_old ?_; rw [hW3]; exact ga_at z2
  have x3 : W5.heap[w.heap.size + 3]? = some (.cells #[.int .i64 f] 3 (0, 0)) := by rw [hW5]; refine ga_old ?_; rw [hW4]; exact ga_at z3
  have x4 : W5.heap[w.heap.size + 4]? = some (.cells #[vu, vd] 28 (0, 0)) := by rw [hW5]; exact ga_at z4
  have hS := fun (K : PH) (hK : PH.le H K) (hs : Sees W5 K) (hg : K (w.heap.size + 4) = some (.cells #[vu, vd] 28 (0, 0))) => graph_sets K _ _ c [us, ds] _ hs (hc0.mono hK) (two_rows hg (hu.mono hK) (hd.mono hK))
  have hS2 := hS (extH H w _) (extH.le hw _) (extH.sees hw hB5) (extH.new (by omega) x4)
  clear hS
  rw [hE] at hS2
  obtain ⟨A0, cA, rfl, -, -⟩ := hc.instrs.open_
  clear hc0 hc
  obtain ⟨Au, cu, rfl, -, -⟩ := hu.open_
  obtain ⟨Ad, cd, rfl, -, -⟩ := hd.open_
  unfold factB at hF
  clear hE hfb hls hf
  clear z1 z2 z3 z4 hB1 hB2 hB3 hB4 x4
  subst hW5 hW4 hW3 hW2 hW1
  cases ha : withinB a 0 ((c.instrs.length : Int) - 1)
  · have hah := Lib.hid ha
    clear ha
    go_enter Tryz.func29, Tryz.ntmps29
    go_wp2_with (first
      | (go_at_call 60; refine hS2.mono ?_; rintro e w1 ⟨rfl, hBx⟩; have y0 := box7 (blk_keep hBx x0); have y1 := cell_blk (blk_keep hBx x1) 0; have y2 := cell_blk (blk_keep hBx x2) 0; have y3 := cell_blk (blk_keep hBx x3) 0; simp only [List.getElem?_toArray, List.getElem?_cons_zero] at y1 y2 y3; have hz1 := hBx.size; have k0 : w.heap.size < w1.heap.size := (by omega); have k1 : w.heap.size + 1 < w1.heap.size := (by omega); have k2 : w.heap.size + 2 < w1.heap.size := (by omega); have k3 : w.heap.size + 3 < w1.heap.size := (by omega); clear hz1)
      | (go_at_call 50; refine (graph_within _ _ _ _).mono ?_; rintro e w3 ⟨rfl, rfl⟩; rw [hah.out]))
    go_ret2
    exact ⟨rfl, bstep hB5 hBx⟩
  · rw [ha, Bool.true_and] at hF
    have hah := Lib.hid ha
    have hFh := Lib.hid hF
    clear ha hF
    go_enter Tryz.func29, Tryz.ntmps29
    go_wp2_with (first
      | (go_at_call 60; refine hS2.mono ?_; rintro e w1 ⟨rfl, hBx⟩; have y0 := box7 (blk_keep hBx x0); have y1 := cell_blk (blk_keep hBx x1) 0; have y2 := cell_blk (blk_keep hBx x2) 0; have y3 := cell_blk (blk_keep hBx x3) 0; simp only [List.getElem?_toArray, List.getElem?_cons_zero] at y1 y2 y3; have hz1 := hBx.size; have k0 : w.heap.size < w1.heap.size := (by omega); have k1 : w.heap.size + 1 < w1.heap.size := (by omega); have k2 : w.heap.size + 2 < w1.heap.size := (by omega); have k3 : w.heap.size + 3 < w1.heap.size := (by omega); clear hz1)
      | (go_at_call 50; refine (graph_within _ _ _ _).mono ?_; rintro e w3 ⟨rfl, rfl⟩; go_must (first | rw [hah.out] | rw [hFh.out])))
    go_ret2
    exact ⟨rfl, bstep hB5 hBx⟩
end Go.Proofs.YtififjlgjmgikaaGreat
namespace Go.Proofs.YtififjlgjmgikaaGreat
set_option linter.all false
open Go.RowKit

theorem rs_skip {l : IntMap} {us : List Int} {f k : Nat} {o : Value} {R : Prop} (h : (o = .slice none 0 0 ∧ Aside (∀ p : Nat, p < k → hasK l p → fb (us.getD p 0) f = false)) ∨ R) (hn : hasK l k → fb (us.getD k 0) f = false) :
    (o = .slice none 0 0 ∧ Aside (∀ p : Nat, p < k + 1 → hasK l p → fb (us.getD p 0) f = false)) ∨ R := by
  rcases h with ⟨e, h⟩ | h
  · exact .inl ⟨e, fun p hp hh => (by
      by_cases h1 : p < k
      · exact h p h1 hh
      · obtain rfl : p = k := by omega
        exact hn hh)⟩
  · exact .inr h
theorem PathTo.pos {n : Nat} {fr : List Int} {nx : Int → List Int} {p : List Int} {x : Int} (h : PathTo n fr nx p x) : 0 < p.length := by
  obtain ⟨y, hy, -⟩ := h.first
  exact (List.getElem?_eq_some_iff.1 hy).1
/-- What Reason answers where nothing bars it. -/
def RsRes (base : Nat) (c : CodeD) (us ds : List Int) (a : Int) (f : Nat) (w' : World) (e : Ending) : Prop :=
  (∃ v p x, e = .returned (.tuple #[v, .int .i64 0]) ∧ OwnI w' base v p ∧ PathTo c.instrs.length [a] (rsN c us ds f) p x ∧ fb (us.getD x.toNat 0) f = true) ∨
  (e = .returned (.tuple #[.slice none 0 0, .int .i64 4]) ∧ ∀ x, Reach (· ∈ [a]) (fun y z => z ∈ rsN c us ds f y) x → fb (us.getD x.toNat 0) f = false)
set_option maxHeartbeats 2000000 in
set_option maxRecDepth 100000 in
theorem graph_Reason_ok (H : PH) (v vu vd : Value) (c : CodeD) (us ds : List Int) (a : Int) (f : Nat) (w : World) (hw : Sees w H) (hc : CodeV H v c) (hu : SlV rInt H vu us) (hd : SlV rInt H vd ds) (hE : setsE c [us, ds] = 0) (hF : factB c.instrs.length a f = true) :
    Calls Tryz.prog 29 #[v, vu, vd, .int .i64 a, .int .i64 f] w fun e w' => RsRes w.heap.size c us ds a f w' e ∧ Below w.heap.size w w' := by
  have hK : KeyK Tryz.prog 3 (fun x : Int => Value.int .i64 x) := keyInt Tryz.underlying3
  have hq : ∀ (w : World) (a : Option Addr) (n c : Nat), (binOp .eql 28 (.slice a n c) (.slice none 0 0)).run Tryz.prog w = .ok (.bool a.isNone) w := fun w a n c => Lib.run_eql_slice_nil w _ _ a n c 0 0 Tryz.underlying28
  have hmf : ∀ (fn : Fn) (first cap : Array Value) (w : World), (Instr.makeFunc fn first cap).run Tryz.prog w = .ok (.func fn first cap) w := fun _ _ _ _ => rfl
  obtain ⟨hf, hls⟩ := setsE_ok hE
  obtain ⟨hul, huf⟩ := hls us (by simp)
  obtain ⟨hdl, hdf⟩ := hls ds (by simp)
  have hfb := fine_bounds hf
  have n0 := hfb.i1
  have n1 := hfb.i0
  obtain ⟨har, hfr⟩ := factB_iff.1 hF
  have hf60 : f < 60 := by omega
  have hwa : withinB a 0 ((c.instrs.length : Int) - 1) = true := by simp [withinB]; omega
  have hwf : withinB f 0 59 = true := by simp [withinB]; omega
  have hc0 := hc
  obtain ⟨s0, s1, s2, s3, s4, s5, s6, rfl, hc⟩ := hc
  obtain ⟨W1, hW1⟩ : ∃ W1, W1 = w.alloc (.cells #[s0, s1, s2, s3, s4, s5, s6] 30) := ⟨_, rfl⟩
  obtain ⟨W2, hW2⟩ : ∃ W2, W2 = W1.alloc (.cells #[vu] 28) := ⟨_, rfl⟩
  obtain ⟨W3, hW3⟩ : ∃ W3, W3 = W2.alloc (.cells #[vd] 28) := ⟨_, rfl⟩
  obtain ⟨W4, hW4⟩ : ∃ W4, W4 = W3.alloc (.cells #[.int .i64 f] 3) := ⟨_, rfl⟩
  obtain ⟨W5, hW5⟩ : ∃ W5, W5 = W4.alloc (.cells #[vu, vd] 28) := ⟨_, rfl⟩
  have z1 : W1.heap.size = w.heap.size + 1 := by rw [hW1, World.size_alloc]
  have z2 : W2.heap.size = w.heap.size + 2 := by rw [hW2, World.size_alloc, z1]
  have z3 : W3.heap.size = w.heap.size + 3 := by rw [hW3, World.size_alloc, z2]
  have z4 : W4.heap.size = w.heap.size + 4 := by rw [hW4, World.size_alloc, z3]
  have z5 : W5.heap.size = w.heap.size + 5 := by rw [hW5, World.size_alloc, z4]
  have hB1 : Below w.heap.size w W1 := by rw [hW1]; exact (Below.refl _ _).alloc (Nat.le_refl _) _
  have hB2 : Below w.heap.size w W2 := by rw [hW2]; exact hB1.alloc hB1.size _
  have hB3 : Below w.heap.size w W3 := by rw [hW3]; exact hB2.alloc hB2.size _
  have hB4 : Below w.heap.size w W4 := by rw [hW4]; exact hB3.alloc hB3.size _
  have hB5 : Below w.heap.size w W5 := by rw [hW5]; exact hB4.alloc hB4.size _
  have x0 : W5.heap[w.heap.size]? = some (.cells #[s0, s1, s2, s3, s4, s5, s6] 30 (0, 0)) := by rw [hW5]; refine ga_old ?_; rw [hW4]; refine ga_old ?_; rw [hW3]; refine ga_old ?_; rw [hW2]; refine ga_old ?_; rw [hW1]; exact ga_at rfl
  have x1 : W5.heap[w.heap.size + 1]? = some (.cells #[vu] 28 (0, 0)) := by rw [hW5]; refine ga_old ?_; rw [hW4]; refine ga_old ?_; rw [hW3]; refine ga_old ?_; rw [hW2]; exact ga_at z1
  have x2 : W5.heap[w.heap.size + 2]? = some (.cells #[vd] 28 (0, 0)) := by rw [hW5]; refine ga_old ?_; rw [hW4]; refine ga_old ?_; rw [hW3]; exact ga_at z2
  have x3 : W5.heap[w.heap.size + 3]? = some (.cells #[.int .i64 f] 3 (0, 0)) := by rw [hW5]; refine ga_old ?_; rw [hW4]; exact ga_at z3
  have x4 : W5.heap[w.heap.size + 4]? = some (.cells #[vu, vd] 28 (0, 0)) := by rw [hW5]; exact ga_at z4
  have hS := fun (K : PH) (hK : PH.le H K) (hs : Sees W5 K) (hg : K (w.heap.size + 4) = some (.cells #[vu, vd] 28 (0, 0))) => graph_sets K _ _ c [us, ds] _ hs (hc0.mono hK) (two_rows hg (hu.mono hK) (hd.mono hK))
  have hS2 := hS (extH H w _) (extH.le hw _) (extH.sees hw hB5) (extH.new (by omega) x4)
  clear hS
  rw [hE] at hS2
  have hN := Lib.hid (fun (w1 : World) (hs : Sees w1 H) => graph_nexts H _ c w1 hs hc0 hf)
  obtain ⟨A0, cA, rfl, -, -⟩ := hc.instrs.open_
  clear hc0 hc
  obtain ⟨Au, cu, rfl, -, -⟩ := hu.open_
  obtain ⟨Ad, cd, rfl, -, -⟩ := hd.open_
  have hwah := Lib.hid hwa
  have hwfh := Lib.hid hwf
  rw [hul] at hu hW2 hW5 x1 x4 ⊢
  rw [hdl] at hd hW3 hW5 x2 x4 ⊢
  have hulh := Lib.hid hul
  have hdlh := Lib.hid hdl
  clear hE hfb hls hwa hwf hF hul hdl
  clear z1 z2 z3 z4 hB1 hB2 hB3 hB4 x4
  subst hW5 hW4 hW3 hW2 hW1
  have hufh := Lib.hid huf
  have hdfh := Lib.hid hdf
  have huh := Lib.hid hu
  have hdh := Lib.hid hd
  clear huf hdf hu hd
  go_enter Tryz.func29, Tryz.ntmps29
  go_upto_region 8 with (first
    | (go_at_call 60; refine hS2.mono ?_; rintro e w1 ⟨rfl, hBx⟩; have y0 := box7 (blk_keep hBx x0); have y1 := cell_blk (blk_keep hBx x1) 0; have y2 := cell_blk (blk_keep hBx x2) 0; have y3 := cell_blk (blk_keep hBx x3) 0; simp only [List.getElem?_toArray, List.getElem?_cons_zero] at y1 y2 y3; have hz1 := hBx.size; have k0 : w.heap.size < w1.heap.size := (by omega); have k1 : w.heap.size + 1 < w1.heap.size := (by omega); have k2 : w.heap.size + 2 < w1.heap.size := (by omega); have k3 : w.heap.size + 3 < w1.heap.size := (by omega); clear hz1)
    | (go_at_call 50; refine (graph_within _ _ _ _).mono ?_; rintro e w3 ⟨rfl, rfl⟩; go_must (first | rw [hwah.out] | rw [hwfh.out]))
    | (go_at_call 61; refine (hN.out _ (hw.below (bstep hB5 hBx))).mono ?_; rintro e w2 ⟨⟨vn, rfl, hvn⟩, hB2⟩; have hvn0 := hvn; obtain ⟨An, cn, rfl, -, -⟩ := hvn0.open_))
  have hBw : Below w.heap.size w w2 := bstep (bstep hB5 hBx) hB2
  have hxN : ∀ b o, ((((w.alloc (.cells #[.slice A0 c.instrs.length cA, s1, s2, s3, s4, s5, s6] 30)).alloc (.cells #[.slice Au c.instrs.length cu] 28)).alloc (.cells #[.slice Ad c.instrs.length cd] 28)).alloc (.cells #[.int .i64 f] 3)).alloc (.cells #[.slice Au c.instrs.length cu, .slice Ad c.instrs.length cd] 28) |>.heap[b]? = some o → w2.heap[b]? = some o := fun b o h => blk_keep hB2 (blk_keep hBx h)
  replace x0 := hxN _ _ x0
  replace x1 := hxN _ _ x1
  replace x2 := hxN _ _ x2
  replace x3 := hxN _ _ x3
  have hs1 := hw.below (bstep hB5 hBx)
  have hvn2 := hvn.mono (full.le (extH.sees hs1 hB2))
  have hz2 : w.heap.size + 5 ≤ w2.heap.size := by have := hBx.size; have := hB2.size; omega
  have hs2 := hw.below hBw
  clear hxN hvn hs1 hBx hB2 y0 y1 y2 y3 hS2 hB5 z5 k0 k1 k2 k3
  obtain ⟨W6, hW6⟩ : ∃ W6, W6 = w2.alloc (.cells #[.slice An (nextsL c).length cn] 25) := ⟨_, rfl⟩
  obtain ⟨W7, hW7⟩ : ∃ W7, W7 = W6.alloc (.cells #[hasV (w.heap.size + 3)] 102) := ⟨_, rfl⟩
  obtain ⟨W8, hW8⟩ : ∃ W8, W8 = W7.alloc (.cells #[.int .i64 a] 3) := ⟨_, rfl⟩
  have z6 : W6.heap.size = w2.heap.size + 1 := by rw [hW6, World.size_alloc]
  have z7 : W7.heap.size = w2.heap.size + 2 := by rw [hW7, World.size_alloc, z6]
  have hB6 : Below w2.heap.size w2 W6 := by rw [hW6]; exact (Below.refl _ _).alloc (Nat.le_refl _) _
  have hB7 : Below w2.heap.size w2 W7 := by rw [hW7]; exact hB6.alloc hB6.size _
  have hB8 : Below w2.heap.size w2 W8 := by rw [hW8]; exact hB7.alloc hB7.size _
  have x6 : W8.heap[w2.heap.size]? = some (.cells #[.slice An (nextsL c).length cn] 25 (0, 0)) := by rw [hW8]; refine ga_old ?_; rw [hW7]; refine ga_old ?_; rw [hW6]; exact ga_at rfl
  have x7 : W8.heap[w2.heap.size + 1]? = some (.cells #[hasV (w.heap.size + 3)] 102 (0, 0)) := by rw [hW8]; refine ga_old ?_; rw [hW7]; exact ga_at z6
  have x8 : OwnI W8 W7.heap.size (.slice (some ⟨W7.heap.size, 0, none⟩) 1 1) [a] := by rw [hW8]; exact OwnI.snoc_lit _ _
  have hle8 : PH.le (full w2) (full W8) := fun i o e => blk_keep hB8 e
  have hr : SlV rInt (full W8) (.slice (some ⟨W7.heap.size, 0, none⟩) 1 1) [a] := x8.readK (fun k _ => rfl) (fun x hx => by simp at hx; subst hx; exact ⟨by omega, by omega⟩) (by simp [maxN])
  have hNV := reason_2V (full W8) (w2.heap.size + 1) (w.heap.size + 1) (w.heap.size + 2) w2.heap.size (w.heap.size + 3) f _ _ _ c us ds hf x7 (blk_keep hB8 x3) (blk_keep hB8 x1) (huh.out.mono fun i o e => blk_keep hB8 (hs2 i o e)) (blk_keep hB8 x2) (hdh.out.mono fun i o e => blk_keep hB8 (hs2 i o e)) x6 (hvn2.mono hle8) hulh.out hdlh.out hufh.out hdfh.out hf60
  have hWk := graph_walk (full W8) _ _ [a] c.instrs.length (rsN c us ds f) W8 (full.sees _) hr n0 (by simp) (fun x hx => by simp at hx; subst hx; exact har) (fun x hx y hy => next_in hf (by omega) y (rsN_mem.1 hy).2.2) hNV
  rw [z7] at hWk
  have hB8w : Below w.heap.size w W8 := bstep hBw hB8
  have g0 := blk_keep hB8 x0
  have g1 := blk_keep hB8 x1
  have g3 := blk_keep hB8 x3
  have hs8 := hw.below hB8w
  have hBw' := hB8w
  have hz8 := hB8.size
  clear hNV hr hle8 x8 x6 z6 z7 hB6 hB7 hB8 x0 x1 x2 x3 hvn2 hBw hs2 hN
  subst hW8 hW7 hW6
  go_wp2_with (go_at_call 67; refine hWk.mono ?_; rintro e w3 ⟨⟨bm, l, ρ, N, rfl, h1, h2, h3⟩, hB3⟩; have y0 := box7 (blk_keep hB3 g0); have l0 := (Array.getElem?_eq_some_iff.1 (blk_keep hB3 g0)).1)
  have hB4 : Below w.heap.size w w3 := bstep hB8w hB3
  have hh3 := blk_keep hB3 x7
  have g3' := blk_keep hB3 g3
  have g1' := blk_keep hB3 g1
  have hs3 := hw.below hB4
  have hBl := hBw'
  clear y0 l0 g0 g1 g3 x7 hWk hs8 hz8 hB8w hB3 hz2 hmf
  have hbm : w.heap.size ≤ bm := Nat.le_trans hBl.size h1
  have h3h := Lib.hid h3
  clear h1 h3 hBl
  go_loopw [16, 51] (fun o i wr => ∃ k : Nat, k ≤ c.instrs.length ∧ i = .int .i64 k ∧ ((o = .slice none 0 0 ∧ Aside (∀ p : Nat, p < k → hasK l p → fb (us.getD p 0) f = false)) ∨ ∃ p x, OwnI wr w.heap.size o p ∧ Aside (PathTo c.instrs.length [a] (rsN c us ds f) p x ∧ fb (us.getD x.toNat 0) f = true)) ∧ Below w3.heap.size w3 wr) (fun _ i _ => c.instrs.length - (intOf i).toNat)
  case atStart => exact ⟨0, Nat.zero_le _, rfl, .inl ⟨rfl, fun p h => by omega⟩, Below.refl _ _⟩
  case round =>
    obtain ⟨k, hk, rfl, ho, hB⟩ := hrel
    have hMr := h2.of_block (w' := wr) (hB.block _ h2.lt)
    by_cases hlt : k < c.instrs.length
    · have hlt' : (k : Int) < c.instrs.length := by omega
      obtain ⟨bu, ou, cu', hve, -, hbu, hucell, -⟩ := huh.out.ints (by have := hulh.out; omega)
      rw [hulh.out] at hve hucell
      cases hve
      have hsr := hs3.below hB
      have q := hucell wr hsr k hlt
      have lu := hsr.lt' hbu
      have hk0 := hB.size
      have p1 := cell_blk (blk_keep hB hh3) 0
      have p2 := cell_blk (blk_keep hB g1') 0
      simp only [List.getElem?_toArray, List.getElem?_cons_zero, hasV] at p1 p2
      have m1 := (Array.getElem?_eq_some_iff.1 (blk_keep hB hh3)).1
      have m2 := (Array.getElem?_eq_some_iff.1 (blk_keep hB g1')).1
      have hlk := hMr.lookup Tryz.underlying90 hK (z := .int .i64 0) (fun _ => by kernel_rfl) (k : Int) true
      have hFk := hufh.out k hlt
      generalize hyu : us.getD k 0 = yu at *
      have hR1 := Lib.hid (fun (w' : World) (h : w'.heap = wr.heap) => reason_1 (full wr) (w.heap.size + 3) f yu w' (fun i o e => by rw [h]; exact e) (blk_keep hB g3') hFk hf60)
      have hcs := Lib.hid (fun (w' : World) (h : w'.heap = wr.heap) => And.intro ((cell_heap h _).trans p1) (And.intro ((cell_heap h _).trans p2) (And.intro ((cell_heap h _).trans q) (And.intro (size_heap h m1) (And.intro (size_heap h m2) (size_heap h lu))))))
      have hkh := Lib.hid hk
      clear p1 p2 q m1 m2 lu hFk huh hdh hufh hdfh hdlh hwah hwfh
      by_cases hkk : hasK l k
      · obtain ⟨vk, hv⟩ := Option.isSome_iff_exists.1 hkk
        rw [hv] at hlk
        simp only [if_true, Option.getD_some, Option.isSome_some] at hlk
        clear hv
        cases hfk : fb yu f
        · rw [hfk] at hR1
          go_upto_region 14 with fail
          refine wp_region_plan (fun w' => w'.heap = wr.heap) [(0, true), (1, true), (2, true), (3, true), (4, true), (5, true), (6, true), (7, false), (8, true)] (by kernel_rfl) (by kernel_rfl) (by kernel_rfl) rfl ?_
          repeat first
            | (refine plan_skip rfl (by rfl) ?_; simp only [Act.put, List.setIfInBounds_toArray, List.set_cons_zero, List.set_cons_succ])
            | (refine plan_read (v := ?_) rfl (by rfl) ?_ ?_; rotate_left; (focus (intro w' hSw; obtain ⟨p1, p2, p3, p4, p5, p6⟩ := hcs.out _ hSw; clear hSw; go_simp; all_goals with_reducible rfl)); simp only [Act.put, List.setIfInBounds_toArray, List.set_cons_zero, List.set_cons_succ])
          refine plan_step rfl (by rfl) (fun K hK => ?_)
          go_simp
          refine (hR1.out _ (by rfl)).mono ?_
          rintro e w6 ⟨rfl, rfl⟩
          refine hK.out _ _ rfl ?_
          clear hK K
          repeat first
            | (refine plan_skip rfl (by rfl) ?_; simp only [Act.put, List.setIfInBounds_toArray, List.set_cons_zero, List.set_cons_succ])
            | (refine plan_read (v := ?_) rfl (by rfl) ?_ ?_; rotate_left; (focus (intro w' hSw; obtain ⟨p1, p2, p3, p4, p5, p6⟩ := hcs.out _ hSw; clear hSw; go_simp; all_goals with_reducible rfl)); simp only [Act.put, List.setIfInBounds_toArray, List.set_cons_zero, List.set_cons_succ])
          refine plan_nil (NoPanic.normal ?_)
          go_wp2
          go_roundw
          case rel => exact ⟨k + 1, by omega, by go_num, rs_skip ho (fun _ => by rw [hyu]; exact hfk), bdrew hB⟩
          case measure => simp [intOf]; omega
        · rw [hfk] at hR1
          have hMd := hMr.of_block (w' := wr.drew) rfl
          have hbk := graph_back bm l ρ N c.instrs.length [a] (rsN c us ds f) k wr.drew hMd h3h.out.toWalkB hkk n0
          rcases ho with ⟨rfl, ho⟩ | ⟨p, x, ho, hP⟩
          · go_upto_region 14 with fail
            refine wp_region_plan (fun w' => w'.heap = wr.heap) [(0, true), (1, true), (2, true), (3, true), (4, true), (5, true), (6, true), (7, false), (8, true)] (by kernel_rfl) (by kernel_rfl) (by kernel_rfl) rfl ?_
            repeat first
              | (refine plan_skip rfl (by rfl) ?_; simp only [Act.put, List.setIfInBounds_toArray, List.set_cons_zero, List.set_cons_succ])
              | (refine plan_read (v := ?_) rfl (by rfl) ?_ ?_; rotate_left; (focus (intro w' hSw; obtain ⟨p1, p2, p3, p4, p5, p6⟩ := hcs.out _ hSw; clear hSw; go_simp; all_goals with_reducible rfl)); simp only [Act.put, List.setIfInBounds_toArray, List.set_cons_zero, List.set_cons_succ])
            refine plan_step rfl (by rfl) (fun K hK => ?_)
            go_simp
            refine (hR1.out _ (by rfl)).mono ?_
            rintro e w6 ⟨rfl, rfl⟩
            refine hK.out _ _ rfl ?_
            clear hK K
            repeat first
              | (refine plan_skip rfl (by rfl) ?_; simp only [Act.put, List.setIfInBounds_toArray, List.set_cons_zero, List.set_cons_succ])
              | (refine plan_read (v := ?_) rfl (by rfl) ?_ ?_; rotate_left; (focus (intro w' hSw; obtain ⟨p1, p2, p3, p4, p5, p6⟩ := hcs.out _ hSw; clear hSw; go_simp; all_goals with_reducible rfl)); simp only [Act.put, List.setIfInBounds_toArray, List.set_cons_zero, List.set_cons_succ])
            refine plan_nil (NoPanic.normal ?_)
            go_wp2_with (go_at_call 56; refine hbk.mono ?_; rintro e w4 ⟨⟨v4, q4, rfl, hown, hP⟩, hB5⟩)
            go_roundw
            case rel => exact ⟨k + 1, by omega, by go_num, .inr ⟨_, _, hown.lower (Nat.le_trans hB4.size hB.size), ⟨hP, by rw [Int.toNat_natCast, hyu]; exact hfk⟩⟩, bstep (bdrew hB) hB5⟩
            case measure => simp [intOf]; omega
          · obtain ⟨A5, cap5, rfl, hA5⟩ : ∃ A cap, u16 = .slice (some A) p.length cap ∧ OwnI wr w.heap.size u16 p := by
              obtain ⟨g, cap, h, -⟩ := ho.form hP.1.pos
              exact ⟨_, _, h, ho⟩
            have hPh := Lib.hid hP
            clear hP
            go_upto_region 14 with fail
            refine wp_region_plan (fun w' => w'.heap = wr.heap) [(0, true), (1, true), (2, true), (3, true), (4, true), (5, true), (6, true), (7, false), (8, true)] (by kernel_rfl) (by kernel_rfl) (by kernel_rfl) rfl ?_
            repeat first
              | (refine plan_skip rfl (by rfl) ?_; simp only [Act.put, List.setIfInBounds_toArray, List.set_cons_zero, List.set_cons_succ])
              | (refine plan_read (v := ?_) rfl (by rfl) ?_ ?_; rotate_left; (focus (intro w' hSw; obtain ⟨p1, p2, p3, p4, p5, p6⟩ := hcs.out _ hSw; clear hSw; go_simp; all_goals with_reducible rfl)); simp only [Act.put, List.setIfInBounds_toArray, List.set_cons_zero, List.set_cons_succ])
            refine plan_step rfl (by rfl) (fun K hK => ?_)
            go_simp
            refine (hR1.out _ (by rfl)).mono ?_
            rintro e w6 ⟨rfl, rfl⟩
            refine hK.out _ _ rfl ?_
            clear hK K
            repeat first
              | (refine plan_skip rfl (by rfl) ?_; simp only [Act.put, List.setIfInBounds_toArray, List.set_cons_zero, List.set_cons_succ])
              | (refine plan_read (v := ?_) rfl (by rfl) ?_ ?_; rotate_left; (focus (intro w' hSw; obtain ⟨p1, p2, p3, p4, p5, p6⟩ := hcs.out _ hSw; clear hSw; go_simp; all_goals with_reducible rfl)); simp only [Act.put, List.setIfInBounds_toArray, List.set_cons_zero, List.set_cons_succ])
            refine plan_nil (NoPanic.normal ?_)
            go_wp2_with (go_at_call 56; refine hbk.mono ?_; rintro e w4 ⟨⟨v4, q4, rfl, hown, hP⟩, hB5⟩; obtain ⟨A4, cap4, rfl, -⟩ := hown.len_form; have hPn := Lib.hid hP; clear hP)
            all_goals go_roundw
            all_goals first
              | (case measure => simp [intOf]; omega)
              | skip
            all_goals first
              | exact ⟨k + 1, by omega, by go_num, .inr ⟨_, _, hown.lower (Nat.le_trans hB4.size hB.size), ⟨hPn.out, by rw [Int.toNat_natCast, hyu]; exact hfk⟩⟩, bstep (bdrew hB) hB5⟩
              | exact ⟨k + 1, by omega, by go_num, .inr ⟨_, _, OwnI.below (w := wr.drew) hA5 hB5, hPh.out⟩, bstep (bdrew hB) hB5⟩
      · have hv : mget l (k : Int) = none := by unfold hasK at hkk; simpa using hkk
        rw [hv] at hlk
        simp only [if_true, Option.getD_none, Option.isSome_none] at hlk
        clear hv
        go_upto_region 14 with fail
        refine wp_region_plan (fun w' => w'.heap = wr.heap) [(0, true), (1, true), (2, true), (3, true), (4, true), (5, true), (6, true), (7, true), (8, true)] (by kernel_rfl) (by kernel_rfl) (by kernel_rfl) rfl ?_
        repeat first
          | (refine plan_skip rfl (by rfl) ?_; simp only [Act.put, List.setIfInBounds_toArray, List.set_cons_zero, List.set_cons_succ])
          | (refine plan_read (v := ?_) rfl (by rfl) ?_ ?_; rotate_left; (focus (intro w' hSw; obtain ⟨p1, p2, p3, p4, p5, p6⟩ := hcs.out _ hSw; clear hSw; go_simp; all_goals with_reducible rfl)); simp only [Act.put, List.setIfInBounds_toArray, List.set_cons_zero, List.set_cons_succ])
        refine plan_nil (NoPanic.normal ?_)
        go_wp2
        go_roundw
        case rel => exact ⟨k + 1, by omega, by go_num, rs_skip ho (fun h => absurd h hkk), bdrew hB⟩
        case measure => simp [intOf]; omega
    · obtain rfl : k = c.instrs.length := by omega
      have hlt' : ¬ (c.instrs.length : Int) < c.instrs.length := by omega
      rcases ho with ⟨rfl, ho⟩ | ⟨p, x, ho, hP⟩
      · have hoh := Lib.hid ho
        clear ho
        go_wp2
        go_ret2
        refine ⟨.inr ⟨rfl, fun x hx => ?_⟩, bstep hB4 hB⟩
        have hkx := (h3h.out.reach x).2 hx
        obtain ⟨v', hv'⟩ := Option.isSome_iff_exists.1 hkx
        have hxr := (h3h.out.vals x v' hv').1
        have := hoh.out x.toNat (by omega) (by rwa [Int.toNat_of_nonneg hxr.1])
        exact this
      · have hPh := Lib.hid hP
        obtain ⟨A5, cap5, rfl, hA5⟩ : ∃ A cap, u16 = .slice (some A) p.length cap ∧ OwnI wr w.heap.size u16 p := by
          obtain ⟨g, cap, h, -⟩ := ho.form hP.1.pos
          exact ⟨_, _, h, ho⟩
        clear hP
        go_wp2
        go_ret2
        exact ⟨.inl ⟨_, _, _, rfl, hA5, hPh.out.1, hPh.out.2⟩, bstep hB4 hB⟩
end Go.Proofs.YtififjlgjmgikaaGreat
