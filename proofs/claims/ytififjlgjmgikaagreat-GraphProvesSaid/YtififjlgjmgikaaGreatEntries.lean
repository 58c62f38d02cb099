/- code.entries. -/
import Derived.Test.YtififjlgjmgikaaGreatSh
import Derived.Test.YtififjlgjmgikaaGreatCheck
namespace Go.Proofs.YtififjlgjmgikaaGreat
set_option linter.all false
open Go.RowKit

def thunkPlaces (t : ThunkD) : List Int := [t.value, t.address, t.desig].filter fun n => decide (0 ≤ n)
def entries0 (c : CodeD) : List Int :=
  [0] ++ c.procs.map (·.entry) ++ c.thunks.flatMap thunkPlaces ++ c.switches.flatMap id ++ (c.instrs.filter fun x => x.op == 20).map (·.a)
theorem cell_one_new' (w : World) (x : Value) (T : TypeId) : (w.alloc (.cells #[x] T)).cell? ⟨w.heap.size, 0, none⟩ = some x := cell_blk (ga_new w _) 0
theorem OwnI.al {w : World} {base : Nat} {v : Value} {xs : List Int} (h : OwnI w base v xs) (o : Obj) : OwnI (w.alloc o) base v xs := h.below ((Below.refl _ _).alloc (Nat.le_refl _) _)
theorem one_new {w : World} {x : Int} {T : TypeId} {n : Nat} (hn : n = w.heap.size) (j : Nat) (y : Int) (h : [x][j]? = some y) : (w.alloc (.cells #[.int .i64 x] T)).cell? ((⟨n, 0, none⟩ : Addr).add j) = some (.int .i64 y) := by
  subst hn
  have hj := (List.getElem?_eq_some_iff.1 h).1
  obtain rfl : j = 0 := by simp at hj; exact hj
  cases h
  exact cell_one_new' w _ T
/-- An append to what the walk owns leaves what lies below. -/
theorem below_app {B : Nat} {w w1 w2 : World} {v : Value} {xs : List Int} (hB : Below B w w1) (hs : B ≤ w1.heap.size) (h : OwnI w1 B v xs) (hg : w1.grownBy w2 v.ownBlock) : Below B w w2 :=
  hB.grown hg hs fun k hk => (h.lt hk).1
theorem flat_le {α : Type} (l : List α) (f : α → List Int) (m : Nat) (h : ∀ x ∈ l, (f x).length ≤ m) : (l.flatMap f).length ≤ m * l.length := by
  induction l with
  | nil => simp
  | cons x l ih =>
    have h1 := h x (by simp)
    have h2 := ih fun y hy => h y (by simp [hy])
    simp only [List.flatMap_cons, List.length_append, List.length_cons, Nat.mul_add, Nat.mul_one]
    omega
theorem take_succ_getD {α : Type} {l : List α} {k : Nat} {x : α} (h : l[k]? = some x) : l.take (k + 1) = l.take k ++ [x] := by
  rw [List.take_add_one, h]; rfl
structure FineBounds (c : CodeD) : Prop where
  i0 : 1 ≤ c.instrs.length
  i1 : c.instrs.length ≤ 20000
  p : c.procs.length ≤ 2000
  t : c.thunks.length ≤ 2000
  s : c.switches.length ≤ 2000
  sw : ∀ l ∈ c.switches, 1 ≤ l.length ∧ l.length ≤ 2000
theorem fine_bounds {c : CodeD} (h : fineB c = true) : FineBounds c := by
  simp only [fineB, Bool.and_eq_true, Bool.not_eq_true'] at h
  obtain ⟨⟨hl, ht⟩, _⟩ := h
  simp only [largeB, Bool.or_eq_false_iff, decide_eq_false_iff_not, beq_eq_false_iff_ne, ne_eq] at hl
  simp only [tablesB, Bool.and_eq_true, List.all_eq_true] at ht
  refine ⟨by omega, by omega, by omega, by omega, by omega, fun l hl => ?_⟩
  have := ht.1.1.1.2 l hl
  simp only [switchB, withinB, Bool.and_eq_true, decide_eq_true_eq] at this
  omega

set_option maxHeartbeats 4000000 in
set_option maxRecDepth 100000 in
theorem code_entries (H : PH) (v : Value) (c : CodeD) (w : World) (hw : Sees w H) (hc : CodeV H v c) (hf : fineB c = true) :
    Calls Tryz.prog 124 #[v] w fun e w' => (∃ v', e = .returned v' ∧ OwnI w' w.heap.size v' (Go.Lib.compact (isort (entries0 c)))) ∧ Below w.heap.size w w' := by
  have hfb := fine_bounds hf
  have n0 := hfb.i1
  have n1 := hfb.p
  have n2 := hfb.t
  have n3 := hfb.s
  obtain ⟨s0, s1, s2, s3, s4, s5, s6, rfl, hc⟩ := hc
  obtain ⟨A0, c0, rfl, k0, -⟩ := hc.instrs.open_
  obtain ⟨A1, c1, rfl, k1, -⟩ := hc.procs.open_
  obtain ⟨A2, c2, rfl, k2, -⟩ := hc.thunks.open_
  obtain ⟨A3, c3, rfl, k3, -⟩ := hc.switches.open_
  clear hf
  go_enter Tryz.func124, Tryz.ntmps124
  go_wp2
  refine wp_name fun w1 hw1 => ?_
  have hbox : w1.heap[w.heap.size]? = some (.cells #[.slice A0 c.instrs.length c0, .slice A1 c.procs.length c1, .slice A2 c.thunks.length c2, .slice A3 c.switches.length c3, s4, s5, s6] 30 (0, 0)) := by rw [hw1]; exact ga_old (ga_new _ _)
  have hown : OwnI w1 (w.heap.size + 1) (.slice (some ⟨w.heap.size + 1, 0, none⟩) 1 1) [0] := by
    have := OwnI.snoc_lit (w.alloc (.cells #[.slice A0 c.instrs.length c0, .slice A1 c.procs.length c1, .slice A2 c.thunks.length c2, .slice A3 c.switches.length c3, s4, s5, s6] 30)) 0
    rw [World.size_alloc] at this
    rw [hw1]
    exact this
  have hB1 : Below w.heap.size w w1 := by rw [hw1]; exact ((Below.refl _ _).alloc (Nat.le_refl _) _).alloc (by simp) _
  have hz1 : w.heap.size + 1 ≤ w1.heap.size := by rw [hw1]; simp
  have hs1 := hw.below hB1
  have q0 : w1.cell? ⟨w.heap.size, 0, none⟩ = some (.slice A0 c.instrs.length c0) := cell_blk hbox 0
  have q2 : w1.cell? ⟨w.heap.size, 2, none⟩ = some (.slice A2 c.thunks.length c2) := cell_blk hbox 2
  have q3 : w1.cell? ⟨w.heap.size, 3, none⟩ = some (.slice A3 c.switches.length c3) := cell_blk hbox 3
  clear hw1
  go_loopw [3, 18] (fun o i wr => ∃ k : Nat, k ≤ c.procs.length ∧ i = .int .i64 k ∧ OwnI wr (w.heap.size + 1) o ([0] ++ (c.procs.take k).map (·.entry)) ∧ Below (w.heap.size + 1) w1 wr) (fun _ i _ => c.procs.length - (intOf i).toNat)
  case atStart => exact ⟨0, Nat.zero_le _, rfl, by simpa using hown, Below.refl _ _⟩
  clear hown
  case round =>
    obtain ⟨k, hk, rfl, hown, hB⟩ := hrel
    have hsz := hB.size
    have hBw : Below w.heap.size w wr := hB1.trans (hB.mono (by omega))
    have hsee : Sees wr H := hw.below hBw
    have l0 : w.heap.size < wr.heap.size := by omega
    have r2 := (hB.cell (p := ⟨w.heap.size, 2, none⟩) (by simp)).trans q2
    by_cases hlt : k < c.procs.length
    · obtain ⟨b, off, c', hA, -, hb, hcell, hint⟩ := hc.procs.procs (by omega)
      cases hA
      obtain ⟨x0, x1, x2, x3, x4⟩ := hcell wr hsee k hlt
      have hx : c.procs[k]? = some (c.procs.getD k default) := by simp [hlt]
      generalize c.procs.getD k default = p at *
      clear hcell hint
      have hbl := hsee.lt' hb
      have hH := Lib.hid (take_succ_getD hx); clear hx
      obtain ⟨pe, pp, pt, ps, pd⟩ := p
      dsimp only at *
      go_wp2_with (at_builtin; go_loud (refine wpL_appI rfl _ _ rfl (w.heap.size + 1) _ _ [pe] rfl (hown.al _ |>.al _) ⟨wr.heap.size + 1, 0, none⟩ 1 1 rfl rfl (one_new (by simp)) ?hlen ?hsz ?_); (case hlen => simp only [List.length_append, List.length_map, List.length_take, List.length_cons, List.length_nil]; omega); (case hsz => simp; omega); intro v2 w2 hown2 hg2 _)
      go_roundw
      case rel => exact ⟨k + 1, by omega, by go_num, by rw [hH.out, List.map_append]; simpa using hown2, below_app ((hB.alloc (by omega) _).alloc (by simp; omega) _) (by simp; omega) (hown.al _ |>.al _) hg2⟩
      case measure => simp [intOf]; omega
    · obtain rfl : k = c.procs.length := by omega
      rw [List.take_length] at hown
      have hlt' : ¬ (c.procs.length : Int) < c.procs.length := by omega
      clear hlt
      go_wp2
      clear hlt' l0 r2
      refine wp_name fun w2 hw2 => ?_
      obtain rfl := hw2
      go_loopw [3, 31] (fun o i wr => ∃ k : Nat, k ≤ c.thunks.length ∧ i = .int .i64 k ∧ OwnI wr (w.heap.size + 1) o ([0] ++ c.procs.map (·.entry) ++ (c.thunks.take k).flatMap thunkPlaces) ∧ Below (w.heap.size + 1) w1 wr) (fun _ i _ => c.thunks.length - (intOf i).toNat)
      case atStart => exact ⟨0, Nat.zero_le _, rfl, by simpa using hown, hB⟩
      clear hB hown
      case round =>
        obtain ⟨k, hk, rfl, hown, hB⟩ := hrel
        have hsz := hB.size
        have hBw : Below w.heap.size w wr := hB1.trans (hB.mono (by omega))
        have hsee : Sees wr H := hw.below hBw
        have l0 : w.heap.size < wr.heap.size := by omega
        have r3 := (hB.cell (p := ⟨w.heap.size, 3, none⟩) (by simp)).trans q3
        by_cases hlt : k < c.thunks.length
        · obtain ⟨b, off, c', hA, -, hb, hcell, hint⟩ := hc.thunks.thunks (by omega)
          cases hA
          obtain ⟨x0, x1, x2⟩ := hcell wr hsee k hlt
          have hx : c.thunks[k]? = some (c.thunks.getD k default) := by simp [hlt]
          generalize c.thunks.getD k default = p at *
          clear hcell hint
          have hbl := hsee.lt' hb
          have hH := Lib.hid (take_succ_getD hx); clear hx
          obtain ⟨pv, pa, pd⟩ := p
          dsimp only at *
          have hfl := flat_le (c.thunks.take k) thunkPlaces 3 (fun x _ => List.length_filter_le _ _)
          rw [List.length_take] at hfl
          go_wp2
          have i0 := idx3_0
          have i1 := idx3_1
          have i2 := idx3_2
          obtain ⟨wo, rfl⟩ : ∃ wo : World, wo = wr := ⟨_, rfl⟩
          go_loopw [3, 42] (fun o i wi => ∃ j : Nat, j ≤ 3 ∧ i = .int .i64 j ∧ OwnI wi (w.heap.size + 1) o ([0] ++ c.procs.map (·.entry) ++ (c.thunks.take k).flatMap thunkPlaces ++ ([pv, pa, pd].take j).filter fun n => decide (0 ≤ n)) ∧ Below (w.heap.size + 1) w1 wi) (fun _ i _ => 3 - (intOf i).toNat)
          case atStart => exact ⟨0, by omega, rfl, by simpa using hown.al _, hB.alloc (by omega) _⟩
          clear hown hB
          case round =>
            obtain ⟨j, hj, rfl, hown, hB⟩ := hrel
            have hsz' := hB.size
            by_cases hj3 : j < 3
            · obtain rfl | rfl | rfl : j = 0 ∨ j = 1 ∨ j = 2 := by omega
              · have hff : (([pv, pa, pd].take 0).filter fun n => decide (0 ≤ n)).length ≤ 3 := Nat.le_trans (List.length_filter_le _ _) (by simp)
                by_cases hp : 0 ≤ pv
                · go_wp2_with (at_builtin; go_loud (refine wpL_appI rfl _ _ rfl (w.heap.size + 1) _ _ [pv] rfl (hown.al _) ⟨wr.heap.size, 0, none⟩ 1 1 rfl rfl (one_new (by simp)) ?hlen ?hsz ?_); (case hlen => simp only [List.length_append, List.length_map, List.length_cons, List.length_nil]; omega); (case hsz => simp; omega); intro v2 w2 hown2 hg2 _)
                  go_roundw
                  case rel => exact ⟨1, by omega, rfl, by rw [show [pv, pa, pd].take 1 = [pv, pa, pd].take 0 ++ [pv] from rfl, List.filter_append]; simpa [hp] using hown2, below_app (hB.alloc (by omega) _) (by simp; omega) (hown.al _) hg2⟩
                  case measure => simp [intOf]
                · go_wp2
                  go_roundw
                  case rel => exact ⟨1, by omega, rfl, by rw [show [pv, pa, pd].take 1 = [pv, pa, pd].take 0 ++ [pv] from rfl, List.filter_append]; simpa [hp] using hown, hB⟩
                  case measure => simp [intOf]
              · have hff : (([pv, pa, pd].take 1).filter fun n => decide (0 ≤ n)).length ≤ 3 := Nat.le_trans (List.length_filter_le _ _) (by simp)
                by_cases hp : 0 ≤ pa
                · go_wp2_with (at_builtin; go_loud (refine wpL_appI rfl _ _ rfl (w.heap.size + 1) _ _ [pa] rfl (hown.al _) ⟨wr.heap.size, 0, none⟩ 1 1 rfl rfl (one_new (by simp)) ?hlen ?hsz ?_); (case hlen => simp only [List.length_append, List.length_map, List.length_cons, List.length_nil]; omega); (case hsz => simp; omega); intro v2 w2 hown2 hg2 _)
                  go_roundw
                  case rel => exact ⟨2, by omega, rfl, by rw [show [pv, pa, pd].take 2 = [pv, pa, pd].take 1 ++ [pa] from rfl, List.filter_append]; simpa [hp] using hown2, below_app (hB.alloc (by omega) _) (by simp; omega) (hown.al _) hg2⟩
                  case measure => simp [intOf]
                · go_wp2
                  go_roundw
                  case rel => exact ⟨2, by omega, rfl, by rw [show [pv, pa, pd].take 2 = [pv, pa, pd].take 1 ++ [pa] from rfl, List.filter_append]; simpa [hp] using hown, hB⟩
                  case measure => simp [intOf]
              · have hff : (([pv, pa, pd].take 2).filter fun n => decide (0 ≤ n)).length ≤ 3 := Nat.le_trans (List.length_filter_le _ _) (by simp)
                by_cases hp : 0 ≤ pd
                · go_wp2_with (at_builtin; go_loud (refine wpL_appI rfl _ _ rfl (w.heap.size + 1) _ _ [pd] rfl (hown.al _) ⟨wr.heap.size, 0, none⟩ 1 1 rfl rfl (one_new (by simp)) ?hlen ?hsz ?_); (case hlen => simp only [List.length_append, List.length_map, List.length_cons, List.length_nil]; omega); (case hsz => simp; omega); intro v2 w2 hown2 hg2 _)
                  go_roundw
                  case rel => exact ⟨3, by omega, rfl, by rw [show [pv, pa, pd].take 3 = [pv, pa, pd].take 2 ++ [pd] from rfl, List.filter_append]; simpa [hp] using hown2, below_app (hB.alloc (by omega) _) (by simp; omega) (hown.al _) hg2⟩
                  case measure => simp [intOf]
                · go_wp2
                  go_roundw
                  case rel => exact ⟨3, by omega, rfl, by rw [show [pv, pa, pd].take 3 = [pv, pa, pd].take 2 ++ [pd] from rfl, List.filter_append]; simpa [hp] using hown, hB⟩
                  case measure => simp [intOf]
            · obtain rfl : j = 3 := by omega
              go_wp2
              exact ⟨⟨k + 1, by omega, by go_num, by rw [hH.out, List.flatMap_append]; simpa [thunkPlaces] using hown, hB⟩, by simp [intOf]; omega⟩
        · obtain rfl : k = c.thunks.length := by omega
          rw [List.take_length] at hown
          have hlt' : ¬ (c.thunks.length : Int) < c.thunks.length := by omega
          clear hlt
          go_wp2
          clear hlt' l0 r3
          refine wp_name fun w2 hw2 => ?_
          obtain rfl := hw2
          go_loopw [3, 56] (fun o i wr => ∃ k : Nat, k ≤ c.switches.length ∧ i = .int .i64 k ∧ OwnI wr (w.heap.size + 1) o ([0] ++ c.procs.map (·.entry) ++ c.thunks.flatMap thunkPlaces ++ (c.switches.take k).flatMap id) ∧ Below (w.heap.size + 1) w1 wr) (fun _ i _ => c.switches.length - (intOf i).toNat)
          case atStart => exact ⟨0, Nat.zero_le _, rfl, by simpa using hown, hB⟩
          clear hB hown
          case round =>
            obtain ⟨k, hk, rfl, hown, hB⟩ := hrel
            have hsz := hB.size
            have hBw : Below w.heap.size w wr := hB1.trans (hB.mono (by omega))
            have hsee : Sees wr H := hw.below hBw
            have l0 : w.heap.size < wr.heap.size := by omega
            have r0 := (hB.cell (p := ⟨w.heap.size, 0, none⟩) (by simp)).trans q0
            by_cases hlt : k < c.switches.length
            · obtain ⟨b, off, c', hA, -, hb, hcell⟩ := hc.switches.rows (by omega)
              cases hA
              obtain ⟨u, hu, x0⟩ := hcell k hlt
              replace x0 := x0 wr hsee
              have hx : c.switches[k]? = some (c.switches.getD k []) := by simp [hlt]
              generalize c.switches.getD k [] = p at *
              clear hcell
              have hbl := hsee.lt' hb
              have hpl := hfb.sw p (List.mem_of_getElem? hx)
              have hH := Lib.hid (take_succ_getD hx); clear hx
              obtain ⟨b', off', cu, rfl, -, hb', hcu, -⟩ := hu.ints (by omega)
              have hbl' := hsee.lt' hb'
              have hcw := Lib.hid (hcu wr hsee); clear hcu
              have hfl1 := flat_le c.thunks thunkPlaces 3 (fun x _ => List.length_filter_le _ _)
              have hfl := flat_le (c.switches.take k) id 2000 (fun x hx => (hfb.sw x (List.mem_of_mem_take hx)).2)
              rw [List.length_take] at hfl
              go_wp2_with (at_builtin; go_loud (refine wpL_appI rfl _ _ rfl (w.heap.size + 1) _ _ p rfl hown ⟨b', off', none⟩ p.length cu rfl rfl ?hnew ?hlen ?hsz ?_); (case hnew => exact fun j y hy => by rw [Addr.add_lit]; have hj := (List.getElem?_eq_some_iff.1 hy).1; rw [hcw.out j hj]; simp [List.getD_eq_getElem?_getD, hy]); (case hlen => simp only [List.length_append, List.length_map, List.length_cons, List.length_nil]; omega); (case hsz => omega); intro v2 w2 hown2 hg2 _)
              go_roundw
              case rel => exact ⟨k + 1, by omega, by go_num, by rw [hH.out, List.flatMap_append]; simpa using hown2, below_app hB (by omega) hown hg2⟩
              case measure => simp [intOf]; omega
            · obtain rfl : k = c.switches.length := by omega
              rw [List.take_length] at hown
              have hlt' : ¬ (c.switches.length : Int) < c.switches.length := by omega
              clear hlt
              go_wp2
              clear hlt' l0 r0
              refine wp_name fun w2 hw2 => ?_
              obtain rfl := hw2
              go_loopw [3, 67] (fun o i wr => ∃ k : Nat, k ≤ c.instrs.length ∧ i = .int .i64 k ∧ OwnI wr (w.heap.size + 1) o ([0] ++ c.procs.map (·.entry) ++ c.thunks.flatMap thunkPlaces ++ c.switches.flatMap id ++ ((c.instrs.take k).filter fun x => x.op == 20).map (·.a)) ∧ Below (w.heap.size + 1) w1 wr) (fun _ i _ => c.instrs.length - (intOf i).toNat)
              case atStart => exact ⟨0, Nat.zero_le _, rfl, by simpa using hown, hB⟩
              clear hB hown
              case round =>
                obtain ⟨k, hk, rfl, hown, hB⟩ := hrel
                have hsz := hB.size
                have hBw : Below w.heap.size w wr := hB1.trans (hB.mono (by omega))
                have hsee : Sees wr H := hw.below hBw
                have l0 : w.heap.size < wr.heap.size := by omega
                by_cases hlt : k < c.instrs.length
                · obtain ⟨b, off, c', hA, -, hb, hcell, hint⟩ := hc.instrs.instrs (by omega)
                  cases hA
                  obtain ⟨x0, x1, x2, x3⟩ := hcell wr hsee k hlt
                  have hx : c.instrs[k]? = some (c.instrs.getD k default) := by simp [hlt]
                  generalize c.instrs.getD k default = p at *
                  clear hcell hint
                  have hbl := hsee.lt' hb
                  have hH := Lib.hid (take_succ_getD hx); clear hx
                  obtain ⟨po, pa, pb, pc⟩ := p
                  dsimp only at *
                  have hfl1 := flat_le c.thunks thunkPlaces 3 (fun x _ => List.length_filter_le _ _)
                  have hfl := flat_le c.switches id 2000 (fun x hx => (hfb.sw x hx).2)
                  have hff := List.length_filter_le (fun x : InstrD => x.op == 20) (c.instrs.take k)
                  rw [List.length_take] at hff
                  by_cases hp : po = 20
                  · subst hp
                    go_wp2_with (at_builtin; go_loud (refine wpL_appI rfl _ _ rfl (w.heap.size + 1) _ _ [pa] rfl (hown.al _ |>.al _) ⟨wr.heap.size + 1, 0, none⟩ 1 1 rfl rfl (one_new (by simp)) ?hlen ?hsz ?_); (case hlen => simp only [List.length_append, List.length_map, List.length_cons, List.length_nil]; omega); (case hsz => simp; omega); intro v2 w2 hown2 hg2 _)
                    go_roundw
                    case rel => exact ⟨k + 1, by omega, by go_num, by rw [hH.out, List.filter_append, List.map_append]; simpa using hown2, below_app ((hB.alloc (by omega) _).alloc (by simp; omega) _) (by simp; omega) (hown.al _ |>.al _) hg2⟩
                    case measure => simp [intOf]; omega
                  · go_wp2
                    go_roundw
                    case rel => exact ⟨k + 1, by omega, by go_num, by rw [hH.out, List.filter_append, List.map_append]; simpa [hp] using hown.al _, hB.alloc (by omega) _⟩
                    case measure => simp [intOf]; omega
                · obtain rfl : k = c.instrs.length := by omega
                  rw [List.take_length] at hown
                  have hlt' : ¬ (c.instrs.length : Int) < c.instrs.length := by omega
                  have hfl1 := flat_le c.thunks thunkPlaces 3 (fun x _ => List.length_filter_le _ _)
                  have hfl := flat_le c.switches id 2000 (fun x hx => (hfb.sw x hx).2)
                  have hff := List.length_filter_le (fun x : InstrD => x.op == 20) c.instrs
                  have hlen : (entries0 c).length < 4611686018427387904 := by
                    simp only [entries0, List.length_append, List.length_map, List.length_cons, List.length_nil]
                    omega
                  replace hown : OwnI wr (w.heap.size + 1) _ (entries0 c) := hown
                  go_wp2_with (first
                    | (go_at_call 80; refine (sort_own hown hlen).mono ?_; rintro e w3 ⟨rfl, hown3, hg3⟩)
                    | (go_at_call 164; refine (compact_own hown3 (by rw [isort_length]; omega)).mono ?_; rintro e w4 ⟨v4, rfl, hown4, hb4, hg4⟩))
                  go_ret
                  have hB3 := below_app hB (by omega) hown hg3
                  have hB4 := below_app hB3 (by have := hB3.size; omega) hown3 hg4
                  exact ⟨⟨_, rfl, hown4.lower (by omega)⟩, hB1.trans (hB4.mono (by omega))⟩
end Go.Proofs.YtififjlgjmgikaaGreat
