/- The reference's different (seat .Z). -/
import Derived.Test.YtififjlgjmgikaaGreatRefD
import Derived.Test.YtififjlgjmgikaaGreatPlanA
namespace Go.Proofs.YtififjlgjmgikaaGreat
set_option linter.all false
open Go.RowKit

theorem cell_heap {w w' : World} (h : w'.heap = w.heap) (a : Addr) : w'.cell? a = w.cell? a := by
  simp only [World.cell?, h]
theorem size_heap {w w' : World} {b : Nat} (h : w'.heap = w.heap) (hb : b < w.heap.size) : b < w'.heap.size := by rw [h]; exact hb
theorem bdrew {w w1 : World} (h : Below w.heap.size w w1) : Below w.heap.size w w1.drew := ⟨h.os, h.tape, h.output, h.size, h.block⟩
theorem SlV.take_ {α : Type} {r : Rp α} {H : PH} {A : Option Addr} {n cap : Nat} {xs : List α} (h : SlV r H (.slice A n cap) xs) {k : Nat} (hk : k ≤ xs.length) : SlV r H (.slice A k cap) (xs.take k) := by
  obtain ⟨A', cap', e, h1, h2, h3⟩ := h
  cases e
  refine ⟨A, cap, by rw [List.length_take, Nat.min_eq_left hk], by rw [List.length_take]; omega, by rw [List.length_take]; unfold maxN at *; omega, fun i x hi => ?_⟩
  have hik : i < k := by have := (List.getElem?_eq_some_iff.1 hi).1; rw [List.length_take] at this; omega
  rw [List.getElem?_take, if_pos hik] at hi
  exact h3 i x hi
def diffB (xs : List Int) : Bool := decide xs.Nodup
theorem nodup_more {xs : List Int} {k : Nat} (hk : k < xs.length) (h : (xs.take k).Nodup) (hn : ¬ xs.getD k 0 ∈ xs.take k) : (xs.take (k + 1)).Nodup := by
  rw [take_succ_getD (show xs[k]? = some (xs.getD k 0) by simp [hk]), List.nodup_append]
  refine ⟨h, by simp, fun a ha b hb => ?_⟩
  simp at hb
  subst hb
  rintro rfl
  exact hn (by simpa using ha)
theorem dup_take {xs : List Int} {k : Nat} (hk : k < xs.length) (hn : xs.getD k 0 ∈ xs.take k) : ¬ xs.Nodup := by
  intro h
  have h1 := h.sublist (List.take_sublist (k + 1) xs)
  rw [take_succ_getD (show xs[k]? = some (xs.getD k 0) by simp [hk]), List.nodup_append] at h1
  exact h1.2.2 _ hn _ (by simp) rfl
set_option maxHeartbeats 2000000 in
set_option maxRecDepth 100000 in
theorem r19_different (H : PH) (u : Value) (xs : List Int) (w : World) (hw : Sees w H) (hx : SlV rInt H u xs) :
    Calls Tryz.prog 59 #[u] w fun e w' => e = .returned (.bool (diffB xs)) ∧ Below w.heap.size w w' := by
  have lx := hx.le
  have hx0 := hx
  obtain ⟨Ax, cx, rfl, hcx, -⟩ := hx.open_
  have hS := Lib.hid (show diffB xs = decide xs.Nodup from rfl)
  generalize diffB xs = B at *
  have hI := Lib.hid (fun (k : Nat) (y : Int) (h : k ≤ xs.length) (w1 : World) (hs : Sees w1 H) => r19_in H y _ (xs.take k) w1 hs (hx0.take_ h))
  clear hx0
  go_enter Tryz.func59, Tryz.ntmps59
  go_wp2
  go_loopw [3] (fun i wr => ∃ k : Nat, k ≤ xs.length ∧ i = .int .i64 k ∧ Aside (xs.take k).Nodup ∧ Below w.heap.size w wr) (fun i _ => xs.length - (intOf i).toNat)
  case atStart => exact ⟨0, Nat.zero_le _, rfl, (by simp : (xs.take 0).Nodup), Below.refl _ _⟩
  case round =>
    obtain ⟨k, hk, rfl, hno, hB⟩ := hrel
    have hnoh := Lib.hid hno
    clear hno
    have hsee := hw.below hB
    by_cases hlt : k < xs.length
    · have hlt' : (k : Int) < xs.length := by omega
      have hkc : (k : Int) ≤ cx := by omega
      obtain ⟨b1, o1, c1, e1, -, hb1, hc1, -⟩ := hx.ints (by omega)
      cases e1
      have l1 := hsee.lt' hb1
      have hcs := Lib.hid (fun (w' : World) (h : w'.heap = wr.heap) => And.intro ((cell_heap h _).trans (hc1 wr hsee k hlt)) (size_heap h l1))
      have hIk := Lib.hid (fun (w1 : World) (hs : Sees w1 H) => hI.out k (xs.getD k 0) (by omega) w1 hs)
      have hmore := Lib.hid (nodup_more hlt hnoh.out)
      have hdup := Lib.hid (dup_take hlt)
      clear hc1 hI
      cases hin : inB (xs.getD k 0) (xs.take k)
      all_goals
        have hinh := Lib.hid hin
        clear hin
        generalize xs.getD k 0 = y at *
        go_upto_region 4 with fail
        refine wp_region_plan (fun w' => w'.heap = wr.heap) [(0, true), (1, true), (2, true), (3, true), (4, true), (5, true), (6, true), (7, false)] (by kernel_rfl) (by kernel_rfl) (by kernel_rfl) rfl ?_
        repeat first
          | (refine plan_skip rfl (by rfl) ?_; simp only [Act.put, List.setIfInBounds_toArray, List.set_cons_zero, List.set_cons_succ])
          | (refine plan_read (v := ?_) rfl (by rfl) ?_ ?_; rotate_left; (focus (intro w' hSw; obtain ⟨q1, q2⟩ := hcs.out _ hSw; clear hSw; go_simp; all_goals with_reducible rfl)); simp only [Act.put, List.setIfInBounds_toArray, List.set_cons_zero, List.set_cons_succ])
        refine plan_step rfl (by rfl) (fun K hK => ?_)
        go_simp
        refine (hIk.out _ (by exact fun i o e => hsee i o e)).mono ?_
        rintro e w6 ⟨rfl, rfl⟩
        rw [hinh.out]
        refine hK.out _ _ rfl ?_
        clear hK K
        refine plan_nil (NoPanic.normal ?_)
        go_wp2
      · go_roundw
        case rel => exact ⟨k + 1, by omega, by go_num, hmore.out (by have := hinh.out; unfold inB at this; simpa using this), bdrew hB⟩
        case measure => simp [intOf]; omega
      · have hb := Lib.hid (show B = false by rw [hS.out]; exact decide_eq_false (hdup.out (by have := hinh.out; unfold inB at this; simpa using this)))
        go_ret
        exact ⟨ret_bool hb.out.symm, bdrew hB⟩
    · obtain rfl : k = xs.length := by omega
      have hltn : ¬ (xs.length : Int) < xs.length := by omega
      have hb := Lib.hid (show B = true by rw [hS.out]; refine decide_eq_true ?_; have := hnoh.out; rwa [List.take_of_length_le (Nat.le_refl _)] at this)
      clear hlt
      go_wp2
      go_ret
      exact ⟨ret_bool hb.out.symm, hB⟩
end Go.Proofs.YtififjlgjmgikaaGreat
