/- graph.sets, graph.Live, graph.CheckLive. -/
import Derived.Test.YtififjlgjmgikaaFlow
import Derived.Test.YtififjlgjmgikaaLiveM
import Derived.Deep.QuietTactic
import Derived.BigQuiet
namespace Go.Proofs.Ytififjlgjmgikaa
set_option linter.all false
open Go.RowKit

def badS (s : Int) : Bool := !withinB s 0 1152921504606846975
def setB (n : Nat) (l : List Int) : Bool := decide (l.length = n) && !l.any badS
def setsE (c : CodeD) (ls : List (List Int)) : Int := if fineB c = true then (if ls.all (setB c.instrs.length) = true then 0 else 7) else 1
theorem setB_fs {n : Nat} {l : List Int} (h : setB n l = true) : l.length = n ∧ ∀ p, p < n → FS (l.getD p 0) := by
  unfold setB at h
  simp only [Bool.and_eq_true, decide_eq_true_eq, Bool.not_eq_true', List.any_eq_false] at h
  refine ⟨h.1, fun p hp => ?_⟩
  have hp' : p < l.length := by omega
  have h2 := h.2 l[p] (List.getElem_mem hp')
  rw [List.getD_eq_getElem?_getD, List.getElem?_eq_getElem hp']
  simp only [badS, withinB, Bool.not_eq_true'] at h2
  simp at h2
  exact ⟨h2.1, by show l[p] < _; omega⟩
set_option maxHeartbeats 400000 in
theorem graph_sets1 (s : Int) (w : World) : Calls Try.prog 64 #[.int .i64 s] w fun e w' => e = .returned (.bool (badS s)) ∧ Below w.heap.size w w' := by
  go_enter Try.func64, Try.ntmps64
  go_wp2_with (go_at_call 58; refine (graph_within _ _ _ _).mono ?_; rintro e w3 ⟨rfl, rfl⟩)
  go_ret
  exact ⟨rfl, Below.refl _ _⟩
theorem graph_sets1V (H : PH) : PredV H .i64 (.func (.func 64) #[] #[]) (fun _ => True) badS :=
  ⟨_, _, rfl, enters_mk Try.func64 (by kernel_rfl) rfl, fun w' _ x _ _ _ => graph_sets1 x w'⟩
theorem all_take_succ {ls : List (List Int)} {p : List Int → Bool} {k : Nat} (hk : k < ls.length) : (ls.take (k + 1)).all p = ((ls.take k).all p && p (ls.getD k [])) := by
  rw [List.take_add_one, List.getElem?_eq_getElem hk, List.all_append, List.getD_eq_getElem?_getD, List.getElem?_eq_getElem hk]
  simp
set_option maxHeartbeats 4000000 in
set_option maxRecDepth 100000 in
theorem graph_sets (H : PH) (v lv : Value) (c : CodeD) (ls : List (List Int)) (w : World) (hw : Sees w H) (hc : CodeV H v c) (hl : SlV (rSl rInt) H lv ls) :
    Calls Try.prog 40 #[v, lv] w fun e w' => e = .returned (.int .i64 (setsE c ls)) ∧ Below w.heap.size w w' := by
  have hc0 := hc
  obtain ⟨s0, s1, s2, s3, s4, s5, s6, rfl, hc⟩ := hc
  have b0 := hc.instrs.le
  obtain ⟨A0, c0, rfl, k0, -⟩ := hc.instrs.open_
  have bl := hl.le
  have hl' := hl
  obtain ⟨Al, cl, rfl, kl, -⟩ := hl'.open_
  have hC := Lib.hid (fun (w1 : World) (hs : Sees w1 H) => graph_fine H _ c w1 hs hc0)
  have hbx := ga_new w (.cells #[.slice A0 c.instrs.length c0, s1, s2, s3, s4, s5, s6] 30)
  have hB0 : Below w.heap.size w (w.alloc (.cells #[.slice A0 c.instrs.length c0, s1, s2, s3, s4, s5, s6] 30)) := (Below.refl _ _).alloc (Nat.le_refl _) _
  have hz : w.heap.size < (w.alloc (.cells #[.slice A0 c.instrs.length c0, s1, s2, s3, s4, s5, s6] 30)).heap.size := by simp
  clear hc0 hc hl'
  cases hf : fineB c
  · have he : setsE c ls = 1 := by simp [setsE, hf]
    have hfh := Lib.hid hf
    rw [he]
    clear hf he
    go_enter Try.func40, Try.ntmps40
    go_wp2_with (go_at_call 30; refine (hC.out _ (hw.below hB0)).mono ?_; rintro e w1 ⟨rfl, hB1⟩; rw [hfh.out]; replace hB0 := bstep hB0 hB1)
    go_ret
    exact ⟨rfl, hB0⟩
  · have he : setsE c ls = if ls.all (setB c.instrs.length) = true then 0 else 7 := by simp [setsE, hf]
    have hfh := Lib.hid hf
    generalize setsE c ls = E at *
    have heh := Lib.hid he
    clear hf he
    go_enter Try.func40, Try.ntmps40
    go_wp2_with (go_at_call 30; refine (hC.out _ (hw.below hB0)).mono ?_; rintro e w1 ⟨rfl, hB1⟩; rw [hfh.out]; replace hbx := blk_keep hB1 hbx; replace hB0 := bstep hB0 hB1; replace hz : w.heap.size < w1.heap.size := Nat.lt_of_lt_of_le hz hB1.size; clear hB1)
    go_loopw [12] (fun i wr => ∃ k : Nat, k ≤ ls.length ∧ i = .int .i64 k ∧ Aside ((ls.take k).all (setB c.instrs.length) = true) ∧ Below w1.heap.size w1 wr) (fun i _ => ls.length - (intOf i).toNat)
    case atStart => exact ⟨0, Nat.zero_le _, rfl, rfl, Below.refl _ _⟩
    case round =>
      obtain ⟨k, hk, rfl, hall, hB⟩ := hrel
      have hsee := (hw.below hB0).below hB
      have q := box7 (blk_keep hB hbx)
      have hz2 := hB.size
      have hbl : w.heap.size < wr.heap.size := by omega
      have hallh := Lib.hid hall
      clear hall
      by_cases hlt : k < ls.length
      · obtain ⟨bn, on, cn, hnv, -, hbn, hrow⟩ := hl.rows (by omega)
        cases hnv
        obtain ⟨u, hu, hcl⟩ := hrow k hlt
        replace hcl := hcl wr hsee
        have hnl := hsee.lt' hbn
        have hux := hu
        have hul := hu.le
        have hst := Lib.hid (all_take_succ (p := setB c.instrs.length) hlt)
        have hmem : ls.getD k [] ∈ ls := by rw [List.getD_eq_getElem?_getD, List.getElem?_eq_getElem hlt]; exact List.getElem_mem hlt
        have hmemh := Lib.hid hmem
        clear hrow hmem
        generalize ls.getD k [] = x at *
        obtain ⟨Au, cu, rfl, -, -⟩ := hux.open_
        clear hux
        have hcon := Lib.hid (fun (w2 : World) (hs2 : Sees w2 H) => slices_ContainsFunc_int H _ _ x (fun _ => True) badS w2 hs2 hu (graph_sets1V H) (fun _ _ => trivial))
        by_cases hle : x.length = c.instrs.length
        · rw [hle] at hcl hcon
          have hleh := Lib.hid hle
          clear hle hu
          cases hbad : x.any badS
          · have hbh := Lib.hid hbad
            clear hbad
            go_wp2_with (go_at_call 63; refine (hcon.out _ hsee).mono ?_; rintro e w2 ⟨rfl, hB2⟩; rw [hbh.out])
            go_roundw
            case rel => exact ⟨k + 1, by omega, by go_num, by (show _ = true); rw [hst.out, show (ls.take k).all (setB c.instrs.length) = true from hallh.out]; simp [setB, hleh.out, hbh.out], bstep hB hB2⟩
            case measure => simp [intOf]; omega
          · have hbh := Lib.hid hbad
            clear hbad
            go_wp2_with (go_at_call 63; refine (hcon.out _ hsee).mono ?_; rintro e w2 ⟨rfl, hB2⟩; rw [hbh.out])
            go_ret
            refine ⟨ret_num ?_, bstep hB0 (bstep hB hB2)⟩
            rw [heh.out, if_neg]
            intro h
            have := List.all_eq_true.1 h x hmemh.out
            simp [setB, hbh.out] at this
        · have hleh := Lib.hid hle
          have hne : ((x.length : Int) != (c.instrs.length : Int)) = true := by simp; omega
          go_wp2
          go_ret
          refine ⟨ret_num ?_, bstep hB0 hB⟩
          rw [heh.out, if_neg]
          intro h
          have := List.all_eq_true.1 h x hmemh.out
          simp [setB, hleh.out] at this
      · obtain rfl : k = ls.length := by omega
        have hlt' : ¬ (ls.length : Int) < ls.length := by omega
        clear hlt
        go_wp2
        go_ret
        have ha : (ls.take ls.length).all (setB c.instrs.length) = true := hallh.out
        rw [List.take_length] at ha
        exact ⟨ret_num (by rw [heh.out, if_pos ha]), bstep hB0 hB⟩
end Go.Proofs.Ytififjlgjmgikaa
