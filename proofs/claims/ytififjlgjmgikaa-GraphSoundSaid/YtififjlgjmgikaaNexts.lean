/- graph.nexts. -/
import Derived.Test.YtififjlgjmgikaaOwnL
namespace Go.Proofs.Ytififjlgjmgikaa
set_option linter.all false
open Go.RowKit

theorem OwnI.readK {w : World} {K : PH} {base : Nat} {v : Value} {xs : List Int} (h : OwnI w base v xs) (hK : ∀ k, v.ownBlock = some k → K k = w.heap[k]?) (hx : ∀ x ∈ xs, I64 x) (hn : xs.length ≤ maxN) : SlV rInt K v xs := by
  rcases h.2 with ⟨rfl, e⟩ | ⟨g, cap, cur, rfl, h2, h3, h4, h5, h6, h7⟩
  · have : xs = [] := List.eq_nil_of_length_eq_zero e
    subst this
    exact SlV.nil _ _
  · refine ⟨_, cap, rfl, h4, hn, fun i x hi => ⟨g, 0, [.int .i64 x], rfl, ⟨rfl, cur, _, _, (hK g rfl).trans h3, ?_⟩, rfl, hx x (List.mem_of_getElem? hi)⟩⟩
    intro j u hj
    have hj0 : j = 0 := by
      have := (List.getElem?_eq_some_iff.1 hj).1
      simp at this
      exact this
    subst hj0
    cases hj
    have hil := (List.getElem?_eq_some_iff.1 hi).1
    have e : (cur.toList.take (xs.length * 1))[i]? = some (Value.int .i64 x) := by rw [h7]; simp [ints, hi]
    rw [List.getElem?_take, if_pos (by omega)] at e
    simpa [rInt] using e
theorem extH.lower {H : PH} {w w0 wr : World} (hw : Sees w H) (_hs : w.heap.size ≤ w0.heap.size) : PH.le (extH H w0 wr) (extH H w wr) := by
  intro i o e
  unfold extH at e ⊢
  split at e
  · have := hw.lt e
    rw [if_pos this]
    exact e
  · rw [if_neg (by omega)]
    exact e
theorem extX_at {H : PH} {w wr : World} {v : Value} {k : Nat} (hk : w.heap.size ≤ k) (hv : v.ownBlock ≠ some k) : extX H w wr v k = wr.heap[k]? := by
  unfold extX
  rw [if_neg (by omega), if_neg hv]
def nextsL (c : CodeD) : List (List Int) := (List.range c.instrs.length).map (nextL c)
theorem infoSl : (Try.prog.info? 28).map (fun i => (i.zero, i.size, i.bytes)) = some (some (.slice none 0 0), 1, 24) := by kernel_rfl
theorem i64_place {c : CodeD} (hn : c.instrs.length ≤ 20000) {y : Int} (h : 0 ≤ y ∧ y < c.instrs.length) : I64 y := by unfold I64; omega

/-- A slice of ints just made, read beside an owned row. -/
theorem row_read {H : PH} {w0 wr w1 : World} {vo u : Value} {xs : List Int} {α : Type} {r : Rp α} {T T' : TypeId} {ys : List α} (h : OwnI w1 wr.heap.size u xs) (ho : OwnL r T H w0 w1 vo ys) (hlt : ∀ k, vo.ownBlock = some k → k < wr.heap.size) (hs : w0.heap.size ≤ wr.heap.size)
    (hx : ∀ x ∈ xs, I64 x) (hn : xs.length ≤ maxN) : (rSl rInt).R (extX H w0 (w1.alloc (.cells #[u] T')) vo) [u] xs := by
  refine ⟨u, rfl, (h.al (.cells #[u] T')).readK (fun k hk => ?_) hx hn⟩
  have h1 := h.lt hk
  exact extX_at (by omega) fun e => by have := hlt k e; omega

set_option maxHeartbeats 2000000 in
set_option maxRecDepth 100000 in
theorem graph_nexts (H : PH) (v : Value) (c : CodeD) (w : World) (hw : Sees w H) (hc : CodeV H v c) (hf : fineB c = true) :
    Calls Try.prog 41 #[v] w fun e w' => (∃ v', e = .returned v' ∧ SlV (rSl rInt) (extH H w w') v' (nextsL c)) ∧ Below w.heap.size w w' := by
  have hfb := fine_bounds hf
  have n0 := hfb.i1
  have hc0 := hc
  obtain ⟨s0, s1, s2, s3, s4, s5, s6, rfl, hc⟩ := hc
  obtain ⟨A0, c0, rfl, k0, -⟩ := hc.instrs.open_
  have hN := Lib.hid (fun (w1 : World) (hs : Sees w1 H) (p : Nat) (hp : p < c.instrs.length) => code_Next H _ c w1 hs hc0 hf p hp)
  have hfh := Lib.hid hf; clear hf
  go_enter Try.func41, Try.ntmps41
  go_wp2
  refine wp_name fun w0 hw0 => ?_
  have hbx : w0.heap[w.heap.size]? = some (.cells #[.slice A0 c.instrs.length c0, s1, s2, s3, s4, s5, s6] 30 (0, 0)) := by rw [hw0]; exact ga_new _ _
  have hB0 : Below w.heap.size w w0 := by rw [hw0]; exact (Below.refl _ _).alloc (Nat.le_refl _) _
  have hz : w.heap.size < w0.heap.size := by rw [hw0]; simp
  have hs0 := hw.below hB0
  clear hw0
  go_loopw [3, 10] (fun o i wr => ∃ k : Nat, k ≤ c.instrs.length ∧ i = .int .i64 k ∧ OwnL (rSl rInt) 28 H w0 wr o ((List.range k).map (nextL c)) ∧ Below w0.heap.size w0 wr) (fun _ i _ => c.instrs.length - (intOf i).toNat)
  case atStart => exact ⟨0, Nat.zero_le _, rfl, OwnL.nil _ _ _ _ _, Below.refl _ _⟩
  case round =>
    obtain ⟨k, hk, rfl, hown, hB⟩ := hrel
    have hsz := hB.size
    have l0 : w.heap.size < wr.heap.size := by omega
    have hbr := blk_keep hB hbx
    have q := box7 hbr
    by_cases hlt : k < c.instrs.length
    · have hnx := hN.out wr (hs0.below hB) k hlt
      go_wp2_with (first
        | (go_at_call 13; refine hnx.mono ?_; rintro e w1 ⟨⟨v1, rfl, hown1⟩, hB1⟩; go_must (obtain ⟨A1, cap1, rfl, -⟩ := hown1.len_form; clear q; have hRR : (rSl rInt).R (extX H w0 (w1.alloc (.cells #[.slice A1 (nextL c k).length cap1] 28)) u3) [.slice A1 (nextL c k).length cap1] (nextL c k) := row_read hown1 (hown.below hB1) (fun j hj => (hown.lt hj).2) (by omega) (fun y hy => i64_place n0 (next_in hfh.out hlt y hy)) (by have := next_len c k; unfold maxN; omega)))
        | (at_builtin; refine wpL_appL (rSl rInt) 25 28 (.slice none 0 0) 24 Try.underlying25 infoSl rfl (by decide) (by decide) rfl _ _ rfl _ _ rfl ((hown.below hB1).below ((Below.refl _ _).alloc (Nat.le_refl _) _)) w1.heap.size 1 [.slice A1 (nextL c k).length cap1] rfl ?hcell ?hone (nextL c k) ?hR ?hlen ?hbase ?_; (case hcell => exact fun j u hj => by (have hj1 := (List.getElem?_eq_some_iff.1 hj).1; obtain rfl : j = 0 := (by simpa using hj1); cases hj; exact cell_one_new' _ _ _)); (case hone => exact fun u hu => by (simp at hu; subst hu; rfl)); (case hR => exact hRR); (case hlen => simp; omega); (case hbase => have := hB1.size; simp; omega); intro v2 w2 hown2 hg2 _))
      go_roundw
      case rel =>
        refine ⟨k + 1, by omega, by go_num, by rw [List.range_succ, List.map_append]; exact hown2, ?_⟩
        exact ((bstep hB hB1).alloc (by have := hB1.size; omega) _).grown hg2 (by have := hB1.size; simp; omega) fun j hj => (hown.lt hj).1
      case measure => simp [intOf]; omega
    · obtain rfl : k = c.instrs.length := by omega
      have hlt' : ¬ (c.instrs.length : Int) < c.instrs.length := by omega
      clear q
      go_wp2
      go_ret
      exact ⟨⟨_, rfl, (hown.read (by simp [maxN]; omega)).mono (extH.lower hw (by omega))⟩, bstep hB0 hB⟩
end Go.Proofs.Ytififjlgjmgikaa
