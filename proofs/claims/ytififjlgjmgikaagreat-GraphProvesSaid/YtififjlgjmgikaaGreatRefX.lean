/- The reference's graph: at, are, nearest, path (seat .Z). The reference's spread (seat .Z). The reference's nearest, Doms, idoms (seat .Z). The reference's Doms, idoms (seat .Z). The reference's idoms (seat .Z). -/
import Derived.Test.YtififjlgjmgikaaGreatDiff
import Derived.Test.YtififjlgjmgikaaGreatDomW
import Derived.Test.YtififjlgjmgikaaGreatPlanA
import Derived.Laws.OwnMore
import Derived.Test.YtififjlgjmgikaaGreatIdomM
namespace Go.Proofs.YtififjlgjmgikaaGreat
set_option linter.all false
open Go.RowKit

theorem box10 {w : World} {b : Nat} {s0 s1 s2 s3 s4 s5 s6 L E R : Value} {T : TypeId} (h : w.heap[b]? = some (.cells #[s0, s1, s2, s3, s4, s5, s6, L, E, R] T (0, 0))) :
    w.cell? ⟨b, 0, none⟩ = some s0 ∧ w.cell? ⟨b, 1, none⟩ = some s1 ∧ w.cell? ⟨b, 2, none⟩ = some s2 ∧ w.cell? ⟨b, 3, none⟩ = some s3 ∧ w.cell? ⟨b, 4, none⟩ = some s4 ∧ w.cell? ⟨b, 5, none⟩ = some s5 ∧ w.cell? ⟨b, 6, none⟩ = some s6 ∧
    w.cell? ⟨b, 7, none⟩ = some L ∧ w.cell? ⟨b, 8, none⟩ = some E ∧ w.cell? ⟨b, 9, none⟩ = some R :=
  ⟨cell_blk h 0, cell_blk h 1, cell_blk h 2, cell_blk h 3, cell_blk h 4, cell_blk h 5, cell_blk h 6, cell_blk h 7, cell_blk h 8, cell_blk h 9⟩
/-- The first block that ends behind a place. -/
def atL (rows : List (Int × Int)) (p : Int) : Int := idxF (fun r : Int × Int => decide (p < r.2)) rows
set_option maxHeartbeats 2000000 in
set_option maxRecDepth 100000 in
theorem r19_at (b g off cap : Nat) (s0 s1 s2 s3 s4 s5 s6 E R : Value) (rows : List (Int × Int)) (p : Int) (w : World)
    (hb : w.heap[b]? = some (.cells #[s0, s1, s2, s3, s4, s5, s6, .slice (some ⟨g, off, none⟩) rows.length cap, E, R] 65 (0, 0))) (hn : rows.length ≤ 20000)
    (hc : ∀ i, i < rows.length → w.cell? ⟨g, off + i * 3 + 1, none⟩ = some (.int .i64 (rows.getD i (0, 0)).2)) (hgl : g < w.heap.size) :
    Calls Tryz.prog 51 #[.pointer (some ⟨b, 0, none⟩), .int .i64 p] w fun e w' => e = .returned (.int .i64 (atL rows p)) ∧ w = w' := by
  have q := (box10 hb).2.2.2.2.2.2.2.1
  have lb := (Array.getElem?_eq_some_iff.1 hb).1
  have hN := Lib.hid (show atL rows p = idxF (fun r : Int × Int => decide (p < r.2)) rows from rfl)
  generalize atL rows p = B at *
  have hch := Lib.hid hc
  clear hb hc
  go_enter Tryz.func51, Tryz.ntmps51
  go_wp2
  go_loop [5] (fun i => ∃ k : Nat, k ≤ rows.length ∧ i = .int .i64 k ∧ Aside (∀ j, j < k → ¬ p < (rows.getD j (0, 0)).2)) (fun i => rows.length - (intOf i).toNat)
  case atStart => exact ⟨0, Nat.zero_le _, rfl, fun j h => by omega⟩
  case round =>
    obtain ⟨k, hk, rfl, hno⟩ := hrel
    have hnoh := Lib.hid hno
    clear hno
    by_cases hlt : k < rows.length
    · have q2 := hch.out k hlt
      have hk0 : (0 : Int) ≤ k := by omega
      have hlt' : (k : Int) < rows.length := by omega
      by_cases he : p < (rows.getD k (0, 0)).2
      · have hbk := Lib.hid (show B = k by
          rw [hN.out]
          exact idxF_some (x := rows.getD k (0, 0)) (by simp [hlt]) (by simpa using he) fun i y hi hy => by
            have := hnoh.out i hi
            rw [List.getD_eq_getElem?_getD, hy] at this
            simpa using this)
        generalize (rows.getD k (0, 0)).2 = y at *
        go_wp2
        go_ret
        exact ⟨ret_num hbk.out.symm, rfl⟩
      · have heh := Lib.hid he
        obtain ⟨y, hy⟩ : ∃ y, (rows.getD k (0, 0)).2 = y := ⟨_, rfl⟩
        rw [hy] at q2 he
        clear hy
        go_wp2
        go_round
        case rel =>
          refine ⟨k + 1, by omega, by go_num, fun j hj => ?_⟩
          by_cases e : j = k
          · subst e; exact heh.out
          · exact hnoh.out j (by omega)
        case measure => simp [intOf]; omega
    · obtain rfl : k = rows.length := by omega
      have hltn : ¬ (rows.length : Int) < rows.length := by omega
      have hbk := Lib.hid (show B = -1 by
        rw [hN.out]
        exact idxF_none fun i y hy => by
          have := hnoh.out i (List.getElem?_eq_some_iff.1 hy).1
          rw [List.getD_eq_getElem?_getD, hy] at this
          simpa using this)
      clear hlt
      go_wp2
      go_ret
      exact ⟨ret_num hbk.out.symm, rfl⟩
/-- The first block that ends behind a place is the place's block. -/
theorem at_of {bs : List Bool} {n p : Nat} (h0 : bs.getD 0 false = true) (hp : p < n) : atL (rowsK bs n) p = ofI bs p := by
  have hr := ofI_range h0 hp
  obtain ⟨i, hi⟩ : ∃ i : Nat, ofI bs p = (i : Int) := ⟨(ofI bs p).toNat, by omega⟩
  have hil : i < cnt bs n := by omega
  obtain ⟨s, t, h1, h2⟩ := rows_spec bs n i hil
  have h3 := (row_of h2 hp).2 hi
  rw [hi]
  refine idxF_some h1 (by simp; omega) fun j y hj hy => ?_
  obtain ⟨s', t', h4, h5⟩ := rows_spec bs n j (by omega)
  rw [h4] at hy
  injection hy with hy
  subst hy
  simp only [decide_eq_false_iff_not]
  intro hlt
  have h6 := cnt_mono bs (show p + 1 ≤ t' by omega)
  have h7 := h5.ct
  unfold ofI at hi
  rw [Int.toNat_natCast] at hi
  omega
/-- The reference's graph, behind a pointer. -/
structure GrB (H : PH) (b : Nat) (L E R : Value) (f : FlowD) : Prop where
  blk : ∃ s0 s1 s2 s3 s4 s5 s6, H b = some (.cells #[s0, s1, s2, s3, s4, s5, s6, L, E, R] 65 (0, 0))
  blocks : SlV rBlock H L f.blocks
  entry : SlV rBool H E f.entry
  reached : SlV rBool H R f.reached
  lenE : f.entry.length = f.blocks.length
  lenR : f.reached.length = f.blocks.length
  le : f.blocks.length ≤ 20000
  next : ∀ b ∈ f.blocks, ∀ y ∈ b.next, 0 ≤ y ∧ y < f.blocks.length
  nlen : ∀ b ∈ f.blocks, b.next.length ≤ 20000
theorem GrB.mono {H H' : PH} (h : PH.le H H') {b : Nat} {L E R : Value} {f : FlowD} (k : GrB H b L E R f) : GrB H' b L E R f := by
  obtain ⟨⟨s0, s1, s2, s3, s4, s5, s6, hb⟩, h1, h2, h3, h4, h5, h6, h7, h8⟩ := k
  exact ⟨⟨s0, s1, s2, s3, s4, s5, s6, h _ _ hb⟩, h1.mono h, h2.mono h, h3.mono h, h4, h5, h6, h7, h8⟩
def areB (f : FlowD) (a b : Int) : Bool := bothB f a b
end Go.Proofs.YtififjlgjmgikaaGreat
namespace Go.Proofs.YtififjlgjmgikaaGreat
set_option linter.all false
open Go.RowKit

def todoF (but : Int) (xs : List Int) : List Int := xs.filter fun x => decide (x ≠ but)
/-- Where an initial path goes on to that does not have a block. -/
def spN (f : FlowD) (but x : Int) : List Int := todoF but (nxB f x)
theorem GrB.nxl {H : PH} {b : Nat} {L E R : Value} {f : FlowD} (h : GrB H b L E R f) (x : Int) : (nxB f x).length ≤ 20000 := by
  unfold nxB
  by_cases hx : x.toNat < f.blocks.length
  · exact h.nlen _ (by rw [List.getD_eq_getElem?_getD, List.getElem?_eq_getElem hx]; exact List.getElem_mem hx)
  · rw [List.getD_eq_getElem?_getD, List.getElem?_eq_none (by omega)]; exact Nat.zero_le _
end Go.Proofs.YtififjlgjmgikaaGreat
namespace Go.Proofs.YtififjlgjmgikaaGreat
set_option linter.all false
open Go.RowKit

/-- All blocks other than b that dominate b dominate a. -/
noncomputable def nearB (f : FlowD) (a b : Nat) : Bool := (List.range f.blocks.length).all fun x => !(decide (x ≠ b) && domB f x b && !domB f x a)
end Go.Proofs.YtififjlgjmgikaaGreat
namespace Go.Proofs.YtififjlgjmgikaaGreat
set_option linter.all false
open Go.RowKit

/-- The marks of what is reached are right. -/
def ReachOk (f : FlowD) : Prop := ∀ i : Nat, i < f.blocks.length → (f.reached.getD i false = true ↔ RA f (fun _ => False) i)
end Go.Proofs.YtififjlgjmgikaaGreat
namespace Go.Proofs.YtififjlgjmgikaaGreat
set_option linter.all false
open Go.RowKit

theorem mk_ints' (n : Nat) (hn : n ≤ 17592186044416) (w : World) : (Instr.makeSlice 28 (.int .i64 n) (.int .i64 n)).run Tryz.prog w =
    .ok (.slice (some ⟨w.heap.size, 0, none⟩) n n) (w.alloc (.cells (Array.replicate n (.int .i64 0)) 3)) := by
  obtain ⟨i0, hi, hz0, hz1, hz2⟩ := info_parts infoInt
  have h := run_make (P := Tryz.prog) w 28 3 i0 (.int .i64 0) Tryz.underlying28 hi hz0 .i64 .i64 n n (by omega) (by omega) (by rw [hz2]; omega) (by omega)
  have e : madeCells (Value.int .i64 0).cells (n * 1) = Array.replicate n (.int .i64 0) := by
    apply Array.ext
    · simp [madeCells]
    · intro j h1 h2
      have h3 : j % 1 = 0 := by omega
      simp [madeCells, Value.cells, h3]
  rw [hz1, Int.toNat_natCast, e] at h
  exact h
/-- A new row of zeroes is the walk's own. -/
theorem OwnI.zeros (w : World) (n : Nat) (hn : n ≤ 1000000) : OwnI (w.alloc (.cells (Array.replicate n (.int .i64 0)) 3)) w.heap.size (.slice (some ⟨w.heap.size, 0, none⟩) n n) (List.replicate n 0) := by
  refine ⟨by simp [ints], .inr ⟨w.heap.size, n, Array.replicate n (.int .i64 0), by simp, Nat.le_refl _, ga_new _ _, by simp, by simp [maxLen]; omega, by simp, by simp [ints]⟩⟩
/-- Behind m rounds of the inner loop. -/
def IdI (f : FlowD) (b m : Nat) (init v : Int) : Prop := (v = init ∧ ∀ a : Nat, a < m → ¬ IdomP f a b) ∨ ∃ a : Nat, a < m ∧ v = (a : Int) ∧ IdomP f a b
end Go.Proofs.YtififjlgjmgikaaGreat
