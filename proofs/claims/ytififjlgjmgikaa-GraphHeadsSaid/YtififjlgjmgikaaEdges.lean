/- graph.edges: the iterator over the edges between reached blocks. -/
import Derived.Test.YtififjlgjmgikaaDomM
import Derived.Test.YtififjlgjmgikaaAvoid
import Derived.RangeFuncNested
import Derived.RangeFuncBound
import Derived.RangeFuncCalls
import Derived.RangeFuncLeaves
import Derived.Shelf.Abstract
import Derived.Shelf.RegionOpen
import Derived.OwnWalkIn
import Derived.TacticsInMore
import Derived.LoopNIn
import Derived.LoopIn
namespace Go.Proofs.Ytififjlgjmgikaa
set_option linter.all false
open Go.RowKit Go.Shelf
attribute [local go_sem] Oper.semAt_some

/-- An edge that goes out from a reached block. -/
def EdgeP (f : FlowD) (x : Int × Int) : Prop := (0 ≤ x.1 ∧ x.1 < f.blocks.length) ∧ f.reached.getD x.1.toNat false = true ∧ x.2 ∈ nxB f x.1
abbrev EdgeT (f : FlowD) := { x : Int × Int // EdgeP f x }
open Classical in
noncomputable def subE (f : FlowD) (xs : List (Int × Int)) : List (EdgeT f) := xs.filterMap fun x => if h : EdgeP f x then some ⟨x, h⟩ else none
theorem subE_snoc {f : FlowD} {xs : List (Int × Int)} {x : Int × Int} (h : EdgeP f x) : subE f (xs ++ [x]) = subE f xs ++ [⟨x, h⟩] := by
  unfold subE
  rw [List.filterMap_append]
  simp [h]
theorem subE_val {f : FlowD} {xs : List (Int × Int)} (h : ∀ x ∈ xs, EdgeP f x) : (subE f xs).map (·.1) = xs := by
  induction xs with
  | nil => rfl
  | cons x xs ih =>
    have hx := h x (by simp)
    unfold subE at ih ⊢
    rw [List.filterMap_cons]
    simp only [hx, dif_pos, List.map_cons]
    rw [ih fun y hy => h y (by simp [hy])]
theorem subE_pre {f : FlowD} {xs ys : List (Int × Int)} (h : xs <+: ys) : subE f xs <+: subE f ys := by
  obtain ⟨t, rfl⟩ := h
  exact ⟨subE f t, by unfold subE; rw [List.filterMap_append]⟩
/-- The edges of block v. -/
def rowE (f : FlowD) (v : Nat) : List (Int × Int) := if f.reached.getD v false = true then (nxB f v).map fun y => ((v : Int), y) else []
/-- What has come behind v blocks and j of the next one's. -/
def rawE (f : FlowD) (v j : Nat) : List (Int × Int) := (List.range v).flatMap (rowE f) ++ (rowE f v).take j
def edgesR (f : FlowD) : List (Int × Int) := (List.range f.blocks.length).flatMap (rowE f)
theorem rawE_zero (f : FlowD) (v : Nat) : rawE f v 0 = (List.range v).flatMap (rowE f) := by simp [rawE]
theorem rawE_next (f : FlowD) (v j : Nat) (hj : (rowE f v).length ≤ j) : rawE f v j = rawE f (v + 1) 0 := by
  rw [rawE_zero, List.range_succ, List.flatMap_append]
  unfold rawE
  rw [List.take_of_length_le hj]
  simp
theorem rawE_step {f : FlowD} {v j : Nat} (hr : f.reached.getD v false = true) {y : Int} (hy : (nxB f v)[j]? = some y) : rawE f v (j + 1) = rawE f v j ++ [((v : Int), y)] := by
  unfold rawE
  rw [List.append_assoc]
  congr 1
  rw [List.take_add_one]
  congr 1
  unfold rowE
  rw [if_pos hr, List.getElem?_map, hy]
  rfl
theorem rawE_dead {f : FlowD} {v : Nat} (hr : f.reached.getD v false = false) (j : Nat) : rawE f v j = rawE f v 0 := by
  have e : rowE f v = [] := by unfold rowE; rw [hr]; rfl
  unfold rawE
  rw [e]
  simp
theorem rawE_pre {f : FlowD} {v j : Nat} (hv : v < f.blocks.length) : rawE f v j <+: edgesR f := by
  have h1 : rawE f v j <+: rawE f (v + 1) 0 := by
    rw [← rawE_next f v (rowE f v).length (Nat.le_refl _)]
    unfold rawE
    rw [List.take_length]
    exact (List.prefix_append_right_inj _).2 (List.take_prefix _ _)
  refine h1.trans ?_
  rw [rawE_zero]
  unfold edgesR
  obtain ⟨d, hd⟩ : ∃ d, f.blocks.length = v + 1 + d := ⟨f.blocks.length - (v + 1), by omega⟩
  have e : List.range (v + 1 + d) = List.range (v + 1) ++ (List.range d).map (v + 1 + ·) := List.range_add
  rw [hd, e, List.flatMap_append]
  exact List.prefix_append _ _
theorem edgesR_all {f : FlowD} : ∀ x ∈ edgesR f, EdgeP f x := by
  intro x hx
  unfold edgesR at hx
  obtain ⟨v, hv, hx⟩ := List.mem_flatMap.1 hx
  have hv := List.mem_range.1 hv
  unfold rowE at hx
  split at hx
  · rename_i hr
    obtain ⟨y, hy, rfl⟩ := List.mem_map.1 hx
    exact ⟨by simp; omega, by simpa using hr, hy⟩
  · cases hx
theorem edgesR_mem {f : FlowD} {x : Int × Int} : x ∈ edgesR f ↔ EdgeP f x := by
  refine ⟨fun h => edgesR_all x h, fun h => ?_⟩
  obtain ⟨a, y⟩ := x
  obtain ⟨h1, h2, h3⟩ := h
  simp only at h1 h2 h3
  unfold edgesR
  refine List.mem_flatMap.2 ⟨a.toNat, List.mem_range.2 (by omega), ?_⟩
  unfold rowE
  rw [if_pos h2]
  have e : ((a.toNat : Nat) : Int) = a := by omega
  rw [e]
  exact List.mem_map.2 ⟨y, h3, rfl⟩
theorem subE_len {f : FlowD} {xs : List (Int × Int)} : (subE f xs).length ≤ xs.length := by unfold subE; exact List.length_filterMap_le _ _
/-- A store into the block that was laid last. -/
theorem set_new (w : World) (arr : Array Value) (t : TypeId) (i : Nat) (v : Value) : (w.alloc (.cells arr t)).setCell ⟨w.heap.size, i, none⟩ v = w.alloc (.cells (arr.setIfInBounds i v) t) := by
  simp only [World.setCell, World.alloc]
  congr 1
  apply Array.ext_getElem?
  intro k
  rw [Array.getElem?_modify]
  by_cases h : w.heap.size = k
  · subst h
    simp
  · have h' : ¬ k = w.heap.size := fun e => h e.symm
    simp [h, h', Array.getElem?_push]
set_option maxHeartbeats 4000000 in
set_option maxRecDepth 100000 in
theorem edges_1 (F : Fence) (n : Nat) (hfn : ∀ f, F.fn f) (hro : F.round = none) (hn : 1 ≤ n) (l Bs : Nat) (K : PH) (f : FlowD) (hF : BoxF K Bs f) (h2 : ∀ x, (nxB f x).length ≤ 20000) (J Jx : List (EdgeT f) → World → Prop) (n0 : Nat) (hJ : AbidesFrom n0 J)
    (hY : ∀ pre x W, J pre W → pre.length < (edgesR f).length → YieldAt F (n - 1) Try.prog l #[.int .i64 x.1.1, .int .i64 x.1.2] W fun e W' =>
      (e = .returned (.bool true) ∧ J (pre ++ [x]) W' ∧ (Sees W K → Sees W' K)) ∨ (e = .returned (.bool false) ∧ Jx (pre ++ [x]) W'))
    (W : World) (hs : Sees W K) (h0 : J [] W) :
    CallsIn F n Try.prog 73 #[.func (.yield l) #[] #[], .pointer (some ⟨Bs, 0, none⟩)] W fun e W' => (∃ v, e = .returned v) ∧
      ((∃ ys, ys = subE f (edgesR f) ∧ J ys W') ∨ (∃ pre, pre <+: subE f (edgesR f) ∧ Jx pre W')) := by
  obtain ⟨fv, hbs, hfv⟩ := hF
  obtain ⟨bf, u0, u1, u2, u3, m, rfl, hb5, hfc⟩ := hfv
  have hle := hfc.le
  have hlR := hfc.lenR
  have hL := hfc.blocks
  have hRe := hfc.reached
  have hnx := Lib.hid hfc.next
  obtain ⟨AL, cL, rfl, -, -⟩ := hL.open_
  obtain ⟨AR, cR, rfl, -, -⟩ := hRe.open_
  clear hfc
  rw [hlR] at hb5
  have q1 := cell_blk (hs _ _ hbs) 0
  simp only [List.getElem?_toArray, List.getElem?_cons_zero] at q1
  have q5 := box5 (hs _ _ hb5)
  have l1 := hs.lt hbs
  have l5 := hs.lt hb5
  refine callsIn_of_wp Try.func73 rfl (hfn _) ?_ hro
  simp only [Try.ntmps73, List.size_toArray, List.length_cons, List.length_nil, Nat.reduceAdd, Nat.reduceSub, Array.replicate_succ, Array.replicate_zero, List.push_toArray, List.append_toArray, List.nil_append, List.cons_append]
  gi_wp2
  clear q1 q5 l1 l5
  gi_loopw [12] (fun i wr => ∃ v : Nat, v ≤ f.blocks.length ∧ i = .int .i64 v ∧ J (subE f (rawE f v 0)) wr ∧ Sees wr K) (fun i _ => f.blocks.length - (intOf i).toNat)
  case atStart => exact ⟨0, Nat.zero_le _, rfl, by rw [rawE_zero]; exact h0, hs⟩
  case round =>
    obtain ⟨v, hv, rfl, hJv, hsv⟩ := hrel
    by_cases hlt : v < f.blocks.length
    · have hlt' : (v : Int) < f.blocks.length := by omega
      have hv0 : (0 : Int) ≤ v := by omega
      obtain ⟨bL, oL, cL', hLe, -, hbL, hrow, -⟩ := hL.blocks (by omega)
      cases hLe
      obtain ⟨u, hu, huc⟩ := hrow v hlt
      rw [show (f.blocks.getD v default).next = nxB f v by simp [nxB]] at hu
      obtain ⟨x1, x2, x3⟩ := huc wr hsv
      have lL := hsv.lt' hbL
      have hl2 := h2 v
      clear hrow huc
      generalize (f.blocks.getD v default).from_ = fr at *
      generalize (f.blocks.getD v default).to_ = tt at *
      have hx := hu
      obtain ⟨Au, cu, rfl, -, -⟩ := hx.open_
      clear hx
      have hset := set_new wr
      gi_wp2
      clear hset x1 x2 x3 lL
      have hJ1 := hJ _ _ _ none hJv (World.grownBy_alloc wr (.cells #[.int .i64 fr, .int .i64 tt, .slice Au (nxB f v).length cu] 38) none) (fun r e => by cases e)
      have hs1 : Sees (wr.alloc (.cells #[.int .i64 fr, .int .i64 tt, .slice Au (nxB f v).length cu] 38)) K := fun i o e => ga_old (hsv i o e)
      clear hJv hsv
      obtain ⟨wo, rfl⟩ : ∃ wo : World, wo = wr := ⟨_, rfl⟩
      gi_loopw [20] (fun i wj => ∃ j : Nat, j ≤ (nxB f v).length ∧ i = .int .i64 j ∧ J (subE f (rawE f v j)) wj ∧ Sees wj K) (fun i _ => (nxB f v).length - (intOf i).toNat)
      case atStart => exact ⟨0, Nat.zero_le _, rfl, hJ1, hs1⟩
      clear hJ1 hs1
      case round =>
        obtain ⟨j, hj, rfl, hJj, hsj⟩ := hrel
        by_cases hjt : j < (nxB f v).length
        · have hjt' : (j : Int) < (nxB f v).length := by omega
          obtain ⟨bu, ou, cu2, eu, -, hbu, hucell, -⟩ := hu.ints (by omega)
          cases eu
          have d1 := hucell wr hsj j hjt
          have lu := hsj.lt' hbu
          have hyg : (nxB f v)[j]? = some ((nxB f v).getD j 0) := by simp [hjt]
          have q1 := cell_blk (hsj _ _ hbs) 0
          simp only [List.getElem?_toArray, List.getElem?_cons_zero] at q1
          have q5 := box5 (hsj _ _ hb5)
          have l1 := hsj.lt hbs
          have l5 := hsj.lt hb5
          obtain ⟨rb, ro, rc, hve, -, hrb, hrcell⟩ := hRe.bools (by omega)
          rw [hlR] at hve
          cases hve
          have hcr := hrcell wr hsj v (by omega)
          have lr := hsj.lt' hrb
          clear hucell hrcell
          obtain ⟨y, hy0⟩ : ∃ y, (nxB f v).getD j 0 = y := ⟨_, rfl⟩
          rw [hy0] at d1 hyg
          cases hrv : f.reached.getD v false
          · rw [hrv] at hcr
            have hst := Lib.hid (show rawE f v (j + 1) = rawE f v j by rw [rawE_dead hrv, rawE_dead hrv j])
            clear hrv hy0 hyg
            gi_wp2
            go_roundw
            case rel => exact ⟨j + 1, by omega, by simp, by rw [hst.out]; exact hJj, hsj⟩
            case measure => simp [intOf]; omega
          · rw [hrv] at hcr
            have hE : EdgeP f ((v : Int), y) := ⟨⟨by simp, by simp; omega⟩, by simpa using hrv, List.mem_of_getElem? hyg⟩
            have hst := Lib.hid (rawE_step hrv hyg)
            have hpre := Lib.hid (rawE_pre (f := f) (v := v) (j := j + 1) hlt)
            have hlen : (subE f (rawE f v j)).length < (edgesR f).length := by
              have h1 := hpre.out.length_le
              rw [hst.out, List.length_append, List.length_singleton] at h1
              have h3 := subE_len (f := f) (xs := rawE f v j)
              omega
            obtain ⟨fn, tmps, assign, body, hy, hR⟩ := hY _ ⟨((v : Int), y), hE⟩ wr hJj hlen
            dsimp only at hy
            clear hrv hy0 hyg hlen
            gi_wp2
            refine hR.mono ?_
            rintro e W3 (⟨rfl, hJ3, hk3⟩ | ⟨rfl, hJx3⟩)
            · clear hy hR q1 q5 d1 hcr
              gi_wp2
              go_roundw
              case rel => exact ⟨j + 1, by omega, by simp, by rw [hst.out, subE_snoc hE]; exact hJ3, hk3 hsj⟩
              case measure => simp [intOf]; omega
            · clear hy hR
              gi_wp2
              refine bodyPost_ret (results_none rfl _ _ _) rfl ?_
              exact ⟨⟨_, rfl⟩, .inr ⟨_, by have h9 := subE_pre (f := f) hpre.out; rw [hst.out, subE_snoc hE] at h9; exact h9, hJx3⟩⟩
        · obtain rfl : j = (nxB f v).length := by omega
          have hltn2 : ¬ ((nxB f v).length : Int) < (nxB f v).length := by omega
          have hst := Lib.hid (rawE_next f v (nxB f v).length (by unfold rowE; split <;> simp))
          rw [hst.out] at hJj
          clear hjt
          gi_wp2
          go_roundw
          case rel => exact ⟨v + 1, by omega, by simp, hJj, hsj⟩
          case measure => simp [intOf]; omega
    · obtain rfl : v = f.blocks.length := by omega
      have hltn : ¬ (f.blocks.length : Int) < f.blocks.length := by omega
      rw [rawE_zero] at hJv
      gi_wp2
      go_end0
      first
        | exact ⟨⟨_, rfl⟩, .inl ⟨_, rfl, hJv⟩⟩
        | exact ⟨⟨_, rfl⟩, .inl hJv⟩
/-- What the iterator wants kept: all that it reads. -/
def KpK (K : PH) (W W' : World) : Prop := Sees W K → Sees W' K
def encE {f : FlowD} (x : EdgeT f) : Array Value := #[.int .i64 x.1.1, .int .i64 x.1.2]
theorem edges_stops (F : Fence) (n : Nat) (hfn : ∀ f, F.fn f) (hro : F.round = none) (hn : 1 ≤ n) (Bs : Nat) (K : PH) (f : FlowD) (hF : BoxF K Bs f) (h2 : ∀ x, (nxB f x).length ≤ 20000) (w : World) (hs : Sees w K) :
    SeqStopsK F n Try.prog 73 #[.pointer (some ⟨Bs, 0, none⟩)] (encE (f := f)) (KpK K) (fun ys => ys = subE f (edgesR f)) (fun pre => pre <+: subE f (edgesR f)) (edgesR f).length w := by
  intro l J Jx W hW hJ hJx hY h0
  exact edges_1 F n hfn hro hn l Bs K f hF h2 J Jx _ hJ hY W (hs.below hW) h0
theorem flow_edges (v : Option Addr) (w : World) :
    Calls Try.prog 51 #[.pointer v] w fun e w' => e = .returned (.func (.func 73) #[] #[.pointer (some ⟨w.heap.size, 0, none⟩)]) ∧ w' = w.alloc (.cells #[.pointer v] 71) := by
  have hmf : ∀ (fn : Fn) (first cap : Array Value) (w : World), (Instr.makeFunc fn first cap).run Try.prog w = .ok (.func fn first cap) w := fun _ _ _ _ => rfl
  go_enter Try.func51, Try.ntmps51
  go_wp2
  go_ret
  exact ⟨rfl, rfl⟩
end Go.Proofs.Ytififjlgjmgikaa
