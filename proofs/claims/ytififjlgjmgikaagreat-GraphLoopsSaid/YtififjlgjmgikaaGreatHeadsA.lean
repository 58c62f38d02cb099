/- graph.edges: the iterator over the edges between reached blocks. graph.heads. -/
import Derived.Test.YtififjlgjmgikaaGreatDomM
import Derived.Test.YtififjlgjmgikaaGreatAvoid
import Derived.RangeFuncNested
import Derived.RangeFuncBound
import Derived.RangeFuncCalls
import Derived.RangeFuncLeaves
import Derived.Shelf.Abstract
import Derived.Shelf.RegionOpen
import Derived.OwnWalkIn
import Derived.TacticsInMore
import Derived.LoopNIn
import Derived.LoopIn
import Derived.Test.YtififjlgjmgikaaGreatPlanA
import Derived.Test.YtififjlgjmgikaaGreatIdomM
import Derived.Deep.AppendLies
namespace Go.Proofs.YtififjlgjmgikaaGreat
set_option linter.all false
open Go.RowKit Go.Shelf
attribute [local go_sem] Oper.semAt_some

/-- An edge that goes out from a reached block. -/
def EdgeP (f : FlowD) (x : Int × Int) : Prop := (0 ≤ x.1 ∧ x.1 < f.blocks.length) ∧ f.reached.getD x.1.toNat false = true ∧ x.2 ∈ nxB f x.1
abbrev EdgeT (f : FlowD) := { x : Int × Int // EdgeP f x }
open Classical in
noncomputable def subE (f : FlowD) (xs : List (Int × Int)) : List (EdgeT f) := xs.filterMap fun x => if h : EdgeP f x then some ⟨x, h⟩ else none
theorem subE_snoc {f : FlowD} {xs : List (Int × Int)} {x : Int × Int} (h : EdgeP f x) : subE f (xs ++ [x]) = subE f xs ++ [⟨x, h⟩] := by
  unfold subE
  rw [List.filterMap_append]
  simp [h]
theorem subE_val {f : FlowD} {xs : List (Int × Int)} (h : ∀ x ∈ xs, EdgeP f x) : (subE f xs).map (·.1) = xs := by
  induction xs with
  | nil => rfl
  | cons x xs ih =>
    have hx := h x (by simp)
    unfold subE at ih ⊢
    rw [List.filterMap_cons]
    simp only [hx, dif_pos, List.map_cons]
    rw [ih fun y hy => h y (by simp [hy])]
theorem subE_pre {f : FlowD} {xs ys : List (Int × Int)} (h : xs <+: ys) : subE f xs <+: subE f ys := by
  obtain ⟨t, rfl⟩ := h
  exact ⟨subE f t, by unfold subE; rw [List.filterMap_append]⟩
/-- The edges of block v. -/
def rowE (f : FlowD) (v : Nat) : List (Int × Int) := if f.reached.getD v false = true then (nxB f v).map fun y => ((v : Int), y) else []
/-- What has come behind v blocks and j of the next one's. -/
def rawE (f : FlowD) (v j : Nat) : List (Int × Int) := (List.range v).flatMap (rowE f) ++ (rowE f v).take j
def edgesR (f : FlowD) : List (Int × Int) := (List.range f.blocks.length).flatMap (rowE f)
theorem rawE_zero (f : FlowD) (v : Nat) : rawE f v 0 = (List.range v).flatMap (rowE f) := by simp [rawE]
theorem rawE_next (f : FlowD) (v j : Nat) (hj : (rowE f v).length ≤ j) : rawE f v j = rawE f (v + 1) 0 := by
  rw [rawE_zero, List.range_succ, List.flatMap_append]
  unfold rawE
  rw [List.take_of_length_le hj]
  simp
theorem rawE_step {f : FlowD} {v j : Nat} (hr : f.reached.getD v false = true) {y : Int} (hy : (nxB f v)[j]? = some y) : rawE f v (j + 1) = rawE f v j ++ [((v : Int), y)] := by
  unfold rawE
  rw [List.append_assoc]
  congr 1
  rw [List.take_add_one]
  congr 1
  unfold rowE
  rw [if_pos hr, List.getElem?_map, hy]
  rfl
theorem rawE_dead {f : FlowD} {v : Nat} (hr : f.reached.getD v false = false) (j : Nat) : rawE f v j = rawE f v 0 := by
  have e : rowE f v = [] := by unfold rowE; rw [hr]; rfl
  unfold rawE
  rw [e]
  simp
theorem rawE_pre {f : FlowD} {v j : Nat} (hv : v < f.blocks.length) : rawE f v j <+: edgesR f := by
  have h1 : rawE f v j <+: rawE f (v + 1) 0 := by
    rw [← rawE_next f v (rowE f v).length (Nat.le_refl _)]
    unfold rawE
    rw [List.take_length]
    exact (List.prefix_append_right_inj _).2 (List.take_prefix _ _)
  refine h1.trans ?_
  rw [rawE_zero]
  unfold edgesR
  obtain ⟨d, hd⟩ : ∃ d, f.blocks.length = v + 1 + d := ⟨f.blocks.length - (v + 1), by omega⟩
  have e : List.range (v + 1 + d) = List.range (v + 1) ++ (List.range d).map (v + 1 + ·) := List.range_add
  rw [hd, e, List.flatMap_append]
  exact List.prefix_append _ _
theorem edgesR_all {f : FlowD} : ∀ x ∈ edgesR f, EdgeP f x := by
  intro x hx
  unfold edgesR at hx
  obtain ⟨v, hv, hx⟩ := List.mem_flatMap.1 hx
  have hv := List.mem_range.1 hv
  unfold rowE at hx
  split at hx
  · rename_i hr
    obtain ⟨y, hy, rfl⟩ := List.mem_map.1 hx
    exact ⟨by simp; omega, by simpa using hr, hy⟩
  · cases hx
theorem edgesR_mem {f : FlowD} {x : Int × Int} : x ∈ edgesR f ↔ EdgeP f x := by
  refine ⟨fun h => edgesR_all x h, fun h => ?_⟩
  obtain ⟨a, y⟩ := x
  obtain ⟨h1, h2, h3⟩ := h
  simp only at h1 h2 h3
  unfold edgesR
  refine List.mem_flatMap.2 ⟨a.toNat, List.mem_range.2 (by omega), ?_⟩
  unfold rowE
  rw [if_pos h2]
  have e : ((a.toNat : Nat) : Int) = a := by omega
  rw [e]
  exact List.mem_map.2 ⟨y, h3, rfl⟩
theorem subE_len {f : FlowD} {xs : List (Int × Int)} : (subE f xs).length ≤ xs.length := by unfold subE; exact List.length_filterMap_le _ _
/-- A store into the block that was laid last. -/
theorem set_new (w : World) (arr : Array Value) (t : TypeId) (i : Nat) (v : Value) : (w.alloc (.cells arr t)).setCell ⟨w.heap.size, i, none⟩ v = w.alloc (.cells (arr.setIfInBounds i v) t) := by
  simp only [World.setCell, World.alloc]
  congr 1
  apply Array.ext_getElem?
  intro k
  rw [Array.getElem?_modify]
  by_cases h : w.heap.size = k
  · subst h
    simp
  · have h' : ¬ k = w.heap.size := fun e => h e.symm
    simp [h, h', Array.getElem?_push]
set_option maxHeartbeats 4000000 in
set_option maxRecDepth 100000 in
theorem edges_1 (F : Fence) (n : Nat) (hfn : ∀ f, F.fn f) (hro : F.round = none) (hn : 1 ≤ n) (l Bs : Nat) (K : PH) (f : FlowD) (hF : BoxF K Bs f) (h2 : ∀ x, (nxB f x).length ≤ 20000) (J Jx : List (EdgeT f) → World → Prop) (n0 : Nat) (hJ : AbidesFrom n0 J)
    (hY : ∀ pre x W, J pre W → pre.length < (edgesR f).length → YieldAt F (n - 1) Tryz.prog l #[.int .i64 x.1.1, .int .i64 x.1.2] W fun e W' =>
      (e = .returned (.bool true) ∧ J (pre ++ [x]) W' ∧ (Sees W K → Sees W' K)) ∨ (e = .returned (.bool false) ∧ Jx (pre ++ [x]) W'))
    (W : World) (hs : Sees W K) (h0 : J [] W) :
    CallsIn F n Tryz.prog 107 #[.func (.yield l) #[] #[], .pointer (some ⟨Bs, 0, none⟩)] W fun e W' => (∃ v, e = .returned v) ∧
      ((∃ ys, ys = subE f (edgesR f) ∧ J ys W') ∨ (∃ pre, pre <+: subE f (edgesR f) ∧ Jx pre W')) := by
  obtain ⟨fv, hbs, hfv⟩ := hF
  obtain ⟨bf, u0, u1, u2, u3, m, rfl, hb5, hfc⟩ := hfv
  have hle := hfc.le
  have hlR := hfc.lenR
  have hL := hfc.blocks
  have hRe := hfc.reached
  have hnx := Lib.hid hfc.next
  obtain ⟨AL, cL, rfl, -, -⟩ := hL.open_
  obtain ⟨AR, cR, rfl, -, -⟩ := hRe.open_
  clear hfc
  rw [hlR] at hb5
  have q1 := cell_blk (hs _ _ hbs) 0
  simp only [List.getElem?_toArray, List.getElem?_cons_zero] at q1
  have q5 := box5 (hs _ _ hb5)
  have l1 := hs.lt hbs
  have l5 := hs.lt hb5
  refine callsIn_of_wp Tryz.func107 rfl (hfn _) ?_ hro
  simp only [Tryz.ntmps107, List.size_toArray, List.length_cons, List.length_nil, Nat.reduceAdd, Nat.reduceSub, Array.replicate_succ, Array.replicate_zero, List.push_toArray, List.append_toArray, List.nil_append, List.cons_append]
  gi_wp2
  clear q1 q5 l1 l5
  gi_loopw [12] (fun i wr => ∃ v : Nat, v ≤ f.blocks.length ∧ i = .int .i64 v ∧ J (subE f (rawE f v 0)) wr ∧ Sees wr K) (fun i _ => f.blocks.length - (intOf i).toNat)
  case atStart => exact ⟨0, Nat.zero_le _, rfl, by rw [rawE_zero]; exact h0, hs⟩
  case round =>
    obtain ⟨v, hv, rfl, hJv, hsv⟩ := hrel
    by_cases hlt : v < f.blocks.length
    · have hlt' : (v : Int) < f.blocks.length := by omega
      have hv0 : (0 : Int) ≤ v := by omega
      obtain ⟨bL, oL, cL', hLe, -, hbL, hrow, -⟩ := hL.blocks (by omega)
      cases hLe
      obtain ⟨u, hu, huc⟩ := hrow v hlt
      rw [show (f.blocks.getD v default).next = nxB f v by simp [nxB]] at hu
      obtain ⟨x1, x2, x3⟩ := huc wr hsv
      have lL := hsv.lt' hbL
      have hl2 := h2 v
      clear hrow huc
      generalize (f.blocks.getD v default).from_ = fr at *
      generalize (f.blocks.getD v default).to_ = tt at *
      have hx := hu
      obtain ⟨Au, cu, rfl, -, -⟩ := hx.open_
      clear hx
      have hset := set_new wr
      gi_wp2
      clear hset x1 x2 x3 lL
      have hJ1 := hJ _ _ _ none hJv (World.grownBy_alloc wr (.cells #[.int .i64 fr, .int .i64 tt, .slice Au (nxB f v).length cu] 41) none) (fun r e => by cases e)
      have hs1 : Sees (wr.alloc (.cells #[.int .i64 fr, .int .i64 tt, .slice Au (nxB f v).length cu] 41)) K := fun i o e => ga_old (hsv i o e)
      clear hJv hsv
      obtain ⟨wo, rfl⟩ : ∃ wo : World, wo = wr := ⟨_, rfl⟩
      gi_loopw [20] (fun i wj => ∃ j : Nat, j ≤ (nxB f v).length ∧ i = .int .i64 j ∧ J (subE f (rawE f v j)) wj ∧ Sees wj K) (fun i _ => (nxB f v).length - (intOf i).toNat)
      case atStart => exact ⟨0, Nat.zero_le _, rfl, hJ1, hs1⟩
      clear hJ1 hs1
      case round =>
        obtain ⟨j, hj, rfl, hJj, hsj⟩ := hrel
        by_cases hjt : j < (nxB f v).length
        · have hjt' : (j : Int) < (nxB f v).length := by omega
          obtain ⟨bu, ou, cu2, eu, -, hbu, hucell, -⟩ := hu.ints (by omega)
          cases eu
          have d1 := hucell wr hsj j hjt
          have lu := hsj.lt' hbu
          have hyg : (nxB f v)[j]? = some ((nxB f v).getD j 0) := by simp [hjt]
          have q1 := cell_blk (hsj _ _ hbs) 0
          simp only [List.getElem?_toArray, List.getElem?_cons_zero] at q1
          have q5 := box5 (hsj _ _ hb5)
          have l1 := hsj.lt hbs
          have l5 := hsj.lt hb5
          obtain ⟨rb, ro, rc, hve, -, hrb, hrcell⟩ := hRe.bools (by omega)
          rw [hlR] at hve
          cases hve
          have hcr := hrcell wr hsj v (by omega)
          have lr := hsj.lt' hrb
          clear hucell hrcell
          obtain ⟨y, hy0⟩ : ∃ y, (nxB f v).getD j 0 = y := ⟨_, rfl⟩
          rw [hy0] at d1 hyg
          cases hrv : f.reached.getD v false
          · rw [hrv] at hcr
            have hst := Lib.hid (show rawE f v (j + 1) = rawE f v j by rw [rawE_dead hrv, rawE_dead hrv j])
            clear hrv hy0 hyg
            gi_wp2
            go_roundw
            case rel => exact ⟨j + 1, by omega, by simp, by rw [hst.out]; exact hJj, hsj⟩
            case measure => simp [intOf]; omega
          · rw [hrv] at hcr
            have hE : EdgeP f ((v : Int), y) := ⟨⟨by simp, by simp; omega⟩, by simpa using hrv, List.mem_of_getElem? hyg⟩
            have hst := Lib.hid (rawE_step hrv hyg)
            have hpre := Lib.hid (rawE_pre (f := f) (v := v) (j := j + 1) hlt)
            have hlen : (subE f (rawE f v j)).length < (edgesR f).length := by
              have h1 := hpre.out.length_le
              rw [hst.out, List.length_append, List.length_singleton] at h1
              have h3 := subE_len (f := f) (xs := rawE f v j)
              omega
            obtain ⟨fn, tmps, assign, body, hy, hR⟩ := hY _ ⟨((v : Int), y), hE⟩ wr hJj hlen
            dsimp only at hy
            clear hrv hy0 hyg hlen
            gi_wp2
            refine hR.mono ?_
            rintro e W3 (⟨rfl, hJ3, hk3⟩ | ⟨rfl, hJx3⟩)
            · clear hy hR q1 q5 d1 hcr
              gi_wp2
              go_roundw
              case rel => exact ⟨j + 1, by omega, by simp, by rw [hst.out, subE_snoc hE]; exact hJ3, hk3 hsj⟩
              case measure => simp [intOf]; omega
            · clear hy hR
              gi_wp2
              refine bodyPost_ret (results_none rfl _ _ _) rfl ?_
              exact ⟨⟨_, rfl⟩, .inr ⟨_, by have h9 := subE_pre (f := f) hpre.out; rw [hst.out, subE_snoc hE] at h9; exact h9, hJx3⟩⟩
        · obtain rfl : j = (nxB f v).length := by omega
          have hltn2 : ¬ ((nxB f v).length : Int) < (nxB f v).length := by omega
          have hst := Lib.hid (rawE_next f v (nxB f v).length (by unfold rowE; split <;> simp))
          rw [hst.out] at hJj
          clear hjt
          gi_wp2
          go_roundw
          case rel => exact ⟨v + 1, by omega, by simp, hJj, hsj⟩
          case measure => simp [intOf]; omega
    · obtain rfl : v = f.blocks.length := by omega
      have hltn : ¬ (f.blocks.length : Int) < f.blocks.length := by omega
      rw [rawE_zero] at hJv
      gi_wp2
      go_end0
      first
        | exact ⟨⟨_, rfl⟩, .inl ⟨_, rfl, hJv⟩⟩
        | exact ⟨⟨_, rfl⟩, .inl hJv⟩
/-- What the iterator wants kept: all that it reads. -/
def KpK (K : PH) (W W' : World) : Prop := Sees W K → Sees W' K
def encE {f : FlowD} (x : EdgeT f) : Array Value := #[.int .i64 x.1.1, .int .i64 x.1.2]
theorem edges_stops (F : Fence) (n : Nat) (hfn : ∀ f, F.fn f) (hro : F.round = none) (hn : 1 ≤ n) (Bs : Nat) (K : PH) (f : FlowD) (hF : BoxF K Bs f) (h2 : ∀ x, (nxB f x).length ≤ 20000) (w : World) (hs : Sees w K) :
    SeqStopsK F n Tryz.prog 107 #[.pointer (some ⟨Bs, 0, none⟩)] (encE (f := f)) (KpK K) (fun ys => ys = subE f (edgesR f)) (fun pre => pre <+: subE f (edgesR f)) (edgesR f).length w := by
  intro l J Jx W hW hJ hJx hY h0
  exact edges_1 F n hfn hro hn l Bs K f hF h2 J Jx _ hJ hY W (hs.below hW) h0
theorem flow_edges (v : Option Addr) (w : World) :
    Calls Tryz.prog 71 #[.pointer v] w fun e w' => e = .returned (.func (.func 107) #[] #[.pointer (some ⟨w.heap.size, 0, none⟩)]) ∧ w' = w.alloc (.cells #[.pointer v] 76) := by
  have hmf : ∀ (fn : Fn) (first cap : Array Value) (w : World), (Instr.makeFunc fn first cap).run Tryz.prog w = .ok (.func fn first cap) w := fun _ _ _ _ => rfl
  go_enter Tryz.func71, Tryz.ntmps71
  go_wp2
  go_ret
  exact ⟨rfl, rfl⟩
end Go.Proofs.YtififjlgjmgikaaGreat
namespace Go.Proofs.YtififjlgjmgikaaGreat
set_option linter.all false
open Go.RowKit Go.Shelf
attribute [local go_sem] Oper.semAt_some

/-- append of one number, at a step inside a fence. -/
theorem wpIn_appI {F : Fence} {m : Nat} {o : Oper} {a : Act} {K : Act → World → Prop} {Q : Exit → Act → World → Prop} {w : World} (hfn : ∀ f, F.fn f) (s x : Operand)
    (ho : o.op = .call { callee := .builtin .append, args := #[s, x], argTypes := #[28, 28] }) (base : Nat) (v : Value) (xs : List Int) (hs : a.eval s = v) (hown : OwnI w base v xs)
    (n c : Nat) (y : Int) (hx : a.eval x = .slice (some ⟨n, 0, none⟩) 1 c) (hb : w.heap[n]? = some (.cells #[.int .i64 y] 3 (0, 0))) (hl : xs.length ≤ 1000000) (hbase : base ≤ w.heap.size)
    (h : ∀ g cap w', OwnI w' base (.slice (some ⟨g, 0, none⟩) (xs.length + 1) cap) (xs ++ [y]) → w.grownBy w' v.ownBlock → (v.ownBlock = some g ∨ g = w.heap.size) → g < w'.heap.size → K (a.put o.dst (.slice (some ⟨g, 0, none⟩) (xs.length + 1) cap)) w') :
    Oper.wpIn F m Tryz.prog o a w K Q := by
  obtain ⟨i0, hi, hz0, hz1, hz2⟩ := info_parts infoInt
  obtain ⟨g, cap, w', hr, h2, h3, h4, h5⟩ := run_append_lies (P := Tryz.prog) w 28 o.type base 3 i0 (.int .i64 0) 1 8 Tryz.underlying28 hi hz0 hz1 hz2 rfl (by decide) v xs.length (ints xs) hown ⟨n, 0, none⟩ 1 c [.int .i64 y] rfl
    (World.news_of_block hb) (by simp [Value.oneCell']) (by decide) (by unfold maxLen; omega) (by omega) hbase w.heap.size rfl
  unfold Oper.wpIn
  refine ⟨fun f _ => hfn f, ?_⟩
  rw [Oper.semAt_eq _ _ _ (by intro c hc; rw [ho] at hc; cases hc)]
  simp only [execOp, ho, resolve, invoke, builtin, Sem.run_bind, Sem.run_pure, Result.andThen_ok, List.map_toArray, List.map_cons, List.map_nil, hs, hx, hr]
  exact h g cap w' (by unfold OwnI; rw [List.length_append, ints, List.map_append]; exact h2) h3 h4 h5
/-- A store into a map, at a step inside a fence. -/
theorem wpIn_mapUp {F : Fence} {n : Nat} {o : Oper} {a : Act} {K : Act → World → Prop} {Q : Exit → Act → World → Prop} {w : World} (hfn : ∀ f, F.fn f) (m x v : Operand) (T : TypeId) (hop : o.op = Op.mapUpdate T m x v) {Kt E : TypeId} (hT : Tryz.prog.underlying T = some (.map Kt E))
    (hK : KeyK Tryz.prog Kt encI) (b : Nat) (l : IntMap) (hm : a.eval m = .map (some b)) (hM : MapL encI w b l) (k : Int) (val : Value) (hx : a.eval x = encI k) (hv : a.eval v = val)
    (h : ∀ w', MapL encI w' b (mput l k val) → w.grownBy w' (some b) → K (a.put o.dst undef) w') : Oper.wpIn F n Tryz.prog o a w K Q := by
  obtain ⟨w', hrun, r1, r2⟩ := hM.update hT hK (fun a b e => by simpa [encI] using e) k val
  unfold Oper.wpIn
  refine ⟨fun f _ => hfn f, ?_⟩
  rw [Oper.semAt_eq _ _ _ (by intro c hc; rw [hop] at hc; cases hc)]
  simp [execOp, hop, hm, hx, hv, hrun, Result.andThen]
  exact h w' r1 r2
/-- An edge that leads back to a block that dominates where it comes from. -/
noncomputable def backB (f : FlowD) (e : Int × Int) : Bool := domB f e.2.toNat e.1.toNat
/-- Where the edges come from that lead back to y. -/
noncomputable def headsR (f : FlowD) (pre : List (Int × Int)) (y : Int) : List Int := (pre.filter fun e => decide (e.2 = y) && backB f e).map (·.1)
theorem headsR_snoc (f : FlowD) (pre : List (Int × Int)) (e : Int × Int) (y : Int) : headsR f (pre ++ [e]) y = headsR f pre y ++ if e.2 = y ∧ backB f e = true then [e.1] else [] := by
  unfold headsR
  rw [List.filter_append, List.map_append]
  congr 1
  by_cases h : e.2 = y
  · cases hb : backB f e <;> simp [h, hb]
  · simp [h]
theorem headsR_len (f : FlowD) (pre : List (Int × Int)) (y : Int) : (headsR f pre y).length ≤ pre.length := by
  unfold headsR
  rw [List.length_map]
  exact List.length_filter_le _ _
theorem edgesR_len {f : FlowD} (h2 : ∀ x, (nxB f x).length ≤ 2) : (edgesR f).length ≤ f.blocks.length * 2 := by
  unfold edgesR
  have key : ∀ n, ((List.range n).flatMap (rowE f)).length ≤ n * 2 := by
    intro n
    induction n with
    | zero => simp
    | succ n ih =>
      rw [List.range_succ, List.flatMap_append, List.length_append]
      have h3 : (rowE f n).length ≤ 2 := by
        unfold rowE
        split
        · rw [List.length_map]; exact h2 n
        · simp
      simp only [List.flatMap_cons, List.flatMap_nil, List.append_nil]
      omega
  exact key _
theorem headsR_mem {f : FlowD} {pre : List (Int × Int)} {y x : Int} : x ∈ headsR f pre y ↔ (x, y) ∈ pre ∧ backB f (x, y) = true := by
  unfold headsR
  simp only [List.mem_map, List.mem_filter, Bool.and_eq_true, decide_eq_true_eq]
  constructor
  · rintro ⟨⟨a, b⟩, ⟨h1, rfl, h2⟩, rfl⟩; exact ⟨h1, h2⟩
  · rintro ⟨h1, h2⟩; exact ⟨(x, y), ⟨h1, rfl, h2⟩, rfl⟩
/-- What lies in memory behind some edges. -/
structure HdsI (f : FlowD) (K : PH) (B Mb : Nat) (pre : List (Int × Int)) (w W : World) (l : IntMap) : Prop where
  map : MapL encI W Mb l
  rows : ∀ y, OwnI W B ((mget l y).getD nilV) (headsR f pre y)
  inj : ∀ y y' k, y ≠ y' → ((mget l y).getD nilV).ownBlock = some k → ((mget l y').getD nilV).ownBlock ≠ some k
  has : ∀ y, (mget l y).isSome = true ↔ headsR f pre y ≠ []
  sees : Sees W K
  below : Below w.heap.size w W
  size : B ≤ W.heap.size
  ltM : Mb < B
  liveM : K Mb = none
  lowK : ∀ i o, K i = some o → i < B
  oldM : w.heap.size ≤ Mb
section
variable {f : FlowD} {K : PH} {B Mb : Nat} {pre : List (Int × Int)} {w W : World} {l : IntMap}
theorem HdsI.turn (h : HdsI f K B Mb pre w W l) {W' : World} {row : Option Nat} (hg : W.grownBy W' row) (hr : ∀ r, row = some r → B ≤ r ∧ ∃ o : Obj, W.heap[r]? = some o ∧ o.isCells = false) : HdsI f K B Mb pre w W' l := by
  have hlow : ∀ b, b < B → W'.heap[b]? = W.heap[b]? := fun b hb => hg.block b (by have := h.size; omega) (fun e => by have := (hr b e.symm).1; omega)
  exact { h with
    map := h.map.of_block (hlow _ h.ltM)
    rows := fun y => (h.rows y).of_block fun k hk => hg.block k ((h.rows y).lt hk).2 (fun e => by
      obtain ⟨_, o, ho, hc⟩ := hr k e.symm
      rcases (h.rows y).2 with ⟨e1, _⟩ | ⟨g, cap, cur, e1, _, e3, _⟩
      · rw [e1] at hk; cases hk
      · rw [e1] at hk
        have : g = k := Option.some.inj hk
        subst this
        rw [e3] at ho
        injection ho with ho
        subst ho
        cases hc)
    sees := fun i o e => (hlow i (h.lowK i o e)).trans (h.sees i o e)
    below := h.below.grown hg h.below.size fun k hk => by have := (hr k hk).1; have := h.ltM; have := h.oldM; omega
    size := Nat.le_trans h.size hg.size }
theorem HdsI.al (h : HdsI f K B Mb pre w W l) (o : Obj) : HdsI f K B Mb pre w (W.alloc o) l := h.turn (World.grownBy_alloc W o none) (fun r e => by cases e)
theorem HdsI.drew (h : HdsI f K B Mb pre w W l) : HdsI f K B Mb pre w W.drew l := h.turn (row := none) ⟨rfl, rfl, rfl, Nat.le_refl _, fun _ _ _ => rfl⟩ (fun r e => by cases e)
/-- One more edge that leads back. -/
theorem HdsI.add (h : HdsI f K B Mb pre w W l) {e : Int × Int} (hb : backB f e = true) {W6 W7 : World} {g n cap : Nat}
    (h6 : OwnI W6 B (.slice (some ⟨g, 0, none⟩) n cap) (headsR f pre e.2 ++ [e.1])) (hg6 : W.grownBy W6 ((mget l e.2).getD nilV).ownBlock) (hat : ((mget l e.2).getD nilV).ownBlock = some g ∨ g = W.heap.size)
    (hM7 : MapL encI W7 Mb (mput l e.2 (.slice (some ⟨g, 0, none⟩) n cap))) (hg7 : W6.grownBy W7 (some Mb)) : HdsI f K B Mb (pre ++ [e]) w W7 (mput l e.2 (.slice (some ⟨g, 0, none⟩) n cap)) := by
  have hgB : B ≤ g := (h6.lt (k := g) rfl).1
  have hown : ∀ k, ((mget l e.2).getD nilV).ownBlock = some k → B ≤ k ∧ k < W.heap.size := fun k hk => (h.rows e.2).lt hk
  have hlow : ∀ b, b < B → b ≠ Mb → W7.heap[b]? = W.heap[b]? := fun b hb hne => (hg7.block b (by have := h.size; have := hg6.size; omega) (fun e => hne (Option.some.inj e))).trans (hg6.block b (by have := h.size; omega) (fun e => by have := (hown b e.symm).1; omega))
  have hget : ∀ y, mget (mput l e.2 (.slice (some ⟨g, 0, none⟩) n cap)) y = if y = e.2 then some (.slice (some ⟨g, 0, none⟩) n cap) else mget l y := fun y => mget_put _ _ _ _
  refine { h with map := hM7, rows := fun y => ?_, inj := fun y y' k hne hk => ?_, has := fun y => ?_, sees := fun i o ei => ?_, below := ?_, size := ?_ }
  · rw [hget, headsR_snoc]
    by_cases hy : y = e.2
    · subst hy
      rw [if_pos rfl, if_pos ⟨rfl, hb⟩]
      exact h6.of_block fun k hk => hg7.block k (h6.lt hk).2 (fun e2 => by have h1 : k = Mb := Option.some.inj e2; have h2 : g = k := Option.some.inj hk; have := h.ltM; omega)
    · rw [if_neg hy, if_neg (fun k => hy k.1.symm), List.append_nil]
      refine (h.rows y).of_block fun k hk => ?_
      have hk2 := (h.rows y).lt hk
      exact (hg7.block k (by have := hg6.size; omega) (fun e2 => by have h1 : k = Mb := Option.some.inj e2; have := h.ltM; omega)).trans (hg6.block k hk2.2 (fun e2 => h.inj y e.2 k hy hk e2.symm))
  · rw [hget] at hk ⊢
    by_cases hy : y = e.2
    · rw [if_pos hy] at hk
      have hgk : g = k := Option.some.inj hk
      subst hgk
      rw [if_neg (fun k => hne (by rw [hy, k]))]
      rcases hat with h1 | h1
      · exact fun h2 => h.inj y' e.2 g (fun k => hne (by rw [hy, k])) h2 h1
      · exact fun h2 => by have := ((h.rows y').lt h2).2; omega
    · rw [if_neg hy] at hk
      by_cases hy' : y' = e.2
      · rw [if_pos hy']
        intro h2
        have hgk : g = k := Option.some.inj h2
        subst hgk
        rcases hat with h1 | h1
        · exact h.inj y e.2 g hy hk h1
        · have := ((h.rows y).lt hk).2; omega
      · rw [if_neg hy']
        exact h.inj y y' k hne hk
  · rw [hget, headsR_snoc]
    by_cases hy : y = e.2
    · rw [if_pos hy, if_pos ⟨hy.symm, hb⟩]
      simp
    · rw [if_neg hy, if_neg (fun k => hy k.1.symm), List.append_nil]
      exact h.has y
  · exact (hlow i (h.lowK i o ei) (fun e2 => by rw [e2, h.liveM] at ei; cases ei)).trans (h.sees i o ei)
  · exact (h.below.grown hg6 h.below.size fun k hk => by have := (hown k hk).1; have := h.ltM; have := h.oldM; omega).grown hg7 (Nat.le_trans h.below.size hg6.size) fun k hk => by have h1 : Mb = k := Option.some.inj hk; have := h.oldM; omega
  · have := h.size; have := hg6.size; have := hg7.size; omega
/-- An edge that does not lead back. -/
theorem HdsI.pass (h : HdsI f K B Mb pre w W l) {e : Int × Int} (hb : backB f e = false) : HdsI f K B Mb (pre ++ [e]) w W l := by
  have e1 : ∀ y, headsR f (pre ++ [e]) y = headsR f pre y := fun y => by rw [headsR_snoc, if_neg (by rw [hb]; simp), List.append_nil]
  exact { h with rows := fun y => by rw [e1]; exact h.rows y, has := fun y => by rw [e1]; exact h.has y }
end
/-- The map of heads, as it reads. -/
def HeadsV (H : PH) (m : Nat) (f : FlowD) : Prop := ∃ l : IntMap, (∀ w, Sees w H → MapL encI w m l) ∧ (∀ y, SlV rInt H ((mget l y).getD nilV) (headsR f (edgesR f) y)) ∧ ∀ y, (mget l y).isSome = true ↔ headsR f (edgesR f) y ≠ []
/-- A step that turns a row of cells keeps what is no cells. -/
theorem keeps_own {B base : Nat} {W W' : World} {v : Value} {xs : List Int} (h : OwnI W base v xs) (hg : W.grownBy W' v.ownBlock) : KeepsFrom B W W' :=
  ⟨hg.size, fun k o _ hk ho => (hg.block k (Array.getElem?_eq_some_iff.1 hk).1 (fun e => by
    rcases h.2 with ⟨e1, _⟩ | ⟨g, cap, cur, e1, _, e3, _⟩
    · rw [e1] at e; cases e
    · rw [e1] at e
      have : k = g := Option.some.inj e
      subst this
      rw [e3] at hk
      injection hk with hk
      subst hk
      cases ho)).trans hk⟩
def HdRes (H : PH) (w w' : World) (f : FlowD) (e : Ending) : Prop := ∃ m, e = .returned (.map (some m)) ∧ w.heap.size ≤ m ∧ HeadsV (extH H w w') m f
theorem cell_heap1 {w w' : World} {b i : Nat} (h : w'.heap[b]? = w.heap[b]?) : w'.cell? ⟨b, i, none⟩ = w.cell? ⟨b, i, none⟩ := by simp [World.cell?, h]
theorem lt_heap1 {w w' : World} {b : Nat} (h : w'.heap[b]? = w.heap[b]?) (hb : b < w.heap.size) : b < w'.heap.size := by
  rw [Array.getElem?_eq_getElem hb] at h
  exact (Array.getElem?_eq_some_iff.1 h).1
theorem ga_fit {w : World} {o : Obj} {k : Nat} (h : w.heap.size = k) : (w.alloc o).heap[k]? = some o := by subst h; exact ga_new w o
theorem wpIn_name {F : Fence} {n : Nat} {P : Program} {c : Code} {Q : Exit → Act → World → Prop} {a : Act} {W : World} (h : ∀ w1, w1 = W → c.wpIn F n P Q a w1) : c.wpIn F n P Q a W := h W rfl
/-- All that is known, but one block. -/
def exM (H : PH) (w W0 : World) (Mb : Nat) : PH := fun i => if i = Mb then none else extH H w W0 i
set_option maxHeartbeats 4000000 in
set_option maxRecDepth 100000 in
theorem flow_heads (H : PH) (v : Value) (f : FlowD) (w : World) (hw : Sees w H) (hf : FlowV H v f) (h2 : ∀ x, (nxB f x).length ≤ 2) :
    Calls Tryz.prog 76 #[v] w fun e w' => HdRes H w w' f e ∧ Below w.heap.size w w' := by
  have hD := flow_dominators H v f w hw hf
  have hf0 := hf
  obtain ⟨bf, u0, u1, u2, u3, m, rfl, hb5, hfc⟩ := hf
  have hle := hfc.le
  have hnx := Lib.hid hfc.next
  have hmm := @run_makeMap Tryz.prog
  clear hfc
  refine (callsIn_wide (n := 8)).1 ?_
  refine callsIn_of_wp_marks Tryz.func76 rfl trivial ?_ rfl
  simp only [Tryz.ntmps76, List.size_toArray, List.length_cons, List.length_nil, Nat.reduceAdd, Nat.reduceSub, Array.replicate_succ, Array.replicate_zero, List.push_toArray, List.append_toArray, List.nil_append, List.cons_append]
  gi_wp2_with (first
    | (refine ⟨trivial, ?_⟩; gi_at_call 86; refine (callsIn_wide.2 hD).mono ?_; rintro e w1 ⟨⟨ud, rfl, hud⟩, hB1⟩; have hudh := Lib.hid hud; obtain ⟨Ad, cd, rfl, -, -⟩ := hud.open_; clear hud)
    | (refine ⟨trivial, ?_⟩; gi_at_call 71; refine (callsIn_wide.2 (flow_edges _ _)).mono ?_; rintro e w2 ⟨rfl, rfl⟩))
  refine wpIn_name fun W0 hW0 => ?_
  have hz0 : W0.heap.size = w1.heap.size + 4 := by rw [hW0]; simp [World.size_alloc]
  have x1 : W0.heap[w1.heap.size]? = some (.cells #[.slice Ad (domL f).length cd] 117 (0, 0)) := by rw [hW0]; exact ga_old (ga_old (ga_old (ga_new _ _)))
  have x2 : W0.heap[w1.heap.size + 1]? = some (.map #[] 0) := by rw [hW0]; exact ga_old (ga_old (ga_fit (by simp [World.size_alloc])))
  have x3 : W0.heap[w1.heap.size + 1 + 1]? = some (.cells #[.map (some (w1.heap.size + 1))] 80 (0, 0)) := by rw [hW0]; exact ga_old (ga_fit (by simp [World.size_alloc]))
  have x4 : W0.heap[w1.heap.size + 1 + 1 + 1]? = some (.cells #[.pointer (some ⟨bf, 0, none⟩)] 76 (0, 0)) := by rw [hW0]; exact ga_fit (by simp [World.size_alloc])
  have hB10 : Below w1.heap.size w1 W0 := by rw [hW0]; exact ((((Below.refl _ _).alloc (Nat.le_refl _) _).alloc (by simp) _).alloc (by simp; omega) _).alloc (by simp; omega) _
  have hBw := bstep hB1 hB10
  clear hW0 hmm hD
  have hz1 := hB1.size
  have hs0 := extH.sees hw hBw
  have hM0 : MapL encI W0 (w1.heap.size + 1) [] := ⟨#[], 0, x2, rfl, by simp, by simp, by simp⟩
  have hK0 : ∀ i, i ≠ w1.heap.size + 1 → exM H w W0 (w1.heap.size + 1) i = extH H w W0 i := fun i hi => by unfold exM; rw [if_neg hi]
  have hKM : exM H w W0 (w1.heap.size + 1) (w1.heap.size + 1) = none := by unfold exM; rw [if_pos rfl]
  have hKs : Sees W0 (exM H w W0 (w1.heap.size + 1)) := fun i o e => by
    unfold exM at e
    split at e
    · cases e
    · exact hs0 i o e
  have hKH : PH.le H (exM H w W0 (w1.heap.size + 1)) := fun i o e => by
    have := hw.lt e
    rw [hK0 i (by omega)]
    exact extH.le hw W0 i o e
  have hK1 : PH.le (extH H w w1) (exM H w W0 (w1.heap.size + 1)) := fun i o e => by
    have h9 : i ≠ w1.heap.size + 1 := fun e2 => by
      subst e2
      unfold extH at e
      rw [if_neg (by omega), Array.getElem?_eq_none (by omega)] at e
      cases e
    rw [hK0 i h9]
    exact extH.step hB10 i o e
  have hKx : ∀ i o, w.heap.size ≤ i → i ≠ w1.heap.size + 1 → W0.heap[i]? = some o → exM H w W0 (w1.heap.size + 1) i = some o := fun i o h1 h3 h4 => by rw [hK0 i h3]; exact extH.new h1 h4
  have k1 := hKx _ _ hz1 (by omega) x1
  have k3 := hKx _ _ (by omega) (by omega) x3
  have k4 := hKx _ _ (by omega) (by omega) x4
  have hKF := hf0.mono hKH
  have hud := Lib.hid (hudh.out.mono hK1)
  have hI0 : HdsI f (exM H w W0 (w1.heap.size + 1)) W0.heap.size (w1.heap.size + 1) [] w W0 [] :=
    { map := hM0, rows := fun y => OwnI.nil _ _, inj := fun y y' k _ hk => (by cases hk), has := fun y => (by simp [headsR, mget, findL]), sees := hKs, below := hBw, size := Nat.le_refl _, ltM := by omega, liveM := hKM, lowK := fun i o e => hKs.lt e, oldM := by omega }
  clear hK0 hKx hK1 x1 x2 x3 x4 hM0 hs0 hudh
  generalize exM H w W0 (w1.heap.size + 1) = K at *
  refine wpIn_rangeFunc_ownG rfl (by omega) (gf := 107) (lb := #[.pointer (some ⟨w1.heap.size + 1 + 1 + 1, 0, none⟩)]) rfl trivial (enters_of Tryz.func107 (by kernel_rfl) rfl)
    (edges_stops Fence.wide (8 - 1) (fun _ => trivial) rfl (by omega) (w1.heap.size + 1 + 1 + 1) K f ⟨_, k4, hKF⟩ (fun x => Nat.le_trans (h2 x) (by omega)) W0 hKs) (fun h k hs => k (h hs))
    (fun W l o o' hl hlo hc hwk hs i ob e => (World.putObj_heap_other (by have := hKs.lt e; omega)).trans (hs i ob e)) (Below.refl _ _) (fun _ => rfl)
    (fun pre W => ∃ l, HdsI f K W0.heap.size (w1.heap.size + 1) (pre.map (·.1)) w W l) (fun _ _ _ => False)
    (fun s A B row hs hg hr => by obtain ⟨l, h⟩ := hs; exact ⟨l, h.turn hg hr⟩) (fun _ _ _ _ _ hs _ _ => hs.elim) ⟨[], hI0⟩
    (fun x => { tmps := #[.pointer (some ⟨bf, 0, none⟩), undef, .map none, .pointer (some ⟨w1.heap.size, 0, none⟩), .pointer (some ⟨w1.heap.size + 1 + 1, 0, none⟩), .int .i64 x.1.1, .int .i64 x.1.2, .pointer (some ⟨bf, 0, none⟩), .slice Ad (domL f).length cd, .map (some (w1.heap.size + 1)), .pointer (some ⟨bf, 0, none⟩), .func (.func 107) #[] #[.pointer (some ⟨w1.heap.size + 1 + 1 + 1, 0, none⟩)], .int .i64 x.1.1, .int .i64 x.1.2, undef, undef, undef, undef, undef, undef, undef, undef, undef, undef, undef, undef, undef, undef, undef, undef], defers := [] }) ?assign ?body ?done ?stop
  case assign =>
    intro l x W K hK
    simp only [encE]
    gi_wp2
    exact hK
  case stop =>
    rintro D c pre W _ _ h _
    exact h.elim
  case done =>
    rintro D ys W hD rfl ⟨l, hI⟩ hDk
    rw [subE_val edgesR_all] at hI
    have q := cell_blk (hI.sees _ _ k3) 0
    simp only [List.getElem?_toArray, List.getElem?_cons_zero] at q
    have lq := hI.sees.lt k3
    gi_wp2
    refine ⟨by simp, .inl ⟨_, _, rfl, run_takeDeferred hDk, ?_⟩⟩
    have hT := hI.turn (grownBy_putObj' W D (.deferred none)) (fun r e => by cases e; exact ⟨hD, _, hDk, rfl⟩)
    refine ⟨_, results_tmp rfl _ _ _, ⟨_, rfl, by omega, l, fun w' hs' => hT.map.of_block ?_, fun y => ?_, hT.has⟩, hT.below⟩
    · have hlt := hT.map.lt
      have e := extH.at_ (H := H) (w := w) (wr := W.putObj D (.deferred none)) (i := w1.heap.size + 1) (by omega)
      rw [Array.getElem?_eq_getElem hlt] at e ⊢
      exact hs' _ _ e
    · have hel := edgesR_len h2
      have hhl := headsR_len f (edgesR f) y
      refine (hT.rows y).readK (fun k hk => extH.at_ (by have := ((hT.rows y).lt hk).1; omega)) (fun x hx => ?_) (by unfold maxN; omega)
      obtain ⟨h9, _⟩ := edgesR_all _ (headsR_mem.1 hx).1
      simp only at h9
      exact ⟨by omega, by omega⟩
  case body =>
    rintro l pre ⟨⟨xa, xy⟩, hx⟩ W ⟨ll, hI⟩ hlen
    obtain ⟨⟨ha0, ha1⟩, hra, hy⟩ := hx
    simp only at ha0 ha1 hra hy
    obtain ⟨a, rfl⟩ : ∃ a : Nat, xa = (a : Int) := ⟨xa.toNat, by omega⟩
    have hyr : 0 ≤ xy ∧ xy < f.blocks.length := hnx.out (f.blocks.getD a default) (by rw [List.getD_eq_getElem?_getD, List.getElem?_eq_getElem (show a < f.blocks.length by omega)]; exact List.getElem_mem _) xy (by simpa [nxB] using hy)
    obtain ⟨y, rfl⟩ : ∃ y : Nat, xy = (y : Int) := ⟨xy.toNat, by omega⟩
    have hal : a < f.blocks.length := by omega
    have hyl : y < f.blocks.length := by omega
    obtain ⟨g1, o1, bb1, bo1, cc1, hA1, hnl, hc1⟩ := dom_cells hud.out hyl hal rfl
    subst hA1
    obtain ⟨p1, p2, l1, l2⟩ := hc1 W hI.sees
    have q1 := cell_blk (hI.sees _ _ k1) 0
    simp only [List.getElem?_toArray, List.getElem?_cons_zero] at q1
    have lq1 := hI.sees.lt k1
    have hy0 : (0 : Int) ≤ y := by omega
    have ha0' : (0 : Int) ≤ a := by omega
    rw [hnl] at q1
    clear hc1
    cases hdm : domB f y a
    · rw [hdm] at p2
      have hb : backB f ((a : Int), (y : Int)) = false := by unfold backB; simpa using hdm
      have hbh := Lib.hid hb
      clear hdm hb
      gi_wp2
      exact ⟨KeepsFrom.refl _ _, fun h => h, ll, by rw [List.map_append]; exact hI.pass hbh.out⟩
    · rw [hdm] at p2
      have hb : backB f ((a : Int), (y : Int)) = true := by unfold backB; simpa using hdm
      have hbh := Lib.hid hb
      clear hdm hb
      have hel := edgesR_len h2
      gi_upto_region 7 with fail
      clear p1 p2 l1 l2 q1 lq1
      have q3 := cell_blk (hI.sees _ _ k3) 0
      simp only [List.getElem?_toArray, List.getElem?_cons_zero] at q3
      have lq3 := hI.sees.lt k3
      have hKY : KeyK Tryz.prog 3 (fun x : Int => Value.int .i64 x) := keyInt Tryz.underlying3
      have hcs := Lib.hid (fun (w' : World) (h : w'.heap[w1.heap.size + 1 + 1]? = W.heap[w1.heap.size + 1 + 1]? ∧ w'.heap[w1.heap.size + 1]? = W.heap[w1.heap.size + 1]?) => And.intro ((cell_heap1 h.1).trans q3) (And.intro (lt_heap1 h.1 lq3) ((hI.map.of_block h.2).lookup Tryz.underlying80 hKY (z := .slice none 0 0) (fun _ => by kernel_rfl) (y : Int) false)))
      simp only [Bool.false_eq_true, if_false] at hcs
      obtain ⟨rv, hrv⟩ : ∃ rv, (mget ll (y : Int)).getD nilV = rv := ⟨_, rfl⟩
      have hrow := hI.rows (y : Int)
      rw [hrv] at hrow hcs
      have hhl := headsR_len f (pre.map (·.1)) (y : Int)
      rw [List.length_map] at hhl
      refine wpIn_region_plan (fun w' => w'.heap[w1.heap.size + 1 + 1]? = W.heap[w1.heap.size + 1 + 1]? ∧ w'.heap[w1.heap.size + 1]? = W.heap[w1.heap.size + 1]?) 8 [(0, true), (1, true), (2, true), (3, true), (4, true), (5, true), (6, false), (7, false), (8, false)] (fun _ => trivial) (by kernel_rfl) (by kernel_rfl) (by kernel_rfl) (by kernel_rfl) ⟨rfl, rfl⟩ ?_
      repeat first
        | (refine planI_skip rfl (by rfl) ?_; simp only [Act.put, List.setIfInBounds_toArray, List.set_cons_zero, List.set_cons_succ])
        | (refine planI_read (v := ?_) rfl (by rfl) ?_ ?_; rotate_left; (focus (intro w' hSw; obtain ⟨p1, p2, p3⟩ := hcs.out _ hSw; clear hSw; go_simp; all_goals with_reducible rfl)); simp only [Act.put, List.setIfInBounds_toArray, List.set_cons_zero, List.set_cons_succ])
      refine planI_step rfl (by rfl) (fun K' hK' => ?_)
      go_simp
      have hIa := (hI.al (.cells #[.int .i64 (a : Int)] 3)).drew
      have hrow1 := hIa.rows (y : Int)
      rw [hrv] at hrow1
      have hMl := hI.map.lt
      refine hK'.out _ _ (.inr ⟨(by rw [show (W.alloc (.cells #[.int .i64 (a : Int)] 3)).drew.heap[w1.heap.size + 1 + 1]? = (W.alloc (.cells #[.int .i64 (a : Int)] 3)).heap[w1.heap.size + 1 + 1]? from rfl, get_alloc, if_neg (by omega)]), (by rw [show (W.alloc (.cells #[.int .i64 (a : Int)] 3)).drew.heap[w1.heap.size + 1]? = (W.alloc (.cells #[.int .i64 (a : Int)] 3)).heap[w1.heap.size + 1]? from rfl, get_alloc, if_neg (by omega)])⟩) ?_
      clear hK' K'
      refine planI_step rfl (by rfl) (fun K' hK' => ?_)
      refine wpIn_appI (fun _ => trivial) _ _ (by rfl) W0.heap.size rv (headsR f (pre.map (·.1)) (y : Int)) (by rfl) hrow1 W.heap.size 1 (a : Int) (by rfl) (ga_new W _) (by omega) hIa.size ?_
      intro g6 cap6 W6 h6 hg6 hat6 hlt6
      have hrl : ∀ b, b < W0.heap.size → some b ≠ rv.ownBlock := fun b hb e => by have := (hrow.lt e.symm).1; omega
      have hB6 : ∀ b, b < W0.heap.size → W6.heap[b]? = W.heap[b]? := fun b hb => (hg6.block b (Nat.lt_of_lt_of_le hb hIa.size) (hrl b hb)).trans (by show (W.alloc _).heap[b]? = _; rw [get_alloc, if_neg (by have := hI.size; omega)])
      have hM6 := hI.map.of_block (hB6 _ hI.ltM)
      refine hK'.out _ _ (.inr ⟨hB6 _ (by omega), hB6 _ (by omega)⟩) ?_
      clear hK' K'
      refine planI_step rfl (by rfl) (fun K' hK' => ?_)
      refine wpIn_mapUp (fun _ => trivial) _ _ _ 80 (by rfl) Tryz.underlying80 hKY (w1.heap.size + 1) ll (by rfl) hM6 (y : Int) _ (by rfl) (by rfl) ?_
      intro W7 hM7 hg7
      refine hK'.out _ _ (.inl rfl) ?_
      clear hK' K'
      refine planI_nil (NoPanic.normal ?_)
      have hfin := hIa.add (e := ((a : Int), (y : Int))) hbh.out h6 (by simp only; rw [hrv]; exact hg6) (by simp only; rw [hrv]; exact hat6) hM7 hg7
      have hkeep : KeepsFrom W0.heap.size W W7 := ((((KeepsOthers.alloc W (.cells #[.int .i64 (a : Int)] 3)).from _).trans (⟨Nat.le_refl _, fun _ _ _ h _ => h⟩ : KeepsFrom W0.heap.size (W.alloc (.cells #[.int .i64 (a : Int)] 3)) (W.alloc (.cells #[.int .i64 (a : Int)] 3)).drew)).trans (keeps_own hrow1 hg6)).trans (KeepsFrom.of_grownBy hg7 (fun j e => by have : w1.heap.size + 1 = j := Option.some.inj e; omega))
      exact ⟨hkeep, fun _ => hfin.sees, _, by rw [List.map_append]; exact hfin⟩
end Go.Proofs.YtififjlgjmgikaaGreat
