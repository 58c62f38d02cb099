/- graph.edges: the iterator over the edges between reached blocks. graph.heads. -/
import Derived.Test.YtififjlgjmgikaaGreatDomM
import Derived.Test.YtififjlgjmgikaaGreatAvoid
import Derived.RangeFuncNested
import Derived.RangeFuncBound
import Derived.RangeFuncCalls
import Derived.RangeFuncLeaves
import Derived.Shelf.Abstract
import Derived.Shelf.RegionOpen
import Derived.OwnWalkIn
import Derived.TacticsInMore
import Derived.LoopNIn
import Derived.LoopIn
import Derived.Test.YtififjlgjmgikaaGreatPlanA
import Derived.Test.YtififjlgjmgikaaGreatIdomM
import Derived.Deep.AppendLies
namespace Go.Proofs.YtififjlgjmgikaaGreat
set_option linter.all false
open Go.RowKit Go.Shelf
attribute [local go_sem] Oper.semAt_some

/-- An edge that goes out from a reached block. -/
def EdgeP (f : FlowD) (x : Int × Int) : Prop := (0 ≤ x.1 ∧ x.1 < f.blocks.length) ∧ f.reached.getD x.1.toNat false = true ∧ x.2 ∈ nxB f x.1
abbrev EdgeT (f : FlowD) := { x : Int × Int // EdgeP f x }
open Classical in
noncomputable def subE (f : FlowD) (xs : List (Int × Int)) : List (EdgeT f) := xs.filterMap fun x => if h : EdgeP f x then some ⟨x, h⟩ else none
/-- The edges of block v. -/
def rowE (f : FlowD) (v : Nat) : List (Int × Int) := if f.reached.getD v false = true then (nxB f v).map fun y => ((v : Int), y) else []
/-- What has come behind v blocks and j of the next one's. -/
def rawE (f : FlowD) (v j : Nat) : List (Int × Int) := (List.range v).flatMap (rowE f) ++ (rowE f v).take j
def edgesR (f : FlowD) : List (Int × Int) := (List.range f.blocks.length).flatMap (rowE f)
theorem edgesR_all {f : FlowD} : ∀ x ∈ edgesR f, EdgeP f x := by
  intro x hx
  unfold edgesR at hx
  obtain ⟨v, hv, hx⟩ := List.mem_flatMap.1 hx
  have hv := List.mem_range.1 hv
  unfold rowE at hx
  split at hx
  · rename_i hr
    obtain ⟨y, hy, rfl⟩ := List.mem_map.1 hx
    exact ⟨by simp; omega, by simpa using hr, hy⟩
  · cases hx
theorem edgesR_mem {f : FlowD} {x : Int × Int} : x ∈ edgesR f ↔ EdgeP f x := by
  refine ⟨fun h => edgesR_all x h, fun h => ?_⟩
  obtain ⟨a, y⟩ := x
  obtain ⟨h1, h2, h3⟩ := h
  simp only at h1 h2 h3
  unfold edgesR
  refine List.mem_flatMap.2 ⟨a.toNat, List.mem_range.2 (by omega), ?_⟩
  unfold rowE
  rw [if_pos h2]
  have e : ((a.toNat : Nat) : Int) = a := by omega
  rw [e]
  exact List.mem_map.2 ⟨y, h3, rfl⟩
/-- What the iterator wants kept: all that it reads. -/
def KpK (K : PH) (W W' : World) : Prop := Sees W K → Sees W' K
def encE {f : FlowD} (x : EdgeT f) : Array Value := #[.int .i64 x.1.1, .int .i64 x.1.2]
end Go.Proofs.YtififjlgjmgikaaGreat
namespace Go.Proofs.YtififjlgjmgikaaGreat
set_option linter.all false
open Go.RowKit Go.Shelf
attribute [local go_sem] Oper.semAt_some

/-- An edge that leads back to a block that dominates where it comes from. -/
noncomputable def backB (f : FlowD) (e : Int × Int) : Bool := domB f e.2.toNat e.1.toNat
/-- Where the edges come from that lead back to y. -/
noncomputable def headsR (f : FlowD) (pre : List (Int × Int)) (y : Int) : List Int := (pre.filter fun e => decide (e.2 = y) && backB f e).map (·.1)
/-- What lies in memory behind some edges. -/
structure HdsI (f : FlowD) (K : PH) (B Mb : Nat) (pre : List (Int × Int)) (w W : World) (l : IntMap) : Prop where
  map : MapL encI W Mb l
  rows : ∀ y, OwnI W B ((mget l y).getD nilV) (headsR f pre y)
  inj : ∀ y y' k, y ≠ y' → ((mget l y).getD nilV).ownBlock = some k → ((mget l y').getD nilV).ownBlock ≠ some k
  has : ∀ y, (mget l y).isSome = true ↔ headsR f pre y ≠ []
  sees : Sees W K
  below : Below w.heap.size w W
  size : B ≤ W.heap.size
  ltM : Mb < B
  liveM : K Mb = none
  lowK : ∀ i o, K i = some o → i < B
  oldM : w.heap.size ≤ Mb
section
variable {f : FlowD} {K : PH} {B Mb : Nat} {pre : List (Int × Int)} {w W : World} {l : IntMap}
end
/-- The map of heads, as it reads. -/
def HeadsV (H : PH) (m : Nat) (f : FlowD) : Prop := ∃ l : IntMap, (∀ w, Sees w H → MapL encI w m l) ∧ (∀ y, SlV rInt H ((mget l y).getD nilV) (headsR f (edgesR f) y)) ∧ ∀ y, (mget l y).isSome = true ↔ headsR f (edgesR f) y ≠ []
def HdRes (H : PH) (w w' : World) (f : FlowD) (e : Ending) : Prop := ∃ m, e = .returned (.map (some m)) ∧ w.heap.size ≤ m ∧ HeadsV (extH H w w') m f
theorem ga_fit {w : World} {o : Obj} {k : Nat} (h : w.heap.size = k) : (w.alloc o).heap[k]? = some o := by subst h; exact ga_new w o
/-- All that is known, but one block. -/
def exM (H : PH) (w W0 : World) (Mb : Nat) : PH := fun i => if i = Mb then none else extH H w W0 i
end Go.Proofs.YtififjlgjmgikaaGreat
