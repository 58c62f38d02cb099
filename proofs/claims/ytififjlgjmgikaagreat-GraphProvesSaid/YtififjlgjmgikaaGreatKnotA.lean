/- The closures of graph.knot. graph.knot. -/
import Derived.Test.YtififjlgjmgikaaGreatLoopB
import Derived.Test.YtififjlgjmgikaaGreatShelf
namespace Go.Proofs.YtififjlgjmgikaaGreat
set_option linter.all false
open Go.RowKit Go.Shelf

def BoxH (H : PH) (b : Nat) (f : FlowD) : Prop := ∃ m, H b = some (.cells #[.map (some m)] 80 (0, 0)) ∧ HeadsV H m f
/-- slices.Contains in my words. -/
theorem contains_sl {H : PH} {v : Value} {xs : List Int} {w : World} (x : Int) (hw : Sees w H) (h : SlV rInt H v xs) :
    Calls Tryz.prog 106 #[v, .int .i64 x] w fun e w' => e = .returned (.bool (xs.contains x)) ∧ w' = w := by
  have hle := h.le
  by_cases hx : 0 < xs.length
  · obtain ⟨b, off, c, rfl, _, _, hc, _⟩ := h.ints hx
    refine (Tryz.slices_Contains_int b off xs.length c xs x w (Nat.le_refl _) (by omega) (hc w hw)).mono ?_
    rintro e w' ⟨rfl, rfl⟩
    rw [List.take_length]
    exact ⟨rfl, rfl⟩
  · have e : xs = [] := List.eq_nil_of_length_eq_zero (by omega)
    subst e
    obtain ⟨A, c, rfl, _, _⟩ := h.open_
    exact Tryz.slices_Contains_int_empty A c x w
/-- What a knot's walk goes on to: what follows but by an edge that leads back. -/
noncomputable def knotNx (f : FlowD) (v : Int) : List Int := (nxB f v).filter fun y => !(tailsR f y).contains v
end Go.Proofs.YtififjlgjmgikaaGreat
namespace Go.Proofs.YtififjlgjmgikaaGreat
set_option linter.all false
open Go.RowKit Go.Shelf

/-- A block that leads back to itself by edges that do not lead back to a head. -/
def CycR (f : FlowD) (b : Int) : Prop := Reach (· ∈ knotNx f b) (fun a y => y ∈ knotNx f a) b
def KnR (H : PH) (w w' : World) (f : FlowD) (e : Ending) : Prop :=
  (e = .returned nilV ∧ ∀ b : Nat, b < f.blocks.length → f.reached.getD b false = true → ¬ CycR f b) ∨
  ∃ (b : Nat) (p : List Int) (ad : Addr) (cap : Nat), b < f.blocks.length ∧ f.reached.getD b false = true ∧ PathTo f.blocks.length (knotNx f b) (knotNx f) p b ∧ e = .returned (.slice (some ad) p.length cap) ∧ SlV rInt (extH H w w') (.slice (some ad) p.length cap) ((b : Int) :: p.dropLast)
/-- No block leads back to itself by edges that do not lead back to a head. -/
def NoCyc (f : FlowD) : Prop := ∀ b : Nat, b < f.blocks.length → f.reached.getD b false = true → ¬ CycR f b
noncomputable def redB (f : FlowD) : Bool := dcd (NoCyc f)
noncomputable def redV (c : CodeD) : Bool := if checkedE c = 0 then redB (theFlow c) else false
noncomputable def ktE (c : CodeD) : Int := if checkedE c = 0 then (if redB (theFlow c) = true then 5 else 0) else checkedE c
/-- A knot, or an error. -/
def KtRes (H : PH) (w w' : World) (c : CodeD) (e : Ending) : Prop := ∃ u xs, e = .returned (.tuple #[u, .int .i64 (ktE c)]) ∧ SlV rInt (extH H w w') u xs ∧ (ktE c ≠ 0 → xs = []) ∧
  (ktE c = 0 → ∃ (b : Nat) (p : List Int), b < (theFlow c).blocks.length ∧ (theFlow c).reached.getD b false = true ∧ PathTo (theFlow c).blocks.length (knotNx (theFlow c) b) (knotNx (theFlow c)) p b ∧ xs = (b : Int) :: p.dropLast)
section
variable (H : PH) (v : Value) (c : CodeD) (w : World)
end
end Go.Proofs.YtififjlgjmgikaaGreat
