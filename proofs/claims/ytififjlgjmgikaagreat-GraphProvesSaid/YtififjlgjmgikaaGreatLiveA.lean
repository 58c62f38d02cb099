/- Sets of facts: sixty bits of a number (no program). What Live keeps true (no program). graph.sets, graph.Live, graph.CheckLive. graph.Live. -/
import Derived.Test.YtififjlgjmgikaaGreatBase
import Derived.Test.YtififjlgjmgikaaGreatFlow
import Derived.Deep.QuietTactic
import Derived.BigQuiet
import Derived.Test.YtififjlgjmgikaaGreatDelete
namespace Go.Proofs.YtififjlgjmgikaaGreat
set_option linter.all false
open Go.RowKit

def FS (s : Int) : Prop := 0 ≤ s ∧ s < 1152921504606846976
def fb (s : Int) (i : Nat) : Bool := s.toNat.testBit i
/-- a without b. -/
def nand2 (a b : Nat) : Nat := (BitVec.ofNat 64 a &&& ~~~BitVec.ofNat 64 b).toNat
def uni (a b : Int) : Int := bits .or .i64 a b
def dif (a b : Int) : Int := bits .andNot .i64 a b
end Go.Proofs.YtififjlgjmgikaaGreat
namespace Go.Proofs.YtififjlgjmgikaaGreat
set_option linter.all false
open Go.RowKit

/-- Fact i is live at a place. -/
inductive LiveR (nx : Nat → List Int) (us ds : List Int) (i : Nat) : Nat → Prop where
  | use {p : Nat} : fb (us.getD p 0) i = true → LiveR nx us ds i p
  | step {p : Nat} {q : Int} : q ∈ nx p → fb (ds.getD p 0) i = false → LiveR nx us ds i q.toNat → LiveR nx us ds i p
structure LiveI (n : Nat) (nx : Nat → List Int) (us ds xs : List Int) : Prop where
  len : xs.length = n
  fs : ∀ p, p < n → FS (xs.getD p 0)
  sound : ∀ p i, p < n → fb (xs.getD p 0) i = true → LiveR nx us ds i p
  uses : ∀ p i, p < n → fb (us.getD p 0) i = true → fb (xs.getD p 0) i = true
/-- Place p needs no more. -/
def ClosedAt (nx : Nat → List Int) (ds xs : List Int) (p : Nat) : Prop :=
  ∀ q ∈ nx p, ∀ i, fb (xs.getD q.toNat 0) i = true → fb (ds.getD p 0) i = false → fb (xs.getD p 0) i = true
variable {n : Nat} {nx : Nat → List Int} {us ds xs ls : List Int}
/-- How much can still be added. -/
def room : List Int → Nat
  | [] => 0
  | s :: xs => (1152921504606846976 - s).toNat + room xs
/-- The sum for place p behind j of its next places. -/
structure AccI (nx : Nat → List Int) (us ds xs : List Int) (p j : Nat) (s : Int) : Prop where
  fs : FS s
  le : xs.getD p 0 ≤ s
  old : ∀ i, fb (xs.getD p 0) i = true → fb s i = true
  sound : ∀ i, fb s i = true → LiveR nx us ds i p
  seen : ∀ q ∈ (nx p).take j, ∀ i, fb (xs.getD q.toNat 0) i = true → fb (ds.getD p 0) i = false → fb s i = true
/-- One pass, from the last place down to place p. -/
def PassI (n : Nat) (nx : Nat → List Int) (us ds xs0 xs : List Int) (again : Bool) (p : Nat) : Prop :=
  LiveI n nx us ds xs ∧ ((again = false ∧ xs = xs0 ∧ ∀ k, p ≤ k → k < n → ClosedAt nx ds xs k) ∨ (again = true ∧ room xs < room xs0))
/-- What Live returns. -/
structure LiveL (n : Nat) (nx : Nat → List Int) (us ds xs : List Int) : Prop where
  len : xs.length = n
  fs : ∀ p, p < n → FS (xs.getD p 0)
  iff_ : ∀ p i, p < n → (fb (xs.getD p 0) i = true ↔ LiveR nx us ds i p)
/-- The head of the outer loop. -/
def HeadI (n : Nat) (nx : Nat → List Int) (us ds xs : List Int) (again : Bool) (gk : Nat) : Prop :=
  (again = true ∧ LiveI n nx us ds xs ∧ room xs < gk) ∨ (again = false ∧ LiveL n nx us ds xs)
/-- What CheckLive asks of place p. -/
def CkP (nx : Nat → List Int) (us ds ls : List Int) (p : Nat) : Prop := (∀ i, fb (us.getD p 0) i = true → fb (ls.getD p 0) i = true) ∧ ClosedAt nx ds ls p
structure CkI (nx : Nat → List Int) (us ds ls : List Int) (p j : Nat) (s : Int) : Prop where
  fs : FS s
  iff_ : ∀ i, fb s i = true ↔ fb (us.getD p 0) i = true ∨ ∃ q ∈ (nx p).take j, fb (ls.getD q.toNat 0) i = true ∧ fb (ds.getD p 0) i = false
end Go.Proofs.YtififjlgjmgikaaGreat
namespace Go.Proofs.YtififjlgjmgikaaGreat
set_option linter.all false
open Go.RowKit

def badS (s : Int) : Bool := !withinB s 0 1152921504606846975
def setB (n : Nat) (l : List Int) : Bool := decide (l.length = n) && !l.any badS
def setsE (c : CodeD) (ls : List (List Int)) : Int := if fineB c = true then (if ls.all (setB c.instrs.length) = true then 0 else 7) else 1
end Go.Proofs.YtififjlgjmgikaaGreat
namespace Go.Proofs.YtififjlgjmgikaaGreat
set_option linter.all false
open Go.RowKit

theorem blk1 (w : World) (o1 o2 : Obj) : ((w.alloc o1).alloc o2).heap[w.heap.size + 1]? = some o2 := by
  have h := ga_new (w.alloc o1) o2
  rwa [World.size_alloc] at h
theorem OwnI.setN {w : World} {base : Nat} {g cap k n : Nat} {xs : List Int} (h : OwnI w base (.slice (some ⟨g, 0, none⟩) n cap) xs) (hn : xs.length = n) (hk : k < n) (y : Int) :
    OwnI (w.setCell ⟨g, k, none⟩ (.int .i64 y)) base (.slice (some ⟨g, 0, none⟩) n cap) (xs.set k y) := by subst hn; exact h.set hk y
def LiveRes (base n : Nat) (nx : Nat → List Int) (us ds : List Int) (w' : World) (e : Ending) : Prop := ∃ v xs, e = .returned (.tuple #[v, .int .i64 0]) ∧ OwnI w' base v xs ∧ LiveL n nx us ds xs
end Go.Proofs.YtififjlgjmgikaaGreat
