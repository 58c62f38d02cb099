/- Base: partial heaps (what is known and no longer written), growth of worlds, readings of values. No function of the program stands here. -/
import Derived.WalkKit
import Derived.WalkSpells
import Derived.WalkLawsBesides
import Derived.Lib.Hide
import Derived.Laws.EntriesVeiled
import Derived.KernelRfl
namespace Go.Proofs.YtififjlgjmgikaaGreat
set_option linter.all false
open Go.RowKit

theorem get_alloc (w : World) (o : Obj) (i : Nat) : (w.alloc o).heap[i]? = if i = w.heap.size then some o else w.heap[i]? := by
  show (w.heap.push o)[i]? = _
  rw [Array.getElem?_push]

theorem ga_new (w : World) (o : Obj) : (w.alloc o).heap[w.heap.size]? = some o := by rw [get_alloc, if_pos rfl]
theorem ga_old {w : World} {i : Nat} {o o' : Obj} (h : w.heap[i]? = some o') : (w.alloc o).heap[i]? = some o' := by
  rw [get_alloc, if_neg (by have := (Array.getElem?_eq_some_iff.1 h).1; omega)]
  exact h
/-- The world under a name. -/
theorem wp_name {P : Program} {c : Code} {Q : Exit → Act → World → Prop} {a : Act} {W : World} (h : ∀ w1, w1 = W → c.wp P Q a w1) : c.wp P Q a W := h W rfl
theorem cell_blk {w : World} {b : Nat} {arr : Array Value} {e : TypeId} {fz : Nat × Nat} (h : w.heap[b]? = some (.cells arr e fz)) (i : Nat) : w.cell? ⟨b, i, none⟩ = arr[i]? := by
  simp [World.cell?, h]

/-- What is known of memory: a part of the heap. -/
abbrev PH := Nat → Option Obj
def PH.le (H H' : PH) : Prop := ∀ i o, H i = some o → H' i = some o
theorem PH.le_refl (H : PH) : PH.le H H := fun _ _ h => h
theorem PH.le_trans {a b c : PH} (h : PH.le a b) (k : PH.le b c) : PH.le a c := fun i o e => k i o (h i o e)
def Sees (w : World) (H : PH) : Prop := ∀ i o, H i = some o → w.heap[i]? = some o

theorem Sees.lt {w : World} {H : PH} (h : Sees w H) {i : Nat} {o : Obj} (e : H i = some o) : i < w.heap.size := (Array.getElem?_eq_some_iff.1 (h i o e)).1
theorem Sees.fresh {w : World} {H : PH} (h : Sees w H) {i : Nat} (hi : w.heap.size ≤ i) : H i = none := by
  cases e : H i with
  | none => rfl
  | some o => exact absurd (h.lt e) (by omega)

theorem Sees.below {w w1 : World} {H : PH} (h : Sees w H) (hb : Below w.heap.size w w1) : Sees w1 H := fun i o e => (hb.block i (h.lt e)).trans (h i o e)
theorem bstep {w w1 w2 : World} (h : Below w.heap.size w w1) (k : Below w1.heap.size w1 w2) : Below w.heap.size w w2 := h.trans (k.mono h.size)

/-- From (w, H) to (w', H'): nothing that lay in w has changed; H' adds to H nothing of w's own blocks. -/
structure Grows (w : World) (H : PH) (w' : World) (H' : PH) : Prop where
  le : PH.le H H'
  sees : Sees w' H'
  old : ∀ i, i < w.heap.size → H' i = H i
  below : Below w.heap.size w w'

theorem cell_keep {w w1 : World} (hb : Below w.heap.size w w1) {a : Addr} {v : Value} (h : w.cell? a = some v) : w1.cell? a = some v :=
  (hb.cell (p := a) (World.block_lt_of_cell? w a h)).trans h
theorem cell_al {w : World} {o : Obj} {a : Addr} {v : Value} (h : w.cell? a = some v) : (w.alloc o).cell? a = some v := cell_keep ((Below.refl _ _).alloc (Nat.le_refl _) _) h
/-- All that lies in w. -/
def full (w : World) : PH := fun i => w.heap[i]?
theorem full.sees (w : World) : Sees w (full w) := fun _ _ h => h
theorem full.le {w : World} {H : PH} (h : Sees w H) : PH.le H (full w) := h
/-- H, and all that is new in w1. -/
def extH (H : PH) (w w1 : World) : PH := fun i => if i < w.heap.size then H i else w1.heap[i]?
theorem extH.le {H : PH} {w : World} (hw : Sees w H) (w1 : World) : PH.le H (extH H w w1) := by
  intro i o e
  unfold extH
  rw [if_pos (hw.lt e)]
  exact e
theorem extH.sees {H : PH} {w w1 : World} (hw : Sees w H) (hb : Below w.heap.size w w1) : Sees w1 (extH H w w1) := by
  intro i o e
  unfold extH at e
  split at e
  · rename_i hi; exact (hb.block i hi).trans (hw i o e)
  · exact e
theorem extH.new {H : PH} {w w1 : World} {i : Nat} {o : Obj} (hi : w.heap.size ≤ i) (h : w1.heap[i]? = some o) : extH H w w1 i = some o := by
  unfold extH
  rw [if_neg (by omega)]
  exact h
theorem cell_of_PH {H : PH} {w : World} (hw : Sees w H) {b : Nat} {arr : Array Value} {e : TypeId} {fz : Nat × Nat} (h : H b = some (.cells arr e fz)) (i : Nat) : w.cell? ⟨b, i, none⟩ = arr[i]? := by
  have := hw _ _ h
  simp [World.cell?, this]

/-- The rows of cells at an address, as known. -/
def CellsAt (H : PH) (a : Addr) (cs : List Value) : Prop :=
  a.spot = none ∧ ∃ arr e fz, H a.block = some (.cells arr e fz) ∧ ∀ j u, cs[j]? = some u → arr[a.off + j]? = some u
theorem CellsAt.mono {H H' : PH} (h : PH.le H H') {a : Addr} {cs : List Value} (k : CellsAt H a cs) : CellsAt H' a cs := by
  obtain ⟨hs, arr, e, fz, hb, hc⟩ := k
  exact ⟨hs, arr, e, fz, h _ _ hb, hc⟩
theorem CellsAt.cell {H : PH} {w : World} (hw : Sees w H) {a : Addr} {cs : List Value} (k : CellsAt H a cs) {j : Nat} {u : Value} (hj : cs[j]? = some u) :
    w.cell? ⟨a.block, a.off + j, none⟩ = some u := by
  obtain ⟨_, arr, e, fz, hb, hc⟩ := k
  have := hw _ _ hb
  simp [World.cell?, this, hc j u hj]

/-- A kind of data: how many cells, and what they say. -/
structure Rp (α : Type) where
  sz : Nat
  R : PH → List Value → α → Prop
  len : ∀ {H cs a}, R H cs a → cs.length = sz
  mono : ∀ {H H' cs a}, PH.le H H' → R H cs a → R H' cs a

def maxN : Nat := 140737488351232

/-- A slice that reads as a list. -/
def SlV {α : Type} (r : Rp α) (H : PH) (v : Value) (xs : List α) : Prop :=
  ∃ A cap, v = .slice A xs.length cap ∧ xs.length ≤ cap ∧ xs.length ≤ maxN ∧
    ∀ i x, xs[i]? = some x → ∃ b off cs, A = some ⟨b, off, none⟩ ∧ CellsAt H ⟨b, off + i * r.sz, none⟩ cs ∧ r.R H cs x
theorem SlV.mono {α : Type} {r : Rp α} {H H' : PH} (h : PH.le H H') {v : Value} {xs : List α} (k : SlV r H v xs) : SlV r H' v xs := by
  obtain ⟨A, cap, rfl, h1, h2, h3⟩ := k
  refine ⟨A, cap, rfl, h1, h2, fun i x hi => ?_⟩
  obtain ⟨b, off, cs, hA, hc, hr⟩ := h3 i x hi
  exact ⟨b, off, cs, hA, hc.mono h, r.mono h hr⟩

/-- Data of one cell that leads nowhere. -/
def Rp.plain {α : Type} (enc : α → Value) : Rp α where
  sz := 1
  R := fun _ cs a => cs = [enc a]
  len := fun h => by rw [h]; rfl
  mono := fun _ h => h
def I64 (x : Int) : Prop := -9223372036854775808 ≤ x ∧ x ≤ 9223372036854775807
def rInt : Rp Int where
  sz := 1
  R := fun _ cs a => cs = [.int .i64 a] ∧ I64 a
  len := fun h => by rw [h.1]; rfl
  mono := fun _ h => h
def rBool : Rp Bool := .plain .bool
def rStr : Rp ByteArray where
  sz := 1
  R := fun _ cs a => cs = [.string a] ∧ a.size ≤ maxN
  len := fun h => by rw [h.1]; rfl
  mono := fun _ h => h
def rSl {α : Type} (r : Rp α) : Rp (List α) where
  sz := 1
  R := fun H cs xs => ∃ v, cs = [v] ∧ SlV r H v xs
  len := fun h => by obtain ⟨v, rfl, _⟩ := h; rfl
  mono := fun h ⟨v, e, k⟩ => ⟨v, e, k.mono h⟩

abbrev Ints := SlV rInt
abbrev Bools := SlV rBool

theorem SlV.nil {α : Type} (r : Rp α) (H : PH) : SlV r H (.slice none 0 0) [] := ⟨none, 0, rfl, Nat.le_refl _, Nat.zero_le _, fun i x h => by simp at h⟩
theorem SlV.le {α : Type} {r : Rp α} {H : PH} {v : Value} {xs : List α} (h : SlV r H v xs) : xs.length ≤ 140737488351232 := by obtain ⟨_, _, _, _, h, _⟩ := h; exact h
/-- A slice's value, its elements by their place. -/
theorem SlV.open_ {α : Type} {r : Rp α} {H : PH} {v : Value} {xs : List α} (h : SlV r H v xs) :
    ∃ A cap, v = .slice A xs.length cap ∧ xs.length ≤ cap ∧ ∀ i x, xs[i]? = some x → ∃ b off cs, A = some ⟨b, off, none⟩ ∧ CellsAt H ⟨b, off + i * r.sz, none⟩ cs ∧ r.R H cs x := by
  obtain ⟨A, cap, h0, h1, _, h3⟩ := h
  exact ⟨A, cap, h0, h1, h3⟩

end Go.Proofs.YtififjlgjmgikaaGreat
