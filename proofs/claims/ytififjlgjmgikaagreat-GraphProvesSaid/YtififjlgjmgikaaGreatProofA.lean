/- Proofs of immediate dominators in plain Lean (no program). Proofs of immediate dominators, as they lie in memory. -/
import Derived.Test.YtififjlgjmgikaaGreatLoopB
import Derived.Test.YtififjlgjmgikaaGreatArgs
namespace Go.Proofs.YtififjlgjmgikaaGreat
set_option linter.all false
open Go.RowKit

structure DominD where
  block : Int
  idom : Int
  one : List Int
  two : List Int
instance : Inhabited DominD := ⟨⟨0, 0, [], []⟩⟩
/-- A path of a proof. -/
structure LeadsP (f : FlowD) (d : DominD) (p : List Int) : Prop where
  ne : p ≠ []
  range : ∀ b ∈ p, 0 ≤ b ∧ b < f.blocks.length
  last : p.getLast? = some d.block
  once : d.block ∉ p.dropLast
  step : ∀ i a b, p[i]? = some a → p[i + 1]? = some b → b ∈ nxB f a
  from_ : if d.idom = -1 then f.entry.getD (p.getD 0 0).toNat false = true else p.getD 0 0 = d.idom ∧ d.idom ∉ p.tail
structure ProvesP (f : FlowD) (d : DominD) : Prop where
  ent : f.entry.getD d.block.toNat false = true → d.idom = -1
  own : d.idom ≠ -1 → (0 ≤ d.idom ∧ d.idom < f.blocks.length) ∧ rchB f d.idom = true ∧ d.idom ≠ d.block
  one : LeadsP f d d.one
  two : LeadsP f d d.two
  apart : ∀ b ∈ d.one, b ≠ d.block → b ≠ d.idom → b ∉ d.two
def wantL (f : FlowD) : List Int := ((List.range f.blocks.length).filter fun b => f.reached.getD b false).map fun (b : Nat) => (b : Int)
def idomAt (l : List DominD) (b : Int) : Int := ((l.find? fun d => decide (d.block = b)).map (·.idom)).getD 0
/-- The way by immediate dominators. -/
def stepI (l : List DominD) (x : Int) : Int := if x = -1 then -1 else idomAt l x
def itI (l : List DominD) : Nat → Int → Int
  | 0, x => x
  | k + 1, x => itI l k (stepI l x)
def metP (l : List DominD) (v b : Int) : Prop := ∃ k, itI l k v = b
structure PrfP (f : FlowD) (l : List DominD) : Prop where
  want : l.map (·.block) = wantL f
  all : ∀ d ∈ l, ProvesP f d
  ends : ∀ d ∈ l, metP l d.block (-1)
  fit : ∀ e ∈ edgesR f, idomAt l e.2 ≠ -1 → metP l e.1 (idomAt l e.2)
theorem itI_add (l : List DominD) : ∀ (k j : Nat) (x : Int), itI l (k + j) x = itI l j (itI l k x) := by
  intro k
  induction k with
  | zero => intro j x; simp [itI]
  | succ k ih => intro j x; rw [show k + 1 + j = (k + j) + 1 by omega]; exact ih j _
theorem itI_no (l : List DominD) : ∀ k, itI l k (-1) = -1 := by
  intro k
  induction k with
  | zero => rfl
  | succ k ih => exact ih
theorem wantL_mem {f : FlowD} {b : Int} : b ∈ wantL f ↔ (0 ≤ b ∧ b < f.blocks.length) ∧ rchB f b = true := by
  unfold wantL rchB
  rw [List.mem_map]
  constructor
  · rintro ⟨k, hk, rfl⟩
    obtain ⟨h1, h2⟩ := List.mem_filter.1 hk
    have := List.mem_range.1 h1
    exact ⟨by omega, by simpa using h2⟩
  · rintro ⟨h1, h2⟩
    exact ⟨b.toNat, List.mem_filter.2 ⟨List.mem_range.2 (by omega), by simpa using h2⟩, by omega⟩
theorem wantL_nodup (f : FlowD) : (wantL f).Nodup := by
  unfold wantL
  refine List.Pairwise.map _ (fun a b h => ?_) (List.Pairwise.filter _ List.nodup_range)
  omega
theorem idomAt_of {l : List DominD} (hn : (l.map (·.block)).Nodup) {d : DominD} (hd : d ∈ l) : idomAt l d.block = d.idom := by
  unfold idomAt
  induction l with
  | nil => cases hd
  | cons a l ih =>
    rw [List.map_cons, List.nodup_cons] at hn
    rw [List.find?_cons]
    rcases List.mem_cons.1 hd with rfl | hd
    · simp
    · have hne : a.block ≠ d.block := fun e => hn.1 (by rw [e]; exact List.mem_map_of_mem hd)
      simp only [hne, decide_false]
      exact ih hn.2 hd
section
variable {c : CodeD} (hf : fineB c = true) {l : List DominD} (h : PrfP (theFlow c) l)
include hf h
end
end Go.Proofs.YtififjlgjmgikaaGreat
namespace Go.Proofs.YtififjlgjmgikaaGreat
set_option linter.all false
open Go.RowKit Go.WideShapes Go.ChangeShapes Go.Shelf

def rDomin : Rp DominD where
  sz := 4
  R := fun H cs x => ∃ u v, cs = [.int .i64 x.block, .int .i64 x.idom, u, v] ∧ I64 x.block ∧ I64 x.idom ∧ SlV rInt H u x.one ∧ SlV rInt H v x.two
  len := fun h => by obtain ⟨u, v, rfl, _⟩ := h; rfl
  mono := fun h ⟨u, v, e, h1, h2, k1, k2⟩ => ⟨u, v, e, h1, h2, k1.mono h, k2.mono h⟩
theorem SlV.domins {H : PH} {v : Value} {xs : List DominD} (h : SlV rDomin H v xs) (hne : 0 < xs.length) :
    ∃ b off cap, v = .slice (some ⟨b, off, none⟩) xs.length cap ∧ H b ≠ none ∧
      (∀ i, i < xs.length → ∃ u1 u2, SlV rInt H u1 (xs.getD i default).one ∧ SlV rInt H u2 (xs.getD i default).two ∧ I64 (xs.getD i default).block ∧ I64 (xs.getD i default).idom ∧ ∀ w, Sees w H → w.cell? ⟨b, off + i * 4, none⟩ = some (.int .i64 (xs.getD i default).block) ∧ w.cell? ⟨b, off + i * 4 + 1, none⟩ = some (.int .i64 (xs.getD i default).idom) ∧ w.cell? ⟨b, off + i * 4 + 2, none⟩ = some u1 ∧ w.cell? ⟨b, off + i * 4 + 3, none⟩ = some u2) := by
  obtain ⟨b, off, cap, rfl, hc, hb, he⟩ := h.base hne
  refine ⟨b, off, cap, rfl, hb, fun i hi => ?_⟩
  obtain ⟨cs, ⟨u1, u2, rfl, h1, h2, hu1, hu2⟩, hcell⟩ := he i xs[i] (by simp [hi])
  have e : xs.getD i default = xs[i] := by simp [hi]
  rw [e]
  refine ⟨u1, u2, hu1, hu2, h1, h2, fun w hw => ?_⟩
  have h0 := hcell w hw 0 _ rfl
  have h1 := hcell w hw 1 _ rfl
  have h2 := hcell w hw 2 _ rfl
  have h3 := hcell w hw 3 _ rfl
  simpa [rDomin] using ⟨h0, h1, h2, h3⟩
section
variable {Hd : Type} {enc : TypeId × Value → Hd} {w : World}
end
end Go.Proofs.YtififjlgjmgikaaGreat
