/- The table of formats, and the map that code.formats makes of it. -/
import Derived.Test.YtififjlgjmgikaaMaps
import Derived.Test.YtififjlgjmgikaaRows
import Derived.KernelRfl
namespace Go.Proofs.Ytififjlgjmgikaa
set_option linter.all false
open Go.RowKit

structure FmtD where
  name : ByteArray
  k0 : Int
  k1 : Int
  k2 : Int
def fmtTab : List (Int × FmtD) := [
  (1, ⟨⟨#[104, 97, 108, 116]⟩, 0, 0, 0⟩),
  (2, ⟨⟨#[105, 110, 116]⟩, 1, 0, 0⟩),
  (3, ⟨⟨#[114, 101, 97, 108]⟩, 2, 0, 0⟩),
  (4, ⟨⟨#[98, 111, 111, 108]⟩, 3, 0, 0⟩),
  (5, ⟨⟨#[115, 116, 114, 105, 110, 103]⟩, 4, 0, 0⟩),
  (6, ⟨⟨#[112, 111, 112]⟩, 0, 0, 0⟩),
  (7, ⟨⟨#[108, 111, 97, 100]⟩, 5, 6, 0⟩),
  (8, ⟨⟨#[114, 101, 102]⟩, 5, 6, 9⟩),
  (9, ⟨⟨#[97, 99, 116, 117, 97, 108]⟩, 5, 6, 0⟩),
  (10, ⟨⟨#[118, 97, 108, 117, 101]⟩, 5, 6, 0⟩),
  (11, ⟨⟨#[97, 100, 100, 114, 101, 115, 115]⟩, 5, 6, 0⟩),
  (12, ⟨⟨#[100, 101, 115, 105, 103]⟩, 5, 6, 0⟩),
  (13, ⟨⟨#[108, 111, 97, 100, 111, 119, 110]⟩, 11, 0, 0⟩),
  (14, ⟨⟨#[114, 101, 102, 111, 119, 110]⟩, 11, 0, 0⟩),
  (15, ⟨⟨#[97, 99, 116, 117, 97, 108, 111, 119, 110]⟩, 12, 0, 0⟩),
  (16, ⟨⟨#[110, 111, 116, 104, 105, 110, 103]⟩, 0, 0, 0⟩),
  (17, ⟨⟨#[116, 104, 117, 110, 107]⟩, 13, 0, 0⟩),
  (18, ⟨⟨#[112, 114, 111, 99]⟩, 14, 5, 0⟩),
  (19, ⟨⟨#[115, 101, 108, 102]⟩, 15, 5, 0⟩),
  (20, ⟨⟨#[108, 97, 98, 101, 108]⟩, 16, 5, 0⟩),
  (21, ⟨⟨#[115, 119, 105, 116, 99, 104]⟩, 17, 5, 0⟩),
  (22, ⟨⟨#[99, 97, 108, 108]⟩, 18, 0, 0⟩),
  (23, ⟨⟨#[102, 117, 110, 99]⟩, 18, 0, 0⟩),
  (24, ⟨⟨#[114, 101, 116, 117, 114, 110]⟩, 7, 0, 0⟩),
  (25, ⟨⟨#[114, 101, 115, 117, 108, 116]⟩, 0, 0, 0⟩),
  (26, ⟨⟨#[101, 110, 116, 101, 114]⟩, 8, 0, 0⟩),
  (27, ⟨⟨#[108, 101, 97, 118, 101]⟩, 0, 0, 0⟩),
  (28, ⟨⟨#[109, 97, 114, 107]⟩, 0, 0, 0⟩),
  (29, ⟨⟨#[122, 101, 114, 111]⟩, 6, 9, 0⟩),
  (30, ⟨⟨#[107, 101, 101, 112]⟩, 6, 0, 0⟩),
  (31, ⟨⟨#[97, 114, 114, 97, 121]⟩, 6, 19, 9⟩),
  (32, ⟨⟨#[108, 105, 107, 101]⟩, 6, 6, 0⟩),
  (33, ⟨⟨#[99, 111, 112, 121]⟩, 6, 9, 0⟩),
  (34, ⟨⟨#[97, 114, 114, 97, 121, 111, 119, 110]⟩, 12, 19, 9⟩),
  (35, ⟨⟨#[108, 105, 107, 101, 111, 119, 110]⟩, 12, 12, 0⟩),
  (36, ⟨⟨#[110, 101, 101, 100, 97, 114, 114, 97, 121]⟩, 19, 0, 0⟩),
  (37, ⟨⟨#[110, 101, 101, 100, 115, 119, 105, 116, 99, 104]⟩, 0, 0, 0⟩),
  (38, ⟨⟨#[115, 117, 98, 115]⟩, 0, 0, 0⟩),
  (39, ⟨⟨#[105, 110, 100, 101, 120]⟩, 19, 0, 0⟩),
  (40, ⟨⟨#[102, 101, 116, 99, 104]⟩, 0, 0, 0⟩),
  (41, ⟨⟨#[115, 116, 111, 114, 101]⟩, 20, 0, 0⟩),
  (42, ⟨⟨#[99, 111, 110, 118, 101, 114, 116]⟩, 9, 0, 0⟩),
  (43, ⟨⟨#[111, 110, 101]⟩, 21, 0, 0⟩),
  (44, ⟨⟨#[116, 119, 111]⟩, 22, 0, 0⟩),
  (45, ⟨⟨#[119, 105, 116, 104, 105, 110]⟩, 0, 0, 0⟩),
  (46, ⟨⟨#[102, 110]⟩, 23, 0, 0⟩),
  (47, ⟨⟨#[106, 117, 109, 112]⟩, 16, 0, 0⟩),
  (48, ⟨⟨#[106, 117, 109, 112, 102, 97, 108, 115, 101]⟩, 16, 0, 0⟩),
  (49, ⟨⟨#[103, 111, 116, 111]⟩, 0, 0, 0⟩),
  (50, ⟨⟨#[101, 108, 101, 109, 101, 110, 116]⟩, 0, 0, 0⟩),
  (51, ⟨⟨#[111, 117, 116]⟩, 10, 0, 0⟩),
  (52, ⟨⟨#[105, 110]⟩, 0, 0, 0⟩),
  (53, ⟨⟨#[116, 114, 97, 112]⟩, 24, 0, 0⟩)]
def FmtD.val (f : FmtD) : Value := .agg #[.string f.name, .int .i64 f.k0, .int .i64 f.k1, .int .i64 f.k2]
def fmtL : List (Int × Value) := fmtTab.map fun p => (p.1, p.2.val)
def fmtOf (k : Int) : Option FmtD := (fmtTab.find? fun p => k == p.1).map (·.2)
theorem findL_map {α : Type} (f : α → Value) (t : List (Int × α)) (k : Int) (i : Nat) : ((findL (t.map fun p => (p.1, f p.2)) k i).map (·.2)) = ((t.find? fun p => k == p.1).map (·.2)).map f := by
  induction t generalizing i with
  | nil => rfl
  | cons p t ih =>
    simp only [List.map_cons, findL, List.find?_cons]
    by_cases h : k = p.1
    · simp [h]
    · have hb : (k == p.1) = false := by simpa using h
      simp [h, hb, ih]
theorem mget_fmtL (k : Int) : mget fmtL k = (fmtOf k).map FmtD.val := findL_map FmtD.val fmtTab k 0

theorem below_step {B b : Nat} {w w1 w2 : World} (hB : Below B w w1) (hb : B ≤ b) (hs : B ≤ w1.heap.size) (hg : w1.grownBy w2 (some b)) : Below B w w2 := hB.grown hg hs (by intro k e; cases e; exact hb)

set_option maxHeartbeats 4000000 in
set_option maxRecDepth 100000 in
theorem code_formats (w : World) : Calls Try.prog 77 #[] w fun e w' => ∃ b, e = .returned (.map (some b)) ∧ w.heap.size ≤ b ∧ MapL (.int .i64) w' b fmtL ∧ Below w.heap.size w w' := by
  have hK : KeyK Try.prog 3 (fun x : Int => Value.int .i64 x) := keyInt Try.underlying3
  have hmm := @run_makeMap Try.prog
  go_enter Try.func77, Try.ntmps77
  have hM := MapL.new (fun x : Int => Value.int .i64 x) w
  have hB : Below w.heap.size w (w.alloc (.map #[] 0)) := (Below.refl _ _).alloc (Nat.le_refl _) _
  have hs : w.heap.size ≤ (w.alloc (.map #[] 0)).heap.size := by simp
  repeat (first | (refine wpL_insert rfl _ _ _ 119 rfl Try.underlying119 (fun x : Int => Value.int .i64 x) hK (int_inj _) _ _ rfl hM _ _ (by rfl) rfl ?_; clear hM; intro w1 hM hg; replace hB := below_step hB (Nat.le_refl _) hs hg; replace hs := hB.size; clear hg) | go_step)
  go_ret
  refine ⟨_, rfl, Nat.le_refl _, ?_, hB⟩
  exact (fun l h (e : l = fmtL) => e ▸ h : ∀ l, MapL (fun x : Int => Value.int .i64 x) w1 w.heap.size l → l = fmtL → MapL (fun x : Int => Value.int .i64 x) w1 w.heap.size fmtL) _ hM (by kernel_rfl)
end Go.Proofs.Ytififjlgjmgikaa
