/- What GraphParts needs of sets of facts (no program). -/
import Derived.Test.YtififjlgjmgikaaLeastW
namespace Go.Proofs.Ytififjlgjmgikaa
set_option linter.all false
open Go.RowKit

theorem bits_i64 (op : BinOp) (a b : Int) : I64 (bits op .i64 a b) := ⟨bits_lo_i64 op a b, bits_hi_i64 op a b⟩
theorem toNat_ofInt (a : Int) (h : I64 a) : ((BitVec.ofInt 64 a).toNat : Int) = if 0 ≤ a then a else a + 18446744073709551616 := by
  obtain ⟨h1, h2⟩ := h
  rw [BitVec.toNat_ofInt]
  have e : ((2 ^ 64 : Nat) : Int) = 18446744073709551616 := by decide
  rw [e]
  split <;> omega
theorem wrap_fs {m : Nat} (hm : m < 18446744073709551616) (h : FS (IntKind.i64.wrap (m : Int))) : m < 1152921504606846976 := by
  obtain ⟨h1, h2⟩ := h
  simp [IntKind.wrap, IntKind.bits, IntKind.signed] at h1 h2
  split at h1 <;> split at h2 <;> omega
theorem fs_of_uni {a b : Int} (ha : I64 a) (hb : I64 b) (h : FS (uni a b)) : FS a ∧ FS b := by
  have h' : FS (IntKind.i64.wrap ((BitVec.ofInt 64 a ||| BitVec.ofInt 64 b).toNat : Int)) := h
  have h1 := wrap_fs (BitVec.isLt _) h'
  rw [BitVec.toNat_or] at h1
  have h2 : (BitVec.ofInt 64 a).toNat ≤ (BitVec.ofInt 64 a).toNat ||| (BitVec.ofInt 64 b).toNat := Nat.left_le_or
  have h3 : (BitVec.ofInt 64 b).toNat ≤ (BitVec.ofInt 64 a).toNat ||| (BitVec.ofInt 64 b).toNat := Nat.right_le_or
  have h4 := toNat_ofInt a ha
  have h5 := toNat_ofInt b hb
  obtain ⟨a1, a2⟩ := ha
  obtain ⟨b1, b2⟩ := hb
  constructor
  · split at h4
    · exact ⟨by omega, by omega⟩
    · omega
  · split at h5
    · exact ⟨by omega, by omega⟩
    · omega
def zipL (op : Int → Int → Int) (n : Nat) (a b : List Int) : List Int := (List.range n).map fun p => op (a.getD p 0) (b.getD p 0)
theorem zipL_len (op : Int → Int → Int) (n : Nat) (a b : List Int) : (zipL op n a b).length = n := by simp [zipL]
theorem zipL_at (op : Int → Int → Int) {n p : Nat} (a b : List Int) (h : p < n) : (zipL op n a b).getD p 0 = op (a.getD p 0) (b.getD p 0) := by
  unfold zipL
  rw [List.getD_eq_getElem?_getD, List.getElem?_map, List.getElem?_range h]
  rfl
theorem zipL_succ (op : Int → Int → Int) (k : Nat) (a b : List Int) : zipL op (k + 1) a b = zipL op k a b ++ [op (a.getD k 0) (b.getD k 0)] := by
  simp [zipL, List.range_succ]
theorem getD_out {xs : List Int} {p : Nat} (h : xs.length ≤ p) : xs.getD p 0 = 0 := by
  rw [List.getD_eq_getElem?_getD, List.getElem?_eq_none h]; rfl
variable {n : Nat} {nx : Nat → List Int} {us ot ds : List Int}
theorem zipL_fb_or (hu : us.length = n) (ho : ot.length = n) (hfu : ∀ p, p < n → FS (us.getD p 0)) (hfo : ∀ p, p < n → FS (ot.getD p 0)) (p i : Nat) : fb ((zipL uni n us ot).getD p 0) i = (fb (us.getD p 0) i || fb (ot.getD p 0) i) := by
  by_cases h : p < n
  · rw [zipL_at _ _ _ h, uni_fb (hfu p h) (hfo p h)]
  · rw [getD_out (by rw [zipL_len]; omega), getD_out (by omega), getD_out (by omega), fb_zero]; rfl
theorem zipL_fb_dif (hd : ds.length = n) (ho : ot.length = n) (hfd : ∀ p, p < n → FS (ds.getD p 0)) (hfo : ∀ p, p < n → FS (ot.getD p 0)) (p i : Nat) : fb ((zipL dif n ds ot).getD p 0) i = (fb (ds.getD p 0) i && !fb (ot.getD p 0) i) := by
  by_cases h : p < n
  · rw [zipL_at _ _ _ h, dif_fb (hfd p h) (hfo p h)]
  · rw [getD_out (by rw [zipL_len]; omega), getD_out (by omega), fb_zero]; rfl
theorem live_both {both : List Int} (hb : ∀ p i, fb (both.getD p 0) i = (fb (us.getD p 0) i || fb (ot.getD p 0) i)) (i p : Nat) : LiveR nx both ds i p ↔ LiveR nx us ds i p ∨ LiveR nx ot ds i p := by
  constructor
  · intro h
    induction h with
    | use h =>
      rw [hb, Bool.or_eq_true] at h
      exact h.elim (fun h => .inl (.use h)) (fun h => .inr (.use h))
    | step hq hd _ ih => exact ih.elim (fun h => .inl (.step hq hd h)) (fun h => .inr (.step hq hd h))
  · rintro (h | h)
    · induction h with
      | use h => exact .use (by rw [hb, h]; rfl)
      | step hq hd _ ih => exact .step hq hd ih
    · induction h with
      | use h => exact .use (by rw [hb, h, Bool.or_true])
      | step hq hd _ ih => exact .step hq hd ih
theorem live_fewer {fw : List Int} (hf : ∀ p i, fb (fw.getD p 0) i = (fb (ds.getD p 0) i && !fb (ot.getD p 0) i)) {i p : Nat} (h : LiveR nx us ds i p) : LiveR nx us fw i p := by
  induction h with
  | use h => exact .use h
  | step hq hd _ ih => exact .step hq (by rw [hf, hd]; rfl) ih
theorem setB_iff {l : List Int} : setB n l = true ↔ l.length = n ∧ ∀ p, p < n → FS (l.getD p 0) := ⟨setB_fs, fun h => setB_of h.1 h.2⟩
theorem setsE_two {c : CodeD} {a b : List Int} : setsE c [a, b] = 0 ↔ fineB c = true ∧ setB c.instrs.length a = true ∧ setB c.instrs.length b = true := by
  constructor
  · intro h
    exact ⟨(setsE_ok h).1, setsE_set h a (by simp), setsE_set h b (by simp)⟩
  · rintro ⟨h1, h2, h3⟩
    refine setsE_mk h1 fun l hl => ?_
    simp at hl
    rcases hl with rfl | rfl
    · exact h2
    · exact h3
theorem setB_uni (hu : us.length = n) (ho : ot.length = n) (hiu : ∀ i, I64 (us.getD i 0)) (hio : ∀ i, I64 (ot.getD i 0)) (h : setB n (zipL uni n us ot) = true) : setB n us = true ∧ setB n ot = true := by
  obtain ⟨_, h2⟩ := setB_iff.1 h
  have h3 := fun p (hp : p < n) => fs_of_uni (hiu p) (hio p) (by rw [← zipL_at uni us ot hp]; exact h2 p hp)
  exact ⟨setB_iff.2 ⟨hu, fun p hp => (h3 p hp).1⟩, setB_iff.2 ⟨ho, fun p hp => (h3 p hp).2⟩⟩
theorem setB_zip_uni (hu : setB n us = true) (ho : setB n ot = true) : setB n (zipL uni n us ot) = true := by
  obtain ⟨h1, h2⟩ := setB_iff.1 hu
  obtain ⟨h3, h4⟩ := setB_iff.1 ho
  exact setB_iff.2 ⟨zipL_len _ _ _ _, fun p hp => by rw [zipL_at _ _ _ hp]; exact uni_fs (h2 p hp) (h4 p hp)⟩
theorem setB_zip_dif (hd : setB n ds = true) (ho : setB n ot = true) : setB n (zipL dif n ds ot) = true := by
  obtain ⟨h1, h2⟩ := setB_iff.1 hd
  obtain ⟨h3, h4⟩ := setB_iff.1 ho
  exact setB_iff.2 ⟨zipL_len _ _ _ _, fun p hp => by rw [zipL_at _ _ _ hp]; exact dif_fs (h2 p hp) (h4 p hp)⟩
theorem parts_or {n : Nat} {nx : Nat → List Int} {us ot ds xa xb xd both : List Int} (hb : ∀ p i, fb (both.getD p 0) i = (fb (us.getD p 0) i || fb (ot.getD p 0) i)) (La : LiveL n nx us ds xa) (Lb : LiveL n nx ot ds xb) (Ld : LiveL n nx both ds xd) {p : Nat} (hp : p < n) :
    xd.getD p 0 = uni (xa.getD p 0) (xb.getD p 0) := by
  refine fs_ext (Ld.fs p hp) (uni_fs (La.fs p hp) (Lb.fs p hp)) fun i => ?_
  rw [uni_fb (La.fs p hp) (Lb.fs p hp)]
  apply Bool.eq_iff_iff.2
  rw [Bool.or_eq_true, Ld.iff_ p i hp, La.iff_ p i hp, Lb.iff_ p i hp]
  exact live_both hb i p
theorem parts_dif {n : Nat} {nx : Nat → List Int} {us ot ds xa xx fw : List Int} (hf : ∀ p i, fb (fw.getD p 0) i = (fb (ds.getD p 0) i && !fb (ot.getD p 0) i)) (La : LiveL n nx us ds xa) (Lx : LiveL n nx us fw xx) {p : Nat} (hp : p < n) :
    dif (xa.getD p 0) (xx.getD p 0) = 0 :=
  (dif_zero (La.fs p hp) (Lx.fs p hp)).2 fun i hi => (Lx.iff_ p i hp).2 (live_fewer hf ((La.iff_ p i hp).1 hi))
theorem zipL_i64 {op : Int → Int → Int} (ho : ∀ a b, I64 (op a b)) (n : Nat) (a b : List Int) : ∀ x ∈ zipL op n a b, I64 x := by
  intro x hx
  unfold zipL at hx
  obtain ⟨i, _, rfl⟩ := List.mem_map.1 hx
  exact ho _ _
theorem liveL_i64 {n : Nat} {nx : Nat → List Int} {us ds xs : List Int} (h : LiveL n nx us ds xs) : ∀ x ∈ xs, I64 x := by
  intro y hy
  obtain ⟨i, hi⟩ := List.getElem?_of_mem hy
  have h1 := h.fs i (by have h2 := (List.getElem?_eq_some_iff.1 hi).1; have h3 := h.len; omega)
  rw [List.getD_eq_getElem?_getD, hi, Option.getD_some] at h1
  exact fs_i64 h1
end Go.Proofs.Ytififjlgjmgikaa
