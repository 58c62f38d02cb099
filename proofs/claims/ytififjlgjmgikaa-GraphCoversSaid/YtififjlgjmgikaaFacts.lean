/- Sets of facts: sixty bits of a number (no program). -/
import Derived.Test.YtififjlgjmgikaaBase
namespace Go.Proofs.Ytififjlgjmgikaa
set_option linter.all false
open Go.RowKit

def FS (s : Int) : Prop := 0 ≤ s ∧ s < 1152921504606846976
def fb (s : Int) (i : Nat) : Bool := s.toNat.testBit i
theorem fs_nat {s : Int} (h : FS s) : ∃ n : Nat, s = (n : Int) ∧ n < 2 ^ 60 := ⟨s.toNat, by have := h.1; omega, by have := h.2; have := h.1; omega⟩
theorem nat_fs {n : Nat} (h : n < 2 ^ 60) : FS (n : Int) := ⟨by omega, by omega⟩
theorem fs_i64 {s : Int} (h : FS s) : I64 s := ⟨by have := h.1; omega, by have := h.2; omega⟩
theorem wrap_i64_small (n : Int) (h0 : 0 ≤ n) (h1 : n < 9223372036854775808) : IntKind.i64.wrap n = n := by
  simp [IntKind.wrap, IntKind.bits, IntKind.signed]
  split <;> omega
theorem ofInt64 (a : Nat) (ha : a < 2 ^ 60) : BitVec.ofInt 64 (a : Int) = BitVec.ofNat 64 a := BitVec.ofInt_natCast ..
theorem ofNat64 (a : Nat) (ha : a < 2 ^ 60) : (BitVec.ofNat 64 a).toNat = a := by rw [BitVec.toNat_ofNat]; exact Nat.mod_eq_of_lt (by omega)
theorem bits_or_nat (a b : Nat) (ha : a < 2 ^ 60) (hb : b < 2 ^ 60) : bits .or .i64 (a : Int) (b : Int) = ((a ||| b : Nat) : Int) := by
  have hx : a ||| b < 2 ^ 60 := Nat.or_lt_two_pow ha hb
  show IntKind.i64.wrap ((BitVec.ofInt 64 (a : Int) ||| BitVec.ofInt 64 (b : Int)).toNat : Int) = _
  rw [ofInt64 a ha, ofInt64 b hb, BitVec.toNat_or, ofNat64 a ha, ofNat64 b hb]
  exact wrap_i64_small _ (by omega) (by omega)
/-- a without b. -/
def nand2 (a b : Nat) : Nat := (BitVec.ofNat 64 a &&& ~~~BitVec.ofNat 64 b).toNat
theorem nand2_le (a b : Nat) (ha : a < 2 ^ 60) : nand2 a b ≤ a := by
  unfold nand2
  rw [BitVec.toNat_and, ofNat64 a ha]
  exact Nat.and_le_left
theorem nand2_bit (a b i : Nat) (ha : a < 2 ^ 60) (hb : b < 2 ^ 60) : (nand2 a b).testBit i = (a.testBit i && !b.testBit i) := by
  unfold nand2
  rw [BitVec.toNat_and, ofNat64 a ha, Nat.testBit_and]
  cases h : a.testBit i
  · simp
  · have hi : i < 64 := by
      apply Classical.byContradiction
      intro hn
      have h2 : a < 2 ^ i := Nat.lt_of_lt_of_le ha (Nat.pow_le_pow_right (by omega) (by omega))
      rw [Nat.testBit_lt_two_pow h2] at h
      cases h
    rw [BitVec.testBit_toNat, BitVec.getLsbD_not, BitVec.getLsbD_ofNat]
    simp [hi]
theorem bits_dif_nat (a b : Nat) (ha : a < 2 ^ 60) (hb : b < 2 ^ 60) : bits .andNot .i64 (a : Int) (b : Int) = ((nand2 a b : Nat) : Int) := by
  have hx := nand2_le a b ha
  show IntKind.i64.wrap ((BitVec.ofInt 64 (a : Int) &&& ~~~BitVec.ofInt 64 (b : Int)).toNat : Int) = _
  rw [ofInt64 a ha, ofInt64 b hb]
  exact wrap_i64_small _ (by omega) (by show ((nand2 a b : Nat) : Int) < _; omega)

def uni (a b : Int) : Int := bits .or .i64 a b
def dif (a b : Int) : Int := bits .andNot .i64 a b
theorem uni_fs {a b : Int} (ha : FS a) (hb : FS b) : FS (uni a b) := by
  obtain ⟨a, rfl, h1⟩ := fs_nat ha
  obtain ⟨b, rfl, h2⟩ := fs_nat hb
  unfold uni
  rw [bits_or_nat a b h1 h2]
  exact nat_fs (Nat.or_lt_two_pow h1 h2)
theorem uni_fb {a b : Int} (ha : FS a) (hb : FS b) (i : Nat) : fb (uni a b) i = (fb a i || fb b i) := by
  obtain ⟨a, rfl, h1⟩ := fs_nat ha
  obtain ⟨b, rfl, h2⟩ := fs_nat hb
  unfold uni fb
  rw [bits_or_nat a b h1 h2]
  simp
theorem uni_le {a b : Int} (ha : FS a) (hb : FS b) : a ≤ uni a b := by
  obtain ⟨a, rfl, h1⟩ := fs_nat ha
  obtain ⟨b, rfl, h2⟩ := fs_nat hb
  unfold uni
  rw [bits_or_nat a b h1 h2]
  have : a ≤ a ||| b := Nat.left_le_or
  omega
theorem dif_fs {a b : Int} (ha : FS a) (hb : FS b) : FS (dif a b) := by
  obtain ⟨a, rfl, h1⟩ := fs_nat ha
  obtain ⟨b, rfl, h2⟩ := fs_nat hb
  unfold dif
  rw [bits_dif_nat a b h1 h2]
  exact nat_fs (Nat.lt_of_le_of_lt (nand2_le a b h1) h1)
theorem dif_fb {a b : Int} (ha : FS a) (hb : FS b) (i : Nat) : fb (dif a b) i = (fb a i && !fb b i) := by
  obtain ⟨a, rfl, h1⟩ := fs_nat ha
  obtain ⟨b, rfl, h2⟩ := fs_nat hb
  unfold dif fb
  rw [bits_dif_nat a b h1 h2]
  simp [nand2_bit a b i h1 h2]
theorem fs_ext {a b : Int} (ha : FS a) (hb : FS b) (h : ∀ i, fb a i = fb b i) : a = b := by
  obtain ⟨a, rfl, h1⟩ := fs_nat ha
  obtain ⟨b, rfl, h2⟩ := fs_nat hb
  unfold fb at h
  simp only [Int.toNat_natCast] at h
  rw [Nat.eq_of_testBit_eq h]
theorem fb_zero (i : Nat) : fb 0 i = false := by simp [fb]
theorem fs_zero : FS 0 := ⟨by omega, by omega⟩
theorem dif_zero {a b : Int} (ha : FS a) (hb : FS b) : dif a b = 0 ↔ ∀ i, fb a i = true → fb b i = true := by
  constructor
  · intro h i hi
    have h1 := dif_fb ha hb i
    rw [h, fb_zero, hi] at h1
    cases hb' : fb b i
    · rw [hb'] at h1; cases h1
    · rfl
  · intro h
    refine fs_ext (dif_fs ha hb) fs_zero fun i => ?_
    rw [dif_fb ha hb, fb_zero]
    cases h1 : fb a i
    · rfl
    · rw [h i h1]; rfl
end Go.Proofs.Ytififjlgjmgikaa
