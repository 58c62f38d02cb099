/- Sets of facts: sixty bits of a number (no program). What Live keeps true (no program). -/
import Derived.Test.YtififjlgjmgikaaBase
namespace Go.Proofs.Ytififjlgjmgikaa
set_option linter.all false
open Go.RowKit

def FS (s : Int) : Prop := 0 ≤ s ∧ s < 1152921504606846976
def fb (s : Int) (i : Nat) : Bool := s.toNat.testBit i
theorem fs_nat {s : Int} (h : FS s) : ∃ n : Nat, s = (n : Int) ∧ n < 2 ^ 60 := ⟨s.toNat, by have := h.1; omega, by have := h.2; have := h.1; omega⟩
theorem nat_fs {n : Nat} (h : n < 2 ^ 60) : FS (n : Int) := ⟨by omega, by omega⟩
theorem fs_i64 {s : Int} (h : FS s) : I64 s := ⟨by have := h.1; omega, by have := h.2; omega⟩
theorem wrap_i64_small (n : Int) (h0 : 0 ≤ n) (h1 : n < 9223372036854775808) : IntKind.i64.wrap n = n := by
  simp [IntKind.wrap, IntKind.bits, IntKind.signed]
  split <;> omega
theorem ofInt64 (a : Nat) (ha : a < 2 ^ 60) : BitVec.ofInt 64 (a : Int) = BitVec.ofNat 64 a := BitVec.ofInt_natCast ..
theorem ofNat64 (a : Nat) (ha : a < 2 ^ 60) : (BitVec.ofNat 64 a).toNat = a := by rw [BitVec.toNat_ofNat]; exact Nat.mod_eq_of_lt (by omega)
theorem bits_or_nat (a b : Nat) (ha : a < 2 ^ 60) (hb : b < 2 ^ 60) : bits .or .i64 (a : Int) (b : Int) = ((a ||| b : Nat) : Int) := by
  have hx : a ||| b < 2 ^ 60 := Nat.or_lt_two_pow ha hb
  show IntKind.i64.wrap ((BitVec.ofInt 64 (a : Int) ||| BitVec.ofInt 64 (b : Int)).toNat : Int) = _
  rw [ofInt64 a ha, ofInt64 b hb, BitVec.toNat_or, ofNat64 a ha, ofNat64 b hb]
  exact wrap_i64_small _ (by omega) (by omega)
/-- a without b. -/
def nand2 (a b : Nat) : Nat := (BitVec.ofNat 64 a &&& ~~~BitVec.ofNat 64 b).toNat
theorem nand2_le (a b : Nat) (ha : a < 2 ^ 60) : nand2 a b ≤ a := by
  unfold nand2
  rw [BitVec.toNat_and, ofNat64 a ha]
  exact Nat.and_le_left
theorem nand2_bit (a b i : Nat) (ha : a < 2 ^ 60) (hb : b < 2 ^ 60) : (nand2 a b).testBit i = (a.testBit i && !b.testBit i) := by
  unfold nand2
  rw [BitVec.toNat_and, ofNat64 a ha, Nat.testBit_and]
  cases h : a.testBit i
  · simp
  · have hi : i < 64 := by
      apply Classical.byContradiction
      intro hn
      have h2 : a < 2 ^ i := Nat.lt_of_lt_of_le ha (Nat.pow_le_pow_right (by omega) (by omega))
      rw [Nat.testBit_lt_two_pow h2] at h
      cases h
    rw [BitVec.testBit_toNat, BitVec.getLsbD_not, BitVec.getLsbD_ofNat]
    simp [hi]
theorem bits_dif_nat (a b : Nat) (ha : a < 2 ^ 60) (hb : b < 2 ^ 60) : bits .andNot .i64 (a : Int) (b : Int) = ((nand2 a b : Nat) : Int) := by
  have hx := nand2_le a b ha
  show IntKind.i64.wrap ((BitVec.ofInt 64 (a : Int) &&& ~~~BitVec.ofInt 64 (b : Int)).toNat : Int) = _
  rw [ofInt64 a ha, ofInt64 b hb]
  exact wrap_i64_small _ (by omega) (by show ((nand2 a b : Nat) : Int) < _; omega)

def uni (a b : Int) : Int := bits .or .i64 a b
def dif (a b : Int) : Int := bits .andNot .i64 a b
theorem uni_fs {a b : Int} (ha : FS a) (hb : FS b) : FS (uni a b) := by
  obtain ⟨a, rfl, h1⟩ := fs_nat ha
  obtain ⟨b, rfl, h2⟩ := fs_nat hb
  unfold uni
  rw [bits_or_nat a b h1 h2]
  exact nat_fs (Nat.or_lt_two_pow h1 h2)
theorem uni_fb {a b : Int} (ha : FS a) (hb : FS b) (i : Nat) : fb (uni a b) i = (fb a i || fb b i) := by
  obtain ⟨a, rfl, h1⟩ := fs_nat ha
  obtain ⟨b, rfl, h2⟩ := fs_nat hb
  unfold uni fb
  rw [bits_or_nat a b h1 h2]
  simp
theorem uni_le {a b : Int} (ha : FS a) (hb : FS b) : a ≤ uni a b := by
  obtain ⟨a, rfl, h1⟩ := fs_nat ha
  obtain ⟨b, rfl, h2⟩ := fs_nat hb
  unfold uni
  rw [bits_or_nat a b h1 h2]
  have : a ≤ a ||| b := Nat.left_le_or
  omega
theorem dif_fs {a b : Int} (ha : FS a) (hb : FS b) : FS (dif a b) := by
  obtain ⟨a, rfl, h1⟩ := fs_nat ha
  obtain ⟨b, rfl, h2⟩ := fs_nat hb
  unfold dif
  rw [bits_dif_nat a b h1 h2]
  exact nat_fs (Nat.lt_of_le_of_lt (nand2_le a b h1) h1)
theorem dif_fb {a b : Int} (ha : FS a) (hb : FS b) (i : Nat) : fb (dif a b) i = (fb a i && !fb b i) := by
  obtain ⟨a, rfl, h1⟩ := fs_nat ha
  obtain ⟨b, rfl, h2⟩ := fs_nat hb
  unfold dif fb
  rw [bits_dif_nat a b h1 h2]
  simp [nand2_bit a b i h1 h2]
theorem fs_ext {a b : Int} (ha : FS a) (hb : FS b) (h : ∀ i, fb a i = fb b i) : a = b := by
  obtain ⟨a, rfl, h1⟩ := fs_nat ha
  obtain ⟨b, rfl, h2⟩ := fs_nat hb
  unfold fb at h
  simp only [Int.toNat_natCast] at h
  rw [Nat.eq_of_testBit_eq h]
theorem fb_zero (i : Nat) : fb 0 i = false := by simp [fb]
theorem fs_zero : FS 0 := ⟨by omega, by omega⟩
theorem dif_zero {a b : Int} (ha : FS a) (hb : FS b) : dif a b = 0 ↔ ∀ i, fb a i = true → fb b i = true := by
  constructor
  · intro h i hi
    have h1 := dif_fb ha hb i
    rw [h, fb_zero, hi] at h1
    cases hb' : fb b i
    · rw [hb'] at h1; cases h1
    · rfl
  · intro h
    refine fs_ext (dif_fs ha hb) fs_zero fun i => ?_
    rw [dif_fb ha hb, fb_zero]
    cases h1 : fb a i
    · rfl
    · rw [h i h1]; rfl
end Go.Proofs.Ytififjlgjmgikaa
namespace Go.Proofs.Ytififjlgjmgikaa
set_option linter.all false
open Go.RowKit

/-- Fact i is live at a place. -/
inductive LiveR (nx : Nat → List Int) (us ds : List Int) (i : Nat) : Nat → Prop where
  | use {p : Nat} : fb (us.getD p 0) i = true → LiveR nx us ds i p
  | step {p : Nat} {q : Int} : q ∈ nx p → fb (ds.getD p 0) i = false → LiveR nx us ds i q.toNat → LiveR nx us ds i p
structure LiveI (n : Nat) (nx : Nat → List Int) (us ds xs : List Int) : Prop where
  len : xs.length = n
  fs : ∀ p, p < n → FS (xs.getD p 0)
  sound : ∀ p i, p < n → fb (xs.getD p 0) i = true → LiveR nx us ds i p
  uses : ∀ p i, p < n → fb (us.getD p 0) i = true → fb (xs.getD p 0) i = true
/-- Place p needs no more. -/
def ClosedAt (nx : Nat → List Int) (ds xs : List Int) (p : Nat) : Prop :=
  ∀ q ∈ nx p, ∀ i, fb (xs.getD q.toNat 0) i = true → fb (ds.getD p 0) i = false → fb (xs.getD p 0) i = true
variable {n : Nat} {nx : Nat → List Int} {us ds xs ls : List Int}
theorem LiveI.start (hu : us.length = n) (hf : ∀ p, p < n → FS (us.getD p 0)) : LiveI n nx us ds us :=
  ⟨hu, hf, fun p i _ h => .use h, fun p i _ h => h⟩
theorem LiveI.done (h : LiveI n nx us ds xs) (hN : ∀ p, p < n → ∀ q ∈ nx p, 0 ≤ q ∧ q < n) (hc : ∀ p, p < n → ClosedAt nx ds xs p) (p i : Nat) (hp : p < n) :
    fb (xs.getD p 0) i = true ↔ LiveR nx us ds i p := by
  refine ⟨h.sound p i hp, fun hr => ?_⟩
  induction hr with
  | use hu => exact h.uses _ _ hp hu
  | step hq hd _ ih =>
    have := hN _ hp _ hq
    exact hc _ hp _ hq i (ih (by omega)) hd
/-- Live is the least. -/
theorem LiveR.least (hN : ∀ p, p < n → ∀ q ∈ nx p, 0 ≤ q ∧ q < n) (hu : ∀ p i, p < n → fb (us.getD p 0) i = true → fb (ls.getD p 0) i = true) (hc : ∀ p, p < n → ClosedAt nx ds ls p) {p i : Nat} (hp : p < n)
    (hr : LiveR nx us ds i p) : fb (ls.getD p 0) i = true := by
  induction hr with
  | use h => exact hu _ _ hp h
  | step hq hd _ ih =>
    have := hN _ hp _ hq
    exact hc _ hp _ hq i (ih (by omega)) hd
/-- How much can still be added. -/
def room : List Int → Nat
  | [] => 0
  | s :: xs => (1152921504606846976 - s).toNat + room xs
theorem room_set {p : Nat} {s : Int} (hp : p < xs.length) (h1 : xs.getD p 0 < s) (h2 : s < 1152921504606846976) : room (xs.set p s) < room xs := by
  induction xs generalizing p with
  | nil => simp at hp
  | cons x xs ih =>
    cases p with
    | zero => simp [room] at *; omega
    | succ p =>
      have := ih (p := p) (by simpa using hp) (by simpa using h1)
      simp only [List.set_cons_succ, room]
      omega
theorem getD_set_int {xs : List Int} {i j : Nat} {s : Int} (hi : i < xs.length) : (xs.set i s).getD j 0 = if j = i then s else xs.getD j 0 := by
  simp only [List.getD_eq_getElem?_getD, List.getElem?_set]
  by_cases h : i = j
  · subst h; simp [hi]
  · simp [h, Ne.symm h]
/-- The sum for place p behind j of its next places. -/
structure AccI (nx : Nat → List Int) (us ds xs : List Int) (p j : Nat) (s : Int) : Prop where
  fs : FS s
  le : xs.getD p 0 ≤ s
  old : ∀ i, fb (xs.getD p 0) i = true → fb s i = true
  sound : ∀ i, fb s i = true → LiveR nx us ds i p
  seen : ∀ q ∈ (nx p).take j, ∀ i, fb (xs.getD q.toNat 0) i = true → fb (ds.getD p 0) i = false → fb s i = true
theorem AccI.start (h : LiveI n nx us ds xs) {p : Nat} (hp : p < n) : AccI nx us ds xs p 0 (xs.getD p 0) :=
  ⟨h.fs p hp, Int.le_refl _, fun _ h => h, fun i hi => h.sound p i hp hi, fun q hq => by simp at hq⟩
theorem AccI.next {p j : Nat} {s q : Int} (h : AccI nx us ds xs p j s) (hI : LiveI n nx us ds xs) (hd : FS (ds.getD p 0)) (hq : (nx p)[j]? = some q) (hr : 0 ≤ q ∧ q < n) :
    AccI nx us ds xs p (j + 1) (uni s (dif (xs.getD q.toNat 0) (ds.getD p 0))) := by
  have hqn : q.toNat < n := by omega
  have hx := hI.fs _ hqn
  have hdf := dif_fs hx hd
  refine ⟨uni_fs h.fs hdf, Int.le_trans h.le (uni_le h.fs hdf), fun i hi => ?_, fun i hi => ?_, fun z hz i hi hdi => ?_⟩
  · rw [uni_fb h.fs hdf, h.old i hi]; rfl
  · rw [uni_fb h.fs hdf, dif_fb hx hd] at hi
    cases hs : fb s i
    · rw [hs] at hi
      simp at hi
      exact .step (List.mem_of_getElem? hq) hi.2 (hI.sound _ _ hqn hi.1)
    · exact h.sound i hs
  · rw [uni_fb h.fs hdf, dif_fb hx hd]
    rw [List.take_add_one, hq] at hz
    simp at hz
    rcases hz with hz | rfl
    · rw [h.seen z hz i hi hdi]; rfl
    · rw [hi, hdi]; simp
/-- One pass, from the last place down to place p. -/
def PassI (n : Nat) (nx : Nat → List Int) (us ds xs0 xs : List Int) (again : Bool) (p : Nat) : Prop :=
  LiveI n nx us ds xs ∧ ((again = false ∧ xs = xs0 ∧ ∀ k, p ≤ k → k < n → ClosedAt nx ds xs k) ∨ (again = true ∧ room xs < room xs0))
theorem PassI.start (h : LiveI n nx us ds xs) : PassI n nx us ds xs xs false n := ⟨h, .inl ⟨rfl, rfl, fun k h1 h2 => by omega⟩⟩
theorem PassI.same {xs0 : List Int} {again : Bool} {p : Nat} {s : Int} (h : PassI n nx us ds xs0 xs again (p + 1)) (ha : AccI nx us ds xs p (nx p).length s) (hs : s = xs.getD p 0) : PassI n nx us ds xs0 xs again p := by
  obtain ⟨h1, h2⟩ := h
  refine ⟨h1, ?_⟩
  rcases h2 with ⟨h2, h3, h4⟩ | h2
  · refine .inl ⟨h2, h3, fun k hk hkn => ?_⟩
    by_cases e : k = p
    · subst e
      intro q hq i hi hd
      rw [← hs]
      exact ha.seen q (by rw [List.take_length]; exact hq) i hi hd
    · exact h4 k (by omega) hkn
  · exact .inr h2
theorem PassI.more {xs0 : List Int} {again : Bool} {p : Nat} {s : Int} (h : PassI n nx us ds xs0 xs again (p + 1)) (hp : p < n) (ha : AccI nx us ds xs p (nx p).length s) (hs : s ≠ xs.getD p 0) : PassI n nx us ds xs0 (xs.set p s) true p := by
  obtain ⟨h1, h2⟩ := h
  have hpl : p < xs.length := by rw [h1.len]; exact hp
  have hle := ha.le
  have hr := room_set hpl (s := s) (by omega) ha.fs.2
  refine ⟨⟨by simp [h1.len], fun k hk => ?_, fun k i hk hb => ?_, fun k i hk hb => ?_⟩, .inr ⟨rfl, ?_⟩⟩
  · rw [getD_set_int hpl]
    split
    · exact ha.fs
    · exact h1.fs k hk
  · rw [getD_set_int hpl] at hb
    split at hb
    · rename_i e; subst e; exact ha.sound i hb
    · exact h1.sound k i hk hb
  · rw [getD_set_int hpl]
    split
    · rename_i e; subst e; exact ha.old i (h1.uses _ i hk hb)
    · exact h1.uses k i hk hb
  · rcases h2 with ⟨_, e, _⟩ | ⟨_, h2⟩
    · rw [← e]; exact hr
    · omega
/-- What Live returns. -/
structure LiveL (n : Nat) (nx : Nat → List Int) (us ds xs : List Int) : Prop where
  len : xs.length = n
  fs : ∀ p, p < n → FS (xs.getD p 0)
  iff_ : ∀ p i, p < n → (fb (xs.getD p 0) i = true ↔ LiveR nx us ds i p)
theorem PassI.done {xs0 : List Int} (h : PassI n nx us ds xs0 xs false 0) (hN : ∀ p, p < n → ∀ q ∈ nx p, 0 ≤ q ∧ q < n) : LiveL n nx us ds xs := by
  obtain ⟨h1, h2⟩ := h
  refine ⟨h1.len, h1.fs, fun p i hp => h1.done hN (fun k hk => ?_) p i hp⟩
  rcases h2 with ⟨_, _, h2⟩ | ⟨h2, _⟩
  · exact h2 k (Nat.zero_le _) hk
  · cases h2
/-- The head of the outer loop. -/
def HeadI (n : Nat) (nx : Nat → List Int) (us ds xs : List Int) (again : Bool) (gk : Nat) : Prop :=
  (again = true ∧ LiveI n nx us ds xs ∧ room xs < gk) ∨ (again = false ∧ LiveL n nx us ds xs)
theorem PassI.head {xs0 : List Int} {again : Bool} {gk : Nat} (h : PassI n nx us ds xs0 xs again 0) (hN : ∀ p, p < n → ∀ q ∈ nx p, 0 ≤ q ∧ q < n) (hg : room xs0 < gk) : HeadI n nx us ds xs again (gk - 1) := by
  cases again with
  | true =>
    refine .inl ⟨rfl, h.1, ?_⟩
    rcases h.2 with ⟨h2, _⟩ | ⟨_, h2⟩
    · cases h2
    · omega
  | false => exact .inr ⟨rfl, h.done hN⟩
/-- What CheckLive asks of place p. -/
def CkP (nx : Nat → List Int) (us ds ls : List Int) (p : Nat) : Prop := (∀ i, fb (us.getD p 0) i = true → fb (ls.getD p 0) i = true) ∧ ClosedAt nx ds ls p
structure CkI (nx : Nat → List Int) (us ds ls : List Int) (p j : Nat) (s : Int) : Prop where
  fs : FS s
  iff_ : ∀ i, fb s i = true ↔ fb (us.getD p 0) i = true ∨ ∃ q ∈ (nx p).take j, fb (ls.getD q.toNat 0) i = true ∧ fb (ds.getD p 0) i = false
theorem CkI.start {p : Nat} (h : FS (us.getD p 0)) : CkI nx us ds ls p 0 (us.getD p 0) := ⟨h, fun i => ⟨.inl, fun h => h.elim id (fun ⟨q, hq, _⟩ => by simp at hq)⟩⟩
theorem CkI.next {p j : Nat} {s q : Int} (h : CkI nx us ds ls p j s) (hd : FS (ds.getD p 0)) (hl : FS (ls.getD q.toNat 0)) (hq : (nx p)[j]? = some q) :
    CkI nx us ds ls p (j + 1) (uni s (dif (ls.getD q.toNat 0) (ds.getD p 0))) := by
  have hdf := dif_fs hl hd
  refine ⟨uni_fs h.fs hdf, fun i => ?_⟩
  rw [uni_fb h.fs hdf, dif_fb hl hd, Bool.or_eq_true, h.iff_ i, List.take_add_one, hq]
  simp only [Option.toList_some, List.mem_append, List.mem_singleton, Bool.and_eq_true, Bool.not_eq_true']
  constructor
  · rintro ((h1 | ⟨z, h1, h2⟩) | h1)
    · exact .inl h1
    · exact .inr ⟨z, .inl h1, h2⟩
    · exact .inr ⟨q, .inr rfl, h1⟩
  · rintro (h1 | ⟨z, h1 | rfl, h2⟩)
    · exact .inl (.inl h1)
    · exact .inl (.inr ⟨z, h1, h2⟩)
    · exact .inr h2
theorem CkI.done {p : Nat} {s : Int} (h : CkI nx us ds ls p (nx p).length s) (hl : FS (ls.getD p 0)) : dif s (ls.getD p 0) = 0 ↔ CkP nx us ds ls p := by
  rw [dif_zero h.fs hl]
  constructor
  · intro k
    exact ⟨fun i hi => k i ((h.iff_ i).2 (.inl hi)), fun q hq i hi hd => k i ((h.iff_ i).2 (.inr ⟨q, by rw [List.take_length]; exact hq, hi, hd⟩))⟩
  · rintro ⟨k1, k2⟩ i hi
    rcases (h.iff_ i).1 hi with h1 | ⟨q, hq, h1, h2⟩
    · exact k1 i h1
    · exact k2 q (by rw [List.take_length] at hq; exact hq) i h1 h2
end Go.Proofs.Ytififjlgjmgikaa
