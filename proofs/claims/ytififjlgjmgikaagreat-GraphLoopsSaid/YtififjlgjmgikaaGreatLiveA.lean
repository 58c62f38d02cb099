/- Sets of facts: sixty bits of a number (no program). What Live keeps true (no program). graph.sets, graph.Live, graph.CheckLive. graph.Live. -/
import Derived.Test.YtififjlgjmgikaaGreatBase
import Derived.Test.YtififjlgjmgikaaGreatFlow
import Derived.Deep.QuietTactic
import Derived.BigQuiet
import Derived.Test.YtififjlgjmgikaaGreatDelete
namespace Go.Proofs.YtififjlgjmgikaaGreat
set_option linter.all false
open Go.RowKit

def FS (s : Int) : Prop := 0 ≤ s ∧ s < 1152921504606846976
def fb (s : Int) (i : Nat) : Bool := s.toNat.testBit i
theorem fs_nat {s : Int} (h : FS s) : ∃ n : Nat, s = (n : Int) ∧ n < 2 ^ 60 := ⟨s.toNat, by have := h.1; omega, by have := h.2; have := h.1; omega⟩
theorem nat_fs {n : Nat} (h : n < 2 ^ 60) : FS (n : Int) := ⟨by omega, by omega⟩
theorem fs_i64 {s : Int} (h : FS s) : I64 s := ⟨by have := h.1; omega, by have := h.2; omega⟩
theorem wrap_i64_small (n : Int) (h0 : 0 ≤ n) (h1 : n < 9223372036854775808) : IntKind.i64.wrap n = n := by
  simp [IntKind.wrap, IntKind.bits, IntKind.signed]
  split <;> omega
theorem ofInt64 (a : Nat) (ha : a < 2 ^ 60) : BitVec.ofInt 64 (a : Int) = BitVec.ofNat 64 a := BitVec.ofInt_natCast ..
theorem ofNat64 (a : Nat) (ha : a < 2 ^ 60) : (BitVec.ofNat 64 a).toNat = a := by rw [BitVec.toNat_ofNat]; exact Nat.mod_eq_of_lt (by omega)
theorem bits_or_nat (a b : Nat) (ha : a < 2 ^ 60) (hb : b < 2 ^ 60) : bits .or .i64 (a : Int) (b : Int) = ((a ||| b : Nat) : Int) := by
  have hx : a ||| b < 2 ^ 60 := Nat.or_lt_two_pow ha hb
  show IntKind.i64.wrap ((BitVec.ofInt 64 (a : Int) ||| BitVec.ofInt 64 (b : Int)).toNat : Int) = _
  rw [ofInt64 a ha, ofInt64 b hb, BitVec.toNat_or, ofNat64 a ha, ofNat64 b hb]
  exact wrap_i64_small _ (by omega) (by omega)
/-- a without b. -/
def nand2 (a b : Nat) : Nat := (BitVec.ofNat 64 a &&& ~~~BitVec.ofNat 64 b).toNat
theorem nand2_le (a b : Nat) (ha : a < 2 ^ 60) : nand2 a b ≤ a := by
  unfold nand2
  rw [BitVec.toNat_and, ofNat64 a ha]
  exact Nat.and_le_left
theorem nand2_bit (a b i : Nat) (ha : a < 2 ^ 60) (hb : b < 2 ^ 60) : (nand2 a b).testBit i = (a.testBit i && !b.testBit i) := by
  unfold nand2
  rw [BitVec.toNat_and, ofNat64 a ha, Nat.testBit_and]
  cases h : a.testBit i
  · simp
  · have hi : i < 64 := by
      apply Classical.byContradiction
      intro hn
      have h2 : a < 2 ^ i := Nat.lt_of_lt_of_le ha (Nat.pow_le_pow_right (by omega) (by omega))
      rw [Nat.testBit_lt_two_pow h2] at h
      cases h
    rw [BitVec.testBit_toNat, BitVec.getLsbD_not, BitVec.getLsbD_ofNat]
    simp [hi]
theorem bits_dif_nat (a b : Nat) (ha : a < 2 ^ 60) (hb : b < 2 ^ 60) : bits .andNot .i64 (a : Int) (b : Int) = ((nand2 a b : Nat) : Int) := by
  have hx := nand2_le a b ha
  show IntKind.i64.wrap ((BitVec.ofInt 64 (a : Int) &&& ~~~BitVec.ofInt 64 (b : Int)).toNat : Int) = _
  rw [ofInt64 a ha, ofInt64 b hb]
  exact wrap_i64_small _ (by omega) (by show ((nand2 a b : Nat) : Int) < _; omega)

def uni (a b : Int) : Int := bits .or .i64 a b
def dif (a b : Int) : Int := bits .andNot .i64 a b
theorem uni_fs {a b : Int} (ha : FS a) (hb : FS b) : FS (uni a b) := by
  obtain ⟨a, rfl, h1⟩ := fs_nat ha
  obtain ⟨b, rfl, h2⟩ := fs_nat hb
  unfold uni
  rw [bits_or_nat a b h1 h2]
  exact nat_fs (Nat.or_lt_two_pow h1 h2)
theorem uni_fb {a b : Int} (ha : FS a) (hb : FS b) (i : Nat) : fb (uni a b) i = (fb a i || fb b i) := by
  obtain ⟨a, rfl, h1⟩ := fs_nat ha
  obtain ⟨b, rfl, h2⟩ := fs_nat hb
  unfold uni fb
  rw [bits_or_nat a b h1 h2]
  simp
theorem uni_le {a b : Int} (ha : FS a) (hb : FS b) : a ≤ uni a b := by
  obtain ⟨a, rfl, h1⟩ := fs_nat ha
  obtain ⟨b, rfl, h2⟩ := fs_nat hb
  unfold uni
  rw [bits_or_nat a b h1 h2]
  have : a ≤ a ||| b := Nat.left_le_or
  omega
theorem dif_fs {a b : Int} (ha : FS a) (hb : FS b) : FS (dif a b) := by
  obtain ⟨a, rfl, h1⟩ := fs_nat ha
  obtain ⟨b, rfl, h2⟩ := fs_nat hb
  unfold dif
  rw [bits_dif_nat a b h1 h2]
  exact nat_fs (Nat.lt_of_le_of_lt (nand2_le a b h1) h1)
theorem dif_fb {a b : Int} (ha : FS a) (hb : FS b) (i : Nat) : fb (dif a b) i = (fb a i && !fb b i) := by
  obtain ⟨a, rfl, h1⟩ := fs_nat ha
  obtain ⟨b, rfl, h2⟩ := fs_nat hb
  unfold dif fb
  rw [bits_dif_nat a b h1 h2]
  simp [nand2_bit a b i h1 h2]
theorem fs_ext {a b : Int} (ha : FS a) (hb : FS b) (h : ∀ i, fb a i = fb b i) : a = b := by
  obtain ⟨a, rfl, h1⟩ := fs_nat ha
  obtain ⟨b, rfl, h2⟩ := fs_nat hb
  unfold fb at h
  simp only [Int.toNat_natCast] at h
  rw [Nat.eq_of_testBit_eq h]
theorem fb_zero (i : Nat) : fb 0 i = false := by simp [fb]
theorem fs_zero : FS 0 := ⟨by omega, by omega⟩
theorem dif_zero {a b : Int} (ha : FS a) (hb : FS b) : dif a b = 0 ↔ ∀ i, fb a i = true → fb b i = true := by
  constructor
  · intro h i hi
    have h1 := dif_fb ha hb i
    rw [h, fb_zero, hi] at h1
    cases hb' : fb b i
    · rw [hb'] at h1; cases h1
    · rfl
  · intro h
    refine fs_ext (dif_fs ha hb) fs_zero fun i => ?_
    rw [dif_fb ha hb, fb_zero]
    cases h1 : fb a i
    · rfl
    · rw [h i h1]; rfl
end Go.Proofs.YtififjlgjmgikaaGreat
namespace Go.Proofs.YtififjlgjmgikaaGreat
set_option linter.all false
open Go.RowKit

/-- Fact i is live at a place. -/
inductive LiveR (nx : Nat → List Int) (us ds : List Int) (i : Nat) : Nat → Prop where
  | use {p : Nat} : fb (us.getD p 0) i = true → LiveR nx us ds i p
  | step {p : Nat} {q : Int} : q ∈ nx p → fb (ds.getD p 0) i = false → LiveR nx us ds i q.toNat → LiveR nx us ds i p
structure LiveI (n : Nat) (nx : Nat → List Int) (us ds xs : List Int) : Prop where
  len : xs.length = n
  fs : ∀ p, p < n → FS (xs.getD p 0)
  sound : ∀ p i, p < n → fb (xs.getD p 0) i = true → LiveR nx us ds i p
  uses : ∀ p i, p < n → fb (us.getD p 0) i = true → fb (xs.getD p 0) i = true
/-- Place p needs no more. -/
def ClosedAt (nx : Nat → List Int) (ds xs : List Int) (p : Nat) : Prop :=
  ∀ q ∈ nx p, ∀ i, fb (xs.getD q.toNat 0) i = true → fb (ds.getD p 0) i = false → fb (xs.getD p 0) i = true
variable {n : Nat} {nx : Nat → List Int} {us ds xs ls : List Int}
theorem LiveI.start (hu : us.length = n) (hf : ∀ p, p < n → FS (us.getD p 0)) : LiveI n nx us ds us :=
  ⟨hu, hf, fun p i _ h => .use h, fun p i _ h => h⟩
theorem LiveI.done (h : LiveI n nx us ds xs) (hN : ∀ p, p < n → ∀ q ∈ nx p, 0 ≤ q ∧ q < n) (hc : ∀ p, p < n → ClosedAt nx ds xs p) (p i : Nat) (hp : p < n) :
    fb (xs.getD p 0) i = true ↔ LiveR nx us ds i p := by
  refine ⟨h.sound p i hp, fun hr => ?_⟩
  induction hr with
  | use hu => exact h.uses _ _ hp hu
  | step hq hd _ ih =>
    have := hN _ hp _ hq
    exact hc _ hp _ hq i (ih (by omega)) hd
/-- Live is the least. -/
theorem LiveR.least (hN : ∀ p, p < n → ∀ q ∈ nx p, 0 ≤ q ∧ q < n) (hu : ∀ p i, p < n → fb (us.getD p 0) i = true → fb (ls.getD p 0) i = true) (hc : ∀ p, p < n → ClosedAt nx ds ls p) {p i : Nat} (hp : p < n)
    (hr : LiveR nx us ds i p) : fb (ls.getD p 0) i = true := by
  induction hr with
  | use h => exact hu _ _ hp h
  | step hq hd _ ih =>
    have := hN _ hp _ hq
    exact hc _ hp _ hq i (ih (by omega)) hd
/-- How much can still be added. -/
def room : List Int → Nat
  | [] => 0
  | s :: xs => (1152921504606846976 - s).toNat + room xs
theorem room_set {p : Nat} {s : Int} (hp : p < xs.length) (h1 : xs.getD p 0 < s) (h2 : s < 1152921504606846976) : room (xs.set p s) < room xs := by
  induction xs generalizing p with
  | nil => simp at hp
  | cons x xs ih =>
    cases p with
    | zero => simp [room] at *; omega
    | succ p =>
      have := ih (p := p) (by simpa using hp) (by simpa using h1)
      simp only [List.set_cons_succ, room]
      omega
theorem getD_set_int {xs : List Int} {i j : Nat} {s : Int} (hi : i < xs.length) : (xs.set i s).getD j 0 = if j = i then s else xs.getD j 0 := by
  simp only [List.getD_eq_getElem?_getD, List.getElem?_set]
  by_cases h : i = j
  · subst h; simp [hi]
  · simp [h, Ne.symm h]
/-- The sum for place p behind j of its next places. -/
structure AccI (nx : Nat → List Int) (us ds xs : List Int) (p j : Nat) (s : Int) : Prop where
  fs : FS s
  le : xs.getD p 0 ≤ s
  old : ∀ i, fb (xs.getD p 0) i = true → fb s i = true
  sound : ∀ i, fb s i = true → LiveR nx us ds i p
  seen : ∀ q ∈ (nx p).take j, ∀ i, fb (xs.getD q.toNat 0) i = true → fb (ds.getD p 0) i = false → fb s i = true
theorem AccI.start (h : LiveI n nx us ds xs) {p : Nat} (hp : p < n) : AccI nx us ds xs p 0 (xs.getD p 0) :=
  ⟨h.fs p hp, Int.le_refl _, fun _ h => h, fun i hi => h.sound p i hp hi, fun q hq => by simp at hq⟩
theorem AccI.next {p j : Nat} {s q : Int} (h : AccI nx us ds xs p j s) (hI : LiveI n nx us ds xs) (hd : FS (ds.getD p 0)) (hq : (nx p)[j]? = some q) (hr : 0 ≤ q ∧ q < n) :
    AccI nx us ds xs p (j + 1) (uni s (dif (xs.getD q.toNat 0) (ds.getD p 0))) := by
  have hqn : q.toNat < n := by omega
  have hx := hI.fs _ hqn
  have hdf := dif_fs hx hd
  refine ⟨uni_fs h.fs hdf, Int.le_trans h.le (uni_le h.fs hdf), fun i hi => ?_, fun i hi => ?_, fun z hz i hi hdi => ?_⟩
  · rw [uni_fb h.fs hdf, h.old i hi]; rfl
  · rw [uni_fb h.fs hdf, dif_fb hx hd] at hi
    cases hs : fb s i
    · rw [hs] at hi
      simp at hi
      exact .step (List.mem_of_getElem? hq) hi.2 (hI.sound _ _ hqn hi.1)
    · exact h.sound i hs
  · rw [uni_fb h.fs hdf, dif_fb hx hd]
    rw [List.take_add_one, hq] at hz
    simp at hz
    rcases hz with hz | rfl
    · rw [h.seen z hz i hi hdi]; rfl
    · rw [hi, hdi]; simp
/-- One pass, from the last place down to place p. -/
def PassI (n : Nat) (nx : Nat → List Int) (us ds xs0 xs : List Int) (again : Bool) (p : Nat) : Prop :=
  LiveI n nx us ds xs ∧ ((again = false ∧ xs = xs0 ∧ ∀ k, p ≤ k → k < n → ClosedAt nx ds xs k) ∨ (again = true ∧ room xs < room xs0))
theorem PassI.start (h : LiveI n nx us ds xs) : PassI n nx us ds xs xs false n := ⟨h, .inl ⟨rfl, rfl, fun k h1 h2 => by omega⟩⟩
theorem PassI.same {xs0 : List Int} {again : Bool} {p : Nat} {s : Int} (h : PassI n nx us ds xs0 xs again (p + 1)) (ha : AccI nx us ds xs p (nx p).length s) (hs : s = xs.getD p 0) : PassI n nx us ds xs0 xs again p := by
  obtain ⟨h1, h2⟩ := h
  refine ⟨h1, ?_⟩
  rcases h2 with ⟨h2, h3, h4⟩ | h2
  · refine .inl ⟨h2, h3, fun k hk hkn => ?_⟩
    by_cases e : k = p
    · subst e
      intro q hq i hi hd
      rw [← hs]
      exact ha.seen q (by rw [List.take_length]; exact hq) i hi hd
    · exact h4 k (by omega) hkn
  · exact .inr h2
theorem PassI.more {xs0 : List Int} {again : Bool} {p : Nat} {s : Int} (h : PassI n nx us ds xs0 xs again (p + 1)) (hp : p < n) (ha : AccI nx us ds xs p (nx p).length s) (hs : s ≠ xs.getD p 0) : PassI n nx us ds xs0 (xs.set p s) true p := by
  obtain ⟨h1, h2⟩ := h
  have hpl : p < xs.length := by rw [h1.len]; exact hp
  have hle := ha.le
  have hr := room_set hpl (s := s) (by omega) ha.fs.2
  refine ⟨⟨by simp [h1.len], fun k hk => ?_, fun k i hk hb => ?_, fun k i hk hb => ?_⟩, .inr ⟨rfl, ?_⟩⟩
  · rw [getD_set_int hpl]
    split
    · exact ha.fs
    · exact h1.fs k hk
  · rw [getD_set_int hpl] at hb
    split at hb
    · rename_i e; subst e; exact ha.sound i hb
    · exact h1.sound k i hk hb
  · rw [getD_set_int hpl]
    split
    · rename_i e; subst e; exact ha.old i (h1.uses _ i hk hb)
    · exact h1.uses k i hk hb
  · rcases h2 with ⟨_, e, _⟩ | ⟨_, h2⟩
    · rw [← e]; exact hr
    · omega
/-- What Live returns. -/
structure LiveL (n : Nat) (nx : Nat → List Int) (us ds xs : List Int) : Prop where
  len : xs.length = n
  fs : ∀ p, p < n → FS (xs.getD p 0)
  iff_ : ∀ p i, p < n → (fb (xs.getD p 0) i = true ↔ LiveR nx us ds i p)
theorem PassI.done {xs0 : List Int} (h : PassI n nx us ds xs0 xs false 0) (hN : ∀ p, p < n → ∀ q ∈ nx p, 0 ≤ q ∧ q < n) : LiveL n nx us ds xs := by
  obtain ⟨h1, h2⟩ := h
  refine ⟨h1.len, h1.fs, fun p i hp => h1.done hN (fun k hk => ?_) p i hp⟩
  rcases h2 with ⟨_, _, h2⟩ | ⟨h2, _⟩
  · exact h2 k (Nat.zero_le _) hk
  · cases h2
/-- The head of the outer loop. -/
def HeadI (n : Nat) (nx : Nat → List Int) (us ds xs : List Int) (again : Bool) (gk : Nat) : Prop :=
  (again = true ∧ LiveI n nx us ds xs ∧ room xs < gk) ∨ (again = false ∧ LiveL n nx us ds xs)
theorem PassI.head {xs0 : List Int} {again : Bool} {gk : Nat} (h : PassI n nx us ds xs0 xs again 0) (hN : ∀ p, p < n → ∀ q ∈ nx p, 0 ≤ q ∧ q < n) (hg : room xs0 < gk) : HeadI n nx us ds xs again (gk - 1) := by
  cases again with
  | true =>
    refine .inl ⟨rfl, h.1, ?_⟩
    rcases h.2 with ⟨h2, _⟩ | ⟨_, h2⟩
    · cases h2
    · omega
  | false => exact .inr ⟨rfl, h.done hN⟩
/-- What CheckLive asks of place p. -/
def CkP (nx : Nat → List Int) (us ds ls : List Int) (p : Nat) : Prop := (∀ i, fb (us.getD p 0) i = true → fb (ls.getD p 0) i = true) ∧ ClosedAt nx ds ls p
structure CkI (nx : Nat → List Int) (us ds ls : List Int) (p j : Nat) (s : Int) : Prop where
  fs : FS s
  iff_ : ∀ i, fb s i = true ↔ fb (us.getD p 0) i = true ∨ ∃ q ∈ (nx p).take j, fb (ls.getD q.toNat 0) i = true ∧ fb (ds.getD p 0) i = false
theorem CkI.start {p : Nat} (h : FS (us.getD p 0)) : CkI nx us ds ls p 0 (us.getD p 0) := ⟨h, fun i => ⟨.inl, fun h => h.elim id (fun ⟨q, hq, _⟩ => by simp at hq)⟩⟩
theorem CkI.next {p j : Nat} {s q : Int} (h : CkI nx us ds ls p j s) (hd : FS (ds.getD p 0)) (hl : FS (ls.getD q.toNat 0)) (hq : (nx p)[j]? = some q) :
    CkI nx us ds ls p (j + 1) (uni s (dif (ls.getD q.toNat 0) (ds.getD p 0))) := by
  have hdf := dif_fs hl hd
  refine ⟨uni_fs h.fs hdf, fun i => ?_⟩
  rw [uni_fb h.fs hdf, dif_fb hl hd, Bool.or_eq_true, h.iff_ i, List.take_add_one, hq]
  simp only [Option.toList_some, List.mem_append, List.mem_singleton, Bool.and_eq_true, Bool.not_eq_true']
  constructor
  · rintro ((h1 | ⟨z, h1, h2⟩) | h1)
    · exact .inl h1
    · exact .inr ⟨z, .inl h1, h2⟩
    · exact .inr ⟨q, .inr rfl, h1⟩
  · rintro (h1 | ⟨z, h1 | rfl, h2⟩)
    · exact .inl (.inl h1)
    · exact .inl (.inr ⟨z, h1, h2⟩)
    · exact .inr h2
theorem CkI.done {p : Nat} {s : Int} (h : CkI nx us ds ls p (nx p).length s) (hl : FS (ls.getD p 0)) : dif s (ls.getD p 0) = 0 ↔ CkP nx us ds ls p := by
  rw [dif_zero h.fs hl]
  constructor
  · intro k
    exact ⟨fun i hi => k i ((h.iff_ i).2 (.inl hi)), fun q hq i hi hd => k i ((h.iff_ i).2 (.inr ⟨q, by rw [List.take_length]; exact hq, hi, hd⟩))⟩
  · rintro ⟨k1, k2⟩ i hi
    rcases (h.iff_ i).1 hi with h1 | ⟨q, hq, h1, h2⟩
    · exact k1 i h1
    · exact k2 q (by rw [List.take_length] at hq; exact hq) i h1 h2
end Go.Proofs.YtififjlgjmgikaaGreat
namespace Go.Proofs.YtififjlgjmgikaaGreat
set_option linter.all false
open Go.RowKit

def badS (s : Int) : Bool := !withinB s 0 1152921504606846975
def setB (n : Nat) (l : List Int) : Bool := decide (l.length = n) && !l.any badS
def setsE (c : CodeD) (ls : List (List Int)) : Int := if fineB c = true then (if ls.all (setB c.instrs.length) = true then 0 else 7) else 1
theorem setB_fs {n : Nat} {l : List Int} (h : setB n l = true) : l.length = n ∧ ∀ p, p < n → FS (l.getD p 0) := by
  unfold setB at h
  simp only [Bool.and_eq_true, decide_eq_true_eq, Bool.not_eq_true', List.any_eq_false] at h
  refine ⟨h.1, fun p hp => ?_⟩
  have hp' : p < l.length := by omega
  have h2 := h.2 l[p] (List.getElem_mem hp')
  rw [List.getD_eq_getElem?_getD, List.getElem?_eq_getElem hp']
  simp only [badS, withinB, Bool.not_eq_true'] at h2
  simp at h2
  exact ⟨h2.1, by show l[p] < _; omega⟩
set_option maxHeartbeats 400000 in
theorem graph_sets1 (s : Int) (w : World) : Calls Tryz.prog 101 #[.int .i64 s] w fun e w' => e = .returned (.bool (badS s)) ∧ Below w.heap.size w w' := by
  go_enter Tryz.func101, Tryz.ntmps101
  go_wp2_with (go_at_call 50; refine (graph_within _ _ _ _).mono ?_; rintro e w3 ⟨rfl, rfl⟩)
  go_ret
  exact ⟨rfl, Below.refl _ _⟩
theorem graph_sets1V (H : PH) : PredV H .i64 (.func (.func 101) #[] #[]) (fun _ => True) badS :=
  ⟨_, _, rfl, enters_mk Tryz.func101 (by kernel_rfl) rfl, fun w' _ x _ _ _ => graph_sets1 x w'⟩
theorem all_take_succ {ls : List (List Int)} {p : List Int → Bool} {k : Nat} (hk : k < ls.length) : (ls.take (k + 1)).all p = ((ls.take k).all p && p (ls.getD k [])) := by
  rw [List.take_add_one, List.getElem?_eq_getElem hk, List.all_append, List.getD_eq_getElem?_getD, List.getElem?_eq_getElem hk]
  simp
set_option maxHeartbeats 4000000 in
set_option maxRecDepth 100000 in
theorem graph_sets (H : PH) (v lv : Value) (c : CodeD) (ls : List (List Int)) (w : World) (hw : Sees w H) (hc : CodeV H v c) (hl : SlV (rSl rInt) H lv ls) :
    Calls Tryz.prog 60 #[v, lv] w fun e w' => e = .returned (.int .i64 (setsE c ls)) ∧ Below w.heap.size w w' := by
  have hc0 := hc
  obtain ⟨s0, s1, s2, s3, s4, s5, s6, rfl, hc⟩ := hc
  have b0 := hc.instrs.le
  obtain ⟨A0, c0, rfl, k0, -⟩ := hc.instrs.open_
  have bl := hl.le
  have hl' := hl
  obtain ⟨Al, cl, rfl, kl, -⟩ := hl'.open_
  have hC := Lib.hid (fun (w1 : World) (hs : Sees w1 H) => graph_fine H _ c w1 hs hc0)
  have hbx := ga_new w (.cells #[.slice A0 c.instrs.length c0, s1, s2, s3, s4, s5, s6] 30)
  have hB0 : Below w.heap.size w (w.alloc (.cells #[.slice A0 c.instrs.length c0, s1, s2, s3, s4, s5, s6] 30)) := (Below.refl _ _).alloc (Nat.le_refl _) _
  have hz : w.heap.size < (w.alloc (.cells #[.slice A0 c.instrs.length c0, s1, s2, s3, s4, s5, s6] 30)).heap.size := by simp
  clear hc0 hc hl'
  cases hf : fineB c
  · have he : setsE c ls = 1 := by simp [setsE, hf]
    have hfh := Lib.hid hf
    rw [he]
    clear hf he
    go_enter Tryz.func60, Tryz.ntmps60
    go_wp2_with (go_at_call 46; refine (hC.out _ (hw.below hB0)).mono ?_; rintro e w1 ⟨rfl, hB1⟩; rw [hfh.out]; replace hB0 := bstep hB0 hB1)
    go_ret
    exact ⟨rfl, hB0⟩
  · have he : setsE c ls = if ls.all (setB c.instrs.length) = true then 0 else 7 := by simp [setsE, hf]
    have hfh := Lib.hid hf
    generalize setsE c ls = E at *
    have heh := Lib.hid he
    clear hf he
    go_enter Tryz.func60, Tryz.ntmps60
    go_wp2_with (go_at_call 46; refine (hC.out _ (hw.below hB0)).mono ?_; rintro e w1 ⟨rfl, hB1⟩; rw [hfh.out]; replace hbx := blk_keep hB1 hbx; replace hB0 := bstep hB0 hB1; replace hz : w.heap.size < w1.heap.size := Nat.lt_of_lt_of_le hz hB1.size; clear hB1)
    go_loopw [12] (fun i wr => ∃ k : Nat, k ≤ ls.length ∧ i = .int .i64 k ∧ Aside ((ls.take k).all (setB c.instrs.length) = true) ∧ Below w1.heap.size w1 wr) (fun i _ => ls.length - (intOf i).toNat)
    case atStart => exact ⟨0, Nat.zero_le _, rfl, rfl, Below.refl _ _⟩
    case round =>
      obtain ⟨k, hk, rfl, hall, hB⟩ := hrel
      have hsee := (hw.below hB0).below hB
      have q := box7 (blk_keep hB hbx)
      have hz2 := hB.size
      have hbl : w.heap.size < wr.heap.size := by omega
      have hallh := Lib.hid hall
      clear hall
      by_cases hlt : k < ls.length
      · obtain ⟨bn, on, cn, hnv, -, hbn, hrow⟩ := hl.rows (by omega)
        cases hnv
        obtain ⟨u, hu, hcl⟩ := hrow k hlt
        replace hcl := hcl wr hsee
        have hnl := hsee.lt' hbn
        have hux := hu
        have hul := hu.le
        have hst := Lib.hid (all_take_succ (p := setB c.instrs.length) hlt)
        have hmem : ls.getD k [] ∈ ls := by rw [List.getD_eq_getElem?_getD, List.getElem?_eq_getElem hlt]; exact List.getElem_mem hlt
        have hmemh := Lib.hid hmem
        clear hrow hmem
        generalize ls.getD k [] = x at *
        obtain ⟨Au, cu, rfl, -, -⟩ := hux.open_
        clear hux
        have hcon := Lib.hid (fun (w2 : World) (hs2 : Sees w2 H) => slices_ContainsFunc_int H _ _ x (fun _ => True) badS w2 hs2 hu (graph_sets1V H) (fun _ _ => trivial))
        by_cases hle : x.length = c.instrs.length
        · rw [hle] at hcl hcon
          have hleh := Lib.hid hle
          clear hle hu
          cases hbad : x.any badS
          · have hbh := Lib.hid hbad
            clear hbad
            go_wp2_with (go_at_call 100; refine (hcon.out _ hsee).mono ?_; rintro e w2 ⟨rfl, hB2⟩; rw [hbh.out])
            go_roundw
            case rel => exact ⟨k + 1, by omega, by go_num, by (show _ = true); rw [hst.out, show (ls.take k).all (setB c.instrs.length) = true from hallh.out]; simp [setB, hleh.out, hbh.out], bstep hB hB2⟩
            case measure => simp [intOf]; omega
          · have hbh := Lib.hid hbad
            clear hbad
            go_wp2_with (go_at_call 100; refine (hcon.out _ hsee).mono ?_; rintro e w2 ⟨rfl, hB2⟩; rw [hbh.out])
            go_ret
            refine ⟨ret_num ?_, bstep hB0 (bstep hB hB2)⟩
            rw [heh.out, if_neg]
            intro h
            have := List.all_eq_true.1 h x hmemh.out
            simp [setB, hbh.out] at this
        · have hleh := Lib.hid hle
          have hne : ((x.length : Int) != (c.instrs.length : Int)) = true := by simp; omega
          go_wp2
          go_ret
          refine ⟨ret_num ?_, bstep hB0 hB⟩
          rw [heh.out, if_neg]
          intro h
          have := List.all_eq_true.1 h x hmemh.out
          simp [setB, hleh.out] at this
      · obtain rfl : k = ls.length := by omega
        have hlt' : ¬ (ls.length : Int) < ls.length := by omega
        clear hlt
        go_wp2
        go_ret
        have ha : (ls.take ls.length).all (setB c.instrs.length) = true := hallh.out
        rw [List.take_length] at ha
        exact ⟨ret_num (by rw [heh.out, if_pos ha]), bstep hB0 hB⟩
end Go.Proofs.YtififjlgjmgikaaGreat
namespace Go.Proofs.YtififjlgjmgikaaGreat
set_option linter.all false
open Go.RowKit

theorem setsE_ok {c : CodeD} {ls : List (List Int)} (h : setsE c ls = 0) : fineB c = true ∧ ∀ l ∈ ls, l.length = c.instrs.length ∧ ∀ p, p < c.instrs.length → FS (l.getD p 0) := by
  unfold setsE at h
  split at h
  · rename_i hf
    split at h
    · rename_i ha
      exact ⟨hf, fun l hl => setB_fs (List.all_eq_true.1 ha l hl)⟩
    · cases h
  · cases h
theorem two_rows {K : PH} {g : Nat} {u1 u2 : Value} {xs ys : List Int} {T : TypeId} (h : K g = some (.cells #[u1, u2] T (0, 0))) (h1 : SlV rInt K u1 xs) (h2 : SlV rInt K u2 ys) :
    SlV (rSl rInt) K (.slice (some ⟨g, 0, none⟩) 2 2) [xs, ys] := by
  refine ⟨_, 2, rfl, Nat.le_refl _, by simp [maxN], fun i x hi => ?_⟩
  have hi2 : i = 0 ∨ i = 1 := by have := (List.getElem?_eq_some_iff.1 hi).1; simp at this; omega
  rcases hi2 with rfl | rfl
  · simp at hi; subst hi
    exact ⟨g, 0, [u1], rfl, ⟨rfl, _, _, _, h, fun j u hj => by have hj1 := (List.getElem?_eq_some_iff.1 hj).1; obtain rfl : j = 0 := (by simpa using hj1); cases hj; rfl⟩, u1, rfl, h1⟩
  · simp at hi; subst hi
    exact ⟨g, 0, [u2], rfl, ⟨rfl, _, _, _, h, fun j u hj => by have hj1 := (List.getElem?_eq_some_iff.1 hj).1; obtain rfl : j = 0 := (by simpa using hj1); cases hj; rfl⟩, u2, rfl, h2⟩
theorem three_rows {K : PH} {g : Nat} {u1 u2 u3 : Value} {xs ys zs : List Int} {T : TypeId} (h : K g = some (.cells #[u1, u2, u3] T (0, 0))) (h1 : SlV rInt K u1 xs) (h2 : SlV rInt K u2 ys) (h3 : SlV rInt K u3 zs) :
    SlV (rSl rInt) K (.slice (some ⟨g, 0, none⟩) 3 3) [xs, ys, zs] := by
  refine ⟨_, 3, rfl, Nat.le_refl _, by simp [maxN], fun i x hi => ?_⟩
  have hi2 : i = 0 ∨ i = 1 ∨ i = 2 := by have := (List.getElem?_eq_some_iff.1 hi).1; simp at this; omega
  rcases hi2 with rfl | rfl | rfl
  · simp at hi; subst hi
    exact ⟨g, 0, [u1], rfl, ⟨rfl, _, _, _, h, fun j u hj => by have hj1 := (List.getElem?_eq_some_iff.1 hj).1; obtain rfl : j = 0 := (by simpa using hj1); cases hj; rfl⟩, u1, rfl, h1⟩
  · simp at hi; subst hi
    exact ⟨g, 0, [u2], rfl, ⟨rfl, _, _, _, h, fun j u hj => by have hj1 := (List.getElem?_eq_some_iff.1 hj).1; obtain rfl : j = 0 := (by simpa using hj1); cases hj; rfl⟩, u2, rfl, h2⟩
  · simp at hi; subst hi
    exact ⟨g, 0, [u3], rfl, ⟨rfl, _, _, _, h, fun j u hj => by have hj1 := (List.getElem?_eq_some_iff.1 hj).1; obtain rfl : j = 0 := (by simpa using hj1); cases hj; rfl⟩, u3, rfl, h3⟩
theorem blk1 (w : World) (o1 o2 : Obj) : ((w.alloc o1).alloc o2).heap[w.heap.size + 1]? = some o2 := by
  have h := ga_new (w.alloc o1) o2
  rwa [World.size_alloc] at h
set_option maxHeartbeats 2000000 in
set_option maxRecDepth 100000 in
theorem graph_Live_no (H : PH) (v vu vd : Value) (c : CodeD) (us ds : List Int) (w : World) (hw : Sees w H) (hc : CodeV H v c) (hu : SlV rInt H vu us) (hd : SlV rInt H vd ds) (hE : setsE c [us, ds] ≠ 0) :
    Calls Tryz.prog 25 #[v, vu, vd] w fun e w' => e = .returned (.tuple #[.slice none 0 0, .int .i64 (setsE c [us, ds])]) ∧ Below w.heap.size w w' := by
  have hc0 := hc
  obtain ⟨s0, s1, s2, s3, s4, s5, s6, rfl, hc⟩ := hc
  have hB0 : Below w.heap.size w ((w.alloc (.cells #[s0, s1, s2, s3, s4, s5, s6] 30)).alloc (.cells #[vu, vd] 28)) := ((Below.refl _ _).alloc (Nat.le_refl _) _).alloc (by simp) _
  have hS := fun (K : PH) (hK : PH.le H K) (hs : Sees ((w.alloc (.cells #[s0, s1, s2, s3, s4, s5, s6] 30)).alloc (.cells #[vu, vd] 28)) K) (hg : K (w.heap.size + 1) = some (.cells #[vu, vd] 28 (0, 0))) => graph_sets K _ _ c [us, ds] _ hs (hc0.mono hK) (two_rows hg (hu.mono hK) (hd.mono hK))
  have hS2 := hS (extH H w _) (extH.le hw _) (extH.sees hw hB0) (extH.new (by omega) (blk1 _ _ _))
  clear hS hc0 hc
  generalize setsE c [us, ds] = E at *
  obtain ⟨Au, cu, rfl, -, -⟩ := hu.open_
  obtain ⟨Ad, cd, rfl, -, -⟩ := hd.open_
  have hne : (E != 0) = true := by simpa using hE
  clear hE
  go_enter Tryz.func25, Tryz.ntmps25
  go_wp2_with (go_at_call 60; refine hS2.mono ?_; rintro e w1 ⟨rfl, hB1⟩)
  go_ret2
  exact ⟨rfl, bstep hB0 hB1⟩
theorem OwnI.setN {w : World} {base : Nat} {g cap k n : Nat} {xs : List Int} (h : OwnI w base (.slice (some ⟨g, 0, none⟩) n cap) xs) (hn : xs.length = n) (hk : k < n) (y : Int) :
    OwnI (w.setCell ⟨g, k, none⟩ (.int .i64 y)) base (.slice (some ⟨g, 0, none⟩) n cap) (xs.set k y) := by subst hn; exact h.set hk y
theorem set_same {xs : List Int} {p : Nat} {y : Int} (h : y = xs.getD p 0) (hp : p < xs.length) : xs.set p y = xs := by
  rw [h, List.getD_eq_getElem?_getD, List.getElem?_eq_getElem hp]
  exact List.set_getElem_self hp
def LiveRes (base n : Nat) (nx : Nat → List Int) (us ds : List Int) (w' : World) (e : Ending) : Prop := ∃ v xs, e = .returned (.tuple #[v, .int .i64 0]) ∧ OwnI w' base v xs ∧ LiveL n nx us ds xs
set_option maxHeartbeats 4000000 in
set_option maxRecDepth 100000 in
theorem graph_Live_ok (H : PH) (v vu vd : Value) (c : CodeD) (us ds : List Int) (w : World) (hw : Sees w H) (hc : CodeV H v c) (hu : SlV rInt H vu us) (hd : SlV rInt H vd ds) (hE : setsE c [us, ds] = 0) :
    Calls Tryz.prog 25 #[v, vu, vd] w fun e w' => LiveRes w.heap.size c.instrs.length (nextL c) us ds w' e ∧ Below w.heap.size w w' := by
  obtain ⟨hf, hls⟩ := setsE_ok hE
  obtain ⟨hul, huf⟩ := hls us (by simp)
  obtain ⟨hdl, hdf⟩ := hls ds (by simp)
  have hfb := fine_bounds hf
  have n0 := hfb.i1
  have n1 := hfb.i0
  have hc0 := hc
  obtain ⟨s0, s1, s2, s3, s4, s5, s6, rfl, hc⟩ := hc
  have hB0 : Below w.heap.size w ((w.alloc (.cells #[s0, s1, s2, s3, s4, s5, s6] 30)).alloc (.cells #[vu, vd] 28)) := ((Below.refl _ _).alloc (Nat.le_refl _) _).alloc (by simp) _
  have hS := fun (K : PH) (hK : PH.le H K) (hs : Sees ((w.alloc (.cells #[s0, s1, s2, s3, s4, s5, s6] 30)).alloc (.cells #[vu, vd] 28)) K) (hg : K (w.heap.size + 1) = some (.cells #[vu, vd] 28 (0, 0))) => graph_sets K _ _ c [us, ds] _ hs (hc0.mono hK) (two_rows hg (hu.mono hK) (hd.mono hK))
  have hS2 := hS (extH H w _) (extH.le hw _) (extH.sees hw hB0) (extH.new (by omega) (blk1 _ _ _))
  rw [hE] at hS2
  have hx0 : ((w.alloc (.cells #[s0, s1, s2, s3, s4, s5, s6] 30)).alloc (.cells #[vu, vd] 28)).heap[w.heap.size]? = some (.cells #[s0, s1, s2, s3, s4, s5, s6] 30 (0, 0)) := ga_old (ga_new _ _)
  have hN := Lib.hid (fun (w1 : World) (hs : Sees w1 H) => graph_nexts H _ c w1 hs hc0 hf)
  have hCl := Lib.hid (fun (w1 : World) (hs : Sees w1 H) => clone_sl hs hu (by omega))
  clear hS hc0 hc hE hls
  have hul2 := hul
  obtain ⟨Au, cu, rfl, -, -⟩ := hu.open_
  rw [hul] at hu hS2 hCl hB0 hx0 ⊢
  obtain ⟨bd, od, cd, rfl, -, hbd, hdcell, -⟩ := hd.ints (by omega)
  rw [hdl] at hS2 hB0 hx0 ⊢
  have hnl : (nextsL c).length = c.instrs.length := by simp [nextsL]
  have hulh := Lib.hid hul
  have hdch := Lib.hid hdcell
  have hdlh := Lib.hid hdl
  have hufh := Lib.hid huf
  have hdfh := Lib.hid hdf
  have hnlh := Lib.hid hnl
  have hNin := Lib.hid (fun (j : Nat) (hj : j < c.instrs.length) => next_in hf hj)
  clear hdcell hdf huf hul hul2 hdl hd hnl hf
  go_enter Tryz.func25, Tryz.ntmps25
  go_wp2_with (first
    | (go_at_call 60; refine hS2.mono ?_; rintro e w1 ⟨rfl, hB1⟩; have hBa := bstep hB0 hB1; have hx1 := blk_keep hB1 hx0; have q := box7 hx1; have hl1 : w.heap.size < w1.heap.size := (Array.getElem?_eq_some_iff.1 hx1).1)
    | (go_at_call 61; refine (hN.out _ (hw.below hBa)).mono ?_; rintro e w2 ⟨⟨vn, rfl, hvn⟩, hB2⟩; clear q; have hBb := bstep hBa hB2; obtain ⟨bn, on, cn, rfl, -, hbn, hrow⟩ := hvn.rows (by rw [hnlh.out]; omega))
    | (go_at_call 62; refine (hCl.out _ (hw.below hBb)).mono ?_; rintro e w3 ⟨⟨vq, rfl, hown⟩, hB3⟩; obtain ⟨g, cap, rfl, -, hgb, hgl, -⟩ := hown.form (by rw [hulh.out]; omega)))
  have hsK : Sees w2 (extH H w1 w2) := extH.sees (hw.below hBa) hB2
  have hKg : extH H w1 w2 g = none := hsK.fresh hgb
  have hKl : PH.le H (extH H w1 w2) := extH.le (hw.below hBa) w2
  have hdK := Lib.hid (fun (wx : World) (hs : Sees wx (extH H w1 w2)) => hdch.out wx (fun i o e => hs i o (hKl i o e)))
  have hbdK : extH H w1 w2 bd ≠ none := by
    obtain ⟨o, ho⟩ := Option.ne_none_iff_exists'.1 hbd
    rw [hKl _ _ ho]; simp
  rw [hnlh.out] at hrow hvn ⊢
  have hrowh := Lib.hid hrow
  have hBc := bstep hBb hB3
  replace hsK := hsK.below hB3
  have hz3 := hBb.size
  rw [hulh.out] at hown ⊢
  have hst := Lib.hid (LiveI.start (nx := nextL c) (ds := ds) hulh.out hufh.out)
  clear hrow hvn hKl hS2 hCl hN hB0 hx0 hB1 hB2 hx1 hBa hBb hdch
  generalize extH H w1 w2 = K at *
  go_loopg [11] (room us + 1) (fun gk a wr => ∃ (xs : List Int) (again : Bool), a = .bool again ∧ OwnI wr w2.heap.size (.slice (some ⟨g, 0, none⟩) c.instrs.length cap) xs ∧ Aside (HeadI c.instrs.length (nextL c) us ds xs again gk) ∧ w3.grownBy wr (some g))
  case atStart => exact ⟨us, true, rfl, hown, .inl ⟨rfl, hst.out, by omega⟩, grown_refl _ _⟩
  clear hown hst
  case round =>
    obtain ⟨xs0, again, rfl, hown, hI, hg⟩ := hrel
    have hIh := Lib.hid hI
    clear hI
    cases again with
    | false =>
      go_wp2
      go_ret2
      refine ⟨⟨_, xs0, rfl, hown.lower hz3, ?_⟩, hBc.grown hg hBc.size (fun j hj => by injection hj with hj; omega)⟩
      rcases hIh.out with ⟨h, _⟩ | ⟨_, h⟩
      · cases h
      · exact h
    | true =>
      have hI0 : LiveI c.instrs.length (nextL c) us ds xs0 ∧ room xs0 < gk := by
        rcases hIh.out with ⟨_, h⟩ | ⟨h, _⟩
        · exact h
        · cases h
      have hI0h := Lib.hid hI0
      have hP0 := Lib.hid (PassI.start hI0.1)
      clear hI0 hIh
      go_wp2
      obtain ⟨wo, rfl⟩ : ∃ wo : World, wo = wr := ⟨_, rfl⟩
      go_loopw [11, 12] (fun a p wi => ∃ (k : Nat) (xs : List Int) (again : Bool) (x : Int), k ≤ c.instrs.length ∧ x = (k : Int) - 1 ∧ p = .int .i64 x ∧ a = .bool again ∧ OwnI wi w2.heap.size (.slice (some ⟨g, 0, none⟩) c.instrs.length cap) xs ∧ Aside (PassI c.instrs.length (nextL c) us ds xs0 xs again k) ∧ w3.grownBy wi (some g)) (fun _ p _ => (intOf p + 1).toNat)
      case atStart => exact ⟨_, xs0, false, _, Nat.le_refl _, rfl, rfl, rfl, hown, hP0.out, hg⟩
      clear hown hg hP0
      case round =>
        obtain ⟨k, xs, again, x, hk, hx, rfl, rfl, hown, hP, hg⟩ := hrel
        have hPh := Lib.hid hP
        clear hP
        cases k with
        | zero =>
          obtain rfl : x = -1 := by omega
          clear hx
          go_wp2
          go_roundg (gk - 1)
          case measure => have := hI0h.out.2; omega
          case rel => exact ⟨xs, again, rfl, hown, hPh.out.head (fun p hp q hq => hNin.out p hp q hq) hI0h.out.2, hg⟩
        | succ p =>
          obtain rfl : x = (p : Int) := by omega
          clear hx
          have hs := hsK.grown hg hKg
          have hxl : xs.length = c.instrs.length := hPh.out.1.len
          have hcy := hown.cellk (j := p) (by omega)
          have hxlh := Lib.hid hxl
          clear hxl
          obtain ⟨y, hy⟩ : ∃ y, y = xs.getD p 0 := ⟨_, rfl⟩
          rw [← hy] at hcy
          have hyh := Lib.hid hy
          clear hy
          obtain ⟨u, hu2, hcl⟩ := hrowh.out p (by omega)
          rw [show (nextsL c).getD p [] = nextL c p by simp [nextsL, (by omega : p < c.instrs.length)]] at hu2
          replace hcl := hcl wr hs
          have hbnl := hs.lt' hbn
          have hgw := hg.size
          obtain ⟨A2, cu2, rfl, -, -⟩ := hu2.open_
          have hul2 := hu2.le
          have hA0 := AccI.start hPh.out.1 (p := p) (by omega)
          rw [← hyh.out] at hA0
          have hA0h := Lib.hid hA0
          clear hA0
          have hpn : p < c.instrs.length := by omega
          go_wp2
          obtain ⟨wj, rfl⟩ : ∃ wj : World, wj = wr := ⟨_, rfl⟩
          go_loopw [13, 45] (fun sv iv wi => ∃ (j : Nat) (s : Int), j ≤ (nextL c p).length ∧ iv = .int .i64 j ∧ sv = .int .i64 s ∧ Aside (AccI (nextL c) us ds xs p j s) ∧ OwnI wi w2.heap.size (.slice (some ⟨g, 0, none⟩) c.instrs.length cap) xs ∧ w3.grownBy wi (some g)) (fun _ iv _ => (nextL c p).length - (intOf iv).toNat)
          case atStart => exact ⟨0, y, Nat.zero_le _, rfl, rfl, hA0h.out, hown, hg⟩
          clear hown hg hA0h hcl hcy hs hbnl hgw
          case round =>
            obtain ⟨j, s, hj, rfl, rfl, hA, hown, hg⟩ := hrel
            have hAh := Lib.hid hA
            clear hA
            have hs := hsK.grown hg hKg
            have hgw := hg.size
            by_cases hlt : j < (nextL c p).length
            · obtain ⟨be, oe, ce', hve, -, hbe, hce, -⟩ := hu2.ints (by omega)
              cases hve
              have hcl := hce wr hs j hlt
              have hbel := hs.lt' hbe
              have hx : (nextL c p)[j]? = some ((nextL c p).getD j 0) := by simp [hlt]
              have hin := hNin.out p hpn _ (List.mem_of_getElem? hx)
              obtain ⟨q, hq⟩ : ∃ q : Nat, (nextL c p).getD j 0 = (q : Int) := ⟨((nextL c p).getD j 0).toNat, by omega⟩
              rw [hq] at hcl hin hx
              have hqn : q < c.instrs.length := by omega
              have hcq := hown.cellk (j := q) (by rw [hxlh.out]; exact hqn)
              have hcd := hdK.out wr hs p (by rw [hdlh.out]; exact hpn)
              have hbdl := hs.lt' hbdK
              have hnx := hAh.out.next hPh.out.1 (hdfh.out p hpn) hx hin
              rw [Int.toNat_natCast] at hnx
              have hnxh := Lib.hid hnx
              clear hnx hce hx hq
              generalize xs.getD q 0 = xq at *
              generalize ds.getD p 0 = dp at *
              go_wp2_with fail
              go_quiet (fail)
              go_wp2
              go_roundw
              case rel => exact ⟨j + 1, _, by omega, by go_num, rfl, hnxh.out, hown, ⟨hg.os, hg.tape, hg.output, hg.size, hg.block⟩⟩
              case measure => simp [intOf]; omega
            · obtain rfl : j = (nextL c p).length := by omega
              have hltn : ¬ ((nextL c p).length : Int) < (nextL c p).length := by omega
              have hcy := hown.cellk (j := p) (by rw [hxlh.out]; exact hpn)
              have hfr := hown.free p
              rw [← hyh.out] at hcy
              have hset := hown.setN (k := p) hxlh.out hpn s
              by_cases hsy : s = y
              · subst hsy
                have hss := set_same hyh.out (by rw [hxlh.out]; exact hpn)
                rw [hss] at hset
                have hPS := Lib.hid (hPh.out.same hAh.out hyh.out)
                have hb1 : (s != s) = false := by simp
                clear hss hown hAh
                cases again
                all_goals
                  go_wp2
                  go_roundw
                  case rel => exact ⟨p, xs, _, _, by omega, rfl, by go_num, rfl, hset, hPS.out, grown_set hg⟩
                  case measure => simp [intOf] <;> omega
              · have hb1 : (s != y) = true := by simpa using hsy
                have hPM := Lib.hid (hPh.out.more hpn hAh.out (by rw [← hyh.out]; exact hsy))
                clear hown hAh hsy
                cases again
                all_goals
                  go_wp2
                  go_roundw
                  case rel => exact ⟨p, xs.set p s, true, _, by omega, rfl, by go_num, rfl, hset, hPM.out, grown_set hg⟩
                  case measure => simp [intOf] <;> omega
end Go.Proofs.YtififjlgjmgikaaGreat
