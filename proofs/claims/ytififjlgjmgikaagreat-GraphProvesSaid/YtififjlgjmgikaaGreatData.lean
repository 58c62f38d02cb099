/- Data of the program: codes, as Lean values, and how memory holds them. -/
import Derived.Test.YtififjlgjmgikaaGreatBase
import Derived.Test.YtififjlgjmgikaaGreatRows
namespace Go.Proofs.YtififjlgjmgikaaGreat
set_option linter.all false
open Go.RowKit

structure InstrD where
  op : Int
  a : Int
  b : Int
  c : Int
  deriving DecidableEq, Inhabited
structure ProcD where
  entry : Int
  params : Int
  type : Int
  slots : Int
  std : Bool
  deriving DecidableEq, Inhabited
structure ThunkD where
  value : Int
  address : Int
  desig : Int
  deriving DecidableEq, Inhabited
structure RealD where
  man : Int
  exp : Int
  deriving DecidableEq, Inhabited
structure CodeD where
  instrs : List InstrD
  procs : List ProcD
  thunks : List ThunkD
  switches : List (List Int)
  strings : List ByteArray
  reals : List RealD
  owns : List Int
  deriving Inhabited

def rInstr : Rp InstrD where
  sz := 4
  R := fun _ cs x => cs = [.int .i64 x.op, .int .i64 x.a, .int .i64 x.b, .int .i64 x.c] ∧ I64 x.op ∧ I64 x.a ∧ I64 x.b ∧ I64 x.c
  len := fun h => by rw [h.1]; rfl
  mono := fun _ h => h
def rProc : Rp ProcD where
  sz := 5
  R := fun _ cs x => cs = [.int .i64 x.entry, .int .i64 x.params, .int .i64 x.type, .int .i64 x.slots, .bool x.std] ∧ I64 x.entry ∧ I64 x.params ∧ I64 x.type ∧ I64 x.slots
  len := fun h => by rw [h.1]; rfl
  mono := fun _ h => h
def rThunk : Rp ThunkD where
  sz := 3
  R := fun _ cs x => cs = [.int .i64 x.value, .int .i64 x.address, .int .i64 x.desig] ∧ I64 x.value ∧ I64 x.address ∧ I64 x.desig
  len := fun h => by rw [h.1]; rfl
  mono := fun _ h => h
def rU8 : Rp Int where
  sz := 1
  R := fun _ cs a => cs = [.int .u8 a] ∧ 0 ≤ a ∧ a ≤ 255
  len := fun h => by rw [h.1]; rfl
  mono := fun _ h => h
def rReal : Rp RealD where
  sz := 2
  R := fun _ cs x => cs = [.int .i64 x.man, .int .i64 x.exp] ∧ I64 x.man ∧ I64 x.exp
  len := fun h => by rw [h.1]; rfl
  mono := fun _ h => h

structure CodeC (H : PH) (s0 s1 s2 s3 s4 s5 s6 : Value) (c : CodeD) : Prop where
  instrs : SlV rInstr H s0 c.instrs
  procs : SlV rProc H s1 c.procs
  thunks : SlV rThunk H s2 c.thunks
  switches : SlV (rSl rInt) H s3 c.switches
  strings : SlV rStr H s4 c.strings
  reals : SlV rReal H s5 c.reals
  owns : SlV rInt H s6 c.owns
def CodeV (H : PH) (v : Value) (c : CodeD) : Prop := ∃ s0 s1 s2 s3 s4 s5 s6, v = .agg #[s0, s1, s2, s3, s4, s5, s6] ∧ CodeC H s0 s1 s2 s3 s4 s5 s6 c
theorem CodeC.mono {H H' : PH} (h : PH.le H H') {s0 s1 s2 s3 s4 s5 s6 : Value} {c : CodeD} (k : CodeC H s0 s1 s2 s3 s4 s5 s6 c) : CodeC H' s0 s1 s2 s3 s4 s5 s6 c :=
  ⟨k.instrs.mono h, k.procs.mono h, k.thunks.mono h, k.switches.mono h, k.strings.mono h, k.reals.mono h, k.owns.mono h⟩
theorem CodeV.mono {H H' : PH} (h : PH.le H H') {v : Value} {c : CodeD} (k : CodeV H v c) : CodeV H' v c := by
  obtain ⟨s0, s1, s2, s3, s4, s5, s6, e, k⟩ := k
  exact ⟨s0, s1, s2, s3, s4, s5, s6, e, k.mono h⟩

/-- Function K has a body: a call of it enters it. -/
def Enters (K : FuncId) : Prop := ∀ (args : Array Value) (w : World), (callFunc K args).run Tryz.prog w = .ok (.enter K args) w
theorem enters_mk {K : FuncId} {fn : Func} {c : Code} (hf : Tryz.prog.funcs[K]? = some fn) (hname : (fn.name == "runtime.NumGoroutine") = false) (hb : fn.body = some c) : Enters K := by
  intro args w
  have h1 : fn.name ≠ "runtime.NumGoroutine" := by simpa using hname
  simp [callFunc, hf, h1, hb]
theorem ret_bool {a b : Bool} (h : a = b) : Ending.returned (.bool a) = .returned (.bool b) := by rw [h]
theorem ret_num {k : IntKind} {a b : Int} (h : a = b) : Ending.returned (.int k a) = .returned (.int k b) := by rw [h]

theorem SlV.base {α : Type} {r : Rp α} {H : PH} {v : Value} {xs : List α} (h : SlV r H v xs) (hne : 0 < xs.length) :
    ∃ b off cap, v = .slice (some ⟨b, off, none⟩) xs.length cap ∧ xs.length ≤ cap ∧ H b ≠ none ∧
      ∀ i x, xs[i]? = some x → ∃ cs, r.R H cs x ∧ ∀ w, Sees w H → ∀ j u, cs[j]? = some u → w.cell? ⟨b, off + i * r.sz + j, none⟩ = some u := by
  obtain ⟨A, cap, rfl, hc, hm, he⟩ := h
  obtain ⟨b, off, cs, rfl, hat, hr⟩ := he 0 xs[0] (by simp [hne])
  refine ⟨b, off, cap, rfl, hc, ?_, fun i x hi => ?_⟩
  · obtain ⟨_, arr, e, fz, hb, _⟩ := hat
    simp at hb
    rw [hb]; simp
  · obtain ⟨b', off', cs', hA, hat', hr'⟩ := he i x hi
    cases hA
    exact ⟨cs', hr', fun w hw j u hj => by simpa using hat'.cell hw hj⟩
theorem Sees.lt' {w : World} {H : PH} (h : Sees w H) {b : Nat} (e : H b ≠ none) : b < w.heap.size := by
  cases k : H b with
  | none => exact absurd k e
  | some o => exact h.lt k

section
variable {H : PH} {v : Value}
theorem SlV.ints {xs : List Int} (h : SlV rInt H v xs) (hne : 0 < xs.length) :
    ∃ b off cap, v = .slice (some ⟨b, off, none⟩) xs.length cap ∧ xs.length ≤ cap ∧ H b ≠ none ∧
      (∀ w, Sees w H → ∀ i, i < xs.length → w.cell? ⟨b, off + i, none⟩ = some (.int .i64 (xs.getD i 0))) ∧ (∀ i, I64 (xs.getD i 0)) := by
  obtain ⟨b, off, cap, rfl, hc, hb, he⟩ := h.base hne
  refine ⟨b, off, cap, rfl, hc, hb, fun w hw i hi => ?_, fun i => ?_⟩
  · obtain ⟨cs, ⟨rfl, _⟩, hcell⟩ := he i xs[i] (by simp [hi])
    have := hcell w hw 0 _ rfl
    simpa [rInt, hi] using this
  · by_cases hi : i < xs.length
    · obtain ⟨cs, ⟨rfl, h2⟩, _⟩ := he i xs[i] (by simp [hi])
      simpa [hi] using h2
    · simp [hi, I64]
theorem SlV.u8s {xs : List Int} (h : SlV rU8 H v xs) (hne : 0 < xs.length) :
    ∃ b off cap, v = .slice (some ⟨b, off, none⟩) xs.length cap ∧ xs.length ≤ cap ∧ H b ≠ none ∧
      (∀ w, Sees w H → ∀ i, i < xs.length → w.cell? ⟨b, off + i, none⟩ = some (.int .u8 (xs.getD i 0))) ∧ (∀ i, 0 ≤ xs.getD i 0 ∧ xs.getD i 0 ≤ 255) := by
  obtain ⟨b, off, cap, rfl, hc, hb, he⟩ := h.base hne
  refine ⟨b, off, cap, rfl, hc, hb, fun w hw i hi => ?_, fun i => ?_⟩
  · obtain ⟨cs, ⟨rfl, _⟩, hcell⟩ := he i xs[i] (by simp [hi])
    have := hcell w hw 0 _ rfl
    simpa [rU8, hi] using this
  · by_cases hi : i < xs.length
    · obtain ⟨cs, ⟨rfl, h2⟩, _⟩ := he i xs[i] (by simp [hi])
      simpa [hi] using h2
    · simp [hi]
theorem SlV.bools {xs : List Bool} (h : SlV rBool H v xs) (hne : 0 < xs.length) :
    ∃ b off cap, v = .slice (some ⟨b, off, none⟩) xs.length cap ∧ xs.length ≤ cap ∧ H b ≠ none ∧
      (∀ w, Sees w H → ∀ i, i < xs.length → w.cell? ⟨b, off + i, none⟩ = some (.bool (xs.getD i false))) := by
  obtain ⟨b, off, cap, rfl, hc, hb, he⟩ := h.base hne
  refine ⟨b, off, cap, rfl, hc, hb, fun w hw i hi => ?_⟩
  obtain ⟨cs, rfl, hcell⟩ := he i xs[i] (by simp [hi])
  have := hcell w hw 0 _ rfl
  simpa [rBool, Rp.plain, hi] using this
theorem SlV.strs {xs : List ByteArray} (h : SlV rStr H v xs) (hne : 0 < xs.length) :
    ∃ b off cap, v = .slice (some ⟨b, off, none⟩) xs.length cap ∧ xs.length ≤ cap ∧ H b ≠ none ∧
      (∀ w, Sees w H → ∀ i, i < xs.length → w.cell? ⟨b, off + i, none⟩ = some (.string (xs.getD i ByteArray.empty))) ∧ (∀ i, (xs.getD i ByteArray.empty).size ≤ 140737488351232) := by
  obtain ⟨b, off, cap, rfl, hc, hb, he⟩ := h.base hne
  refine ⟨b, off, cap, rfl, hc, hb, fun w hw i hi => ?_, fun i => ?_⟩
  · obtain ⟨cs, ⟨rfl, _⟩, hcell⟩ := he i xs[i] (by simp [hi])
    have := hcell w hw 0 _ rfl
    simpa [rStr, hi] using this
  · by_cases hi : i < xs.length
    · obtain ⟨cs, ⟨rfl, h2⟩, _⟩ := he i xs[i] (by simp [hi])
      have h3 : xs[i].size ≤ 140737488351232 := h2
      simpa [hi] using h3
    · simp [hi]
theorem SlV.rows {α : Type} {r : Rp α} {xs : List (List α)} (h : SlV (rSl r) H v xs) (hne : 0 < xs.length) :
    ∃ b off cap, v = .slice (some ⟨b, off, none⟩) xs.length cap ∧ xs.length ≤ cap ∧ H b ≠ none ∧
      (∀ i, i < xs.length → ∃ u, SlV r H u (xs.getD i []) ∧ ∀ w, Sees w H → w.cell? ⟨b, off + i, none⟩ = some u) := by
  obtain ⟨b, off, cap, rfl, hc, hb, he⟩ := h.base hne
  refine ⟨b, off, cap, rfl, hc, hb, fun i hi => ?_⟩
  obtain ⟨cs, ⟨u, rfl, hu⟩, hcell⟩ := he i xs[i] (by simp [hi])
  refine ⟨u, by simpa [hi] using hu, fun w hw => ?_⟩
  have := hcell w hw 0 _ rfl
  simpa [rSl] using this
theorem SlV.instrs {xs : List InstrD} (h : SlV rInstr H v xs) (hne : 0 < xs.length) :
    ∃ b off cap, v = .slice (some ⟨b, off, none⟩) xs.length cap ∧ xs.length ≤ cap ∧ H b ≠ none ∧
      (∀ w, Sees w H → ∀ i, i < xs.length → w.cell? ⟨b, off + i * 4, none⟩ = some (.int .i64 (xs.getD i default).op) ∧ w.cell? ⟨b, off + i * 4 + 1, none⟩ = some (.int .i64 (xs.getD i default).a) ∧
        w.cell? ⟨b, off + i * 4 + 2, none⟩ = some (.int .i64 (xs.getD i default).b) ∧ w.cell? ⟨b, off + i * 4 + 3, none⟩ = some (.int .i64 (xs.getD i default).c)) ∧
      (∀ i, i < xs.length → I64 (xs.getD i default).op ∧ I64 (xs.getD i default).a ∧ I64 (xs.getD i default).b ∧ I64 (xs.getD i default).c) := by
  obtain ⟨b, off, cap, rfl, hc, hb, he⟩ := h.base hne
  refine ⟨b, off, cap, rfl, hc, hb, fun w hw i hi => ?_, fun i hi => ?_⟩
  · obtain ⟨cs, ⟨rfl, _⟩, hcell⟩ := he i xs[i] (by simp [hi])
    have h0 := hcell w hw 0 _ rfl
    have h1 := hcell w hw 1 _ rfl
    have h2 := hcell w hw 2 _ rfl
    have h3 := hcell w hw 3 _ rfl
    simpa [rInstr, hi] using ⟨h0, h1, h2, h3⟩
  · obtain ⟨cs, ⟨rfl, h2⟩, _⟩ := he i xs[i] (by simp [hi])
    simpa [hi] using h2
theorem SlV.procs {xs : List ProcD} (h : SlV rProc H v xs) (hne : 0 < xs.length) :
    ∃ b off cap, v = .slice (some ⟨b, off, none⟩) xs.length cap ∧ xs.length ≤ cap ∧ H b ≠ none ∧
      (∀ w, Sees w H → ∀ i, i < xs.length → w.cell? ⟨b, off + i * 5, none⟩ = some (.int .i64 (xs.getD i default).entry) ∧ w.cell? ⟨b, off + i * 5 + 1, none⟩ = some (.int .i64 (xs.getD i default).params) ∧
        w.cell? ⟨b, off + i * 5 + 2, none⟩ = some (.int .i64 (xs.getD i default).type) ∧ w.cell? ⟨b, off + i * 5 + 3, none⟩ = some (.int .i64 (xs.getD i default).slots) ∧
        w.cell? ⟨b, off + i * 5 + 4, none⟩ = some (.bool (xs.getD i default).std)) ∧
      (∀ i, i < xs.length → I64 (xs.getD i default).entry ∧ I64 (xs.getD i default).params ∧ I64 (xs.getD i default).type ∧ I64 (xs.getD i default).slots) := by
  obtain ⟨b, off, cap, rfl, hc, hb, he⟩ := h.base hne
  refine ⟨b, off, cap, rfl, hc, hb, fun w hw i hi => ?_, fun i hi => ?_⟩
  · obtain ⟨cs, ⟨rfl, _⟩, hcell⟩ := he i xs[i] (by simp [hi])
    have h0 := hcell w hw 0 _ rfl
    have h1 := hcell w hw 1 _ rfl
    have h2 := hcell w hw 2 _ rfl
    have h3 := hcell w hw 3 _ rfl
    have h4 := hcell w hw 4 _ rfl
    simpa [rProc, hi] using ⟨h0, h1, h2, h3, h4⟩
  · obtain ⟨cs, ⟨rfl, h2⟩, _⟩ := he i xs[i] (by simp [hi])
    simpa [hi] using h2
theorem SlV.thunks {xs : List ThunkD} (h : SlV rThunk H v xs) (hne : 0 < xs.length) :
    ∃ b off cap, v = .slice (some ⟨b, off, none⟩) xs.length cap ∧ xs.length ≤ cap ∧ H b ≠ none ∧
      (∀ w, Sees w H → ∀ i, i < xs.length → w.cell? ⟨b, off + i * 3, none⟩ = some (.int .i64 (xs.getD i default).value) ∧ w.cell? ⟨b, off + i * 3 + 1, none⟩ = some (.int .i64 (xs.getD i default).address) ∧
        w.cell? ⟨b, off + i * 3 + 2, none⟩ = some (.int .i64 (xs.getD i default).desig)) ∧
      (∀ i, i < xs.length → I64 (xs.getD i default).value ∧ I64 (xs.getD i default).address ∧ I64 (xs.getD i default).desig) := by
  obtain ⟨b, off, cap, rfl, hc, hb, he⟩ := h.base hne
  refine ⟨b, off, cap, rfl, hc, hb, fun w hw i hi => ?_, fun i hi => ?_⟩
  · obtain ⟨cs, ⟨rfl, _⟩, hcell⟩ := he i xs[i] (by simp [hi])
    have h0 := hcell w hw 0 _ rfl
    have h1 := hcell w hw 1 _ rfl
    have h2 := hcell w hw 2 _ rfl
    simpa [rThunk, hi] using ⟨h0, h1, h2⟩
  · obtain ⟨cs, ⟨rfl, h2⟩, _⟩ := he i xs[i] (by simp [hi])
    simpa [hi] using h2
theorem SlV.reals {xs : List RealD} (h : SlV rReal H v xs) (hne : 0 < xs.length) :
    ∃ b off cap, v = .slice (some ⟨b, off, none⟩) xs.length cap ∧ xs.length ≤ cap ∧ H b ≠ none ∧
      (∀ w, Sees w H → ∀ i, i < xs.length → w.cell? ⟨b, off + i * 2, none⟩ = some (.int .i64 (xs.getD i default).man) ∧ w.cell? ⟨b, off + i * 2 + 1, none⟩ = some (.int .i64 (xs.getD i default).exp)) ∧
      (∀ i, i < xs.length → I64 (xs.getD i default).man ∧ I64 (xs.getD i default).exp) := by
  obtain ⟨b, off, cap, rfl, hc, hb, he⟩ := h.base hne
  refine ⟨b, off, cap, rfl, hc, hb, fun w hw i hi => ?_, fun i hi => ?_⟩
  · obtain ⟨cs, ⟨rfl, _⟩, hcell⟩ := he i xs[i] (by simp [hi])
    have h0 := hcell w hw 0 _ rfl
    have h1 := hcell w hw 1 _ rfl
    simpa [rReal, hi] using ⟨h0, h1⟩
  · obtain ⟨cs, ⟨rfl, h2⟩, _⟩ := he i xs[i] (by simp [hi])
    simpa [hi] using h2
end
end Go.Proofs.YtififjlgjmgikaaGreat
