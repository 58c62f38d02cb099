/- What came in, read in my words. -/
import Derived.Test.YtififjlgjmgikaaGreatData
import Derived.ProofKit
import Derived.Deep.Slices
import Derived.SizedLaws
namespace Go.Proofs.YtififjlgjmgikaaGreat
set_option linter.all false
open Go.RowKit Go.WideShapes Go.ChangeShapes

section
variable {Hd : Type} {enc : TypeId × Value → Hd} {w : World}
abbrev Tr (enc : TypeId × Value → Hd) (w : World) (fuel : Nat) (t : TypeId) (cs : List Value) (x : DataW Hd × List MemPlace) : Prop := DataW.trod enc Tryz.prog w 0 (fun _ => true) true fuel t cs = some x
/-- Whatever reads as type t is of the kind r. -/
def Fits {α : Type} (r : Rp α) (w : World) (t : TypeId) : Prop := ∀ (Hd : Type) (enc : TypeId × Value → Hd) fuel cs x, Tr enc w fuel t cs x → (∀ n ∈ x.1.weights Tryz.prog t, n ≤ reachBytes) → ∃ a, r.R (full w) cs a
theorem cells_at {b off n : Nat} {cs : List Value} (h : w.cells? 0 ⟨b, off, none⟩ n = some cs) (hn : 0 < n) : CellsAt (full w) ⟨b, off, none⟩ cs := by
  obtain ⟨_, hl, hc⟩ := World.cells?_some h
  have h0 := hc 0 hn
  rw [Addr.add_lit, Nat.add_zero] at h0
  have hb : ∃ arr e fz, w.heap[b]? = some (.cells arr e fz) := by
    unfold World.cell? at h0
    rw [List.getElem?_eq_getElem (by omega)] at h0
    split at h0
    · rename_i c e f hb; exact ⟨c, e, f, hb⟩
    · cases h0
  obtain ⟨arr, e, fz, hb⟩ := hb
  refine ⟨rfl, arr, e, fz, hb, fun j u hj => ?_⟩
  have hjl := (List.getElem?_eq_some_iff.1 hj).1
  have h1 := hc j (by omega)
  rw [Addr.add_lit, hj, cell_blk hb] at h1
  exact h1
theorem weightsAll_mem {e : TypeId} {l : List (DataW Hd)} {d : DataW Hd} (hd : d ∈ l) {n : Nat} (hn : n ∈ d.weights Tryz.prog e) : n ∈ DataW.weightsAll Tryz.prog e l := by
  induction l with
  | nil => cases hd
  | cons a l ih =>
    simp only [DataW.weightsAll, List.mem_append]
    rcases List.mem_cons.1 hd with rfl | hd
    · exact .inl hn
    · exact .inr (ih hd)
theorem fits_slice {α : Type} [Inhabited α] (r : Rp α) {t e : TypeId} (ht : Tryz.prog.underlying t = some (.slice e)) (hc : Tryz.prog.cellsOf e = r.sz) (hs : 0 < r.sz) (hby0 : decide (0 < Tryz.prog.bytesOf e) = true) (hf : Fits r w e) : Fits (rSl r) w t := by
  have hby : 0 < Tryz.prog.bytesOf e := of_decide_eq_true hby0
  intro Hd enc fuel cs x h hw
  rcases Go.Deep.open_slice ht h with ⟨rfl, _⟩ | ⟨a, len, cap, m, n, D, Pl, rfl, _, hl, hm, hmm, rfl, hx⟩
  · exact ⟨[], _, rfl, SlV.nil r _⟩
  · simp only [if_true] at hmm
    rw [hc] at hx
    simp only [DataW.weights, ht] at hw
    have hlen : len ≤ 140737488351232 := by
      have h1 := hw _ (List.mem_cons_self ..)
      simp only [List.length_map, List.length_range] at h1
      have h2 : len * 1 ≤ (len + (m - len)) * Tryz.prog.bytesOf e := Nat.mul_le_mul (by omega) hby
      unfold reachBytes at h1
      omega
    obtain ⟨F, hF⟩ := Go.Deep.choose_lt (n := len) (p := fun i (y : α) => ∃ cs', w.cells? 0 (a.add (i * r.sz)) r.sz = some cs' ∧ r.R (full w) cs' y) (fun i hi => by
      obtain ⟨cs', h1, h2⟩ := hx i (by omega)
      obtain ⟨y, hy⟩ := hf Hd enc n cs' _ h2 (fun k hk => hw k (List.mem_cons_of_mem _ (List.mem_append_left _ (weightsAll_mem (List.mem_map_of_mem (List.mem_range.2 hi)) hk))))
      exact ⟨y, cs', h1, hy⟩)
    refine ⟨(List.range len).map F, _, rfl, some a, cap, by simp, by simpa using hl, by simpa [maxN] using hlen, fun i y hi => ?_⟩
    have hil : i < len := by have := (List.getElem?_eq_some_iff.1 hi).1; simpa using this
    rw [List.getElem?_map, List.getElem?_range hil] at hi
    cases hi
    obtain ⟨cs0, h0, _⟩ := hF 0 (by omega)
    obtain ⟨b, off, sp⟩ := a
    have hsp : sp = none := by
      obtain ⟨_, hl0, hc0⟩ := World.cells?_some h0
      have h1 := hc0 0 hs
      rw [List.getElem?_eq_getElem (by omega)] at h1
      have := World.cell?_spot h1
      simpa [Addr.add] using this
    subst hsp
    obtain ⟨cs1, h1, h2⟩ := hF i hil
    rw [Addr.add_lit] at h1
    exact ⟨b, off, cs1, rfl, cells_at h1 hs, h2⟩
theorem wf64 {n : Int} (h : (Lit.int .i64 n).wf = true) : I64 n := by
  simp [Lit.wf, IntKind.min, IntKind.max, IntKind.signed, IntKind.bits] at h
  exact ⟨by omega, by omega⟩
theorem fits_int {t : TypeId} (ht : Tryz.prog.underlying t = some (.int .i64)) : Fits rInt w t := by
  intro Hd enc fuel cs x h _
  obtain ⟨n, rfl, _, hw⟩ := DataW.trod_int ht h
  exact ⟨n, rfl, wf64 hw⟩
theorem fits_str {t : TypeId} (ht : Tryz.prog.underlying t = some .string) : Fits rStr w t := by
  intro Hd enc fuel cs x h hw
  obtain ⟨s, rfl, rfl, _⟩ := DataW.trod_string ht h
  have h1 := hw s.data.toList.length (by simp [DataW.weights])
  refine ⟨s, rfl, ?_⟩
  rw [Array.length_toList] at h1
  exact h1
/-- One field of a struct of one-cell fields. -/
theorem field_int {k : Nat} {fuel : Nat} {t : TypeId} {cs : List Value} {x : Option (DataW Hd × List MemPlace)} {u : Value} (ht : Tryz.prog.underlying t = some (.int .i64)) (hc : Tryz.prog.cellsOf t = 1) (hu : cs[k]? = some u)
    (h : DataW.trod enc Tryz.prog w 0 (fun _ => true) true fuel t ((cs.drop k).take (Tryz.prog.cellsOf t)) = x) (hx : x.isSome = true) : ∃ n, u = .int .i64 n ∧ I64 n := by
  obtain ⟨y, rfl⟩ := Option.isSome_iff_exists.1 hx
  rw [hc] at h
  have e : (cs.drop k).take 1 = [u] := by
    obtain ⟨hk, rfl⟩ := List.getElem?_eq_some_iff.1 hu
    rw [List.drop_eq_getElem_cons hk]
    rfl
  rw [e] at h
  obtain ⟨n, h1, _, h2⟩ := DataW.trod_int ht h
  injection h1 with h1
  exact ⟨n, h1, wf64 h2⟩
theorem field_bool {k : Nat} {fuel : Nat} {t : TypeId} {cs : List Value} {x : Option (DataW Hd × List MemPlace)} {u : Value} (ht : Tryz.prog.underlying t = some .bool) (hc : Tryz.prog.cellsOf t = 1) (hu : cs[k]? = some u)
    (h : DataW.trod enc Tryz.prog w 0 (fun _ => true) true fuel t ((cs.drop k).take (Tryz.prog.cellsOf t)) = x) (hx : x.isSome = true) : ∃ n, u = .bool n := by
  obtain ⟨y, rfl⟩ := Option.isSome_iff_exists.1 hx
  rw [hc] at h
  have e : (cs.drop k).take 1 = [u] := by
    obtain ⟨hk, rfl⟩ := List.getElem?_eq_some_iff.1 hu
    rw [List.drop_eq_getElem_cons hk]
    rfl
  rw [e] at h
  obtain ⟨n, h1, _⟩ := DataW.trod_bool ht h
  injection h1 with h1
  exact ⟨n, h1⟩
set_option maxRecDepth 100000 in
theorem fits_instr : Fits rInstr w 123 := by
  intro Hd enc fuel cs x h _
  obtain ⟨xs, n, _, _, hl, hxl, hf⟩ := DataW.trod_struct Tryz.underlying123 h
  rw [show Tryz.prog.cellsOf 123 = 4 from by kernel_rfl] at hl
  match cs, hl with
  | [c0, c1, c2, c3], _ =>
    have hx : ∀ i, i < 4 → (xs[i]?).isSome = true := fun i hi => by rw [List.getElem?_eq_getElem (by rw [hxl]; exact hi)]; rfl
    obtain ⟨n0, rfl, b0⟩ := field_int Tryz.underlying3 (by kernel_rfl) (k := 0) rfl (hf 0 _ rfl) (hx 0 (by omega))
    obtain ⟨n1, rfl, b1⟩ := field_int Tryz.underlying3 (by kernel_rfl) (k := 1) rfl (hf 1 _ rfl) (hx 1 (by omega))
    obtain ⟨n2, rfl, b2⟩ := field_int Tryz.underlying3 (by kernel_rfl) (k := 2) rfl (hf 2 _ rfl) (hx 2 (by omega))
    obtain ⟨n3, rfl, b3⟩ := field_int Tryz.underlying3 (by kernel_rfl) (k := 3) rfl (hf 3 _ rfl) (hx 3 (by omega))
    exact ⟨⟨n0, n1, n2, n3⟩, rfl, b0, b1, b2, b3⟩
set_option maxRecDepth 100000 in
theorem fits_proc : Fits rProc w 159 := by
  intro Hd enc fuel cs x h _
  obtain ⟨xs, n, _, _, hl, hxl, hf⟩ := DataW.trod_struct Tryz.underlying159 h
  rw [show Tryz.prog.cellsOf 159 = 5 from by kernel_rfl] at hl
  match cs, hl with
  | [c0, c1, c2, c3, c4], _ =>
    have hx : ∀ i, i < 5 → (xs[i]?).isSome = true := fun i hi => by rw [List.getElem?_eq_getElem (by rw [hxl]; exact hi)]; rfl
    obtain ⟨n0, rfl, b0⟩ := field_int Tryz.underlying3 (by kernel_rfl) (k := 0) rfl (hf 0 _ rfl) (hx 0 (by omega))
    obtain ⟨n1, rfl, b1⟩ := field_int Tryz.underlying3 (by kernel_rfl) (k := 1) rfl (hf 1 _ rfl) (hx 1 (by omega))
    obtain ⟨n2, rfl, b2⟩ := field_int Tryz.underlying3 (by kernel_rfl) (k := 2) rfl (hf 2 _ rfl) (hx 2 (by omega))
    obtain ⟨n3, rfl, b3⟩ := field_int Tryz.underlying3 (by kernel_rfl) (k := 3) rfl (hf 3 _ rfl) (hx 3 (by omega))
    obtain ⟨n4, rfl⟩ := field_bool Tryz.underlying4 (by kernel_rfl) (k := 4) rfl (hf 4 _ rfl) (hx 4 (by omega))
    exact ⟨⟨n0, n1, n2, n3, n4⟩, rfl, b0, b1, b2, b3⟩
set_option maxRecDepth 100000 in
theorem fits_thunk : Fits rThunk w 161 := by
  intro Hd enc fuel cs x h _
  obtain ⟨xs, n, _, _, hl, hxl, hf⟩ := DataW.trod_struct Tryz.underlying161 h
  rw [show Tryz.prog.cellsOf 161 = 3 from by kernel_rfl] at hl
  match cs, hl with
  | [c0, c1, c2], _ =>
    have hx : ∀ i, i < 3 → (xs[i]?).isSome = true := fun i hi => by rw [List.getElem?_eq_getElem (by rw [hxl]; exact hi)]; rfl
    obtain ⟨n0, rfl, b0⟩ := field_int Tryz.underlying3 (by kernel_rfl) (k := 0) rfl (hf 0 _ rfl) (hx 0 (by omega))
    obtain ⟨n1, rfl, b1⟩ := field_int Tryz.underlying3 (by kernel_rfl) (k := 1) rfl (hf 1 _ rfl) (hx 1 (by omega))
    obtain ⟨n2, rfl, b2⟩ := field_int Tryz.underlying3 (by kernel_rfl) (k := 2) rfl (hf 2 _ rfl) (hx 2 (by omega))
    exact ⟨⟨n0, n1, n2⟩, rfl, b0, b1, b2⟩
set_option maxRecDepth 100000 in
theorem fits_real : Fits rReal w 187 := by
  intro Hd enc fuel cs x h _
  obtain ⟨xs, n, _, _, hl, hxl, hf⟩ := DataW.trod_struct Tryz.underlying187 h
  rw [show Tryz.prog.cellsOf 187 = 2 from by kernel_rfl] at hl
  match cs, hl with
  | [c0, c1], _ =>
    have hx : ∀ i, i < 2 → (xs[i]?).isSome = true := fun i hi => by rw [List.getElem?_eq_getElem (by rw [hxl]; exact hi)]; rfl
    obtain ⟨n0, rfl, b0⟩ := field_int Tryz.underlying3 (by kernel_rfl) (k := 0) rfl (hf 0 _ rfl) (hx 0 (by omega))
    obtain ⟨n1, rfl, b1⟩ := field_int Tryz.underlying3 (by kernel_rfl) (k := 1) rfl (hf 1 _ rfl) (hx 1 (by omega))
    exact ⟨⟨n0, n1⟩, rfl, b0, b1⟩
theorem fits_ints : Fits (rSl rInt) w 28 := fits_slice rInt Tryz.underlying28 (by kernel_rfl) (by decide) (by kernel_rfl) (fits_int Tryz.underlying3)
/-- One field that is a slice. -/
theorem field_sl {α : Type} {r : Rp α} {k : Nat} {fuel : Nat} {t : TypeId} {cs : List Value} {x : Option (DataW Hd × List MemPlace)} {u : Value} (hr : Fits (rSl r) w t) (hc : Tryz.prog.cellsOf t = 1) (hu : cs[k]? = some u)
    (h : DataW.trod enc Tryz.prog w 0 (fun _ => true) true fuel t ((cs.drop k).take (Tryz.prog.cellsOf t)) = x) (hx : ∃ y, x = some y ∧ ∀ n ∈ y.1.weights Tryz.prog t, n ≤ reachBytes) : ∃ ys, SlV r (full w) u ys := by
  obtain ⟨y, rfl, hw⟩ := hx
  rw [hc] at h
  have e : (cs.drop k).take 1 = [u] := by
    obtain ⟨hk, rfl⟩ := List.getElem?_eq_some_iff.1 hu
    rw [List.drop_eq_getElem_cons hk]
    rfl
  rw [e] at h
  obtain ⟨ys, v, h1, h2⟩ := hr Hd enc fuel [u] y h hw
  injection h1 with h1
  subst h1
  exact ⟨ys, h2⟩
set_option maxRecDepth 100000 in
theorem read_code {v : Value} {d : DataW Hd} {p : List MemPlace} {r : Reach} {b0 : Nat} (hv : Value.okWide Tryz.prog w r b0 30 v) (h : DataW.Trod enc Tryz.prog w 0 (fun _ => true) true 30 v d p) (hw : ∀ n ∈ d.weights Tryz.prog 30, n ≤ reachBytes) : ∃ c, CodeV (full w) v c := by
  obtain ⟨arr, rfl, hsz⟩ := okWide_struct Tryz.underlying30 hv
  obtain ⟨fuel, hf⟩ := h
  have hf0 : DataW.trod enc Tryz.prog w 0 (fun _ => true) true fuel 30 arr.toList = some (d, p) := hf
  obtain ⟨xs, n, _, hd, hl, hxl, hf⟩ := DataW.trod_struct Tryz.underlying30 hf0
  rw [show Tryz.prog.cellsOf 30 = 7 from by kernel_rfl] at hl
  injection hd with hd1 hd2
  rw [hd1] at hw
  simp only [DataW.weights, Tryz.underlying30] at hw
  obtain ⟨l⟩ := arr
  match l, hl with
  | [c0, c1, c2, c3, c4, c5, c6], _ =>
    have hx : ∀ i (t : TypeId), ([22, 23, 24, 25, 26, 27, 28] : List TypeId)[i]? = some t → ∃ y : DataW Hd × List MemPlace, xs[i]? = some y ∧ ∀ n ∈ y.1.weights Tryz.prog t, n ≤ reachBytes := fun i t ht => by
      have hi := (List.getElem?_eq_some_iff.1 ht).1
      have hi2 : i < xs.length := by rw [hxl]; exact hi
      refine ⟨_, List.getElem?_eq_getElem hi2, fun n hn => hw n (DataW.weights_mem_each (j := i) ht ?_ n hn)⟩
      rw [List.getElem?_map, List.getElem?_eq_getElem hi2]
      rfl
    obtain ⟨l0, b0⟩ := field_sl (fits_slice rInstr Tryz.underlying22 (by kernel_rfl) (by decide) (by kernel_rfl) fits_instr) (by kernel_rfl) (k := 0) rfl (hf 0 _ rfl) (hx 0 _ rfl)
    obtain ⟨l1, b1⟩ := field_sl (fits_slice rProc Tryz.underlying23 (by kernel_rfl) (by decide) (by kernel_rfl) fits_proc) (by kernel_rfl) (k := 1) rfl (hf 1 _ rfl) (hx 1 _ rfl)
    obtain ⟨l2, b2⟩ := field_sl (fits_slice rThunk Tryz.underlying24 (by kernel_rfl) (by decide) (by kernel_rfl) fits_thunk) (by kernel_rfl) (k := 2) rfl (hf 2 _ rfl) (hx 2 _ rfl)
    obtain ⟨l3, b3⟩ := field_sl (fits_slice (rSl rInt) Tryz.underlying25 (by kernel_rfl) (by decide) (by kernel_rfl) fits_ints) (by kernel_rfl) (k := 3) rfl (hf 3 _ rfl) (hx 3 _ rfl)
    obtain ⟨l4, b4⟩ := field_sl (fits_slice rStr Tryz.underlying26 (by kernel_rfl) (by decide) (by kernel_rfl) (fits_str Tryz.underlying9)) (by kernel_rfl) (k := 4) rfl (hf 4 _ rfl) (hx 4 _ rfl)
    obtain ⟨l5, b5⟩ := field_sl (fits_slice rReal Tryz.underlying27 (by kernel_rfl) (by decide) (by kernel_rfl) fits_real) (by kernel_rfl) (k := 5) rfl (hf 5 _ rfl) (hx 5 _ rfl)
    obtain ⟨l6, b6⟩ := field_sl fits_ints (by kernel_rfl) (k := 6) rfl (hf 6 _ rfl) (hx 6 _ rfl)
    exact ⟨⟨l0, l1, l2, l3, l4, l5, l6⟩, c0, c1, c2, c3, c4, c5, c6, rfl, ⟨b0, b1, b2, b3, b4, b5, b6⟩⟩
end
end Go.Proofs.YtififjlgjmgikaaGreat
