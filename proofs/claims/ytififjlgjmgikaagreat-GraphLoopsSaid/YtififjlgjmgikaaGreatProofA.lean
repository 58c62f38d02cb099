/- Proofs of immediate dominators in plain Lean (no program). Proofs of immediate dominators, as they lie in memory. -/
import Derived.Test.YtififjlgjmgikaaGreatLoopB
import Derived.Test.YtififjlgjmgikaaGreatArgs
namespace Go.Proofs.YtififjlgjmgikaaGreat
set_option linter.all false
open Go.RowKit

structure DominD where
  block : Int
  idom : Int
  one : List Int
  two : List Int
instance : Inhabited DominD := ⟨⟨0, 0, [], []⟩⟩
/-- A path of a proof. -/
structure LeadsP (f : FlowD) (d : DominD) (p : List Int) : Prop where
  ne : p ≠ []
  range : ∀ b ∈ p, 0 ≤ b ∧ b < f.blocks.length
  last : p.getLast? = some d.block
  once : d.block ∉ p.dropLast
  step : ∀ i a b, p[i]? = some a → p[i + 1]? = some b → b ∈ nxB f a
  from_ : if d.idom = -1 then f.entry.getD (p.getD 0 0).toNat false = true else p.getD 0 0 = d.idom ∧ d.idom ∉ p.tail
structure ProvesP (f : FlowD) (d : DominD) : Prop where
  ent : f.entry.getD d.block.toNat false = true → d.idom = -1
  own : d.idom ≠ -1 → (0 ≤ d.idom ∧ d.idom < f.blocks.length) ∧ rchB f d.idom = true ∧ d.idom ≠ d.block
  one : LeadsP f d d.one
  two : LeadsP f d d.two
  apart : ∀ b ∈ d.one, b ≠ d.block → b ≠ d.idom → b ∉ d.two
def wantL (f : FlowD) : List Int := ((List.range f.blocks.length).filter fun b => f.reached.getD b false).map fun (b : Nat) => (b : Int)
def idomAt (l : List DominD) (b : Int) : Int := ((l.find? fun d => decide (d.block = b)).map (·.idom)).getD 0
/-- The way by immediate dominators. -/
def stepI (l : List DominD) (x : Int) : Int := if x = -1 then -1 else idomAt l x
def itI (l : List DominD) : Nat → Int → Int
  | 0, x => x
  | k + 1, x => itI l k (stepI l x)
def metP (l : List DominD) (v b : Int) : Prop := ∃ k, itI l k v = b
structure PrfP (f : FlowD) (l : List DominD) : Prop where
  want : l.map (·.block) = wantL f
  all : ∀ d ∈ l, ProvesP f d
  ends : ∀ d ∈ l, metP l d.block (-1)
  fit : ∀ e ∈ edgesR f, idomAt l e.2 ≠ -1 → metP l e.1 (idomAt l e.2)
theorem itI_add (l : List DominD) : ∀ (k j : Nat) (x : Int), itI l (k + j) x = itI l j (itI l k x) := by
  intro k
  induction k with
  | zero => intro j x; simp [itI]
  | succ k ih => intro j x; rw [show k + 1 + j = (k + j) + 1 by omega]; exact ih j _
theorem itI_no (l : List DominD) : ∀ k, itI l k (-1) = -1 := by
  intro k
  induction k with
  | zero => rfl
  | succ k ih => exact ih
theorem wantL_mem {f : FlowD} {b : Int} : b ∈ wantL f ↔ (0 ≤ b ∧ b < f.blocks.length) ∧ rchB f b = true := by
  unfold wantL rchB
  rw [List.mem_map]
  constructor
  · rintro ⟨k, hk, rfl⟩
    obtain ⟨h1, h2⟩ := List.mem_filter.1 hk
    have := List.mem_range.1 h1
    exact ⟨by omega, by simpa using h2⟩
  · rintro ⟨h1, h2⟩
    exact ⟨b.toNat, List.mem_filter.2 ⟨List.mem_range.2 (by omega), by simpa using h2⟩, by omega⟩
theorem wantL_nodup (f : FlowD) : (wantL f).Nodup := by
  unfold wantL
  refine List.Pairwise.map _ (fun a b h => ?_) (List.Pairwise.filter _ List.nodup_range)
  omega
theorem idomAt_of {l : List DominD} (hn : (l.map (·.block)).Nodup) {d : DominD} (hd : d ∈ l) : idomAt l d.block = d.idom := by
  unfold idomAt
  induction l with
  | nil => cases hd
  | cons a l ih =>
    rw [List.map_cons, List.nodup_cons] at hn
    rw [List.find?_cons]
    rcases List.mem_cons.1 hd with rfl | hd
    · simp
    · have hne : a.block ≠ d.block := fun e => hn.1 (by rw [e]; exact List.mem_map_of_mem hd)
      simp only [hne, decide_false]
      exact ih hn.2 hd
section
variable {c : CodeD} (hf : fineB c = true) {l : List DominD} (h : PrfP (theFlow c) l)
include hf h
theorem ck_nodup : (l.map (·.block)).Nodup := by rw [h.want]; exact wantL_nodup _
theorem ck_has {b : Int} (hr : RA (theFlow c) (fun _ => False) b) : ∃ d ∈ l, d.block = b := by
  obtain ⟨k, rfl, hk⟩ := reach_in hf hr
  have h1 : (k : Int) ∈ l.map (·.block) := by
    rw [h.want]
    exact wantL_mem.2 ⟨by omega, (reached_dom hf (by omega)).2 hr⟩
  obtain ⟨d, h2, h3⟩ := List.mem_map.1 h1
  exact ⟨d, h2, h3⟩
theorem ck_block {d : DominD} (hd : d ∈ l) : (0 ≤ d.block ∧ d.block < (theFlow c).blocks.length) ∧ RA (theFlow c) (fun _ => False) d.block := by
  have h1 : d.block ∈ wantL (theFlow c) := by rw [← h.want]; exact List.mem_map_of_mem hd
  obtain ⟨h2, h3⟩ := wantL_mem.1 h1
  exact ⟨h2, (reached_dom hf h2).1 h3⟩
theorem ck_step {d : DominD} (hd : d ∈ l) : stepI l d.block = d.idom := by
  have := (ck_block hf h hd).1
  unfold stepI
  rw [if_neg (by omega)]
  exact idomAt_of (ck_nodup hf h) hd
theorem ck_anc {a b : Int} (ha : a ≠ -1) (hr : RA (theFlow c) (· = a) b) : ¬ metP l b a := by
  unfold RA at hr
  induction hr with
  | start h1 =>
    rename_i x
    obtain ⟨⟨h1, h2⟩, h3⟩ := h1
    obtain ⟨d, hd, rfl⟩ := ck_has hf h (b := x) (.start ⟨⟨h1, h2⟩, fun k => k⟩)
    rintro ⟨k, hk⟩
    have hi := (h.all d hd).ent h2
    cases k with
    | zero => exact h3 hk
    | succ k =>
      rw [itI, ck_step hf h hd, hi, itI_no] at hk
      exact ha hk.symm
  | step hx hxy ih =>
    rename_i x y
    have hxr : RA (theFlow c) (fun _ => False) x := RA.mono (S := (· = a)) hx fun _ k => k.elim
    have hyr : RA (theFlow c) (fun _ => False) y := hxr.more hxy.1 (fun k => k)
    obtain ⟨m, rfl, hm⟩ := reach_in hf hxr
    have he := h.fit ((m : Int), y) (edgesR_mem.2 ⟨⟨by simp, by simp; omega⟩, (reached_iff hf hm).2 hxr, hxy.1⟩)
    obtain ⟨d, hd, rfl⟩ := ck_has hf h hyr
    have hid := idomAt_of (ck_nodup hf h) hd
    simp only [hid] at he
    rintro ⟨k, hk⟩
    cases k with
    | zero => exact hxy.2 hk
    | succ k =>
      rw [itI, ck_step hf h hd] at hk
      by_cases e : d.idom = -1
      · rw [e, itI_no] at hk
        exact ha hk.symm
      · obtain ⟨j, hj⟩ := he e
        exact ih ⟨j + k, by rw [itI_add, hj]; exact hk⟩
theorem ck_dom {a b : Int} (ha : a ≠ -1) (hr : RA (theFlow c) (fun _ => False) b) (hm : metP l b a) : DomP (theFlow c) a b :=
  ⟨hr, fun k => ck_anc hf h ha k hm⟩
omit hf h in
theorem leads_ra {f : FlowD} {d : DominD} {p : List Int} (hp : LeadsP f d p) {S : Int → Prop} (hs : ∀ y ∈ p, ¬ S y) (h0 : RA f S (p.getD 0 0)) : RA f S d.block := by
  have key : ∀ (i : Nat) (a : Int), p[i]? = some a → RA f S a := by
    intro i
    induction i with
    | zero =>
      intro a e
      rw [List.getD_eq_getElem?_getD, e] at h0
      exact h0
    | succ i ih =>
      intro a e
      have hi := (List.getElem?_eq_some_iff.1 e).1
      obtain ⟨b, hb⟩ : ∃ b, p[i]? = some b := ⟨p[i], List.getElem?_eq_getElem (by omega)⟩
      exact (ih b hb).more (hp.step i b a hb e) (hs a (List.mem_of_getElem? e))
  have hl := hp.last
  rw [List.getLast?_eq_getElem?] at hl
  exact key _ _ hl
omit hf h in
theorem leads_zero {f : FlowD} {d : DominD} {p : List Int} (hp : LeadsP f d p) : p.getD 0 0 ∈ p := by
  have := List.length_pos_iff.2 hp.ne
  rw [List.getD_eq_getElem?_getD, List.getElem?_eq_getElem this]
  exact List.getElem_mem _
/-- What a path of a proof has: each block that dominates its end, but what dominates the immediate dominator. -/
theorem leads_has {d : DominD} {p : List Int} (hp : LeadsP (theFlow c) d p) {x : Int} (hx : DomP (theFlow c) x d.block) (hi : d.idom ≠ -1 → ¬ DomP (theFlow c) x d.idom ∧ rchB (theFlow c) d.idom = true) : x ∈ p := by
  apply Classical.byContradiction
  intro hn
  have hz := leads_zero hp
  have hzr := hp.range _ hz
  have hfr := hp.from_
  refine hx.2 (leads_ra hp (S := (· = x)) (fun y hy e => hn (e ▸ hy)) ?_)
  by_cases e : d.idom = -1
  · rw [if_pos e] at hfr
    exact .start ⟨⟨hzr, hfr⟩, fun e2 => hn (e2 ▸ hz)⟩
  · rw [if_neg e] at hfr
    obtain ⟨h1, h2⟩ := hi e
    have hr := (reached_dom hf (by rw [← hfr.1]; exact hzr)).1 h2
    rw [hfr.1]
    exact Classical.byContradiction fun k => h1 ⟨hr, k⟩
theorem ck_idom {d : DominD} (hd : d ∈ l) : (d.idom = -1 ∧ ∀ x : Int, x ≠ d.block → ¬ DomP (theFlow c) x d.block) ∨ IdomP (theFlow c) d.idom d.block := by
  have hp := h.all d hd
  obtain ⟨hbr, hb⟩ := ck_block hf h hd
  by_cases e : d.idom = -1
  · refine .inl ⟨e, fun x hx hxd => ?_⟩
    obtain ⟨⟨m, rfl, hm⟩, _⟩ := dom_in hf hxd
    have h1 := leads_has hf h hp.one hxd (fun k => absurd e k)
    have h2 := leads_has hf h hp.two hxd (fun k => absurd e k)
    exact hp.apart _ h1 hx (by omega) h2
  · obtain ⟨h1, h2, h3⟩ := hp.own e
    have hid : DomP (theFlow c) d.idom d.block := ck_dom hf h e hb ⟨1, ck_step hf h hd⟩
    refine .inr ⟨h3, hid, fun x hx hxd => ?_⟩
    apply Classical.byContradiction
    intro hn
    have hxi : x ≠ d.idom := fun e2 => hn (by rw [e2]; exact DomP.refl hid.reached)
    have h4 := leads_has hf h hp.one hxd (fun _ => ⟨hn, h2⟩)
    have h5 := leads_has hf h hp.two hxd (fun _ => ⟨hn, h2⟩)
    exact hp.apart _ h4 hx hxi h5
/-- Accepted proofs have the immediate dominators. -/
theorem ck_right {d : DominD} (hd : d ∈ l) : d.idom = (idomL (theFlow c)).getD d.block.toNat 0 := by
  obtain ⟨hbr, hb⟩ := ck_block hf h hd
  obtain ⟨b, hbe⟩ : ∃ b : Nat, d.block = (b : Int) := ⟨d.block.toNat, by omega⟩
  have hbl : b < (theFlow c).blocks.length := by omega
  rw [hbe, Int.toNat_natCast, idomL_at _ hbl]
  have h1 := ck_idom hf h hd
  rw [hbe] at h1 hb
  rcases idom_spec hf hbl with ⟨hr, _⟩ | ⟨_, e, hn⟩ | ⟨_, m, e, hm, hi⟩
  · rw [(reached_iff hf hbl).2 hb] at hr; cases hr
  · rw [e]
    rcases h1 with ⟨h2, _⟩ | h2
    · exact h2
    · exact absurd h2.2.1 (hn _ h2.1)
  · rw [e]
    rcases h1 with ⟨_, h2⟩ | h2
    · exact absurd hi.2.1 (h2 _ hi.1)
    · exact h2.uniq hi
end
end Go.Proofs.YtififjlgjmgikaaGreat
namespace Go.Proofs.YtififjlgjmgikaaGreat
set_option linter.all false
open Go.RowKit Go.WideShapes Go.ChangeShapes Go.Shelf

def rDomin : Rp DominD where
  sz := 4
  R := fun H cs x => ∃ u v, cs = [.int .i64 x.block, .int .i64 x.idom, u, v] ∧ I64 x.block ∧ I64 x.idom ∧ SlV rInt H u x.one ∧ SlV rInt H v x.two
  len := fun h => by obtain ⟨u, v, rfl, _⟩ := h; rfl
  mono := fun h ⟨u, v, e, h1, h2, k1, k2⟩ => ⟨u, v, e, h1, h2, k1.mono h, k2.mono h⟩
theorem SlV.domins {H : PH} {v : Value} {xs : List DominD} (h : SlV rDomin H v xs) (hne : 0 < xs.length) :
    ∃ b off cap, v = .slice (some ⟨b, off, none⟩) xs.length cap ∧ H b ≠ none ∧
      (∀ i, i < xs.length → ∃ u1 u2, SlV rInt H u1 (xs.getD i default).one ∧ SlV rInt H u2 (xs.getD i default).two ∧ I64 (xs.getD i default).block ∧ I64 (xs.getD i default).idom ∧ ∀ w, Sees w H → w.cell? ⟨b, off + i * 4, none⟩ = some (.int .i64 (xs.getD i default).block) ∧ w.cell? ⟨b, off + i * 4 + 1, none⟩ = some (.int .i64 (xs.getD i default).idom) ∧ w.cell? ⟨b, off + i * 4 + 2, none⟩ = some u1 ∧ w.cell? ⟨b, off + i * 4 + 3, none⟩ = some u2) := by
  obtain ⟨b, off, cap, rfl, hc, hb, he⟩ := h.base hne
  refine ⟨b, off, cap, rfl, hb, fun i hi => ?_⟩
  obtain ⟨cs, ⟨u1, u2, rfl, h1, h2, hu1, hu2⟩, hcell⟩ := he i xs[i] (by simp [hi])
  have e : xs.getD i default = xs[i] := by simp [hi]
  rw [e]
  refine ⟨u1, u2, hu1, hu2, h1, h2, fun w hw => ?_⟩
  have h0 := hcell w hw 0 _ rfl
  have h1 := hcell w hw 1 _ rfl
  have h2 := hcell w hw 2 _ rfl
  have h3 := hcell w hw 3 _ rfl
  simpa [rDomin] using ⟨h0, h1, h2, h3⟩
section
variable {Hd : Type} {enc : TypeId × Value → Hd} {w : World}
set_option maxRecDepth 100000 in
theorem fits_domin : Fits rDomin w 106 := by
  intro Hd enc fuel cs x h hw
  obtain ⟨xs, n, _, hd, hl, hxl, hf⟩ := DataW.trod_struct Tryz.underlying106 h
  rw [show Tryz.prog.cellsOf 106 = 4 from by kernel_rfl] at hl
  subst hd
  simp only [DataW.weights, Tryz.underlying106] at hw
  match cs, hl with
  | [c0, c1, c2, c3], _ =>
    have hx : ∀ i, i < 4 → (xs[i]?).isSome = true := fun i hi => by rw [List.getElem?_eq_getElem (by rw [hxl]; exact hi)]; rfl
    have hx2 : ∀ i (t : TypeId), ([3, 3, 28, 28] : List TypeId)[i]? = some t → ∃ y : DataW Hd × List MemPlace, xs[i]? = some y ∧ ∀ n ∈ y.1.weights Tryz.prog t, n ≤ reachBytes := fun i t ht => by
      have hi := (List.getElem?_eq_some_iff.1 ht).1
      have hi2 : i < xs.length := by rw [hxl]; exact hi
      refine ⟨_, List.getElem?_eq_getElem hi2, fun n hn => hw n (DataW.weights_mem_each (j := i) ht ?_ n hn)⟩
      rw [List.getElem?_map, List.getElem?_eq_getElem hi2]
      rfl
    obtain ⟨n0, rfl, b0⟩ := field_int Tryz.underlying3 (by kernel_rfl) (k := 0) rfl (hf 0 _ rfl) (hx 0 (by omega))
    obtain ⟨n1, rfl, b1⟩ := field_int Tryz.underlying3 (by kernel_rfl) (k := 1) rfl (hf 1 _ rfl) (hx 1 (by omega))
    obtain ⟨l2, b2⟩ := field_sl fits_ints (by kernel_rfl) (k := 2) rfl (hf 2 _ rfl) (hx2 2 _ rfl)
    obtain ⟨l3, b3⟩ := field_sl fits_ints (by kernel_rfl) (k := 3) rfl (hf 3 _ rfl) (hx2 3 _ rfl)
    exact ⟨⟨n0, n1, l2, l3⟩, c2, c3, rfl, b0, b1, b2, b3⟩
theorem fits_domins : Fits (rSl rDomin) w 58 := fits_slice rDomin Tryz.underlying58 (by kernel_rfl) (by decide) (by kernel_rfl) fits_domin
set_option maxRecDepth 100000 in
theorem read_domins {v : Value} {d : DataW Hd} {p : List MemPlace} {r : Go.Reach} {b0 : Nat} (hv : Value.okWide Tryz.prog w r b0 58 v) (h : DataW.Trod enc Tryz.prog w 0 (fun _ => true) true 58 v d p) (hw : ∀ n ∈ d.weights Tryz.prog 58, n ≤ reachBytes) : ∃ xs, SlV rDomin (full w) v xs := by
  obtain ⟨a, len, cap, rfl⟩ := okWide_slice Tryz.underlying58 hv
  obtain ⟨fuel, hf⟩ := h
  obtain ⟨ys, v', h1, h2⟩ := fits_domins Hd enc fuel [.slice a len cap] (d, p) hf hw
  injection h1 with h1
  subst h1
  exact ⟨ys, h2⟩
end
end Go.Proofs.YtififjlgjmgikaaGreat
