/- slices.DeleteFunc at ints, on a slice that the walk owns. -/
import Derived.Test.YtififjlgjmgikaaGreatFlow
import Derived.Lib.SliceRun
namespace Go.Proofs.YtififjlgjmgikaaGreat
set_option linter.all false
open Go.RowKit

theorem OwnI.set {w : World} {base : Nat} {g cap k : Nat} {xs : List Int} (h : OwnI w base (.slice (some ⟨g, 0, none⟩) xs.length cap) xs) (hk : k < xs.length) (y : Int) :
    OwnI (w.setCell ⟨g, k, none⟩ (.int .i64 y)) base (.slice (some ⟨g, 0, none⟩) xs.length cap) (xs.set k y) := by
  rcases h.2 with ⟨e, _⟩ | ⟨g', cap', cur, e, h2, h3, h4, h5, h6, h7⟩
  · cases e
  · cases e
    unfold OwnI
    rw [List.length_set]
    refine ⟨by simp [ints], .inr ⟨g, cap, cur.setIfInBounds k (.int .i64 y), rfl, h2, ?_, h4, h5, by simpa using h6, ?_⟩⟩
    · unfold World.setCell
      simp [Array.getElem?_modify, h3]
    · rw [Nat.mul_one] at h7 ⊢
      rw [Array.toList_setIfInBounds, List.take_set, h7]
      simp [ints, List.map_set]
/-- The state of the loop: what is kept of the first j, then what was not looked at. -/
structure DelI (p : Int → Bool) (xs ys : List Int) (i j : Nat) : Prop where
  len : ys.length = xs.length
  le : i ≤ j
  low : ys.take i = (xs.take j).filter fun x => !p x
  high : ys.drop j = xs.drop j
variable {p : Int → Bool} {xs ys : List Int} {i j : Nat}
theorem DelI.at_ (h : DelI p xs ys i j) {x : Int} (hx : xs[j]? = some x) : ys[j]? = some x := by
  have e : (ys.drop j)[0]? = (xs.drop j)[0]? := by rw [h.high]
  rw [List.getElem?_drop, List.getElem?_drop, Nat.add_zero, hx] at e
  exact e
theorem DelI.skip (h : DelI p xs ys i j) {x : Int} (hx : xs[j]? = some x) (hp : p x = true) : DelI p xs ys i (j + 1) := by
  refine ⟨h.len, by have := h.le; omega, ?_, ?_⟩
  · rw [List.take_add_one, hx, List.filter_append, h.low]
    simp [hp]
  · rw [← List.drop_drop, ← List.drop_drop, h.high]
theorem DelI.keep (h : DelI p xs ys i j) {x : Int} (hx : xs[j]? = some x) (hp : p x = false) : DelI p xs (ys.set i x) (i + 1) (j + 1) := by
  have hj := (List.getElem?_eq_some_iff.1 hx).1
  have hl := h.len
  have hle := h.le
  refine ⟨by simp [h.len], by omega, ?_, ?_⟩
  · have e1 : (ys.set i x).take (i + 1) = ys.take i ++ [x] := by
      rw [List.take_add_one, List.getElem?_set_self (by omega), List.take_set_of_le (Nat.le_refl _)]
      rfl
    have e2 : xs.take (j + 1) = xs.take j ++ [x] := by rw [List.take_add_one, hx]; rfl
    rw [e1, e2, List.filter_append, ← h.low]
    simp [hp]
  · rw [List.drop_set_of_lt (by omega), ← List.drop_drop, h.high, List.drop_drop]
theorem DelI.start {k : Nat} (hk : k < xs.length) (h : ∀ (i : Nat) (y : Int), i < k → xs[i]? = some y → p y = false) (hp : ∀ x, xs[k]? = some x → p x = true) : DelI p xs xs k (k + 1) := by
  refine ⟨rfl, by omega, ?_, rfl⟩
  have e2 : xs.take (k + 1) = xs.take k ++ [xs[k]] := by rw [List.take_add_one]; simp [hk]
  rw [e2, List.filter_append]
  have h1 : ([xs[k]] : List Int).filter (fun x => !p x) = [] := by simp [hp xs[k] (by simp [hk])]
  rw [h1, List.append_nil]
  symm
  rw [List.filter_eq_self]
  intro a ha
  obtain ⟨i, hi⟩ := List.getElem?_of_mem ha
  rw [List.getElem?_take] at hi
  split at hi
  · simp [h i a (by omega) hi]
  · cases hi
def DelRes (base : Nat) (xs : List Int) (own : Option Nat) (w w' : World) (e : Ending) : Prop := ∃ v', e = .returned v' ∧ OwnI w' base v' xs ∧ v'.ownBlock = own
theorem own_seen {w : World} {H : PH} {base : Nat} {v : Value} {xs : List Int} (hw : Sees w H) (h : OwnI w base v xs) (hH : ∀ k, v.ownBlock = some k → H k = none) (hx : ∀ x ∈ xs, I64 x) (hn : xs.length ≤ maxN) :
    ∃ K, Sees w K ∧ PH.le H K ∧ SlV rInt K v xs := by
  refine ⟨fun i => if v.ownBlock = some i then w.heap[i]? else H i, fun i o e => ?_, fun i o e => ?_, h.readK (fun k hk => by simp [hk]) hx hn⟩
  · dsimp only at e
    split at e
    · exact e
    · exact hw i o e
  · dsimp only
    split
    · rename_i e2
      rw [hH i e2] at e
      cases e
    · exact e
theorem PredV.mono {H H' : PH} {q : IntKind} {fv : Value} {S : Int → Prop} {p : Int → Bool} (h : PH.le H H') (k : PredV H q fv S p) : PredV H' q fv S p := by
  obtain ⟨K, cap, e, hE, hf⟩ := k
  exact ⟨K, cap, e, hE, fun w' H'' x hle => hf w' H'' x (fun i o e => hle i o (h i o e))⟩
theorem OwnI.cellk {w : World} {base g n cap : Nat} {xs : List Int} (h : OwnI w base (.slice (some ⟨g, 0, none⟩) n cap) xs) {j : Nat} (hj : j < xs.length) : w.cell? ⟨g, j, none⟩ = some (.int .i64 (xs.getD j 0)) := by
  obtain ⟨g', cap', e, _, _, _, h2⟩ := h.form (by omega)
  cases e
  exact h2 j hj
theorem OwnI.free {w : World} {base g n cap : Nat} {xs : List Int} (h : OwnI w base (.slice (some ⟨g, 0, none⟩) n cap) xs) (j : Nat) : w.frozen? ⟨g, j, none⟩ = false := by
  rcases h.2 with ⟨e, _⟩ | ⟨g', cap', cur, e, h2, h3, _⟩
  · cases e
  · cases e
    simp [World.frozen?, h3]
theorem OwnI.setAll {base g cap i m : Nat} {w : World} {ys : List Int} (h : OwnI w base (.slice (some ⟨g, 0, none⟩) ys.length cap) ys) (hi : i + m ≤ ys.length) :
    ∃ zs, OwnI (w.setCells g i (List.replicate m (.int .i64 0))) base (.slice (some ⟨g, 0, none⟩) ys.length cap) zs ∧ zs.length = ys.length ∧ zs.take i = ys.take i ∧ w.grownBy (w.setCells g i (List.replicate m (.int .i64 0))) (some g) := by
  induction m generalizing i w ys with
  | zero => exact ⟨ys, by simpa [World.setCells] using h, rfl, rfl, by simpa [World.setCells] using grown_refl w (some g)⟩
  | succ m ih =>
    have h1 := h.set (k := i) (by omega) 0
    have hl : (ys.set i 0).length = ys.length := by simp
    obtain ⟨zs, h2, h3, h4, h5⟩ := ih (i := i + 1) (ys := ys.set i 0) (by rw [hl]; exact h1) (by rw [hl]; omega)
    rw [hl] at h2
    refine ⟨zs, by simpa [List.replicate_succ, World.setCells] using h2, by rw [h3, hl], ?_, ?_⟩
    · have e := congrArg (List.take i) h4
      rw [List.take_take, List.take_take, Nat.min_eq_left (by omega), List.take_set_of_le (Nat.le_refl _)] at e
      exact e
    · have := (grown_set (grown_refl w (some g)) : w.grownBy (w.setCell ⟨g, i, none⟩ (.int .i64 0)) (some g)).trans h5
      simpa [List.replicate_succ, World.setCells] using this
set_option maxHeartbeats 2000000 in
set_option maxRecDepth 100000 in
theorem delete_own (H : PH) (v fv : Value) (xs : List Int) (S : Int → Prop) (p : Int → Bool) (base : Nat) (w : World) (hw : Sees w H) (hown : OwnI w base v xs) (hH : ∀ k, v.ownBlock = some k → H k = none) (hf : PredV H .i64 fv S p)
    (hS : ∀ x ∈ xs, S x) (hx : ∀ x ∈ xs, I64 x) (hn : xs.length ≤ 20000000) :
    Calls Tryz.prog 78 #[v, fv] w fun e w' => DelRes base (xs.filter fun x => !p x) v.ownBlock w w' e ∧ w.grownBy w' v.ownBlock := by
  obtain ⟨K, hK1, hK2, hK3⟩ := own_seen hw hown hH hx (by unfold maxN; omega)
  have hC := slices_IndexFunc_int K v fv xs S p w hK1 hK3 (hf.mono hK2) hS
  obtain ⟨fi, hfi⟩ : ∃ fi, fi = idxF p xs := ⟨_, rfl⟩
  rw [← hfi] at hC
  obtain ⟨es, hes⟩ : ∃ es, es = xs.filter fun x => !p x := ⟨_, rfl⟩
  rw [← hes]
  have hesh := Lib.hid hes
  clear hK1 hK2 hK3 K hes
  have hSh := Lib.hid hS
  have hxh := Lib.hid hx
  have hHh := Lib.hid hH
  clear hS hx hH
  cases hidx : xs.findIdx? p with
  | none =>
    have hfi1 : fi = -1 := by rw [hfi, idxF, hidx]
    subst hfi1
    have hall : es = xs := by
      rw [hesh.out, List.filter_eq_self]
      rw [List.findIdx?_eq_none_iff] at hidx
      intro a ha
      simp [hidx a ha]
    clear hidx hfi
    have hownh := Lib.hid hown
    have hallh := Lib.hid hall
    clear hall hown
    go_enter Tryz.func78, Tryz.ntmps78
    go_wp2_with (go_at_call 113; refine hC.mono ?_; rintro e w1 ⟨rfl, hB1⟩)
    go_ret
    exact ⟨⟨_, rfl, by rw [hallh.out]; exact hownh.out.below hB1, rfl⟩, grown_below hB1 _⟩
  | some k =>
    have hfi1 : fi = (k : Int) := by rw [hfi, idxF, hidx]
    subst hfi1
    rw [List.findIdx?_eq_some_iff_getElem] at hidx
    obtain ⟨hkl, hpk, hlow⟩ := hidx
    have hD := Lib.hid (DelI.start (p := p) hkl (fun i y hi hy => by
      have := hlow i hi
      obtain ⟨hl, rfl⟩ := List.getElem?_eq_some_iff.1 hy
      simpa using this) (fun x hx => by
      obtain ⟨hl, rfl⟩ := List.getElem?_eq_some_iff.1 hx
      exact hpk))
    clear hpk hlow hfi
    obtain ⟨g, cap, rfl, hcap, hg, hgl, -⟩ := hown.form (by omega)
    obtain ⟨K, capf, rfl, hE, hf⟩ := hf
    unfold Enters at hE
    have hR := Lib.hid hf
    clear hf
    have hHg := hHh.out g rfl
    go_enter Tryz.func78, Tryz.ntmps78
    go_wp2_with (go_at_call 113; refine hC.mono ?_; rintro e w1 ⟨rfl, hB1⟩)
    have hown1 := hown.below hB1
    have hg1 := grown_below hB1 (some g)
    have hs1 := hw.below hB1
    clear hown hw hB1 hC
    rw [show ((k : Int) == -1) = false by simp]
    go_loopw [5, 6] (fun iv jv wr => ∃ (i j : Nat) (ys : List Int), iv = .int .i64 i ∧ jv = .int .i64 j ∧ j ≤ xs.length ∧ i < j ∧ OwnI wr base (.slice (some ⟨g, 0, none⟩) xs.length cap) ys ∧ Aside (DelI p xs ys i j) ∧ w.grownBy wr (some g) ∧ Sees wr H) (fun _ jv _ => xs.length - (intOf jv).toNat)
    case atStart => exact ⟨k, k + 1, xs, rfl, by go_num, by omega, by omega, hown1, hD.out, hg1, hs1⟩
    clear hD hown1 hg1 hs1
    case round =>
      obtain ⟨i, j, ys, rfl, rfl, hj, hij, hown, hD, hg2, hs⟩ := hrel
      have hDh := Lib.hid hD
      clear hD
      have hyl := hDh.out.len
      by_cases hlt : j < xs.length
      · have hxj : xs[j]? = some (xs.getD j 0) := by simp [hlt]
        generalize xs.getD j 0 = x at *
        have hxjh := Lib.hid hxj
        have hcl := hown.cellk (j := j) (by omega)
        have hyj : ys.getD j 0 = x := by rw [List.getD_eq_getElem?_getD, hDh.out.at_ hxj]; rfl
        rw [hyj] at hcl
        have hSx := hSh.out x (List.mem_of_getElem? hxj)
        clear hxj hyj
        cases hp : p x
        · have hP := Lib.hid hp; clear hp
          have hownh := Lib.hid hown
          go_wp2_with (first | (refine (hR.out wr H x (PH.le_refl H) hs hSx).mono ?_; rintro e w5 ⟨rfl, hB5⟩; rw [hP.out]; have hown5 := hownh.out.below hB5; have hc5 := hown5.cellk (j := i) (by omega); have hf5 := hown5.free i; clear hcl))
          go_roundw
          case rel =>
            have hse : (ys.set i x).length = xs.length := by simp [hyl]
            refine ⟨i + 1, j + 1, ys.set i x, by go_num, by go_num, by omega, by omega, ?_, hDh.out.keep hxjh.out hP.out, ?_, ?_⟩
            · rw [← hyl] at hown5 ⊢
              exact hown5.set (by omega) x
            · exact (hg2.trans (grown_below hB5 _)).trans (grown_set (grown_refl _ _))
            · exact (hs.below hB5).grownR (row := some g) (grown_set (grown_refl _ _)) (fun k hk => by injection hk with hk; subst hk; exact hHg)
          case measure => simp [intOf]; omega
        · have hP := Lib.hid hp; clear hp
          go_wp2_with (first | (refine (hR.out wr H x (PH.le_refl H) hs hSx).mono ?_; rintro e w5 ⟨rfl, hB5⟩; rw [hP.out]))
          go_roundw
          case rel => exact ⟨i, j + 1, ys, rfl, by go_num, by omega, by omega, hown.below hB5, hDh.out.skip hxjh.out hP.out, hg2.trans (grown_below hB5 _), hs.below hB5⟩
          case measure => simp [intOf]; omega
      · obtain rfl : j = xs.length := by omega
        have hcut := hown.cut (k := i) (by omega)
        rw [hDh.out.low, List.take_length, ← hesh.out] at hcut
        have hcuth := Lib.hid hcut
        clear hcut
        have hlt' : ¬ (xs.length : Int) < xs.length := by omega
        have hci : ¬ cap = i := by omega
        have hown0 := hown
        rw [← hyl] at hown0
        obtain ⟨zs, hz1, hz2, hz3, hz4⟩ := hown0.setAll (i := i) (m := xs.length - i) (by omega)
        rw [hyl] at hz1 hz2
        have hcutz := hz1.cut (k := i) (by omega)
        rw [hz3, hDh.out.low, List.take_length, ← hesh.out] at hcutz
        have hclr := Go.Lib.run_clear_slice wr 28 3 0 (.int .i64 0) Tryz.underlying28 (fun _ => by kernel_rfl) rfl rfl g i (xs.length - i) (cap - i) (by omega) (fun j hj => by rw [hown.cellk (j := i + j) (by omega)]; rfl) (fun j hj => hown.free _)
        have hczh := Lib.hid hcutz
        clear hcutz hz1 hz2 hz3 hown0 hown
        generalize wr.setCells g i (List.replicate (xs.length - i) (.int .i64 0)) = w8 at *
        go_wp2
        go_ret
        exact ⟨⟨_, rfl, hczh.out, rfl⟩, hg2.trans hz4⟩
end Go.Proofs.YtififjlgjmgikaaGreat
