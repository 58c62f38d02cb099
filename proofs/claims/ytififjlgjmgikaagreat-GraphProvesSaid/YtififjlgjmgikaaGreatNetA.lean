/- The net's nodes as slices; net.source, net.links. A queue of nodes; slices.Clone and graph.walk at nodes. -/
import Derived.Test.YtififjlgjmgikaaGreatNetK
namespace Go.Proofs.YtififjlgjmgikaaGreat
set_option linter.all false
open Go.RowKit

def rNd : Rp Nd where
  sz := 2
  R := fun _ cs a => cs = [.int .i64 a.1, .bool a.2] ∧ I64 a.1
  len := fun h => by rw [h.1]; rfl
  mono := fun _ h => h
abbrev ndO (y : Nd) : Obj := .cells #[.int .i64 y.1, .bool y.2] 166
theorem SlV.nds {H : PH} {v : Value} {xs : List Nd} (h : SlV rNd H v xs) (hne : 0 < xs.length) :
    ∃ b off cap, v = .slice (some ⟨b, off, none⟩) xs.length cap ∧ xs.length ≤ cap ∧ H b ≠ none ∧
      (∀ w, Sees w H → ∀ i, i < xs.length → w.cell? ⟨b, off + i * 2, none⟩ = some (.int .i64 (xs.getD i (0, false)).1) ∧ w.cell? ⟨b, off + i * 2 + 1, none⟩ = some (.bool (xs.getD i (0, false)).2)) ∧ (∀ x ∈ xs, I64 x.1) := by
  obtain ⟨b, off, cap, rfl, hc, hb, he⟩ := h.base hne
  refine ⟨b, off, cap, rfl, hc, hb, fun w hw i hi => ?_, fun x hx => ?_⟩
  · obtain ⟨cs, ⟨rfl, _⟩, hcell⟩ := he i xs[i] (by simp [hi])
    have h0 := hcell w hw 0 _ rfl
    have h1 := hcell w hw 1 _ rfl
    simpa [rNd, hi] using ⟨h0, h1⟩
  · obtain ⟨i, hi⟩ := List.getElem?_of_mem hx
    obtain ⟨cs, ⟨rfl, h2⟩, _⟩ := he i x hi
    exact h2
theorem infoNd : (Tryz.prog.info? 166).map (fun i => (i.zero, i.size, i.bytes)) = some (some (.agg #[.int .i64 0, .bool false]), 2, 16) := by kernel_rfl
theorem wpL_appN {ops : Array Oper} {rest : List Oper} {o : Oper} {a : Act} {Q : Exit → Act → World → Prop} {H : PH} {w wr : World} (hgd : o.guard = none) (s x : Operand)
    (ho : o.op = .call { callee := .builtin .append, args := #[s, x], argTypes := #[168, 168] }) (v : Value) (xs : List Nd) (hs : a.eval s = v) (hown : OwnL rNd 166 H w wr v xs)
    (n c : Nat) (y : Nd) (hx : a.eval x = .slice (some ⟨n, 0, none⟩) 1 c) (hb : wr.heap[n]? = some (ndO y)) (hI : I64 y.1) (hn : xs.length ≤ 1000000) (hbase : w.heap.size ≤ wr.heap.size)
    (h : ∀ v' w', OwnL rNd 166 H w w' v' (xs ++ [y]) → wr.grownBy w' v.ownBlock → (v'.ownBlock = v.ownBlock ∨ v'.ownBlock = some wr.heap.size) → wpList Tryz.prog ops Q rest (a.put o.dst v') w') :
    wpList Tryz.prog ops Q (o :: rest) a wr :=
  wpL_appL rNd 168 166 (.agg #[.int .i64 0, .bool false]) 16 Tryz.underlying168 infoNd rfl (by decide) (by decide) hgd s x ho v xs hs hown n c [.int .i64 y.1, .bool y.2] hx
    (fun j u hj => by rw [cell_blk hb]; simpa using hj) (fun u hu => by simp at hu; rcases hu with rfl | rfl <;> rfl) y ⟨rfl, hI⟩ (by omega) hbase h
def addH (H : PH) (b : Nat) (o : Obj) : PH := fun j => if j = b then some o else H j
theorem addH.le {H : PH} {b : Nat} {o : Obj} (h : H b = none) : PH.le H (addH H b o) := by
  intro i o' e
  unfold addH
  rw [if_neg (by rintro rfl; rw [h] at e; cases e)]
  exact e
theorem addH.sees {H : PH} {b : Nat} {o : Obj} {w : World} (hw : Sees w H) (hb : w.heap[b]? = some o) : Sees w (addH H b o) := by
  intro i o' e
  unfold addH at e
  split at e
  · rename_i h; subst h; cases e; exact hb
  · exact hw i o' e
theorem addH.at {H : PH} {b : Nat} {o : Obj} : addH H b o b = some o := by unfold addH; rw [if_pos rfl]
theorem addH.ne {H : PH} {b j : Nat} {o : Obj} (h : j ≠ b) : addH H b o j = H j := by unfold addH; rw [if_neg h]
abbrev netO (fv : Value) (i b : Int) (bu : Nat) : Obj := .cells #[fv, .int .i64 i, .int .i64 b, .map (some bu)] 143
theorem box4 {w : World} {b : Nat} {s0 s1 s2 s3 : Value} {T : TypeId} (h : w.heap[b]? = some (.cells #[s0, s1, s2, s3] T (0, 0))) :
    w.cell? ⟨b, 0, none⟩ = some s0 ∧ w.cell? ⟨b, 1, none⟩ = some s1 ∧ w.cell? ⟨b, 2, none⟩ = some s2 ∧ w.cell? ⟨b, 3, none⟩ = some s3 :=
  ⟨cell_blk h 0, cell_blk h 1, cell_blk h 2, cell_blk h 3⟩
theorem box2 {w : World} {b : Nat} {s0 s1 : Value} {T : TypeId} (h : w.heap[b]? = some (.cells #[s0, s1] T (0, 0))) :
    w.cell? ⟨b, 0, none⟩ = some s0 ∧ w.cell? ⟨b, 1, none⟩ = some s1 := ⟨cell_blk h 0, cell_blk h 1⟩
set_option maxHeartbeats 1000000 in
set_option maxRecDepth 100000 in
theorem net_source (H : PH) (bn bu : Nat) (fv : Value) (i b : Int) (w : World) (hw : Sees w H) (hN : H bn = some (netO fv i b bu)) :
    Calls Tryz.prog 131 #[.pointer (some ⟨bn, 0, none⟩)] w fun e w' => e = .returned (nd (i, true)) ∧ Below w.heap.size w w' := by
  have q := box4 (hw _ _ hN)
  have lq := hw.lt hN
  unfold nd
  go_enter Tryz.func131, Tryz.ntmps131
  go_wp2
  refine ⟨rfl, _, results_cell_row (P := Tryz.prog) rfl _ _ w.heap.size 166 #[.int .i64 i, .bool true] (0, 0) (.struct (Tryz.prog.fieldsOf 166)) rfl (ga_new _ _) (by kernel_rfl) rfl (by kernel_rfl), rfl, (Below.refl _ _).alloc (Nat.le_refl _) _⟩
def NdRes (H : PH) (w w' : World) (xs : List Nd) (e : Ending) : Prop := ∃ v, e = .returned v ∧ SlV rNd (extH H w w') v xs
theorem map_take_succ {α : Type} {es : List Int} {g : Int → α} {k : Nat} (hk : k < es.length) : (es.take (k + 1)).map g = (es.take k).map g ++ [g (es.getD k 0)] := by
  rw [List.take_add_one, List.map_append, List.getElem?_eq_getElem hk]
  simp [List.getD_eq_getElem?_getD, List.getElem?_eq_getElem hk]
theorem getD_mem {es : List Int} {k : Nat} (hk : k < es.length) : es.getD k 0 ∈ es := by
  rw [List.getD_eq_getElem?_getD, List.getElem?_eq_getElem hk]
  exact List.getElem_mem _
set_option maxHeartbeats 2000000 in
set_option maxRecDepth 100000 in
theorem net_links (H : PH) (bn bu : Nat) (fv : Value) (f : FlowD) (i b : Int) (x : Nd) (w : World) (hw : Sees w H) (hN : H bn = some (netO fv i b bu)) (hf : FlowV H fv f) (hx : x.1 < f.blocks.length) (hx0 : I64 x.1) :
    Calls Tryz.prog 133 #[.pointer (some ⟨bn, 0, none⟩), nd x] w fun e w' => NdRes H w w' (linksL f i x) e ∧ Below w.heap.size w w' := by
  obtain ⟨x1, x2⟩ := x
  simp only at hx hx0
  obtain ⟨W, hW⟩ : ∃ W, W = w.alloc (ndO (x1, x2)) := ⟨_, rfl⟩
  have hB0 : Below w.heap.size w W := by rw [hW]; exact (Below.refl _ _).alloc (Nat.le_refl _) _
  have hx3 : W.heap[w.heap.size]? = some (ndO (x1, x2)) := by rw [hW]; exact ga_new _ _
  have hzW : w.heap.size < W.heap.size := (Array.getElem?_eq_some_iff.1 hx3).1
  have hsW := hw.below hB0
  have q := box4 (hsW _ _ hN)
  have lq := hsW.lt hN
  have p := box2 hx3
  unfold nd
  simp only at hW p
  by_cases h1 : x1 < 0
  · have hlk : linksL f i (x1, x2) = (entriesB f (-1)).map fun y => (y, false) := by unfold linksL; rw [if_pos h1]
    have hE := flow_entries H fv f (-1) W hsW hf
    have hE1 : ∀ y ∈ entriesB f (-1), 0 ≤ y ∧ y < f.blocks.length := fun y hy => entriesB_range hy
    have hE2 : (entriesB f (-1)).length ≤ f.blocks.length := by unfold entriesB; exact entriesK_len
    have hle : f.blocks.length ≤ 20000 := by obtain ⟨_, _, _, _, _, _, _, _, h⟩ := hf; exact h.le
    have hd1 : decide (x1 < 0) = true := by simp [h1]
    rw [hlk]
    generalize entriesB f (-1) = es at *
    have hE1h := Lib.hid hE1
    clear hlk hf hN hE1
    go_enter Tryz.func133, Tryz.ntmps133
    go_upto_region 1 with fail
    refine wp_name fun W1 hW1 => ?_
    rw [← hW] at hW1
    subst hW1
    clear hW
    go_wp2_with (go_at_call 96; refine hE.mono ?_; rintro e w1 ⟨⟨v1, rfl, hown⟩, hB1⟩; have hr1 : SlV rInt (extH H W1 w1) v1 es := hown.read (fun y hy => by have := hE1h.out y hy; unfold I64; omega) (by unfold maxN; omega); have hs1 := extH.sees hsW hB1; obtain ⟨A1, cap1, rfl, -⟩ := hown.len_form)
    have hz1 := hB1.size
    have hBw1 := bstep hB0 hB1
    have hsw1 := hs1
    clear hE q p hx3 hown hB1 lq hsW hB0
    go_loopw [5, 49] (fun o j wr => ∃ k : Nat, k ≤ es.length ∧ j = .int .i64 k ∧ OwnL rNd 166 H w1 wr o ((es.take k).map fun y => (y, false)) ∧ Below w1.heap.size w1 wr) (fun _ j _ => es.length - (intOf j).toNat)
    case atStart => exact ⟨0, Nat.zero_le _, rfl, OwnL.nil _ _ _ _ _, Below.refl _ _⟩
    case round =>
      obtain ⟨k, hk, rfl, hown, hB⟩ := hrel
      have hs := hs1.below hB
      have hzr := hB.size
      by_cases hlt : k < es.length
      · obtain ⟨be, oe, ce, ee, -, hbe, hce, -⟩ := hr1.ints (by omega)
        cases ee
        have pe := hce wr hs k hlt
        have le := hs.lt' hbe
        have hy := hE1h.out _ (getD_mem hlt)
        have hst := Lib.hid (map_take_succ (g := fun y : Int => ((y, false) : Nd)) hlt)
        have hln := Lib.hid (show ((es.take k).map fun y => ((y, false) : Nd)).length ≤ 20000 by rw [List.length_map, List.length_take]; omega)
        generalize (es.take k).map (fun y => ((y, false) : Nd)) = ys at *
        generalize es.getD k 0 = y at *
        clear hce
        go_wp2_with (at_builtin; go_loud (refine wpL_appN (H := H) (w := w1) rfl _ _ rfl _ ys rfl (hown.below ((Below.refl _ _).alloc (Nat.le_refl _) _)) wr.heap.size 1 (y, false) rfl (ga_new _ _) (by unfold I64; omega) (by have := hln.out; omega) (by simp; omega) ?_); intro v2 w2 hown2 hg2 _)
        go_roundw
        case rel => exact ⟨k + 1, by omega, by go_num, by rw [hst.out]; exact hown2, (hB.alloc hzr _).grown hg2 (by simp; omega) fun j hj => (hown.lt hj).1⟩
        case measure => simp [intOf]; omega
      · obtain rfl : k = es.length := by omega
        have hlt' : ¬ (es.length : Int) < es.length := by omega
        rw [List.take_length] at hown
        go_wp2
        go_ret
        exact ⟨⟨_, rfl, (hown.read (by rw [List.length_map]; unfold maxN; omega)).mono (extH.lower hw (by have := hBw1.size; omega))⟩, bstep hBw1 hB⟩
  · have hd1 : decide (x1 < 0) = false := by simp [h1]
    cases x2
    · have hlk : linksL f i (x1, false) = [(x1, true)] := by unfold linksL; rw [if_neg h1, if_pos rfl]
      rw [hlk]
      clear hlk hf hN
      go_enter Tryz.func133, Tryz.ntmps133
      go_upto_region 1 with fail
      refine wp_name fun W1 hW1 => ?_
      rw [← hW] at hW1
      subst hW1
      clear hW
      go_wp2_with (at_builtin; go_loud (refine wpL_appN (H := H) (w := w) rfl _ _ rfl _ [] rfl (OwnL.nil _ _ _ _ _) W1.heap.size 1 (x1, true) rfl (ga_new _ _) hx0 (by decide) (by simp; omega) ?_); intro v2 w2 hown2 hg2 _)
      go_ret
      exact ⟨⟨_, rfl, hown2.read (by simp [maxN])⟩, (hB0.alloc (by omega) _).grown hg2 (by simp; omega) (fun j hj => by cases hj)⟩
    · obtain ⟨a, rfl⟩ : ∃ a : Nat, x1 = (a : Int) := ⟨x1.toNat, by omega⟩
      have hlk : linksL f i ((a : Int), true) = ((nxB f a).filter fun y => decide (y ≠ i)).map fun y => (y, false) := by unfold linksL; rw [if_neg h1, if_neg (by simp)]
      rw [hlk]
      obtain ⟨b5, s0, s1, s2, s3, m, rfl, hb5, hf⟩ := hf
      have hal : a < f.blocks.length := by omega
      have hle := hf.le
      have hnl := hf.nlen (f.blocks.getD a default) (by rw [List.getD_eq_getElem?_getD, List.getElem?_eq_getElem hal]; exact List.getElem_mem _)
      have hnr := hf.next (f.blocks.getD a default) (by rw [List.getD_eq_getElem?_getD, List.getElem?_eq_getElem hal]; exact List.getElem_mem _)
      obtain ⟨bb, ob, cb, rfl, -, hbb, hcb, -⟩ := hf.blocks.blocks (by omega)
      obtain ⟨u, hu, hcu⟩ := hcb a hal
      have r2 := (hcu W hsW).2.2
      have lb := hsW.lt' hbb
      have q5 := box5 (hsW _ _ hb5)
      have l5 := hsW.lt hb5
      have hnx : nxB f a = (f.blocks.getD a default).next := by unfold nxB; rw [Int.toNat_natCast]
      rw [hnx]
      obtain ⟨RR, hRR⟩ : ∃ RR, RR = ((f.blocks.getD a default).next.filter fun y => decide (y ≠ i)).map fun y => ((y, false) : Nd) := ⟨_, rfl⟩
      rw [← hRR]
      have hRRh := Lib.hid hRR
      clear hRR
      clear hlk hf hN hcb hcu hb5 hbb hnx
      generalize (f.blocks.getD a default).next = es at *
      have hul := hu.le
      have hu' := hu
      obtain ⟨Au, cu, rfl, -, -⟩ := hu'
      have hnrh := Lib.hid hnr
      clear hnr
      go_enter Tryz.func133, Tryz.ntmps133
      go_upto_region 1 with fail
      refine wp_name fun W1 hW1 => ?_
      rw [← hW] at hW1
      subst hW1
      clear hW
      go_upto_region 2 with fail
      go_quiet (fail)
      go_wp2_with fail
      clear p q5 l5 r2 lb hx3 lq
      have q1 := q.2.1
      clear q
      have hN1 := Lib.hid (fun (w' : World) (hB : Below W1.heap.size W1 w') => (hB.cell (p := ⟨bn, 1, none⟩) (World.block_lt_of_cell? W1 _ q1)).trans q1)
      have lq := World.block_lt_of_cell? W1 _ q1
      simp only at lq
      clear q1
      go_loopw [5, 23] (fun o j wr => ∃ k : Nat, k ≤ es.length ∧ j = .int .i64 k ∧ OwnL rNd 166 H W1 wr o (((es.take k).filter fun y => decide (y ≠ i)).map fun y => (y, false)) ∧ Below W1.heap.size W1 wr) (fun _ j _ => es.length - (intOf j).toNat)
      case atStart => exact ⟨0, Nat.zero_le _, rfl, OwnL.nil _ _ _ _ _, ⟨rfl, rfl, rfl, Nat.le_refl _, fun _ _ => rfl⟩⟩
      case round =>
        obtain ⟨k, hk, rfl, hown, hB⟩ := hrel
        have hs := hsW.below hB
        have hzr := hB.size
        have q1 := hN1.out wr hB
        have lq1 : bn < wr.heap.size := by omega
        by_cases hlt : k < es.length
        · obtain ⟨be, oe, ce, ee, -, hbe, hce, -⟩ := hu.ints (by omega)
          cases ee
          have pe := hce wr hs k hlt
          have le := hs.lt' hbe
          have hy := hnrh.out _ (getD_mem hlt)
          have hst : (es.take (k + 1)).filter (fun y => decide (y ≠ i)) = (es.take k).filter (fun y => decide (y ≠ i)) ++ (if es.getD k 0 = i then [] else [es.getD k 0]) := by
            have := map_take_succ (es := es) (g := fun y : Int => y) hlt
            simp only [List.map_id'] at this
            rw [this, List.filter_append]
            congr 1
            generalize es.getD k 0 = y
            by_cases e : y = i <;> simp [e]
          have hln := Lib.hid (show (((es.take k).filter fun y => decide (y ≠ i)).map fun y => ((y, false) : Nd)).length ≤ 20000 by rw [List.length_map]; exact Nat.le_trans (List.length_filter_le _ _) (by rw [List.length_take]; omega))
          have hsth := Lib.hid hst
          clear hst
          generalize (es.take k).filter (fun y => decide (y ≠ i)) = ys at *
          generalize es.getD k 0 = y at *
          clear hce
          by_cases hyi : y = i
          · have hst2 := hsth.out
            rw [if_pos hyi, List.append_nil] at hst2
            have hsth2 := Lib.hid hst2
            have hb1 : (y != i) = false := by simp [hyi]
            clear hst2 hyi hsth
            go_wp2
            go_roundw
            case rel => exact ⟨k + 1, by omega, by go_num, by rw [hsth2.out]; exact hown, hB⟩
            case measure => simp [intOf]; omega
          · have hst2 := hsth.out
            rw [if_neg hyi] at hst2
            have hsth2 := Lib.hid hst2
            have hb1 : (y != i) = true := by simp [hyi]
            clear hst2 hyi hsth
            go_wp2_with (at_builtin; go_loud (refine wpL_appN (H := H) (w := W1) rfl _ _ rfl _ (ys.map fun y => (y, false)) rfl (hown.below ((Below.refl _ _).alloc (Nat.le_refl _) _)) wr.heap.size 1 (y, false) rfl (ga_new _ _) (by unfold I64; omega) (by have := hln.out; omega) (by simp; omega) ?_); intro v2 w2 hown2 hg2 _)
            go_roundw
            case rel => exact ⟨k + 1, by omega, by go_num, by rw [hsth2.out, List.map_append]; exact hown2, (hB.alloc hzr _).grown hg2 (by simp; omega) fun j hj => (hown.lt hj).1⟩
            case measure => simp [intOf]; omega
        · obtain rfl : k = es.length := by omega
          have hlt' : ¬ (es.length : Int) < es.length := by omega
          rw [List.take_length] at hown
          rw [← hRRh.out] at hown
          have hfin := (hown.read (by rw [hRRh.out, List.length_map]; exact Nat.le_trans (List.length_filter_le _ _) (by unfold maxN; omega))).mono (extH.lower hw (by have := hB0.size; omega))
          go_wp2
          go_ret
          exact ⟨⟨_, rfl, hfin⟩, bstep hB0 hB⟩
end Go.Proofs.YtififjlgjmgikaaGreat
namespace Go.Proofs.YtififjlgjmgikaaGreat
set_option linter.all false
open Go.RowKit

def ndCells (xs : List Nd) : List Value := xs.flatMap fun x => [.int .i64 x.1, .bool x.2]
theorem ndCells_len (xs : List Nd) : (ndCells xs).length = xs.length * 2 := by
  induction xs with
  | nil => rfl
  | cons x xs ih => simp only [ndCells, List.flatMap_cons, List.length_append, List.length_cons, List.length_nil] at ih ⊢; omega
theorem ndCells_of : ∀ (xs : List Nd) (cells : List Value), cells.length = xs.length * 2 → (∀ i x, xs[i]? = some x → (cells.drop (i * 2)).take 2 = [.int .i64 x.1, .bool x.2]) → cells = ndCells xs := by
  intro xs
  induction xs with
  | nil => intro cells hl _; exact List.eq_nil_of_length_eq_zero (by simpa using hl)
  | cons x xs ih =>
    intro cells hl h
    have h0 := h 0 x rfl
    have h1 := ih (cells.drop 2) (by rw [List.length_drop, hl]; simp; omega) fun i y hy => by
      have := h (i + 1) y (by simpa using hy)
      rw [List.drop_drop, show 2 + i * 2 = (i + 1) * 2 by omega]
      exact this
    rw [Nat.zero_mul, List.drop_zero] at h0
    have h2 := List.take_append_drop 2 cells
    rw [h0, h1] at h2
    rw [← h2]
    rfl
def QueN (w : World) (base : Nat) (v : Value) (xs : List Nd) : Prop :=
  (v = .slice none 0 0 ∧ xs = []) ∨ ∃ g off cap cur, v = .slice (some ⟨g, off, none⟩) xs.length cap ∧ base ≤ g ∧ w.heap[g]? = some (.cells cur 166 (0, 0)) ∧ xs.length ≤ cap ∧ cap ≤ maxLen ∧
    (cap = 0 ∨ cur.size = off + cap * 2) ∧ ∀ j u, (ndCells xs)[j]? = some u → cur[off + j]? = some u
theorem QueN.of_own {H : PH} {w wr : World} {v : Value} {xs : List Nd} (h : OwnL rNd 166 H w wr v xs) : QueN wr w.heap.size v xs := by
  obtain ⟨cells, h, hR⟩ := h
  rcases h.2 with ⟨e, h0⟩ | ⟨g, cap, cur, rfl, h2, h3, h4, h5, h6, h7⟩
  · exact .inl ⟨e, List.eq_nil_of_length_eq_zero h0⟩
  · have hc : cells = ndCells xs := ndCells_of xs cells h.1 fun i x hi => (hR i x hi).1
    refine .inr ⟨g, 0, cap, cur, rfl, h2, h3, h4, h5, .inr (by rw [Nat.zero_add]; exact h6), fun j u hj => ?_⟩
    have hjl := (List.getElem?_eq_some_iff.1 hj).1
    rw [ndCells_len] at hjl
    have h7' : cur.toList.take (xs.length * 2) = cells := h7
    rw [← hc, ← h7', List.getElem?_take, if_pos hjl, Array.getElem?_toList] at hj
    rw [Nat.zero_add]
    exact hj
theorem QueN.lt {w : World} {base : Nat} {v : Value} {xs : List Nd} (h : QueN w base v xs) {k : Nat} (hk : v.ownBlock = some k) : base ≤ k ∧ k < w.heap.size := by
  rcases h with ⟨rfl, _⟩ | ⟨g, off, cap, cur, rfl, h2, h3, _⟩
  · cases hk
  · cases hk; exact ⟨h2, (Array.getElem?_eq_some_iff.1 h3).1⟩
theorem QueN.of_block {w w1 : World} {base : Nat} {v : Value} {xs : List Nd} (h : QueN w base v xs) (hb : ∀ k, v.ownBlock = some k → w1.heap[k]? = w.heap[k]?) : QueN w1 base v xs := by
  rcases h with h | ⟨g, off, cap, cur, rfl, h2, h3, h4⟩
  · exact .inl h
  · exact .inr ⟨g, off, cap, cur, rfl, h2, (hb g rfl).trans h3, h4⟩
theorem QueN.below {w w1 : World} {base : Nat} {v : Value} {xs : List Nd} (h : QueN w base v xs) (hb : Below w.heap.size w w1) : QueN w1 base v xs := h.of_block fun k hk => hb.block k (h.lt hk).2
theorem QueN.al {w : World} {base : Nat} {v : Value} {xs : List Nd} (h : QueN w base v xs) (o : Obj) : QueN (w.alloc o) base v xs := h.below ((Below.refl _ _).alloc (Nat.le_refl _) _)
theorem QueN.lower {w : World} {base base' : Nat} {v : Value} {xs : List Nd} (h : QueN w base v xs) (hb : base' ≤ base) : QueN w base' v xs := by
  rcases h with h | ⟨g, off, cap, cur, rfl, h2, h3, h4⟩
  · exact .inl h
  · exact .inr ⟨g, off, cap, cur, rfl, by omega, h3, h4⟩
theorem QueN.len_form {w : World} {base : Nat} {v : Value} {xs : List Nd} (h : QueN w base v xs) : ∃ A cap, v = .slice A xs.length cap := by
  rcases h with ⟨e, rfl⟩ | ⟨g, off, cap, cur, rfl, _⟩
  · exact ⟨none, 0, e⟩
  · exact ⟨_, _, rfl⟩
theorem QueN.pop {w : World} {base : Nat} {v : Value} {x : Nd} {xs : List Nd} (h : QueN w base v (x :: xs)) :
    ∃ g off cap, v = .slice (some ⟨g, off, none⟩) (xs.length + 1) cap ∧ xs.length + 1 ≤ cap ∧ g < w.heap.size ∧ w.cell? ⟨g, off, none⟩ = some (.int .i64 x.1) ∧ w.cell? ⟨g, off + 1, none⟩ = some (.bool x.2) ∧
      QueN w base (.slice (some ⟨g, if cap = 1 then off else off + 2, none⟩) xs.length (cap - 1)) xs := by
  rcases h with ⟨_, e⟩ | ⟨g, off, cap, cur, rfl, h2, h3, h4, h5, h6, h7⟩
  · cases e
  · simp only [List.length_cons] at h4 ⊢
    refine ⟨g, off, cap, rfl, h4, (Array.getElem?_eq_some_iff.1 h3).1, ?_, ?_, .inr ⟨g, _, cap - 1, cur, rfl, h2, h3, by omega, by omega, ?_, fun j y hj => ?_⟩⟩
    · rw [cell_blk h3]
      have := h7 0 (.int .i64 x.1) rfl
      simpa using this
    · rw [cell_blk h3]
      exact h7 1 (.bool x.2) rfl
    · by_cases e : cap = 1
      · exact .inl (by omega)
      · rw [if_neg e]
        exact .inr (by omega)
    · have hjl := (List.getElem?_eq_some_iff.1 hj).1
      rw [ndCells_len] at hjl
      rw [if_neg (by omega)]
      have := h7 (j + 2) y (by simpa [ndCells] using hj)
      rw [show off + 2 + j = off + (j + 2) by omega]
      exact this
theorem set2 (w : World) (b i : Nat) (x y : Value) : w.setCells b i [x, y] = (w.setCell ⟨b, i, none⟩ x).setCell ⟨b, i + 1, none⟩ y := by
  simp [World.setCells]
theorem wpL_queAppN {ops : Array Oper} {rest : List Oper} {o : Oper} {a : Act} {Q : Exit → Act → World → Prop} {w : World} (hgd : o.guard = none) (s x : Operand)
    (ho : o.op = .call { callee := .builtin .append, args := #[s, x], argTypes := #[168, 168] }) (base : Nat) (v : Value) (xs : List Nd) (y : Nd) (hs : a.eval s = v) (hq : QueN w base v xs)
    (n : Nat) (c : Nat) (hx : a.eval x = .slice (some ⟨n, 0, none⟩) 1 c) (hy : w.heap[n]? = some (ndO y)) (hn : xs.length ≤ 1000000) (hbase : base ≤ w.heap.size)
    (h : ∀ v' w', QueN w' base v' (xs ++ [y]) → w.grownBy w' v.ownBlock → (∀ k, v'.ownBlock = some k → v.ownBlock = some k ∨ w.heap.size ≤ k) → wpList Tryz.prog ops Q rest (a.put o.dst v') w') :
    wpList Tryz.prog ops Q (o :: rest) a w := by
  rcases hq with ⟨rfl, rfl⟩ | ⟨g, off, cap, cur, rfl, h2, h3, h4, h5, h6, h7⟩
  · have hown : OwnL rNd 166 (fun _ => none) w w (.slice none 0 0) [] := OwnL.nil _ _ _ _ _
    obtain ⟨i0, hi, hz0, hz1, hz2⟩ := info_parts infoNd
    refine wpList_append_own_at w hgd s x 168 ho w.heap.size 166 i0 _ 2 16 Tryz.underlying168 hi hz0 hz1 hz2 rfl (by decide) (.slice none 0 0) 0 [] hs ⟨rfl, .inl ⟨rfl, rfl⟩⟩ ⟨n, 0, none⟩ 1 c [.int .i64 y.1, .bool y.2] hx rfl ?_ ?_ (by unfold maxLen; omega) (by omega) (Nat.le_refl _) ?_
    · intro j u hj
      rw [Addr.add_lit, Nat.zero_add, cell_blk hy]
      simpa using hj
    · intro u hu; simp at hu; rcases hu with rfl | rfl <;> rfl
    · intro v' w' k1 k2 _ k4
      have k5 : OwnL rNd 166 (fun _ => none) w w' v' [y] → QueN w' base v' ([] ++ [y]) := fun k => (QueN.of_own k).lower hbase
      refine h v' w' ?_ k2 ?_
      · rcases k1.2 with ⟨_, e0⟩ | ⟨g, cap, cur, rfl, e2, e3, e4, e5, e6, e7⟩
        · cases e0
        · refine .inr ⟨g, 0, cap, cur, rfl, by omega, e3, e4, e5, .inr (by rw [Nat.zero_add]; exact e6), fun j u hj => ?_⟩
          have hjl := (List.getElem?_eq_some_iff.1 hj).1
          rw [ndCells_len] at hjl
          have e7' : cur.toList.take (1 * 2) = ndCells [y] := e7
          rw [List.nil_append] at hj hjl
          simp only [List.length_singleton] at hjl
          rw [← e7', List.getElem?_take, if_pos (by omega), Array.getElem?_toList] at hj
          rw [Nat.zero_add]
          exact hj
      · intro k hk
        rcases k4 with k4 | k4
        · rw [k4] at hk; exact .inl hk
        · rw [k4] at hk; injection hk with hk; right; omega
  · obtain ⟨i0, hi, hz0, hz1, hz2⟩ := info_parts infoNd
    have hgl := (Array.getElem?_eq_some_iff.1 h3).1
    have hcl := ndCells_len xs
    have happ : ndCells xs ++ [.int .i64 y.1, .bool y.2] = ndCells (xs ++ [y]) := by simp [ndCells]
    refine wpList_append_arg w hgd s x 168 ho 166 i0 _ 2 16 Tryz.underlying168 hi hz0 hz1 hz2 rfl (by decide) g off xs.length cap (ndCells xs) hs hcl ?_ ⟨n, 0, none⟩ 1 c [.int .i64 y.1, .bool y.2] hx rfl ?_ ?_ ?_ (by unfold maxLen; omega) (by omega) ?_ ?_
    · intro j u hj
      rw [cell_blk h3]
      exact h7 j u hj
    · intro j u hj
      rw [Addr.add_lit, Nat.zero_add, cell_blk hy]
      simpa using hj
    · intro u hu; simp at hu; rcases hu with rfl | rfl <;> rfl
    · intro hr j hj
      have hc : cur.size = off + cap * 2 := h6.resolve_left (by omega)
      simp at hj
      refine ⟨?_, by simp [World.frozen?, h3]⟩
      rw [cell_blk h3]
      simp
      omega
    · intro hr
      have hc : cur.size = off + cap * 2 := h6.resolve_left (by omega)
      rw [set2]
      refine h _ _ (.inr ⟨g, off, cap, (cur.setIfInBounds (off + xs.length * 2) (.int .i64 y.1)).setIfInBounds (off + xs.length * 2 + 1) (.bool y.2), by simp, h2, set_blk (set_blk h3 _) _, by simp; omega, h5, .inr (by simpa using hc), fun j z hj => ?_⟩) (grow_set (grow_set (grown_refl _ _) (.inr rfl)) (.inr rfl)) (fun k hk => .inl hk)
      rw [← happ] at hj
      by_cases ej : j < xs.length * 2
      · rw [List.getElem?_append_left (by omega)] at hj
        rw [Array.getElem?_setIfInBounds, if_neg (by omega), Array.getElem?_setIfInBounds, if_neg (by omega)]
        exact h7 j z hj
      · rw [List.getElem?_append_right (by omega), hcl] at hj
        have hjl := (List.getElem?_eq_some_iff.1 hj).1
        simp at hjl
        by_cases e0 : j = xs.length * 2
        · subst e0
          rw [Nat.sub_self] at hj
          cases hj
          rw [Array.getElem?_setIfInBounds, if_neg (by omega), Array.getElem?_setIfInBounds, if_pos rfl, if_pos (by omega)]
        · obtain rfl : j = xs.length * 2 + 1 := by omega
          rw [show xs.length * 2 + 1 - xs.length * 2 = 1 by omega] at hj
          cases hj
          rw [Array.getElem?_setIfInBounds, if_pos (by omega), if_pos (by simp; omega)]
    · intro hr v' w' hown hg
      have hown2 : QueN w' w.heap.size v' (xs ++ [y]) := by
        rcases hown.2 with ⟨_, e0⟩ | ⟨g', cap', cur', rfl, e2, e3, e4, e5, e6, e7⟩
        · omega
        · refine .inr ⟨g', 0, cap', cur', by simp, e2, e3, by simpa using e4, e5, .inr (by rw [Nat.zero_add]; exact e6), fun j u hj => ?_⟩
          have hjl := (List.getElem?_eq_some_iff.1 hj).1
          rw [ndCells_len, List.length_append, List.length_singleton] at hjl
          have e7' : cur'.toList.take ((xs.length + 1) * 2) = ndCells xs ++ [.int .i64 y.1, .bool y.2] := e7
          rw [← happ, ← e7', List.getElem?_take, if_pos (by omega), Array.getElem?_toList] at hj
          rw [Nat.zero_add]
          exact hj
      refine h v' w' (hown2.lower hbase) ⟨hg.os, hg.tape, hg.output, hg.size, fun k hk _ => hg.block k hk (by simp)⟩ ?_
      exact fun k hk => .inr (hown2.lt hk).1

set_option maxHeartbeats 1000000 in
set_option maxRecDepth 100000 in
theorem clone_nd (n0 : Nat) (s : Nd) (w : World) (h0 : w.heap[n0]? = some (ndO s)) (hI : I64 s.1) :
    Calls Tryz.prog 167 #[.slice (some ⟨n0, 0, none⟩) 1 1] w fun e w' => (∃ v, e = .returned v ∧ QueN w' w.heap.size v [s]) ∧ Below w.heap.size w w' := by
  have hlt := (Array.getElem?_eq_some_iff.1 h0).1
  have hnil := @Lib.run_eql_slice_nil Tryz.prog
  have h1 : (w.alloc (.cells #[] 166)).heap[n0]? = some (ndO s) := ga_old h0
  have ho : OwnL rNd 166 (fun _ => none) w (w.alloc (.cells #[] 166)) (.slice (some ⟨w.heap.size, 0, none⟩) 0 0) [] :=
    ⟨[], ⟨rfl, .inr ⟨w.heap.size, 0, #[], rfl, Nat.le_refl _, ga_new _ _, Nat.le_refl _, by decide, rfl, rfl⟩⟩, fun i x h => by simp at h⟩
  go_enter Tryz.func167, Tryz.ntmps167
  go_wp2_with (at_builtin; go_loud (refine wpL_appN (H := fun _ => none) (w := w) rfl _ _ rfl _ [] rfl ho n0 1 s rfl h1 hI (by decide) (by simp) ?_); intro v2 w2 hown2 hg2 _)
  go_ret
  exact ⟨⟨_, rfl, QueN.of_own hown2⟩, ((Below.refl _ _).alloc (Nat.le_refl _) _).grown hg2 (by simp) (fun k hk => by cases hk; exact Nat.le_refl _)⟩

/-- A function value that tells the nodes behind a node. -/
def NextN (H : PH) (fv : Value) (D : Nd → Prop) (R : Nd → Nd → Prop) : Prop :=
  ∃ K p, fv = .func (.func K) #[p] #[] ∧ Enters K ∧ ∀ (w' : World) (H' : PH) (x : Nd), PH.le H H' → Sees w' H' → D x →
    Calls Tryz.prog K #[p, nd x] w' fun e w'' => (∃ ys, NdRes H' w' w'' ys e ∧ ∀ y, y ∈ ys ↔ R x y) ∧ Below w'.heap.size w' w''
def WalkNRes (B : Nat) (D : Nd → Prop) (s : Nd) (R : Nd → Nd → Prop) (w' : World) (e : Ending) : Prop :=
  ∃ b l ρ N, e = .returned (.map (some b)) ∧ B ≤ b ∧ MapL nd w' b l ∧ WkI nd D [s] R l ρ N []
theorem hasQ_mem {V : Type} [DecidableEq V] {l : List (V × Value)} {p : V × Value} (h : p ∈ l) : hasQ l p.1 := by
  unfold hasQ mget
  cases e : findL l p.1 0 with
  | some q => rfl
  | none => exact absurd rfl (findL_none.1 e p h)
theorem WkB.len_le {D : Nd → Prop} {fr : List Nd} {R : Nd → Nd → Prop} {l : List (Nd × Value)} {ρ : Nd → Nat} {N M : Nat} {w : World} {b : Nat} (h : WkB nd D fr R l ρ N) (hM : MapL nd w b l) (hD : ∀ ks : List Nd, ks.Nodup → (∀ x ∈ ks, D x) → ks.length ≤ M) : l.length ≤ M := by
  obtain ⟨_, _, _, _, hnd, _⟩ := hM
  have := hD _ hnd (fun x hx => by
    obtain ⟨p, hp, rfl⟩ := List.mem_map.1 hx
    obtain ⟨v, hv⟩ := Option.isSome_iff_exists.1 (hasQ_mem hp)
    exact (h.vals _ v hv).1)
  simpa using this
theorem mput_lenQ {V : Type} [DecidableEq V] {l : List (V × Value)} {k : V} {v : Value} (h : ¬ hasQ l k) : (mput l k v).length = l.length + 1 := by
  unfold mput
  unfold hasQ mget at h
  cases e : findL l k 0 with
  | none => simp
  | some q => rw [e] at h; simp at h
set_option maxHeartbeats 2000000 in
set_option maxRecDepth 100000 in
theorem walk_nd (H : PH) (n0 : Nat) (s : Nd) (fv : Value) (D : Nd → Prop) (R : Nd → Nd → Prop) (M : Nat) (w : World) (hw : Sees w H) (h0 : H n0 = some (ndO s)) (hI : ∀ x, D x → I64 x.1) (hD : ∀ ks : List Nd, ks.Nodup → (∀ x ∈ ks, D x) → ks.length ≤ M) (hM : M ≤ 100000)
    (hs : D s) (hR : ∀ x y, D x → R x y → D y) (hf : NextN H fv D R) :
    Calls Tryz.prog 130 #[.slice (some ⟨n0, 0, none⟩) 1 1, fv] w fun e w' => WalkNRes w.heap.size D s R w' e ∧ Below w.heap.size w w' := by
  obtain ⟨K, p, rfl, hE, hf⟩ := hf
  unfold Enters at hE
  have hmm := @run_makeMap Tryz.prog
  have hfh := Lib.hid hf
  have hRh := Lib.hid hR
  have hIh := Lib.hid hI
  have hDh := Lib.hid hD
  clear hf hR hI hD
  have hM0 := MapL.new nd w
  have hB0 : Below w.heap.size w (w.alloc (.map #[] 0)) := (Below.refl _ _).alloc (Nat.le_refl _) _
  have hC := clone_nd n0 s _ ((hw.below hB0) _ _ h0) (hIh.out _ hs)
  have hsh := Lib.hid hs
  clear hs
  go_enter Tryz.func130, Tryz.ntmps130
  go_wp2
  go_step3
  go_wp2_with (go_at_call 167; refine hC.mono ?_; rintro e w1 ⟨⟨vq, rfl, hown⟩, hB1⟩)
  rw [World.size_alloc] at hown
  have hM1 := hM0.of_block (hB1.block w.heap.size (by simp))
  have hz1 : w.heap.size + 1 ≤ w1.heap.size := by have := hB1.size; simpa using this
  have hB2 := bstep hB0 hB1
  clear hB0 hB1 hM0 hC
  go_loopw [19] (fun i wr => ∃ (k : Nat) (l : List (Nd × Value)), k ≤ 1 ∧ i = .int .i64 k ∧ MapL nd wr w.heap.size l ∧
    Aside (WkB nd D [s] R l (fun _ => 0) 1 ∧ (k = 1 → hasQ l s) ∧ (∀ y v, mget l y = some v → v = nd y)) ∧ Below w.heap.size w wr ∧ QueN wr (w.heap.size + 1) vq [s] ∧ w.heap.size + 1 ≤ wr.heap.size) (fun i _ => 1 - (intOf i).toNat)
  case atStart => exact ⟨0, [], Nat.zero_le _, rfl, hM1, ⟨WkB.nil, (fun h => by cases h), (fun y v h => by cases h)⟩, hB2, hown, hz1⟩
  clear hM1 hown hB2 hz1
  case round =>
    obtain ⟨k, l, hk, rfl, hM, hI, hB, hq, hz⟩ := hrel
    have hIh := Lib.hid hI
    clear hI
    have hsee := hw.below hB
    by_cases hlt : k = 0
    · subst hlt
      have p0 := box2 (hsee _ _ h0)
      have l0 := hsee.lt h0
      have hMa : MapL nd (wr.alloc (ndO s)) w.heap.size l := hM.of_block (Below.heap_alloc wr _ _ hM.lt)
      have hqa := hq.al (ndO s)
      clear hM hq
      go_wp2_with (at_mapUpdate; go_loud (refine wpL_mapUpdate rfl _ _ _ 163 rfl Tryz.underlying163 nd nd_key nd_inj _ _ rfl hMa s (nd s) (by rfl) (by rfl) ?_); intro w2 hM2 hg2)
      go_roundw
      case rel =>
        have hz2 := hg2.size
        rw [World.size_alloc] at hz2
        obtain ⟨h1, h2, h3⟩ := hIh.out
        obtain ⟨h4, h5⟩ := h1.lay nd_inj (show s ∈ [s] by simp) hsh.out h3
        refine ⟨1, _, Nat.le_refl _, by go_num, hM2, ⟨h4, fun _ => hasQ_put.2 (.inl rfl), h5⟩, (hB.alloc hB.size _).grown hg2 (by have := hB.size; simp; omega) (fun j hj => by injection hj with hj; omega), hqa.of_block fun j hj => hg2.block j (hqa.lt hj).2 (fun e => by injection e with e; have := (hqa.lt hj).1; omega), by omega⟩
      case measure => simp [intOf]
    · obtain rfl : k = 1 := by omega
      have hI0 : WkI nd D [s] R l (fun _ => 0) 1 [s] := by
        obtain ⟨h1, h2, h3⟩ := hIh.out
        refine ⟨h1, fun x hx => ?_, fun x hx => ?_, fun x hx => ?_⟩
        · simp at hx; subst hx; exact h2 rfl
        · simp at hx; subst hx; exact h2 rfl
        · obtain ⟨v, hv⟩ := Option.isSome_iff_exists.1 hx
          obtain ⟨_, _, p, h4, h5⟩ := h1.vals x v hv
          rcases h5 with ⟨_, h5⟩ | ⟨h6, _⟩
          · exact .inl h5
          · have := h3 x v hv
            rw [h4] at this
            exact absurd (nd_inj _ _ this) h6
      have hI0h := Lib.hid hI0
      clear hI0 hIh hlt hsee hk
      go_wp2
      go_step3
      go_wp2
      refine wp_name fun w3 hw3 => ?_
      obtain rfl := hw3
      go_loopg [6] (2 * M + 1) (fun gk o wr => ∃ (q : List Nd) (l : List (Nd × Value)) (ρ : Nd → Nat) (N : Nat), QueN wr (w.heap.size + 1) o q ∧ MapL nd wr w.heap.size l ∧
        Aside (WkI nd D [s] R l ρ N q ∧ 2 * (M - l.length) + q.length ≤ gk ∧ gk ≤ 2 * M + 1) ∧ Below w.heap.size w wr ∧ w.heap.size + 1 ≤ wr.heap.size)
      case atStart => exact ⟨[s], l, _, _, hq, hM, ⟨hI0h.out, by simp; omega, by omega⟩, hB, hz⟩
      clear hq hM hI0h hB hz
      case round =>
        obtain ⟨q, l, ρ, N, hq, hM, hI, hB, hz⟩ := hrel
        have hsee := hw.below hB
        cases q with
        | nil =>
          obtain ⟨A, c, rfl⟩ := hq.len_form
          have hIh := Lib.hid hI.1
          clear hI
          go_wp2
          try rw [Exit.noGoto_ret]
          go_ret
          exact ⟨⟨_, l, ρ, N, rfl, Nat.le_refl _, hM, hIh.out⟩, hB⟩
        | cons x q =>
          obtain ⟨g, off, cap2, rfl, hcap, hgl, hcx, hcy, hpop⟩ := hq.pop
          have hxr : D x := by
            obtain ⟨v, hv⟩ := Option.isSome_iff_exists.1 (hI.1.queue x (by simp))
            exact (hI.1.vals x v hv).1
          have hIh := Lib.hid hI
          have hBx : Below w.heap.size w (wr.alloc (ndO x)) := hB.alloc hB.size _
          have hH2s : Sees (wr.alloc (ndO x)) (addH H wr.heap.size (ndO x)) := addH.sees (hw.below hBx) (ga_new _ _)
          have hnx := hfh.out (wr.alloc (ndO x)) _ x (addH.le (hw.fresh hB.size)) hH2s hxr
          have hMa : MapL nd (wr.alloc (ndO x)) w.heap.size l := hM.of_block (Below.heap_alloc wr _ _ hM.lt)
          have hzb := hB.size
          have hsv : IntKind.i64.wrap 1 = 1 := by decide
          have hH0h := Lib.hid (show ∀ k, w.heap.size ≤ k → H k = none from fun k hk => hw.fresh hk)
          have hlx := Lib.hid (WkB.len_le hI.1.toWkB hM hDh.out)
          have hgB := (hq.lt (k := g) rfl).1
          have hxrh := Lib.hid hxr
          clear hI hq hxr
          unfold nd at hnx
          clear hsv
          by_cases hc1 : cap2 = 1
          all_goals first
            | (subst hc1
               have hq0 : q = [] := List.eq_nil_of_length_eq_zero (by omega)
               subst hq0
               simp only [if_true, List.length_nil, Nat.sub_self] at hpop
               have hpa := hpop.al (ndO x)
               clear hM hpop
               go_wp2_with fail
               generalize hvo : Value.slice (some ⟨g, off, none⟩) 0 0 = vo at *)
            | (simp only [if_neg hc1] at hpop
               have hpa := hpop.al (ndO x)
               clear hM hpop
               go_wp2_with fail
               generalize hvo : Value.slice (some ⟨g, off + 2, none⟩) q.length (cap2 - 1) = vo at *)
          all_goals
            have hvk : ∀ k, vo.ownBlock = some k → k = g := by intro k hk; rw [← hvo] at hk; injection hk with hk; exact hk.symm
            clear hvo
            refine hnx.mono ?_
            rintro e w3 ⟨⟨ys, ⟨u, rfl, hu⟩, hys⟩, hB3⟩
            dsimp only
            have hs3 := extH.sees hH2s hB3
            have hzz := hB3.size
            rw [World.size_alloc] at hzz
            have hKx : extH (addH H wr.heap.size (ndO x)) (wr.alloc (ndO x)) w3 wr.heap.size = some (ndO x) := extH.le hH2s _ _ _ addH.at
            have hKm : extH (addH H wr.heap.size (ndO x)) (wr.alloc (ndO x)) w3 w.heap.size = none := by unfold extH; rw [if_pos (by simp; omega), addH.ne (by omega)]; exact hH0h.out _ (Nat.le_refl _)
            have hKq : ∀ k, vo.ownBlock = some k → extH (addH H wr.heap.size (ndO x)) (wr.alloc (ndO x)) w3 k = none := by intro k hk; rw [hvk k hk]; unfold extH; rw [if_pos (by simp; omega), addH.ne (by omega)]; exact hH0h.out _ (by omega)
            have hq3 := hpa.below hB3
            have hM3 := hMa.of_block (hB3.block _ hMa.lt)
            have hB4 : Below w.heap.size w w3 := bstep hBx hB3
            have hz4 : w.heap.size + 1 ≤ w3.heap.size := by omega
            have hul := hu.le
            have hu' := hu
            obtain ⟨Au, cu, rfl, -, -⟩ := hu'
            have hKh := Lib.hid (show ∀ k, w3.heap.size ≤ k → extH (addH H wr.heap.size (ndO x)) (wr.alloc (ndO x)) w3 k = none from fun k hk => hs3.fresh hk)
            generalize extH (addH H wr.heap.size (ndO x)) (wr.alloc (ndO x)) w3 = KK at *
            obtain ⟨bx, hbx⟩ : ∃ bx, bx = wr.heap.size := ⟨_, rfl⟩
            rw [← hbx] at hKx
            have hysh := Lib.hid hys
            clear hnx hsee hpa hMa hB hB3 hcx hcy hgl hz hgB hvk hH2s hys hBx hzb hzz
            go_wp2
            rw [← hbx]
            clear hbx
            obtain ⟨wo, rfl⟩ : ∃ wo : World, wo = wr := ⟨_, rfl⟩
            have hs3' := hs3
            clear hs3
            first
              | rw [show ([] : List Nd).length + 1 = 1 from rfl]
              | rw [show ((q.length : Int) + 1 == 0) = false by simp; omega]
              | fail "no such frame"
            go_loopw [6, 39] (fun o i wi => ∃ (j : Nat) (q : List Nd) (l : List (Nd × Value)) (ρ : Nd → Nat) (N : Nat), j ≤ ys.length ∧ i = .int .i64 j ∧ QueN wi (w.heap.size + 1) o q ∧ MapL nd wi w.heap.size l ∧
              Aside (WkJ nd D [s] R l ρ N q x ys j ∧ 2 * (M - l.length) + q.length + 1 ≤ gk ∧ gk ≤ 2 * M + 1) ∧ Below w.heap.size w wi ∧ Sees wi KK ∧ (∀ k, o.ownBlock = some k → KK k = none) ∧ w3.heap.size ≤ wi.heap.size) (fun _ i _ => ys.length - (intOf i).toNat)
            case atStart =>
              have h0 := hIh.out
              refine ⟨0, _, l, ρ, N, Nat.zero_le _, rfl, hq3, hM3, ⟨h0.1.pop ys, ?_, h0.2.2⟩, hB4, hs3', hKq, Nat.le_refl _⟩
              have := h0.2.1
              simp only [List.length_cons, List.length_nil] at this ⊢
              omega
            clear hq3 hM3 hIh hB4 hKq hs3'
            case round =>
              obtain ⟨j, q1, l1, ρ1, N1, hj, rfl, hq1, hM1, hJ, hB1, hs1, hKo, hz1⟩ := hrel
              by_cases hlt : j < ys.length
              · obtain ⟨b, off', c', hve, -, hb, hcell, -⟩ := hu.nds (by omega)
                cases hve
                have hcl := hcell wr hs1 j hlt
                have hbl := hs1.lt' hb
                have hpx := box2 (hs1 _ _ hKx)
                have hlx2 := hs1.lt hKx
                have hyy : ys[j]? = some (ys.getD j (0, false)) := by simp [hlt]
                generalize ys.getD j (0, false) = y at *
                have hyh := Lib.hid hyy
                have hRy : R x y := (hysh.out y).1 (List.mem_of_getElem? hyy)
                have hMa : MapL nd (wr.alloc (ndO y)) w.heap.size l1 := hM1.of_block (Below.heap_alloc wr _ _ hM1.lt)
                have hlk := hMa.lookup Tryz.underlying163 nd_key (z := nd (0, false)) (fun _ => by kernel_rfl) y true
                have hqa := hq1.al (ndO y)
                have hBa := hB1.alloc hB1.size (ndO y)
                have hsa : Sees (wr.alloc (ndO y)) KK := hs1.below ((Below.refl _ _).alloc (Nat.le_refl _) _)
                have hRyh := Lib.hid hRy
                have hJh := Lib.hid hJ
                have hz1h := Lib.hid (show w.heap.size ≤ wr.heap.size from hB1.size)
                clear hcell hyy hJ hRy hM1 hq1 hB1 hs1
                by_cases hk : hasQ l1 y
                · obtain ⟨v, hv⟩ := Option.isSome_iff_exists.1 hk
                  obtain ⟨-, -, py, rfl, -⟩ := hJh.out.1.vals y v hv
                  have hkh := Lib.hid hk
                  rw [hv] at hlk
                  simp only [if_true, Option.getD_some, Option.isSome_some] at hlk
                  unfold nd at hlk
                  clear hv hk
                  go_wp2
                  go_roundw
                  case rel =>
                    have h0 := hJh.out
                    have hz := hz1h.out
                    exact ⟨j + 1, q1, l1, ρ1, N1, by omega, by go_num, hqa.al _, hMa.of_block (Below.heap_alloc _ _ _ hMa.lt), ⟨h0.1.skip hyh.out hkh.out, h0.2⟩, hBa.alloc hBa.size _, hsa.below ((Below.refl _ _).alloc (Nat.le_refl _) _), hKo, by simp; omega⟩
                  case measure => simp [intOf]; omega
                · have hv : mget l1 y = none := by unfold hasQ at hk; simpa using hk
                  rw [hv] at hlk
                  simp only [if_true, Option.getD_none, Option.isSome_none] at hlk
                  unfold nd at hlk
                  have hkh := Lib.hid hk
                  have hMb : MapL nd ((wr.alloc (ndO y)).alloc (ndO (0, false))) w.heap.size l1 := hMa.of_block (Below.heap_alloc _ _ _ hMa.lt)
                  have hqb := hqa.al (ndO (0, false))
                  have hBb := hBa.alloc hBa.size (ndO (0, false))
                  have hsb : Sees ((wr.alloc (ndO y)).alloc (ndO (0, false))) KK := hsa.below ((Below.refl _ _).alloc (Nat.le_refl _) _)
                  clear hv hk
                  go_wp2_with (first
                    | (at_mapUpdate
                       go_loud (refine wpL_mapUpdate rfl _ _ _ 163 rfl Tryz.underlying163 nd nd_key nd_inj _ _ rfl hMb y (nd x) (by rfl) (by rfl) ?_)
                       intro w5 hM5 hg5
                       have hy5 : w5.heap[wr.heap.size]? = some (ndO y) := (hg5.block wr.heap.size (by simp; omega) (fun e => by injection e with e; have := hMb.lt; have := hMa.lt; have := hz1h.out; omega)).trans (ga_old (ga_new _ _))
                       have p5 := box2 hy5
                       have l5 := (Array.getElem?_eq_some_iff.1 hy5).1
                       have hq5 : QueN w5 (w.heap.size + 1) u6 q1 := hqb.of_block fun k hk => hg5.block k (hqb.lt hk).2 (fun e => by injection e with e; have := (hqb.lt hk).1; omega))
                    | (at_builtin
                       go_loud (refine wpL_queAppN rfl _ _ rfl (w.heap.size + 1) _ q1 y rfl (hq5.al (ndO y)) w5.heap.size 1 rfl (ga_new _ _) ?hlen ?hsz ?_)
                       (case hlen => have := hJh.out.2; omega)
                       (case hsz => have := hM5.lt; simp; omega)
                       intro v6 w6 hq6 hg6 hv6))
                  go_roundw
                  case rel =>
                    have h0 := hJh.out
                    have hz0 := hz1h.out
                    have hz5 := hg5.size
                    simp only [World.size_alloc] at hz5
                    have hlt1 := hM5.lt
                    have hlt2 := hMb.lt
                    have hlt3 := hMa.lt
                    simp only [World.size_alloc] at hlt2 hlt3
                    have hDy : D y := hRh.out x y hxrh.out hRyh.out
                    have hM6 := (hM5.of_block (Below.heap_alloc w5 (ndO y) _ hlt1)).of_block (hg6.block _ (by simp; omega) (fun e => by have := (hq5.lt e.symm).1; omega))
                    have hadd := h0.1.add hyh.out hkh.out hDy hRyh.out
                    refine ⟨v6, _, _, _, .int .i64 ((j : Int) + 1), ⟨j + 1, by omega, by go_num, _, hq6, _, hM6, ⟨_, _, hadd, ?_, h0.2.2⟩, ?_, ?_, ?_, ?_⟩, rfl, rfl, rfl, rfl, rfl⟩
                    · have h1 := WkB.len_le hadd.toWkB hM6 hDh.out
                      have h2 := mput_lenQ (v := nd x) hkh.out
                      have h3 := h0.2.1
                      rw [h2] at h1 ⊢
                      rw [List.length_append, List.length_singleton]
                      omega
                    · exact ((hBb.grown hg5 hBb.size (fun k hk => by injection hk with hk; omega)).alloc (by have := hBb.size; simp only [World.size_alloc] at this; omega) _).grown hg6 (by simp; omega) (fun k hk => by have := (hq5.lt hk).1; omega)
                    · exact ((hsb.grownR hg5 (fun k hk => by injection hk with hk; rw [← hk]; exact hKm)).below ((Below.refl _ _).alloc (Nat.le_refl _) _)).grownR hg6 hKo
                    · intro k hk
                      rcases hv6 k hk with h1 | h1
                      · exact hKo k h1
                      · simp at h1; exact hKh.out k (by omega)
                    · have := hg6.size; simp at this; omega
                  case measure => simp [intOf]; omega
              · obtain rfl : j = ys.length := by omega
                have hlt' : ¬ (ys.length : Int) < ys.length := by omega
                have hJh := Lib.hid hJ
                clear hJ hlt
                go_wp2
                go_roundg (gk - 1)
                case measure =>
                  have h0 := hJh.out.2
                  omega
                case rel =>
                  have h0 := hJh.out
                  have := hM1.lt
                  have h1 := h0.2.1
                  have h2 := h0.2.2
                  exact ⟨q1, l1, ρ1, N1, hq1, hM1, ⟨h0.1.finish (fun y hy => (hysh.out y).2 hy) (Nat.le_refl _), by omega, by omega⟩, hB1, by omega⟩
end Go.Proofs.YtififjlgjmgikaaGreat
