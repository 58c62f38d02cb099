/- The dominators. -/
import Derived.Test.YtififjlgjmgikaaGreatAvoid
namespace Go.Proofs.YtififjlgjmgikaaGreat
set_option linter.all false
open Go.RowKit

/-- A block to which an initial path without a leads. -/
def AroundR (f : FlowD) (a b : Int) : Prop := Reach (· ∈ entriesB f a) (fun x y => y ∈ avoidNx f a x) b
open Classical in
noncomputable def domB (f : FlowD) (a b : Nat) : Bool := f.reached.getD a false && (f.reached.getD b false && !decide (AroundR f a b))
noncomputable def domL (f : FlowD) : List (List Bool) := (List.range f.blocks.length).map fun a => (List.range f.blocks.length).map fun b => domB f a b
theorem dom_key {f : FlowD} {a : Nat} {l : IntMap} {ρ : Int → Nat} {N : Nat} (h : WalkI f.blocks.length (entriesB f a) (avoidNx f a) l ρ N []) (b : Nat) : (mget l b).isSome = true ↔ AroundR f a b := h.reach b
theorem bools_read {K : PH} {g n : Nat} {bs : List Bool} (h : K g = some (.cells (bs.map Value.bool).toArray 4 (0, 0))) (hn : n = bs.length) (hm : n ≤ maxN) : SlV rBool K (.slice (some ⟨g, 0, none⟩) n n) bs := by
  subst hn
  refine ⟨_, _, rfl, Nat.le_refl _, hm, fun i x hi => ⟨g, 0, [.bool x], rfl, ⟨rfl, _, _, _, h, ?_⟩, rfl⟩⟩
  intro j u hj
  have hj0 : j = 0 := by
    have := (List.getElem?_eq_some_iff.1 hj).1
    simp at this
    exact this
  subst hj0
  cases hj
  simp [rBool, Rp.plain, hi]
/-- A row of bools just made, read beside an owned row. -/
theorem brow_read {H : PH} {w0 wr w1 : World} {vo : Value} {g n : Nat} {bs : List Bool} {T' : TypeId} {u : Value} (h : ArrB w1 g bs) (hlt : ∀ k, vo.ownBlock = some k → k < wr.heap.size) (hg : wr.heap.size ≤ g) (hs : w0.heap.size ≤ wr.heap.size) (hn : n = bs.length) (hm : n ≤ maxN) :
    (rSl rBool).R (extX H w0 (w1.alloc (.cells #[u] T')) vo) [.slice (some ⟨g, 0, none⟩) n n] bs := by
  refine ⟨_, rfl, bools_read ?_ hn hm⟩
  rw [extX_at (by omega) (fun e => by have := hlt g e; omega)]
  exact ga_old h
theorem infoBl : (Tryz.prog.info? 63).map (fun i => (i.zero, i.size, i.bytes)) = some (some (.slice none 0 0), 1, 24) := by kernel_rfl
theorem row_step {bs : List Bool} {n b : Nat} {D : Nat → Bool} {d : Bool} (h : bs.length = n ∧ ∀ j, j < n → bs.getD j false = if j < b then D j else false) (hb : b < n) (hd : d = D b) :
    (bs.set b d).length = n ∧ ∀ j, j < n → (bs.set b d).getD j false = if j < b + 1 then D j else false := by
  refine ⟨by simp [h.1], fun j hj => ?_⟩
  have h0 := h.1
  have h1 := h.2 j hj
  rw [List.getD_eq_getElem?_getD] at h1 ⊢
  by_cases e : j = b
  · subst e
    rw [List.getElem?_set_self (by omega), if_pos (by omega), hd]
    rfl
  · rw [List.getElem?_set_ne (fun k => e k.symm), h1]
    by_cases e2 : j < b
    · rw [if_pos e2, if_pos (by omega)]
    · rw [if_neg e2, if_neg (by omega)]
def SlResB {α : Type} (r : Rp α) (H' : PH) (w' w'' : World) (xs : List α) (e : Ending) : Prop := ∃ u, e = .returned u ∧ SlV r (extH H' w' w'') u xs
set_option maxHeartbeats 4000000 in
set_option maxRecDepth 100000 in
theorem flow_dominators (H : PH) (v : Value) (f : FlowD) (w : World) (hw : Sees w H) (hf : FlowV H v f) :
    Calls Tryz.prog 86 #[v] w fun e w' => SlResB (rSl rBool) H w w' (domL f) e ∧ Below w.heap.size w w' := by
  have hf0 := hf
  obtain ⟨b5, s0, s1, s2, s3, m, rfl, hb, hf⟩ := hf
  have hle := hf.le
  have hlR := hf.lenR
  have hRe := hf.reached
  obtain ⟨A0, c0, rfl, k0, -⟩ := hf.blocks.open_
  obtain ⟨A3, c3, rfl, k3, -⟩ := hf.reached.open_
  have hmk := mk_bools f.blocks.length (by omega)
  have hA := Lib.hid (fun (w1 : World) (hs : Sees w1 H) (a : Int) => flow_avoiding H _ f a w1 hs hf0)
  have hbx := hw b5 _ hb
  have hbl := hw.lt hb
  have hb5n : H b5 ≠ none := by rw [hb]; simp
  have hlRh := Lib.hid hlR
  clear hf hb hf0 hlR
  go_enter Tryz.func86, Tryz.ntmps86
  have q := box5 hbx
  go_wp2
  clear q
  refine wp_name fun w0 hw0 => ?_
  obtain rfl := hw0.symm
  go_loopw [3, 15] (fun o i wr => ∃ k : Nat, k ≤ f.blocks.length ∧ i = .int .i64 k ∧ OwnL (rSl rBool) 63 H w wr o ((List.range k).map fun a => (List.range f.blocks.length).map fun b => domB f a b) ∧ Below w.heap.size w wr) (fun _ i _ => f.blocks.length - (intOf i).toNat)
  case atStart => exact ⟨0, Nat.zero_le _, rfl, OwnL.nil _ _ _ _ _, Below.refl _ _⟩
  case round =>
    obtain ⟨k, hk, rfl, hown, hB⟩ := hrel
    have hbr := blk_keep hB hbx
    have hsee := hw.below hB
    by_cases hlt : k < f.blocks.length
    · have hlR := hlRh.out
      obtain ⟨rb, ro, rc, hve, -, hrb, hrcell⟩ := hRe.bools (by omega)
      cases hve
      have hBn : Below wr.heap.size wr (wr.alloc (.cells (Array.replicate f.blocks.length (.bool false)) 4)) := (Below.refl _ _).alloc (Nat.le_refl _) _
      have hsn := hsee.below hBn
      have hrk := hrcell _ hsn k (by omega)
      have hrl := hsn.lt' hrb
      have hrch := Lib.hid hrcell
      clear hrcell
      have q := box5 hbr
      have hbl2 := hsee.lt' hb5n
      have hkR : k < f.reached.length := by omega
      have q2 := box5 (blk_keep hBn hbr)
      cases hr : f.reached.getD k false
      · rw [hr] at hrk
        have hrh := Lib.hid hr
        clear hr hlR
        go_wp2_with (at_builtin; go_loud (refine wpL_appL (rSl rBool) 117 63 (.slice none 0 0) 24 Tryz.underlying117 infoBl rfl (by decide) (by decide) rfl _ _ rfl _ _ rfl ((hown.below hBn).below ((Below.refl _ _).alloc (Nat.le_refl _) _)) (wr.heap.size + 1) 1 [.slice (some ⟨wr.heap.size, 0, none⟩) f.blocks.length f.blocks.length] rfl ?hcell ?hone (List.replicate f.blocks.length false) ?hR ?hlen ?hbase ?_); (case hcell => exact fun j u hj => by (have hj1 := (List.getElem?_eq_some_iff.1 hj).1; obtain rfl : j = 0 := (by simpa using hj1); cases hj; have h7 := cell_one_new' (wr.alloc (.cells (Array.replicate f.blocks.length (.bool false)) 4)) (.slice (some ⟨wr.heap.size, 0, none⟩) f.blocks.length f.blocks.length) 63; rw [World.size_alloc] at h7; exact h7)); (case hone => exact fun u hu => by (simp at hu; subst hu; rfl)); (case hR => exact brow_read (ArrB.new _ _) (fun j hj => (hown.lt hj).2) (Nat.le_refl _) hB.size (by simp) (by unfold maxN; omega)); (case hlen => simp; omega); (case hbase => have := hB.size; simp; omega); intro v2 w2 hown2 hg2 _)
        go_roundw
        case rel =>
          refine ⟨k + 1, by omega, by go_num, ?_, ?_⟩
          · rw [List.range_succ, List.map_append]
            have e : (List.range f.blocks.length).map (fun b => domB f k b) = List.replicate f.blocks.length false := by
              have e1 : (fun b => domB f k b) = fun _ => false := by funext b; unfold domB; rw [hrh.out, Bool.false_and]
              rw [e1, List.map_const', List.length_range]
            rw [show ([k] : List Nat).map (fun a => (List.range f.blocks.length).map fun b => domB f a b) = [(List.range f.blocks.length).map fun b => domB f k b] from rfl]
            rw [e]
            exact hown2
          · have := hB.size
            exact ((hB.alloc hB.size _).alloc (by simp; omega) _).grown hg2 (by simp; omega) fun j hj => (hown.lt hj).1
        case measure => simp [intOf]; omega
      · rw [hr] at hrk
        have hrh := Lib.hid hr
        clear hr hlR
        have hAv := hA.out _ hsn (k : Int)
        have hAr := ArrB.new wr f.blocks.length
        go_wp2_with (go_at_call 53; refine hAv.mono ?_; rintro e w1 ⟨⟨bm, l, ρ, N, rfl, h1, hM, hI⟩, hB1⟩; replace hAr := hAr.of_block (hB1.block _ hAr.lt); have hbx1 := blk_keep hB1 (blk_keep hBn hbr); clear q q2 hrk; have q := box5 hbx1)
        have hsw1 : Sees w1 H := hsn.below hB1
        have hgn : wr.heap.size < w1.heap.size := hAr.lt
        have hHg : H wr.heap.size = none := hsee.fresh (Nat.le_refl _)
        have hbm : ¬ bm = wr.heap.size := by rw [World.size_alloc] at h1; omega
        have hKd := Lib.hid (fun b : Nat => dom_key hI b)
        have hB2 : Below wr.heap.size wr w1 := bstep hBn hB1
        clear hAv hI q
        obtain ⟨wo, rfl⟩ : ∃ wo : World, wo = wr := ⟨_, rfl⟩
        go_loopw [39] (fun i wr => ∃ (b : Nat) (bs : List Bool), b ≤ f.blocks.length ∧ i = .int .i64 b ∧ ArrB wr wo.heap.size bs ∧ Aside (bs.length = f.blocks.length ∧ ∀ j, j < f.blocks.length → bs.getD j false = if j < b then domB f k j else false) ∧ w1.grownBy wr (some wo.heap.size)) (fun i _ => f.blocks.length - (intOf i).toNat)
        case atStart => exact ⟨0, _, Nat.zero_le _, rfl, hAr, ⟨by simp, fun j hj => by simp [hj]⟩, grown_refl _ _⟩
        clear hAr
        case round =>
          obtain ⟨b, bs, hb, rfl, hAr, hbs, hg⟩ := hrel
          have hsr := hsw1.grown hg hHg
          have hbr5 := (hg.block b5 (by have := hsw1.lt' hb5n; omega) (fun e => by injection e with e; rw [e] at hb5n; exact hb5n hHg)).trans hbx1
          have q := box5 hbr5
          have hbl3 := hsr.lt' hb5n
          have hMr := hM.of_block (hg.block bm hM.lt (fun e => by injection e with e; exact hbm e))
          have hbsh := Lib.hid hbs
          have hbl4 := hbs.1
          clear hbs
          by_cases hlb : b < f.blocks.length
          · have hac := hAr.cell (j := b) (by omega)
            have haf := hAr.free b
            have hrb2 := hsr.lt' hrb
            have hbR : b < f.reached.length := by rw [hlRh.out]; exact hlb
            have hcr := hrch.out wr hsr b hbR
            have hlk := hMr.lookup Tryz.underlying90 (keyInt Tryz.underlying3) (z := .int .i64 0) (fun _ => by kernel_rfl) (b : Int) true
            have hkey := hKd.out b
            obtain ⟨isv, his⟩ : ∃ isv, isv = (mget l (b : Int)).isSome := ⟨_, rfl⟩
            obtain ⟨vv, hvv⟩ : ∃ vv, vv = (mget l (b : Int)).getD (.int .i64 0) := ⟨_, rfl⟩
            simp only [if_true] at hlk
            rw [← his, ← hvv] at hlk
            rw [← his] at hkey
            have hkeyh := Lib.hid hkey
            clear his hvv hkey
            cases hrbv : f.reached.getD b false
            · rw [hrbv] at hcr
              have hrbh := Lib.hid hrbv
              clear hrbv
              go_wp2
              go_roundw
              case rel => exact ⟨b + 1, bs.set b false, by omega, by go_num, hAr.set b false, row_step hbsh.out hlb (by unfold domB; rw [hrbh.out]; simp), grown_set hg⟩
              case measure => simp [intOf]; omega
            · rw [hrbv] at hcr
              have hrbh := Lib.hid hrbv
              clear hrbv
              go_wp2
              go_roundw
              case rel =>
                refine ⟨b + 1, bs.set b (!isv), by omega, by go_num, hAr.set b (!isv), row_step hbsh.out hlb ?_, grown_set hg⟩
                unfold domB
                rw [hrbh.out, hrh.out, Bool.true_and, Bool.true_and]
                congr 1
                have h3 := hkeyh.out
                cases isv
                · have h4 : ¬ AroundR f k b := fun h => by have := h3.2 h; cases this
                  simp [h4]
                · simp [h3.1 rfl]
              case measure => simp [intOf]; omega
          · obtain rfl : b = f.blocks.length := by omega
            have hBr : Below wo.heap.size wo wr := hB2.grown hg hB2.size (fun j hj => by injection hj with hj; omega)
            have hltn : ¬ (f.blocks.length : Int) < f.blocks.length := by omega
            have hrow : bs = (List.range f.blocks.length).map fun b => domB f k b := by
              apply List.ext_getElem?
              intro j
              by_cases hj : j < f.blocks.length
              · have h5 := hbsh.out.2 j hj
                rw [if_pos hj, List.getD_eq_getElem?_getD, List.getElem?_eq_getElem (by rw [hbl4]; exact hj)] at h5
                rw [List.getElem?_eq_getElem (by rw [hbl4]; exact hj), List.getElem?_map, List.getElem?_range hj]
                exact congrArg some h5
              · rw [List.getElem?_eq_none (by rw [hbl4]; omega), List.getElem?_eq_none (by simp; omega)]
            have hrowh := Lib.hid hrow
            have hgr : wo.heap.size < wr.heap.size := hAr.lt
            clear hrow q
            go_wp2_with (at_builtin; go_loud (refine wpL_appL (rSl rBool) 117 63 (.slice none 0 0) 24 Tryz.underlying117 infoBl rfl (by decide) (by decide) rfl _ _ rfl _ _ rfl ((hown.below hBr).below ((Below.refl _ _).alloc (Nat.le_refl _) _)) wr.heap.size 1 [.slice (some ⟨wo.heap.size, 0, none⟩) f.blocks.length f.blocks.length] rfl ?hcell ?hone bs ?hR ?hlen ?hbase ?_); (case hcell => exact fun j u hj => by (have hj1 := (List.getElem?_eq_some_iff.1 hj).1; obtain rfl : j = 0 := (by simpa using hj1); cases hj; exact cell_one_new' _ _ _)); (case hone => exact fun u hu => by (simp at hu; subst hu; rfl)); (case hR => exact brow_read hAr (fun j hj => (hown.lt hj).2) (Nat.le_refl _) hB.size hbl4.symm (by unfold maxN; omega)); (case hlen => simp; omega); (case hbase => have := hB.size; simp; omega); intro v2 w2 hown2 hg2 _)
            go_roundw
            case rel =>
              refine ⟨k + 1, by omega, by go_num, ?_, ?_⟩
              · rw [List.range_succ, List.map_append]
                rw [show ([k] : List Nat).map (fun a => (List.range f.blocks.length).map fun b => domB f a b) = [(List.range f.blocks.length).map fun b => domB f k b] from rfl]
                rw [← hrowh.out]
                exact hown2
              · have := hB.size
                exact ((bstep hB hBr).alloc (by omega) _).grown hg2 (by simp; omega) fun j hj => (hown.lt hj).1
            case measure => simp [intOf]; omega
    · obtain rfl : k = f.blocks.length := by omega
      have hltn : ¬ (f.blocks.length : Int) < f.blocks.length := by omega
      go_wp2
      go_ret
      exact ⟨⟨_, rfl, hown.read (by simp [maxN]; omega)⟩, hB⟩
end Go.Proofs.YtififjlgjmgikaaGreat
