/- The immediate dominators. -/
import Derived.Test.YtififjlgjmgikaaGreatDom
namespace Go.Proofs.YtififjlgjmgikaaGreat
set_option linter.all false
open Go.RowKit

/-- The nearest of the first k blocks that dominate b, or -1. -/
noncomputable def bestK (f : FlowD) (b : Nat) : Nat → Int
  | 0 => -1
  | k + 1 => if k ≠ b ∧ domB f k b = true ∧ (bestK f b k < 0 ∨ domB f (bestK f b k).toNat k = true) then (k : Int) else bestK f b k
theorem bestK_range (f : FlowD) (b k : Nat) : -1 ≤ bestK f b k ∧ bestK f b k < k := by
  induction k with
  | zero => simp [bestK]
  | succ k ih => unfold bestK; split <;> omega
noncomputable def idomB (f : FlowD) (b : Nat) : Int := if f.reached.getD b false = true then bestK f b f.blocks.length else -2
noncomputable def idomL (f : FlowD) : List Int := (List.range f.blocks.length).map (idomB f)
theorem domL_row (f : FlowD) {a : Nat} (h : a < f.blocks.length) : (domL f).getD a [] = (List.range f.blocks.length).map fun b => domB f a b := by
  unfold domL
  rw [List.getD_eq_getElem?_getD, List.getElem?_map, List.getElem?_range h]
  rfl
theorem domL_at (f : FlowD) (a : Nat) {b : Nat} (h : b < f.blocks.length) : ((List.range f.blocks.length).map fun b => domB f a b).getD b false = domB f a b := by
  rw [List.getD_eq_getElem?_getD, List.getElem?_map, List.getElem?_range h]
  rfl
/-- The cells of the table of dominators. -/
theorem dom_cells {K : PH} {u : Value} {f : FlowD} (h : SlV (rSl rBool) K u (domL f)) {a b : Nat} (ha : a < f.blocks.length) (hb : b < f.blocks.length) {Ad : Option Addr} {n cd : Nat} (hu : u = .slice Ad n cd) :
    ∃ g off bb bo cc, Ad = some ⟨g, off, none⟩ ∧ n = f.blocks.length ∧ ∀ w, Sees w K → w.cell? ⟨g, off + a, none⟩ = some (.slice (some ⟨bb, bo, none⟩) f.blocks.length cc) ∧ w.cell? ⟨bb, bo + b, none⟩ = some (.bool (domB f a b)) ∧ g < w.heap.size ∧ bb < w.heap.size := by
  have hl : (domL f).length = f.blocks.length := by simp [domL]
  obtain ⟨g, off, cap, hv, -, hg, hrow⟩ := h.rows (by omega)
  rw [hu, hl] at hv
  cases hv
  obtain ⟨u2, hu2, hcell⟩ := hrow a (by omega)
  rw [domL_row f ha] at hu2
  obtain ⟨bb, bo, cc, rfl, -, hbb, hc⟩ := hu2.bools (by simp; omega)
  simp only [List.length_map, List.length_range] at hc hcell
  refine ⟨g, off, bb, bo, cc, rfl, rfl, fun w hw => ⟨hcell w hw, ?_, hw.lt' hg, hw.lt' hbb⟩⟩
  have := hc w hw b hb
  rwa [domL_at f a hb] at this
set_option maxHeartbeats 4000000 in
set_option maxRecDepth 100000 in
theorem flow_idoms (H : PH) (v : Value) (f : FlowD) (w : World) (hw : Sees w H) (hf : FlowV H v f) :
    Calls Tryz.prog 44 #[v] w fun e w' => SlRes H w w' (idomL f) e ∧ Below w.heap.size w w' := by
  have hf0 := hf
  obtain ⟨b5, s0, s1, s2, s3, m, rfl, hb, hf⟩ := hf
  have hle := hf.le
  have hlR := hf.lenR
  have hRe := hf.reached
  obtain ⟨A0, c0, rfl, k0, -⟩ := hf.blocks.open_
  obtain ⟨A3, c3, rfl, k3, -⟩ := hf.reached.open_
  have hD := flow_dominators H _ f w hw hf0
  have hbx := hw b5 _ hb
  have hb5n : H b5 ≠ none := by rw [hb]; simp
  have hlRh := Lib.hid hlR
  clear hf hb hf0 hlR
  go_enter Tryz.func44, Tryz.ntmps44
  go_wp2_with (go_at_call 86; refine hD.mono ?_; rintro e w1 ⟨⟨u, rfl, hu⟩, hB1⟩; have hbx1 := blk_keep hB1 hbx; have q := box5 hbx1; have hs1 := extH.sees hw hB1; obtain ⟨Ad, cd, hue, -, -⟩ := hu.open_; rw [show (domL f).length = f.blocks.length by simp [domL]] at hue; rw [hue]; have hueh := Lib.hid hue; have hHK := Lib.hid (extH.le hw w1); clear hue; have hl1 := (hw.below hB1).lt' hb5n)
  clear q hD
  have hKl : PH.le H (extH H w w1) := hHK.out
  have hdc := Lib.hid (fun (a b : Nat) (ha : a < f.blocks.length) (hb : b < f.blocks.length) => dom_cells hu ha hb hueh.out)
  clear hu
  generalize extH H w w1 = K at *
  have hRe1 := hRe.mono hKl
  have hb5k : K b5 ≠ none := by
    obtain ⟨o, ho⟩ := Option.ne_none_iff_exists'.1 hb5n
    rw [hKl _ _ ho]; simp
  have hz1 := hB1.size
  clear hKl hHK hRe hbx
  go_loopw [4, 15] (fun o i wr => ∃ k : Nat, k ≤ f.blocks.length ∧ i = .int .i64 k ∧ OwnI wr w1.heap.size o ((List.range k).map (idomB f)) ∧ Below w1.heap.size w1 wr) (fun _ i _ => f.blocks.length - (intOf i).toNat)
  case atStart => exact ⟨0, Nat.zero_le _, rfl, OwnI.nil _ _, Below.refl _ _⟩
  case round =>
    obtain ⟨k, hk, rfl, hown, hB⟩ := hrel
    have hs := hs1.below hB
    have hbr := blk_keep hB hbx1
    have q := box5 hbr
    have hbl := hs.lt' hb5k
    by_cases hlt : k < f.blocks.length
    · obtain ⟨rb, ro, rc, hve, -, hrb, hrcell⟩ := hRe1.bools (by rw [hlRh.out]; omega)
      cases hve
      have hrk := hrcell wr hs k (by rw [hlRh.out]; exact hlt)
      have hrl := hs.lt' hrb
      have hkR : k < f.reached.length := by rw [hlRh.out]; exact hlt
      have hsu : (List.range (k + 1)).map (idomB f) = (List.range k).map (idomB f) ++ [idomB f k] := by rw [List.range_succ, List.map_append]; rfl
      have hsuh := Lib.hid hsu
      have hll : ((List.range k).map (idomB f)).length = k := by simp
      generalize (List.range k).map (idomB f) = es at *
      clear hrcell hsu
      cases hr : f.reached.getD k false
      · rw [hr] at hrk
        have hid : idomB f k = -2 := by unfold idomB; rw [hr]; rfl
        have hidh := Lib.hid hid
        clear hr hid
        have hllh := Lib.hid hll
        clear hll
        go_wp2_with (at_builtin; go_loud (refine wpL_appI rfl _ _ rfl w1.heap.size _ es [-2] rfl (hown.al _) ⟨wr.heap.size, 0, none⟩ 1 1 rfl rfl (one_new (by simp)) ?hlen ?hsz ?_); go_loud (case hlen => have := hllh.out; first | omega | (simp; omega)); go_loud (case hsz => have := hB.size; first | omega | (simp; omega)); intro v2 w2 hown2 hg2 _)
        go_roundw
        case rel => exact ⟨k + 1, by omega, by go_num, by rw [hsuh.out, hidh.out]; exact hown2, (hB.alloc hB.size _).grown hg2 (by have := hB.size; simp; omega) (fun j hj => (hown.lt hj).1)⟩
        case measure => simp [intOf]; omega
      · rw [hr] at hrk
        have hid : idomB f k = bestK f k f.blocks.length := by unfold idomB; rw [hr]; rfl
        have hidh := Lib.hid hid
        clear hr hid
        have hllh := Lib.hid hll
        clear hll
        go_wp2
        go_loop [6, 34] (fun b i => ∃ a : Nat, a ≤ f.blocks.length ∧ i = .int .i64 a ∧ b = .int .i64 (bestK f k a)) (fun _ i => f.blocks.length - (intOf i).toNat)
        case atStart => exact ⟨0, Nat.zero_le _, rfl, rfl⟩
        case round =>
          obtain ⟨a, ha, rfl, rfl⟩ := hrel
          have hbr := bestK_range f k a
          by_cases hla : a < f.blocks.length
          · have hsc : bestK f k (a + 1) = if a ≠ k ∧ domB f a k = true ∧ (bestK f k a < 0 ∨ domB f (bestK f k a).toNat a = true) then (a : Int) else bestK f k a := rfl
            have hsch := Lib.hid hsc
            clear hsc
            generalize bestK f k a = x at *
            by_cases hak : a = k
            · have e : bestK f k (a + 1) = x := by rw [hsch.out, if_neg (fun h => h.1 hak)]
              have eh := Lib.hid e
              have hne : ((a : Int) != (k : Int)) = false := by simp [hak]
              clear e hak
              go_wp2
              go_round
              case rel => exact ⟨a + 1, by omega, by go_num, by rw [eh.out]⟩
              case measure => simp [intOf]; omega
            · have hne : ((a : Int) != (k : Int)) = true := by simp; omega
              obtain ⟨g, off, bb, bo, cc, rfl, -, hcell⟩ := hdc.out a k hla hlt
              obtain ⟨hc1, hc2, hg1, hg2⟩ := hcell wr hs
              have hceh := Lib.hid hcell
              clear hcell
              cases hd : domB f a k
              · rw [hd] at hc2
                have e : bestK f k (a + 1) = x := by rw [hsch.out, if_neg (fun h => by rw [hd] at h; cases h.2.1)]
                have eh := Lib.hid e
                clear e hd hsch hak
                go_wp2
                go_round
                case rel => exact ⟨a + 1, by omega, by go_num, by rw [eh.out]⟩
                case measure => simp [intOf]; omega
              · rw [hd] at hc2
                have hdh := Lib.hid hd
                clear hd
                by_cases hx : x < 0
                · have e : bestK f k (a + 1) = a := by rw [hsch.out, if_pos ⟨hak, hdh.out, .inl hx⟩]
                  have eh := Lib.hid e
                  clear e hsch hak
                  go_wp2
                  go_round
                  case rel => exact ⟨a + 1, by omega, by go_num, by rw [eh.out]⟩
                  case measure => simp [intOf]; omega
                · obtain ⟨y, rfl⟩ : ∃ y : Nat, x = (y : Int) := ⟨x.toNat, by omega⟩
                  have hx2 : decide ((y : Int) < 0) = false := by simp
                  have hy : y < f.blocks.length := by omega
                  obtain ⟨g', off', bb2, bo2, cc2, he, -, hcell2⟩ := hdc.out y a hy hla
                  obtain ⟨hc3, hc4, -, hg4⟩ := hcell2 wr hs
                  cases he
                  clear hcell2
                  cases hd2 : domB f y a
                  · rw [hd2] at hc4
                    have e : bestK f k (a + 1) = (y : Int) := by rw [hsch.out, if_neg (fun h => h.2.2.elim (fun h => by omega) (fun h => by rw [Int.toNat_natCast, hd2] at h; cases h))]
                    have eh := Lib.hid e
                    clear e hsch hak hd2
                    go_wp2
                    go_round
                    case rel => exact ⟨a + 1, by omega, by go_num, by rw [eh.out]⟩
                    case measure => simp [intOf]; omega
                  · rw [hd2] at hc4
                    have e : bestK f k (a + 1) = a := by rw [hsch.out, if_pos ⟨hak, hdh.out, .inr (by rw [Int.toNat_natCast]; exact hd2)⟩]
                    have eh := Lib.hid e
                    clear e hsch hak hd2
                    go_wp2
                    go_round
                    case rel => exact ⟨a + 1, by omega, by go_num, by rw [eh.out]⟩
                    case measure => simp [intOf]; omega
          · obtain rfl : a = f.blocks.length := by omega
            have hltn : ¬ (f.blocks.length : Int) < f.blocks.length := by omega
            rw [← hidh.out]
            have hk1 : k + 1 ≤ f.blocks.length := hlt
            go_wp2_with (at_builtin; go_loud (refine wpL_appI rfl _ _ rfl w1.heap.size _ es [idomB f k] rfl (hown.al _) ⟨wr.heap.size, 0, none⟩ 1 1 rfl rfl (one_new (by simp)) ?hlen ?hsz ?_); go_loud (case hlen => have := hllh.out; first | omega | (simp; omega)); go_loud (case hsz => have := hB.size; first | omega | (simp; omega)); intro v2 w2 hown2 hg2 _)
            go_roundw
            case rel => exact ⟨k + 1, by have := hllh.out; omega, by go_num, by rw [hsuh.out]; exact hown2, (hB.alloc hB.size _).grown hg2 (by have := hB.size; simp; omega) (fun j hj => (hown.lt hj).1)⟩
            case measure => simp [intOf]; omega
    · obtain rfl : k = f.blocks.length := by omega
      have hltn : ¬ (f.blocks.length : Int) < f.blocks.length := by omega
      go_wp2
      go_ret
      refine ⟨⟨_, rfl, (hown.lower hz1).read (fun y hy => ?_) (by simp [maxN]; omega)⟩, bstep hB1 hB⟩
      obtain ⟨b, _, rfl⟩ := List.mem_map.1 hy
      unfold idomB
      have := bestK_range f b f.blocks.length
      unfold I64
      split <;> omega
end Go.Proofs.YtififjlgjmgikaaGreat
