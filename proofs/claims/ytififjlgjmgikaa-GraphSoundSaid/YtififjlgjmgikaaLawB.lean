/- The laws' has, above, closed, leads (seat Try). GraphHeads, walked (seat Try). -/
import Derived.Test.YtififjlgjmgikaaLoopB
import Derived.Test.YtififjlgjmgikaaDomW
namespace Go.Proofs.Ytififjlgjmgikaa
set_option linter.all false
open Go.RowKit

def hasB (xs : List Int) (n : Int) : Bool := decide (n ∈ xs)
set_option maxHeartbeats 2000000 in
theorem law_has (H : PH) (n : Int) (u : Value) (xs : List Int) (w : World) (hw : Sees w H) (hx : SlV rInt H u xs) :
    Calls Try.prog 20 #[u, .int .i64 n] w fun e w' => e = .returned (.bool (hasB xs n)) ∧ w = w' := by
  have lx := hx.le
  obtain ⟨Ax, cx, rfl, -, -⟩ := hx.open_
  have hS := Lib.hid (show hasB xs n = decide (n ∈ xs) from rfl)
  generalize hasB xs n = B at *
  go_enter Try.func20, Try.ntmps20
  go_wp2
  go_loop [5] (fun i => ∃ k : Nat, k ≤ xs.length ∧ i = .int .i64 k ∧ Aside (∀ j, j < k → xs.getD j 0 ≠ n)) (fun i => xs.length - (intOf i).toNat)
  case atStart => exact ⟨0, Nat.zero_le _, rfl, fun j h => by omega⟩
  case round =>
    obtain ⟨k, hk, rfl, hno⟩ := hrel
    have hnoh := Lib.hid hno
    clear hno
    by_cases hlt : k < xs.length
    · obtain ⟨b1, o1, c1, e1, -, hb1, hc1, -⟩ := hx.ints (by omega)
      cases e1
      have q1 := hc1 w hw k hlt
      have l1 := hw.lt' hb1
      clear hc1
      by_cases he : xs.getD k 0 = n
      · have hb := Lib.hid (show B = true by rw [hS.out]; exact decide_eq_true (by rw [← he, List.getD_eq_getElem?_getD, List.getElem?_eq_getElem hlt]; simp))
        rw [he] at q1
        have hne : (n == n) = true := by simp
        clear he
        go_wp2
        go_ret
        exact ⟨ret_bool hb.out.symm, rfl⟩
      · have hne : (xs.getD k 0 == n) = false := by simpa using he
        have heh := Lib.hid he
        clear he
        obtain ⟨y, hy⟩ : ∃ y, xs.getD k 0 = y := ⟨_, rfl⟩
        rw [hy] at q1 hne
        have hyh := Lib.hid hy
        clear hy
        go_wp2
        go_round
        case rel =>
          refine ⟨k + 1, by omega, by go_num, fun j hj => ?_⟩
          by_cases e : j = k
          · subst e; exact heh.out
          · exact hnoh.out j (by omega)
        case measure => simp [intOf]; omega
    · obtain rfl : k = xs.length := by omega
      have hltn : ¬ (xs.length : Int) < xs.length := by omega
      have hb := Lib.hid (show B = false by
        rw [hS.out]
        refine decide_eq_false fun hm => ?_
        obtain ⟨j, hj, rfl⟩ := List.getElem_of_mem hm
        exact hnoh.out j hj (by rw [List.getD_eq_getElem?_getD, List.getElem?_eq_getElem hj]; rfl))
      clear hlt
      go_wp2
      go_ret
      exact ⟨ret_bool hb.out.symm, rfl⟩
def aboveB (idom : List Int) (a b : Int) : Bool := aboveK idom a (idom.length + 1) b
set_option maxHeartbeats 2000000 in
theorem law_above (H : PH) (a b : Int) (u : Value) (xs : List Int) (w : World) (hw : Sees w H) (hx : SlV rInt H u xs) :
    Calls Try.prog 23 #[u, .int .i64 a, .int .i64 b] w fun e w' => e = .returned (.bool (aboveB xs a b)) ∧ w = w' := by
  have lx := hx.le
  obtain ⟨Ax, cx, rfl, -, -⟩ := hx.open_
  have hS := Lib.hid (show aboveB xs a b = aboveK xs a (xs.length + 1) b from rfl)
  generalize aboveB xs a b = B at *
  go_enter Try.func23, Try.ntmps23
  go_wp2
  go_loop [2, 7] (fun y i => ∃ (k : Nat) (z : Int), k ≤ xs.length + 1 ∧ i = .int .i64 k ∧ y = .int .i64 z ∧ Aside (B = aboveK xs a (xs.length + 1 - k) z)) (fun _ i => xs.length + 1 - (intOf i).toNat)
  case atStart => exact ⟨0, b, Nat.zero_le _, rfl, rfl, hS.out⟩
  case round =>
    obtain ⟨k, z, hk, rfl, rfl, hno⟩ := hrel
    have hnoh := Lib.hid hno
    clear hno
    by_cases hlt : k ≤ xs.length
    · have hlt' : (k : Int) ≤ xs.length := by omega
      have hstep := hnoh.out
      rw [show xs.length + 1 - k = (xs.length - k) + 1 by omega] at hstep
      unfold aboveK at hstep
      by_cases hz0 : z < 0
      · rw [if_pos (.inl hz0)] at hstep
        have hb := Lib.hid hstep
        clear hstep
        go_wp2
        go_ret
        exact ⟨ret_bool hb.out.symm, rfl⟩
      · by_cases hzl : (xs.length : Int) ≤ z
        · rw [if_pos (.inr hzl)] at hstep
          have hb := Lib.hid hstep
          clear hstep
          go_wp2
          go_ret
          exact ⟨ret_bool hb.out.symm, rfl⟩
        · rw [if_neg (by omega)] at hstep
          obtain ⟨m, rfl⟩ : ∃ m : Nat, z = (m : Int) := ⟨z.toNat, by omega⟩
          rw [Int.toNat_natCast] at hstep
          have hm : m < xs.length := by omega
          by_cases haz : a = (m : Int)
          · rw [if_pos haz] at hstep
            have hb := Lib.hid hstep
            have hne : (a == (m : Int)) = true := by simp [haz]
            clear hstep haz
            go_wp2
            go_ret
            exact ⟨ret_bool hb.out.symm, rfl⟩
          · rw [if_neg haz] at hstep
            have hb := Lib.hid hstep
            have hne : (a == (m : Int)) = false := by simp [haz]
            obtain ⟨b1, o1, c1, e1, -, hb1, hc1, -⟩ := hx.ints (by omega)
            cases e1
            have q1 := hc1 w hw m hm
            have l1 := hw.lt' hb1
            clear hstep haz hc1
            generalize xs.getD m 0 = y at *
            go_wp2
            go_round
            case rel => exact ⟨k + 1, y, by omega, by go_num, rfl, by show B = aboveK _ _ _ _; rw [hb.out, show xs.length + 1 - (k + 1) = xs.length - k by omega]⟩
            case measure => simp [intOf]; omega
    · obtain rfl : k = xs.length + 1 := by omega
      have hltn : ¬ ((xs.length + 1 : Nat) : Int) ≤ xs.length := by omega
      have hb := Lib.hid (show B = false by rw [hnoh.out, Nat.sub_self]; rfl)
      clear hlt
      go_wp2
      go_ret
      exact ⟨ret_bool hb.out.symm, rfl⟩
theorem cell_heap {w w' : World} (h : w'.heap = w.heap) (a : Addr) : w'.cell? a = w.cell? a := by
  simp only [World.cell?, h]
theorem size_heap {w w' : World} {b : Nat} (h : w'.heap = w.heap) (hb : b < w.heap.size) : b < w'.heap.size := by rw [h]; exact hb
theorem bdrew {w w1 : World} (h : Below w.heap.size w w1) : Below w.heap.size w w1.drew := ⟨h.os, h.tape, h.output, h.size, h.block⟩
set_option maxHeartbeats 4000000 in
set_option maxRecDepth 100000 in
theorem law_closed (H : PH) (vl vi u : Value) (f : FlowD) (idom : List Int) (h : Int) (body : List Int) (w : World) (hw : Sees w H) (hl : SlV rBlock H vl f.blocks) (hi : SlV rInt H vi idom) (hb : SlV rInt H u body)
    (hlen : idom.length = f.blocks.length) (hle : f.blocks.length ≤ 20000) (hcl : ∀ v : Nat, v < f.blocks.length → idom.getD v 0 ≠ -2 → (v : Int) ∉ body → ∀ z ∈ nxB f v, z = h ∨ z ∉ body) :
    Calls Try.prog 21 #[vl, vi, .agg #[.int .i64 h, u]] w fun e w' => e = .returned (.bool true) ∧ Below w.heap.size w w' := by
  obtain ⟨Al, cl, rfl, -, -⟩ := hl.open_
  obtain ⟨Ai, ci, rfl, -, -⟩ := hi.open_
  obtain ⟨Ab, cb, rfl, -, -⟩ := hb.open_
  have hx0 := ga_new w (.cells #[.int .i64 h, .slice Ab body.length cb] 53)
  have hB0 : Below w.heap.size w (w.alloc (.cells #[.int .i64 h, .slice Ab body.length cb] 53)) := (Below.refl _ _).alloc (Nat.le_refl _) _
  have hHas := Lib.hid (fun (y : Int) (w1 : World) (hs : Sees w1 H) => law_has H y _ body w1 hs hb)
  have hclh := Lib.hid hcl
  have hlenh := Lib.hid hlen
  rw [hlen] at hi ⊢
  clear hcl hlen hb
  go_enter Try.func21, Try.ntmps21
  go_wp2
  go_loopw [7] (fun i wr => ∃ k : Nat, k ≤ f.blocks.length ∧ i = .int .i64 k ∧ wr.heap[w.heap.size]? = some (.cells #[.int .i64 h, .slice Ab body.length cb] 53 (0, 0)) ∧ Below w.heap.size w wr) (fun i _ => f.blocks.length - (intOf i).toNat)
  case atStart => exact ⟨0, Nat.zero_le _, rfl, hx0, hB0⟩
  case round =>
    obtain ⟨k, hk, rfl, hx, hB⟩ := hrel
    have hs := hw.below hB
    have q0 := cell_blk hx 0
    have q1 := cell_blk hx 1
    simp only [List.getElem?_toArray, List.getElem?_cons_succ, List.getElem?_cons_zero] at q0 q1
    have lq := (Array.getElem?_eq_some_iff.1 hx).1
    by_cases hlt : k < f.blocks.length
    · have hlt' : (k : Int) < f.blocks.length := by omega
      have hk0 : (0 : Int) ≤ k := by omega
      obtain ⟨b1, o1, c1, e1, -, hb1, hc1, -⟩ := hi.ints (by rw [hlenh.out]; omega)
      rw [hlenh.out] at e1 hc1
      cases e1
      have p1 := hc1 wr hs k hlt
      have l1 := hs.lt' hb1
      have hck := hclh.out k hlt
      clear hc1
      obtain ⟨y, hy⟩ : ∃ y, idom.getD k 0 = y := ⟨_, rfl⟩
      rw [hy] at p1 hck
      clear hy
      by_cases h2 : y = -2
      · have t1 : (y == -2) = true := by simp [h2]
        clear h2 hck
        go_wp2
        go_roundw
        case rel => exact ⟨k + 1, by omega, by go_num, hx, hB⟩
        case measure => simp [intOf]; omega
      · have t1 : (y == -2) = false := by simp [h2]
        have hHk := hHas.out (k : Int) wr hs
        cases hin : hasB body (k : Int)
        · rw [hin] at hHk
          have hnot : (k : Int) ∉ body := by unfold hasB at hin; simpa using hin
          have hck2 := Lib.hid (hck h2 hnot)
          clear hin hnot h2 hck
          go_wp2_with (go_at_call 20; refine hHk.mono ?_; rintro e w1 ⟨rfl, rfl⟩)
          clear hHk q0 q1 lq t1 p1 l1
          obtain ⟨wo, rfl⟩ : ∃ wo : World, wo = wr := ⟨_, rfl⟩
          obtain ⟨bL, oL, cL', hLe, -, hbL, hrow, -⟩ := hl.blocks (by omega)
          cases hLe
          obtain ⟨un, hun, huc⟩ := hrow k hlt
          have hnz : (f.blocks.getD k default).next = nxB f (k : Int) := rfl
          rw [hnz] at hun
          have hnl := hun.le
          obtain ⟨An, cn, rfl, -, -⟩ := hun.open_
          have huch := Lib.hid huc
          clear huc hrow hnz
          generalize nxB f (k : Int) = nx at *
          go_loopw [8] (fun j wr => ∃ m : Nat, m ≤ nx.length ∧ j = .int .i64 m ∧ wr.heap[w.heap.size]? = some (.cells #[.int .i64 h, .slice Ab body.length cb] 53 (0, 0)) ∧ Below w.heap.size w wr) (fun j _ => nx.length - (intOf j).toNat)
          case atStart => exact ⟨0, Nat.zero_le _, rfl, hx, hB⟩
          clear hx hB hs
          case round =>
            obtain ⟨m, hm, rfl, hx, hB⟩ := hrel
            have hs := hw.below hB
            have q0 := cell_blk hx 0
            have q1 := cell_blk hx 1
            simp only [List.getElem?_toArray, List.getElem?_cons_succ, List.getElem?_cons_zero] at q0 q1
            have lq := (Array.getElem?_eq_some_iff.1 hx).1
            have p3 := (huch.out wr hs).2.2
            have lL := hs.lt' hbL
            by_cases hml : m < nx.length
            · have hml' : (m : Int) < nx.length := by omega
              have hm0 : (0 : Int) ≤ m := by omega
              obtain ⟨b2, o2, c2, e2, -, hb2, hc2, -⟩ := hun.ints (by omega)
              cases e2
              have p4 := hc2 wr hs m hml
              have l4 := hs.lt' hb2
              have hcm := hck2.out (nx.getD m 0) (by rw [List.getD_eq_getElem?_getD, List.getElem?_eq_getElem hml]; exact List.getElem_mem _)
              clear hc2
              obtain ⟨y2, hy2⟩ : ∃ y, nx.getD m 0 = y := ⟨_, rfl⟩
              rw [hy2] at p4 hcm
              clear hy2
              have hcs := Lib.hid (fun (w' : World) (h : w'.heap = wr.heap) => And.intro ((cell_heap h _).trans q0) (And.intro ((cell_heap h _).trans q1) (And.intro (size_heap h lq) (And.intro ((cell_heap h _).trans p3) (And.intro (size_heap h lL) (And.intro ((cell_heap h _).trans p4) (size_heap h l4)))))))
              have hHy := hHas.out y2 wr.drew (by exact fun i o e => hs i o e)
              by_cases hyh : y2 = h
              · have t2 : (y2 != h) = false := by simp [hyh]
                clear hyh hcm hHy
                go_upto_region 8 with fail
                refine wp_region_plan (fun w' => w'.heap = wr.heap) [(0, true), (1, true), (2, true), (3, true), (4, true), (5, true), (6, true), (7, true), (8, true), (9, true), (10, true), (11, true), (12, true), (13, true), (14, true), (15, true), (16, true), (17, true), (18, true), (19, true), (20, true), (21, true), (22, true), (23, true)] (by kernel_rfl) (by kernel_rfl) (by kernel_rfl) rfl ?_
                repeat first
                  | (refine plan_skip rfl (by rfl) ?_; simp only [Act.put, List.setIfInBounds_toArray, List.set_cons_zero, List.set_cons_succ])
                  | (refine plan_read (v := ?_) rfl (by rfl) ?_ ?_; rotate_left; (focus (intro w' hSw; obtain ⟨p1, p2, p3, p4, p5, p6, p7⟩ := hcs.out _ hSw; clear hSw; go_simp; all_goals with_reducible rfl)); simp only [Act.put, List.setIfInBounds_toArray, List.set_cons_zero, List.set_cons_succ])
                refine plan_nil (NoPanic.normal ?_)
                go_wp2
                go_roundw
                case rel => exact ⟨m + 1, by omega, by go_num, hx, bdrew hB⟩
                case measure => simp [intOf]; omega
              · have t2 : (y2 != h) = true := by simpa using hyh
                have hnb : hasB body y2 = false := by unfold hasB; simpa using hcm.resolve_left hyh
                rw [hnb] at hHy
                clear hyh hcm hnb
                go_upto_region 8 with fail
                refine wp_region_plan (fun w' => w'.heap = wr.heap) [(0, true), (1, true), (2, true), (3, true), (4, true), (5, true), (6, true), (7, true), (8, true), (9, true), (10, true), (11, true), (12, true), (13, true), (14, true), (15, true), (16, true), (17, true), (18, true), (19, true), (20, true), (21, true), (22, false), (23, true)] (by kernel_rfl) (by kernel_rfl) (by kernel_rfl) rfl ?_
                repeat first
                  | (refine plan_skip rfl (by rfl) ?_; simp only [Act.put, List.setIfInBounds_toArray, List.set_cons_zero, List.set_cons_succ])
                  | (refine plan_read (v := ?_) rfl (by rfl) ?_ ?_; rotate_left; (focus (intro w' hSw; obtain ⟨p1, p2, p3, p4, p5, p6, p7⟩ := hcs.out _ hSw; clear hSw; go_simp; all_goals with_reducible rfl)); simp only [Act.put, List.setIfInBounds_toArray, List.set_cons_zero, List.set_cons_succ])
                refine plan_step rfl (by rfl) (fun K hK => ?_)
                go_simp
                refine hHy.mono ?_
                rintro e w6 ⟨rfl, rfl⟩
                refine hK.out _ _ rfl ?_
                clear hK K
                repeat first
                  | (refine plan_skip rfl (by rfl) ?_; simp only [Act.put, List.setIfInBounds_toArray, List.set_cons_zero, List.set_cons_succ])
                  | (refine plan_read (v := ?_) rfl (by rfl) ?_ ?_; rotate_left; (focus (intro w' hSw; skip; clear hSw; go_simp; all_goals with_reducible rfl)); simp only [Act.put, List.setIfInBounds_toArray, List.set_cons_zero, List.set_cons_succ])
                refine plan_nil (NoPanic.normal ?_)
                go_wp2
                go_roundw
                case rel => exact ⟨m + 1, by omega, by go_num, hx, bdrew hB⟩
                case measure => simp [intOf]; omega
            · obtain rfl : m = nx.length := by omega
              have hmn : ¬ (nx.length : Int) < nx.length := by omega
              clear hml
              go_wp2
              go_roundw
              case rel => exact ⟨k + 1, by omega, by go_num, hx, hB⟩
              case measure => simp [intOf]; omega
        · rw [hin] at hHk
          clear hin hck h2
          go_wp2_with (go_at_call 20; refine hHk.mono ?_; rintro e w1 ⟨rfl, rfl⟩)
          go_roundw
          case rel => exact ⟨k + 1, by omega, by go_num, hx, hB⟩
          case measure => simp [intOf]; omega
    · obtain rfl : k = f.blocks.length := by omega
      have hltn : ¬ (f.blocks.length : Int) < f.blocks.length := by omega
      clear hlt
      go_wp2
      go_ret
      exact ⟨rfl, hB⟩
def goI (f : FlowD) (body : List Int) (h : Int) (n i : Nat) : List Int := (body.take i).foldl (stepG f) (iterG f body h n)
theorem goI_zero (f : FlowD) (body : List Int) (h : Int) (n : Nat) : goI f body h n 0 = iterG f body h n := by simp [goI]
theorem goI_all (f : FlowD) (body : List Int) (h : Int) (n : Nat) : goI f body h n body.length = iterG f body h (n + 1) := by
  unfold goI
  rw [List.take_length]
  rfl
theorem goI_succ (f : FlowD) (body : List Int) (h : Int) (n : Nat) {i : Nat} {b : Int} (hb : body[i]? = some b) : goI f body h n (i + 1) = stepG f (goI f body h n i) b := by
  unfold goI
  rw [List.take_add_one, hb]
  simp
set_option maxHeartbeats 4000000 in
set_option maxRecDepth 100000 in
theorem law_leads (H : PH) (vl u : Value) (f : FlowD) (h : Int) (body : List Int) (w : World) (hw : Sees w H) (hl : SlV rBlock H vl f.blocks) (hb : SlV rInt H u body) (hle : f.blocks.length ≤ 20000)
    (hbr : ∀ x ∈ body, 0 ≤ x ∧ x < f.blocks.length) (hbl : body.length ≤ 20000) (hg : ∀ n i, i ≤ body.length → (∀ x ∈ goI f body h n i, x ∈ body) ∧ (goI f body h n i).length ≤ body.length) :
    Calls Try.prog 22 #[vl, .agg #[.int .i64 h, u]] w fun e w' => e = .returned (.bool (decide ((iterG f body h body.length).length = body.length))) ∧ Below w.heap.size w w' := by
  obtain ⟨Al, cl, rfl, -, -⟩ := hl.open_
  obtain ⟨Ab, cb, rfl, -, -⟩ := hb.open_
  obtain ⟨W0, hW0⟩ : ∃ W0, W0 = w.alloc (.cells #[.int .i64 h, .slice Ab body.length cb] 53) := ⟨_, rfl⟩
  have hz0 : W0.heap.size = w.heap.size + 1 := by rw [hW0]; simp
  have hx0 : W0.heap[w.heap.size]? = some (.cells #[.int .i64 h, .slice Ab body.length cb] 53 (0, 0)) := by rw [hW0]; exact ga_new w _
  have hB0 : Below w.heap.size w W0 := by rw [hW0]; exact (Below.refl _ _).alloc (Nat.le_refl _) _
  have hgh := Lib.hid hg
  have hbrh := Lib.hid hbr
  have hHas := Lib.hid (fun (y : Int) (v : Value) (g : List Int) (wr : World) (hB : Below w.heap.size w wr) (ho : OwnI wr W0.heap.size v g) (hi : ∀ x ∈ g, x ∈ body) (hn : g.length ≤ body.length) =>
    law_has (extH H w wr) y v g wr (extH.sees hw hB) ((ho.lower (by omega)).read (fun x hx => by have := hbr x (hi x hx); unfold I64; omega) (by unfold maxN; omega)))
  have hq := cell_blk hx0 0
  simp only [List.getElem?_toArray, List.getElem?_cons_zero] at hq
  have hlq := (Array.getElem?_eq_some_iff.1 hx0).1
  clear hg hbr
  go_enter Try.func22, Try.ntmps22
  go_upto_region 1 with fail
  refine wp_name fun w0 hw0 => ?_
  rw [← hW0] at hw0
  subst hw0
  clear hW0
  have hzh := Lib.hid hz0
  clear hz0
  go_wp2
  have hxa := ga_old (o := .cells #[.int .i64 h] 3) hx0
  have hBa := hB0.alloc hB0.size (.cells #[.int .i64 h] 3)
  have hoa : OwnI (w0.alloc (.cells #[.int .i64 h] 3)) w0.heap.size (.slice (some ⟨w0.heap.size, 0, none⟩) 1 1) (iterG f body h 0) := OwnI.snoc_lit w0 h
  clear hq hlq hx0 hB0
  go_loopw [5, 6] (fun v i wr => ∃ n : Nat, n ≤ body.length ∧ i = .int .i64 n ∧ OwnI wr w0.heap.size v (iterG f body h n) ∧ wr.heap[w.heap.size]? = some (.cells #[.int .i64 h, .slice Ab body.length cb] 53 (0, 0)) ∧ Below w.heap.size w wr) (fun _ i _ => body.length - (intOf i).toNat)
  case atStart => exact ⟨0, Nat.zero_le _, rfl, hoa, hxa, hBa⟩
  clear hoa hxa hBa
  case round =>
    obtain ⟨n, hn, rfl, hown, hx, hB⟩ := hrel
    have q0 := cell_blk hx 0
    have q1 := cell_blk hx 1
    simp only [List.getElem?_toArray, List.getElem?_cons_succ, List.getElem?_cons_zero] at q0 q1
    have lq := (Array.getElem?_eq_some_iff.1 hx).1
    by_cases hnl : n < body.length
    · have hnl' : (n : Int) < body.length := by omega
      go_wp2
      clear q0 q1 lq
      obtain ⟨wo, rfl⟩ : ∃ wo : World, wo = wr := ⟨_, rfl⟩
      go_loopw [5, 7] (fun v i wr => ∃ j : Nat, j ≤ body.length ∧ i = .int .i64 j ∧ OwnI wr w0.heap.size v (goI f body h n j) ∧ wr.heap[w.heap.size]? = some (.cells #[.int .i64 h, .slice Ab body.length cb] 53 (0, 0)) ∧ Below w.heap.size w wr) (fun _ i _ => body.length - (intOf i).toNat)
      case atStart => exact ⟨0, Nat.zero_le _, rfl, by rw [goI_zero]; exact hown, hx, hB⟩
      clear hown hx hB
      case round =>
        obtain ⟨j, hj, rfl, hown, hx, hB⟩ := hrel
        have hs := hw.below hB
        have q0 := cell_blk hx 0
        have q1 := cell_blk hx 1
        simp only [List.getElem?_toArray, List.getElem?_cons_succ, List.getElem?_cons_zero] at q0 q1
        have lq := (Array.getElem?_eq_some_iff.1 hx).1
        by_cases hjl : j < body.length
        · have hjl' : (j : Int) < body.length := by omega
          have hj0 : (0 : Int) ≤ j := by omega
          obtain ⟨b1, o1, c1, e1, -, hb1, hc1, -⟩ := hb.ints (by omega)
          cases e1
          have p1 := hc1 wr hs j hjl
          have l1 := hs.lt' hb1
          have hbj : body[j]? = some (body.getD j 0) := by rw [List.getD_eq_getElem?_getD, List.getElem?_eq_getElem hjl]; rfl
          have hrb := hbrh.out (body.getD j 0) (List.mem_of_getElem? hbj)
          have hsuc := Lib.hid (goI_succ f body h n hbj)
          have hsub := hgh.out n j hj
          clear hc1 hbj
          obtain ⟨y, hy⟩ : ∃ y, body.getD j 0 = y := ⟨_, rfl⟩
          rw [hy] at p1 hrb hsuc
          clear hy
          obtain ⟨m, rfl⟩ : ∃ m : Nat, y = (m : Int) := ⟨y.toNat, by omega⟩
          have hm : (m : Int) < f.blocks.length := hrb.2
          have hm0 : (0 : Int) ≤ m := hrb.1
          clear hrb
          have hmn : m < f.blocks.length := by omega
          obtain ⟨g0, hg0⟩ : ∃ g0, g0 = goI f body h n j := ⟨_, rfl⟩
          rw [← hg0] at hown hsub hsuc
          clear hg0
          have t9 : decide ((m : Int) < 0) = false := by simp
          have t10 : decide ((f.blocks.length : Int) ≤ m) = false := decide_eq_false (by omega)
          have t11 : decide (f.blocks.length ≤ m) = false := decide_eq_false (by omega)
          go_wp2
          clear t9 t10 t11
          clear p1 l1 q0 q1 lq
          obtain ⟨bL, oL, cL', hLe, -, hbL, hrow, -⟩ := hl.blocks (by omega)
          cases hLe
          obtain ⟨un, hun, huc⟩ := hrow m hmn
          have hnz : (f.blocks.getD m default).next = nxB f (m : Int) := rfl
          rw [hnz] at hun
          have hnl9 := hun.le
          obtain ⟨An, cn, rfl, -, -⟩ := hun.open_
          have huch := Lib.hid huc
          have hst : stepG f g0 (m : Int) = if (m : Int) ∈ g0 then g0 else if ∃ z ∈ nxB f (m : Int), z ∈ g0 then g0 ++ [(m : Int)] else g0 := rfl
          have hsth := Lib.hid hst
          obtain ⟨g1, hg1⟩ : ∃ g1, g1 = stepG f g0 (m : Int) := ⟨_, rfl⟩
          rw [← hg1] at hsth hsuc
          have hsub1 := hgh.out n (j + 1) hjl
          rw [hsuc.out] at hsub1
          clear huc hrow hnz hst hg1
          generalize nxB f (m : Int) = nx at *
          obtain ⟨wo2, rfl⟩ : ∃ wo : World, wo = wr := ⟨_, rfl⟩
          go_loopw [5, 9] (fun v i wr => ∃ (k : Nat) (g : List Int), k ≤ nx.length ∧ i = .int .i64 k ∧ OwnI wr w0.heap.size v g ∧ Aside ((g = g1 ∧ (m : Int) ∈ g) ∨ (g = g0 ∧ (m : Int) ∉ g ∧ ∀ z ∈ nx.take k, z ∉ g)) ∧ wr.heap[w.heap.size]? = some (.cells #[.int .i64 h, .slice (some ⟨b1, o1, none⟩) body.length cb] 53 (0, 0)) ∧ Below w.heap.size w wr) (fun _ i _ => nx.length - (intOf i).toNat)
          case atStart =>
            refine ⟨0, g0, Nat.zero_le _, rfl, hown, ?_, hx, hB⟩
            by_cases hmg : (m : Int) ∈ g0
            · exact .inl ⟨by rw [hsth.out, if_pos hmg], hmg⟩
            · exact .inr ⟨rfl, hmg, by simp⟩
          clear hown hx hB hs
          case round =>
            obtain ⟨k, g, hk, rfl, hown, hcase, hx, hB⟩ := hrel
            have hs := hw.below hB
            have hcaseh := Lib.hid hcase
            have hgs : (∀ x ∈ g, x ∈ body) ∧ g.length ≤ body.length := by
              rcases hcase with ⟨rfl, _⟩ | ⟨rfl, _⟩
              · exact hsub1
              · exact hsub
            have hgsl := hgs.2
            have hHm := hHas.out (m : Int) _ g wr hB hown hgs.1 hgs.2
            have p3 := (huch.out wr hs).2.2
            have lL := hs.lt' hbL
            by_cases hkl : k < nx.length
            · have hkl' : (k : Int) < nx.length := by omega
              have hk0 : (0 : Int) ≤ k := by omega
              cases hin : hasB g (m : Int)
              · rw [hin] at hHm
                have hnm : (m : Int) ∉ g := by unfold hasB at hin; simpa using hin
                obtain ⟨rfl, hno⟩ : g = g0 ∧ ∀ z ∈ nx.take k, z ∉ g := by
                  rcases hcase with ⟨_, h9⟩ | ⟨h9, _, h8⟩
                  · exact absurd h9 hnm
                  · exact ⟨h9, h8⟩
                have hnoh := Lib.hid hno
                have hnmh := Lib.hid hnm
                obtain ⟨b2, o2, c2, e2, -, hb2, hc2, -⟩ := hun.ints (by omega)
                cases e2
                have p4 := hc2 wr hs k hkl
                have l4 := hs.lt' hb2
                have hzk : nx[k]? = some (nx.getD k 0) := by rw [List.getD_eq_getElem?_getD, List.getElem?_eq_getElem hkl]; rfl
                have hzkh := Lib.hid hzk
                have hHz := hHas.out (nx.getD k 0) _ g wr hB hown hgs.1 hgs.2
                clear hc2 hcase hno hnm hin hzk
                obtain ⟨z, hz⟩ : ∃ z, nx.getD k 0 = z := ⟨_, rfl⟩
                rw [hz] at p4 hzkh hHz
                clear hz hgs hsub hsub1
                cases hiz : hasB g z
                · rw [hiz] at hHz
                  have hzn := Lib.hid (show z ∉ g by unfold hasB at hiz; simpa using hiz)
                  clear hiz
                  go_upto_region 14 with (go_at_call 20; refine hHm.mono ?_; rintro e w6 ⟨rfl, rfl⟩)
                  go_wp2_with (go_at_call 20; refine hHz.mono ?_; rintro e w6 ⟨rfl, rfl⟩)
                  go_roundw
                  case rel =>
                    refine ⟨k + 1, g, by omega, by go_num, hown, .inr ⟨rfl, hnmh.out, fun z' hz' => ?_⟩, hx, hB⟩
                    rw [List.take_add_one, hzkh.out] at hz'
                    rcases List.mem_append.1 hz' with h9 | h9
                    · exact hnoh.out z' h9
                    · simp at h9; subst h9; exact hzn.out
                  case measure => simp [intOf]; omega
                · rw [hiz] at hHz
                  have hzy : z ∈ g := by unfold hasB at hiz; simpa using hiz
                  have hg1 : g1 = g ++ [(m : Int)] := by rw [hsth.out, if_neg hnmh.out, if_pos ⟨z, List.mem_of_getElem? hzkh.out, hzy⟩]
                  have hg1h := Lib.hid hg1
                  clear hiz hzy hg1
                  go_upto_region 14 with (go_at_call 20; refine hHm.mono ?_; rintro e w6 ⟨rfl, rfl⟩)
                  go_wp2_with (first
                    | (go_at_call 20; refine hHz.mono ?_; rintro e w6 ⟨rfl, rfl⟩)
                    | (at_builtin; go_loud (refine wpL_appI rfl _ _ rfl w0.heap.size _ g [(m : Int)] rfl (hown.al _) ⟨wr.heap.size, 0, none⟩ 1 1 rfl rfl (one_new rfl) ?hlen ?hsz ?_); go_loud (case hlen => simp; omega); go_loud (case hsz => have := hB.size; have := hzh.out; have := (Array.getElem?_eq_some_iff.1 hx).1; rw [World.size_alloc]; omega); intro v2 w2 hown2 hg2 _))
                  go_roundw
                  case rel =>
                    refine ⟨k + 1, g ++ [(m : Int)], by omega, by go_num, hown2, .inl ⟨hg1h.out.symm, by simp⟩, ?_, ?_⟩
                    · refine (hg2.block _ (by have := (Array.getElem?_eq_some_iff.1 hx).1; rw [World.size_alloc]; omega) (fun e => by have := (hown.lt e.symm).1; have := hzh.out; omega)).trans (ga_old hx)
                    · exact (hB.alloc hB.size _).grown hg2 (by rw [World.size_alloc]; have := hB.size; omega) (fun i hi => by have := (hown.lt hi).1; have := hzh.out; omega)
                  case measure => simp [intOf]; omega
              · rw [hin] at hHm
                have hmm : (m : Int) ∈ g := by unfold hasB at hin; simpa using hin
                have hge : g = g1 := by
                  rcases hcase with ⟨h9, _⟩ | ⟨_, h9, _⟩
                  · exact h9
                  · exact absurd hmm h9
                have hgeh := Lib.hid hge
                clear hge hin hmm hcase hgs
                go_wp2_with (go_at_call 20; refine hHm.mono ?_; rintro e w6 ⟨rfl, rfl⟩)
                go_roundw
                case rel => exact ⟨j + 1, by omega, by go_num, by rw [hsuc.out, ← hgeh.out]; exact hown, hx, hB⟩
                case measure => simp [intOf]; omega
            · obtain rfl : k = nx.length := by omega
              have hkn : ¬ (nx.length : Int) < nx.length := by omega
              have hge : g = g1 := by
                rcases hcase with ⟨h9, _⟩ | ⟨rfl, h9, h8⟩
                · exact h9
                · rw [hsth.out, if_neg h9, if_neg (fun ⟨z, hz1, hz2⟩ => h8 z (by rw [List.take_length]; exact hz1) hz2)]
              have hgeh := Lib.hid hge
              clear hge hcase hgs hkl
              go_wp2
              go_roundw
              case rel => exact ⟨j + 1, by omega, by go_num, by rw [hsuc.out, ← hgeh.out]; exact hown, hx, hB⟩
              case measure => simp [intOf]; omega
        · obtain rfl : j = body.length := by omega
          have hjn : ¬ (body.length : Int) < body.length := by omega
          have hall := Lib.hid (goI_all f body h n)
          clear hjl
          go_wp2
          go_roundw
          case rel => exact ⟨n + 1, by omega, by go_num, by rw [← hall.out]; exact hown, hx, hB⟩
          case measure => simp [intOf]; omega
    · obtain rfl : n = body.length := by omega
      have hnn : ¬ (body.length : Int) < body.length := by omega
      clear hnl
      obtain ⟨A9, c9, rfl, -⟩ := hown.len_form
      obtain ⟨N, hN⟩ : ∃ N, (iterG f body h body.length).length = N := ⟨_, rfl⟩
      rw [hN] at hown
      have hNh := Lib.hid hN
      rw [hN]
      clear hN
      go_wp2
      go_ret
      have htb : ((N : Int) == (body.length : Int)) = decide (N = body.length) := by
        by_cases h9 : N = body.length
        · subst h9; simp
        · rw [decide_eq_false h9, beq_eq_false_iff_ne]; omega
      exact ⟨ret_bool (htb.trans (by rw [hNh.out])), hB⟩
end Go.Proofs.Ytififjlgjmgikaa
namespace Go.Proofs.Ytififjlgjmgikaa
set_option linter.all false
open Go.RowKit Go.Shelf

/-- What GraphHeads asks of a loop. -/
structure HdOk (f : FlowD) (idom : List Int) (x : LoopD) : Prop where
  has : x.head ∈ x.body
  rng : 0 ≤ x.head ∧ x.head < f.blocks.length
  brng : ∀ y ∈ x.body, 0 ≤ y ∧ y < f.blocks.length
  blen : x.body.length ≤ 20000
  closed : ∀ v : Nat, v < f.blocks.length → idom.getD v 0 ≠ -2 → (v : Int) ∉ x.body → ∀ z ∈ nxB f v, z = x.head ∨ z ∉ x.body
  leads : (iterG f x.body x.head x.body.length).length = x.body.length
  gok : ∀ n i, i ≤ x.body.length → (∀ y ∈ goI f x.body x.head n i, y ∈ x.body) ∧ (goI f x.body x.head n i).length ≤ x.body.length
  above : ∀ y ∈ x.body, aboveB idom x.head y = true
theorem loopsTo_mem {f : FlowD} {k : Nat} {x : LoopD} (h : x ∈ loopsTo f k) : ∃ m : Nat, m < k ∧ tailsR f (m : Int) ≠ [] ∧ x = ⟨(m : Int), bodyR f (m : Int)⟩ := by
  unfold loopsTo at h
  obtain ⟨m, hm, hx⟩ := List.mem_flatMap.1 h
  unfold loopOf at hx
  split at hx
  · cases hx
  · rename_i h1
    simp at hx
    exact ⟨m, List.mem_range.1 hm, h1, hx⟩
theorem bodyR_len (f : FlowD) (h : Int) : (bodyR f h).length ≤ f.blocks.length := by
  unfold bodyR
  rw [List.length_map]
  refine Nat.le_trans (List.length_filter_le _ _) (by simp)
theorem hd_ok {c : CodeD} (hE : checkedE c = 0) (hf : fineB c = true) {x : LoopD} (hx : x ∈ loopsTo (theFlow c) (theFlow c).blocks.length) : HdOk (theFlow c) (idomL (theFlow c)) x := by
  obtain ⟨m, hm, ht, rfl⟩ := loopsTo_mem hx
  obtain ⟨t, ht⟩ := List.exists_mem_of_ne_nil _ ht
  have hlo := lpOk hE
  have hin : ∀ y, y ∈ bodyR (theFlow c) (m : Int) ↔ inLoop (theFlow c) (m : Int) y := fun y => by
    refine bodyR_mem.trans ⟨fun h => h.2, fun h => ⟨?_, h⟩⟩
    obtain ⟨k, rfl, hk⟩ := reach_in hf (loop_dom hf ht h).1
    omega
  have hh : (m : Int) ∈ bodyR (theFlow c) (m : Int) := (hin _).2 (.start List.mem_cons_self)
  have hnd : (bodyR (theFlow c) (m : Int)).Nodup := (bodyR_sorted _ _).imp fun h => by omega
  refine ⟨hh, by simp only; omega, fun y hy => (bodyR_mem.1 hy).1, Nat.le_trans (bodyR_len _ _) (by have := hlo.le; omega), fun v hv hr hnv z hz => ?_, ?_, fun n i hi => ?_, fun y hy => ?_⟩
  · by_cases hzh : z = (m : Int)
    · exact .inl hzh
    · refine .inr fun hzb => hnv ((hin _).2 (loop_closed hf (by omega) ?_ hz hzh ((hin z).1 hzb)))
      cases hrv : rchB (theFlow c) (v : Int)
      · exfalso
        apply hr
        rw [idomL_at _ hv]
        unfold idomB
        rw [show (theFlow c).reached.getD v false = false from hrv]
        rfl
      · rfl
  · refine leads_yes hh hnd fun P h0 hs y hy => ?_
    exact loop_leads hf (P := P) h0 (fun b hb hz => hs b ((hin b).2 hb) hz) ((hin y).1 hy)
  · obtain ⟨h1, h2⟩ := iterG_ok (f := theFlow c) hh n
    have h3 := roundG_ok (f := theFlow c) (body := bodyR (theFlow c) (m : Int)) (l := (bodyR (theFlow c) (m : Int)).take i) (g := iterG (theFlow c) (bodyR (theFlow c) (m : Int)) (m : Int) n) (fun b hb => List.mem_of_mem_take hb) h1 h2
    exact ⟨h3.2, nodup_len h3.1 h3.2⟩
  · have hd := loop_dom hf ht ((hin y).1 hy)
    obtain ⟨k, rfl, hk⟩ := reach_in hf hd.1
    exact (above_dom hf hk ((reached_iff hf hk).2 hd.1)).2 hd
theorem SlV.loops {H : PH} {v : Value} {xs : List LoopD} (h : SlV rLoop H v xs) (hne : 0 < xs.length) :
    ∃ b off cap, v = .slice (some ⟨b, off, none⟩) xs.length cap ∧ H b ≠ none ∧
      (∀ i, i < xs.length → ∃ u, SlV rInt H u (xs.getD i default).body ∧ ∀ w, Sees w H → w.cell? ⟨b, off + i * 2, none⟩ = some (.int .i64 (xs.getD i default).head) ∧ w.cell? ⟨b, off + i * 2 + 1, none⟩ = some u) := by
  obtain ⟨b, off, cap, rfl, hc, hb, he⟩ := h.base hne
  refine ⟨b, off, cap, rfl, hb, fun i hi => ?_⟩
  obtain ⟨cs, ⟨u, rfl, _, hu⟩, hcell⟩ := he i xs[i] (by simp [hi])
  refine ⟨u, by simpa [hi] using hu, fun w hw => ?_⟩
  have h0 := hcell w hw 0 _ rfl
  have h1 := hcell w hw 1 _ rfl
  simpa [rLoop, hi] using ⟨h0, h1⟩
theorem few_checked {c : CodeD} (h : c.instrs.length ≤ 120) : checkedE c = if fineB c = true then 0 else 1 := by
  have h1 := flow_len c
  have h2 := cnt_le (leadB c) c.instrs.length
  unfold checkedE
  split
  · rw [if_neg (by omega)]
  · rfl
set_option maxHeartbeats 8000000 in
set_option maxRecDepth 100000 in
theorem law_Heads (H : PH) (v : Value) (c : CodeD) (w : World) (hw : Sees w H) (hc : CodeV H v c) :
    Calls Try.prog 7 #[v] w fun e w' => e = .returned (.bool true) ∧ Below w.heap.size w w' := by
  have hc0 := hc
  obtain ⟨s0, s1, s2, s3, s4, s5, s6, rfl, hc⟩ := hc
  have hx0 := ga_new w (.cells #[s0, s1, s2, s3, s4, s5, s6] 30)
  have hB0 : Below w.heap.size w (w.alloc (.cells #[s0, s1, s2, s3, s4, s5, s6] 30)) := (Below.refl _ _).alloc (Nat.le_refl _) _
  have hA := law_awake (w.alloc (.cells #[s0, s1, s2, s3, s4, s5, s6] 30))
  have hFw := Lib.hid (fun (w1 : World) => law_few H _ c w1 hc0)
  by_cases hfew : c.instrs.length ≤ 120
  · have hfh := Lib.hid (show decide (c.instrs.length ≤ 120) = true from decide_eq_true hfew)
    have hfc := few_checked hfew
    cases hf : fineB c
    · rw [hf] at hfc
      have hBk := Lib.hid (fun (w1 : World) (hs : Sees w1 H) => graph_Blocks_no H _ c w1 hs hc0 hf)
      have hId := fun (w1 : World) (hs : Sees w1 H) => graph_Idoms_no H _ c w1 hs hc0 (by rw [hfc]; simp)
      have hLp := fun (w1 : World) (hs : Sees w1 H) => graph_Loops_no H _ c w1 hs hc0 (by rw [hfc]; simp)
      simp only [hfc, Bool.false_eq_true, if_false] at hId hLp
      have hIdh := Lib.hid hId
      have hLph := Lib.hid hLp
      clear hf hc hc0 hfew hfc hId hLp
      go_enter Try.func7, Try.ntmps7
      go_wp2_with (first
        | (go_at_call 10; refine hA.mono ?_; rintro e w1 ⟨rfl, hB1⟩; have hBa := bstep hB0 hB1; have hx1 := blk_keep hB1 hx0; have q := box7 hx1; have hl1 : w.heap.size < w1.heap.size := (Array.getElem?_eq_some_iff.1 hx1).1)
        | (go_at_call 14; refine (hFw.out _).mono ?_; rintro e w2 ⟨rfl, hB2⟩; rw [hfh.out]; replace hBa := bstep hBa hB2; replace hx1 := blk_keep hB2 hx1; clear q; have q := box7 hx1; replace hl1 : w.heap.size < w2.heap.size := (Array.getElem?_eq_some_iff.1 hx1).1)
        | (go_at_call 11; refine (hBk.out _ (hw.below hBa)).mono ?_; rintro e w3 ⟨rfl, hB3⟩; replace hBa := bstep hBa hB3; replace hx1 := blk_keep hB3 hx1; clear q; have q := box7 hx1; replace hl1 : w.heap.size < w3.heap.size := (Array.getElem?_eq_some_iff.1 hx1).1)
        | (go_at_call 16; refine (hIdh.out _ (hw.below hBa)).mono ?_; rintro e w4 ⟨rfl, hB4⟩; replace hBa := bstep hBa hB4; replace hx1 := blk_keep hB4 hx1; clear q; have q := box7 hx1; replace hl1 : w.heap.size < w4.heap.size := (Array.getElem?_eq_some_iff.1 hx1).1)
        | (go_at_call 19; refine (hLph.out _ (hw.below hBa)).mono ?_; rintro e w5 ⟨rfl, hB5⟩; replace hBa := bstep hBa hB5))
      go_ret
      exact ⟨rfl, hBa⟩
    · rw [hf, if_pos rfl] at hfc
      have hBk := Lib.hid (fun (w1 : World) (hs : Sees w1 H) => graph_Blocks_ok H _ c w1 hs hc0 hf)
      have hIdh := Lib.hid (fun (w1 : World) (hs : Sees w1 H) => graph_Idoms_ok H _ c w1 hs hc0 hfc)
      have hLph := Lib.hid (fun (w1 : World) (hs : Sees w1 H) => graph_Loops_ok H _ c w1 hs hc0 hfc)
      have hok := Lib.hid (fun x hx => hd_ok hfc hf (x := x) hx)
      have hlo := lpOk hfc
      have hfle := hlo.le
      have hil : (idomL (theFlow c)).length = (theFlow c).blocks.length := by simp [idomL]
      have hll := loopsTo_len (theFlow c) (theFlow c).blocks.length
      unfold BlocksErr at hBk
      unfold IntsErr at hIdh
      unfold LpErr at hLph
      generalize theFlow c = f at *
      generalize idomL f = idom at *
      obtain ⟨lps, hlps⟩ : ∃ lps, loopsTo f f.blocks.length = lps := ⟨_, rfl⟩
      rw [hlps] at hLph hok hll
      have hnn : ((f.blocks.length : Int) != f.blocks.length) = false := by simp
      clear hf hc hc0 hfew hfc hlps hlo
      go_enter Try.func7, Try.ntmps7
      go_wp2_with (first
        | (go_at_call 10; refine hA.mono ?_; rintro e w1 ⟨rfl, hB1⟩; have hBa := bstep hB0 hB1; have hx1 := blk_keep hB1 hx0; have q := box7 hx1; have hl1 : w.heap.size < w1.heap.size := (Array.getElem?_eq_some_iff.1 hx1).1)
        | (go_at_call 14; refine (hFw.out _).mono ?_; rintro e w2 ⟨rfl, hB2⟩; rw [hfh.out]; replace hBa := bstep hBa hB2; replace hx1 := blk_keep hB2 hx1; clear q; have q := box7 hx1; replace hl1 : w.heap.size < w2.heap.size := (Array.getElem?_eq_some_iff.1 hx1).1)
        | (go_at_call 11; refine (hBk.out _ (hw.below hBa)).mono ?_; rintro e w3 ⟨⟨ub, rfl, hub⟩, hB3⟩; obtain ⟨Ab, cb, rfl, -, -⟩ := hub.open_; have hs3 := extH.sees (hw.below hBa) hB3; have hH3 := extH.le (hw.below hBa) w3; replace hBa := bstep hBa hB3; replace hx1 := blk_keep hB3 hx1; clear q; have q := box7 hx1; replace hl1 : w.heap.size < w3.heap.size := (Array.getElem?_eq_some_iff.1 hx1).1)
        | (go_at_call 16; refine (hIdh.out _ (hw.below hBa)).mono ?_; rintro e w4 ⟨⟨ui, rfl, hui⟩, hB4⟩; obtain ⟨Ai, ci, rfl, -, -⟩ := hui.open_; rw [hil]; have hs4 := extH.sees (hw.below hBa) hB4; replace hBa := bstep hBa hB4; replace hx1 := blk_keep hB4 hx1; clear q; have q := box7 hx1; replace hl1 : w.heap.size < w4.heap.size := (Array.getElem?_eq_some_iff.1 hx1).1)
        | (go_at_call 19; refine (hLph.out _ (hw.below hBa)).mono ?_; rintro e w5 ⟨⟨up, rfl, hup⟩, hB5⟩; obtain ⟨Ap, cp, rfl, -, -⟩ := hup.open_; have hs5 := extH.sees (hw.below hBa) hB5; replace hBa := bstep hBa hB5; clear q))
      have hwz : w.heap.size ≤ w2.heap.size := by have := hB1.size; have := hB2.size; rw [World.size_alloc] at *; omega
      have hz23 := hB3.size
      have hz34 := hB4.size
      have hlK3 : PH.le (extH H w2 w3) (extH H w w5) := fun i o e => extH.step (bstep hB4 hB5) i o (extH.lower hw hwz i o e)
      have hlK4 : PH.le (extH H w3 w4) (extH H w w5) := fun i o e => extH.step hB5 i o (extH.lower hw (by omega) i o e)
      have hlK5 : PH.le (extH H w4 w5) (extH H w w5) := extH.lower hw (by omega)
      have hsK := extH.sees hw hBa
      have hubK := hub.mono hlK3
      have huiK := hui.mono hlK4
      have hupK := hup.mono hlK5
      clear hlK3 hlK4 hlK5 hs3 hs4 hs5 hub hui hup hH3 hx1 hl1 hx0 hB0 hB1 hB2 hB3 hB4 hB5 hA hFw hBk hIdh hLph hfh
      generalize extH H w w5 = K at *
      have hilh := Lib.hid hil
      rw [hil] at huiK
      clear hil
      go_loopw [10] (fun i wr => ∃ k : Nat, k ≤ lps.length ∧ i = .int .i64 k ∧ Below w5.heap.size w5 wr) (fun i _ => lps.length - (intOf i).toNat)
      case atStart => exact ⟨0, Nat.zero_le _, rfl, Below.refl _ _⟩
      case round =>
        obtain ⟨k, hk, rfl, hB⟩ := hrel
        have hs := hsK.below hB
        by_cases hkl : k < lps.length
        · have hkl' : (k : Int) < lps.length := by omega
          have hk0 : (0 : Int) ≤ k := by omega
          obtain ⟨bP, oP, cP, e1, hbP, hrow⟩ := hupK.loops (by omega)
          cases e1
          obtain ⟨u, hu, hcell⟩ := hrow k hkl
          have hx := hok.out (lps.getD k default) (by rw [List.getD_eq_getElem?_getD, List.getElem?_eq_getElem hkl]; exact List.getElem_mem _)
          obtain ⟨p1, p2⟩ := hcell wr hs
          have lP := hs.lt' hbP
          clear hrow hcell
          generalize lps.getD k default = x at *
          obtain ⟨xh, xb⟩ := x
          simp only at hu p1 p2
          have hxh := Lib.hid hx
          have hr0 := hx.rng.1
          have hr1 := hx.rng.2
          have hbl := hx.blen
          have hn1 : decide (xh < 0) = false := decide_eq_false (by simp only at hr0; omega)
          have hn2 : decide ((f.blocks.length : Int) ≤ xh) = false := decide_eq_false (by simp only at hr1; omega)
          have hhas : hasB xb xh = true := decide_eq_true hx.has
          have hhash := Lib.hid hhas
          obtain ⟨Au, cu, rfl, -, -⟩ := hu.open_
          simp only at hr0 hr1 hbl
          clear hx hhas
          have hset := set_new wr
          go_upto_region 15 with fail
          clear hset p1 p2 lP
          refine wp_name fun W hW => ?_
          have hxW : W.heap[wr.heap.size]? = some (.cells #[.int .i64 xh, .slice Au xb.length cu] 53 (0, 0)) := by rw [hW]; exact ga_new _ _
          have hBW : Below wr.heap.size wr W := by rw [hW]; exact (Below.refl _ _).alloc (Nat.le_refl _) _
          have hsW := hs.below hBW
          have q0 := cell_blk hxW 0
          have q1 := cell_blk hxW 1
          simp only [List.getElem?_toArray, List.getElem?_cons_succ, List.getElem?_cons_zero] at q0 q1
          have lq := (Array.getElem?_eq_some_iff.1 hxW).1
          clear hW
          go_upto_region 17 with (first
            | (go_at_call 20; refine (law_has K xh _ xb W hsW hu).mono ?_; rintro e w6 ⟨rfl, rfl⟩; rw [hhash.out])
            | (go_at_call 21; refine (law_closed K _ _ _ f idom xh xb W hsW hubK huiK hu hilh.out (by omega) hxh.out.closed).mono ?_; rintro e w7 ⟨rfl, hB7⟩; have hx7 := blk_keep hB7 hxW; have hs7 := hsW.below hB7; clear q0 q1 lq; have q0 := cell_blk hx7 0; have q1 := cell_blk hx7 1; simp only [List.getElem?_toArray, List.getElem?_cons_succ, List.getElem?_cons_zero] at q0 q1; have lq := (Array.getElem?_eq_some_iff.1 hx7).1)
            | (go_at_call 22; refine (law_leads K _ _ f xh xb w7 hs7 hubK hu (by omega) hxh.out.brng hbl hxh.out.gok).mono ?_; rintro e w8 ⟨rfl, hB8⟩; rw [decide_eq_true hxh.out.leads]; have hx8 := blk_keep hB8 hx7; have hs8 := hs7.below hB8; clear q0 q1 lq; have q0 := cell_blk hx8 0; have q1 := cell_blk hx8 1; simp only [List.getElem?_toArray, List.getElem?_cons_succ, List.getElem?_cons_zero] at q0 q1; have lq := (Array.getElem?_eq_some_iff.1 hx8).1))
          have hB58 : Below w5.heap.size w5 w8 := bstep hB (bstep hBW (bstep hB7 hB8))
          obtain ⟨wo, rfl⟩ : ∃ wo : World, wo = wr := ⟨_, rfl⟩
          clear q0 q1 lq hx7 hs7 hxW hsW hBW hB7 hB8 hs hn1 hn2
          go_wp2_with fail
          go_loopw [12] (fun j wr => ∃ m : Nat, m ≤ xb.length ∧ j = .int .i64 m ∧ wr.heap[wo.heap.size]? = some (.cells #[.int .i64 xh, .slice Au xb.length cu] 53 (0, 0)) ∧ Below w5.heap.size w5 wr) (fun j _ => xb.length - (intOf j).toNat)
          case atStart => exact ⟨0, Nat.zero_le _, rfl, hx8, hB58⟩
          clear hx8 hB58 hs8
          case round =>
            obtain ⟨m, hm, rfl, hx, hBr⟩ := hrel
            have hs := hsK.below hBr
            have q0 := cell_blk hx 0
            have q1 := cell_blk hx 1
            simp only [List.getElem?_toArray, List.getElem?_cons_succ, List.getElem?_cons_zero] at q0 q1
            have lq := (Array.getElem?_eq_some_iff.1 hx).1
            by_cases hml : m < xb.length
            · have hml' : (m : Int) < xb.length := by omega
              have hm0 : (0 : Int) ≤ m := by omega
              obtain ⟨b2, o2, c2, e2, -, hb2, hc2, -⟩ := hu.ints (by omega)
              cases e2
              have p4 := hc2 wr hs m hml
              have l4 := hs.lt' hb2
              have hab := hxh.out.above (xb.getD m 0) (by simp only; rw [List.getD_eq_getElem?_getD, List.getElem?_eq_getElem hml]; exact List.getElem_mem _)
              clear hc2
              obtain ⟨y2, hy2⟩ : ∃ y, xb.getD m 0 = y := ⟨_, rfl⟩
              rw [hy2] at p4 hab
              clear hy2
              have hAb := law_above K xh y2 _ idom wr.drew (by exact fun i o e => hs i o e) (by rw [← hilh.out] at huiK; exact huiK)
              rw [hilh.out] at hAb
              simp only at hab
              rw [hab] at hAb
              have hcs := Lib.hid (fun (w' : World) (h : w'.heap = wr.heap) => And.intro ((cell_heap h _).trans q0) (And.intro ((cell_heap h _).trans q1) (And.intro (size_heap h lq) (And.intro ((cell_heap h _).trans p4) (size_heap h l4)))))
              clear hab
              go_upto_region 20 with fail
              refine wp_region_plan (fun w' => w'.heap = wr.heap) [(0, true), (1, true), (2, true), (3, true), (4, true), (5, true), (6, true), (7, true), (8, false), (9, true)] (by kernel_rfl) (by kernel_rfl) (by kernel_rfl) rfl ?_
              repeat first
                | (refine plan_skip rfl (by rfl) ?_; simp only [Act.put, List.setIfInBounds_toArray, List.set_cons_zero, List.set_cons_succ])
                | (refine plan_read (v := ?_) rfl (by rfl) ?_ ?_; rotate_left; (focus (intro w' hSw; obtain ⟨p1, p2, p3, p4, p5⟩ := hcs.out _ hSw; clear hSw; go_simp; all_goals with_reducible rfl)); simp only [Act.put, List.setIfInBounds_toArray, List.set_cons_zero, List.set_cons_succ])
              refine plan_step rfl (by rfl) (fun K hK => ?_)
              go_simp
              refine hAb.mono ?_
              rintro e w6 ⟨rfl, rfl⟩
              refine hK.out _ _ rfl ?_
              clear hK K
              repeat first
                | (refine plan_skip rfl (by rfl) ?_; simp only [Act.put, List.setIfInBounds_toArray, List.set_cons_zero, List.set_cons_succ])
                | (refine plan_read (v := ?_) rfl (by rfl) ?_ ?_; rotate_left; (focus (intro w' hSw; skip; clear hSw; go_simp; all_goals with_reducible rfl)); simp only [Act.put, List.setIfInBounds_toArray, List.set_cons_zero, List.set_cons_succ])
              refine plan_nil (NoPanic.normal ?_)
              go_wp2
              go_roundw
              case rel => exact ⟨m + 1, by omega, by go_num, hx, bdrew hBr⟩
              case measure => simp [intOf]; omega
            · obtain rfl : m = xb.length := by omega
              have hmn : ¬ (xb.length : Int) < xb.length := by omega
              clear hml
              go_wp2
              go_roundw
              case rel => exact ⟨k + 1, by omega, by go_num, hBr⟩
              case measure => simp [intOf]; omega
        · obtain rfl : k = lps.length := by omega
          have hkn : ¬ (lps.length : Int) < lps.length := by omega
          clear hkl
          go_wp2
          go_ret
          exact ⟨rfl, bstep hBa hB⟩
  · have hfh := Lib.hid (show decide (c.instrs.length ≤ 120) = false from decide_eq_false hfew)
    clear hfew hc hc0
    go_enter Try.func7, Try.ntmps7
    go_wp2_with (first
      | (go_at_call 10; refine hA.mono ?_; rintro e w1 ⟨rfl, hB1⟩; have hBa := bstep hB0 hB1; have hx1 := blk_keep hB1 hx0; have q := box7 hx1; have hl1 : w.heap.size < w1.heap.size := (Array.getElem?_eq_some_iff.1 hx1).1)
      | (go_at_call 14; refine (hFw.out _).mono ?_; rintro e w2 ⟨rfl, hB2⟩; rw [hfh.out]; replace hBa := bstep hBa hB2; replace hx1 := blk_keep hB2 hx1; clear q; have q := box7 hx1; replace hl1 : w.heap.size < w2.heap.size := (Array.getElem?_eq_some_iff.1 hx1).1))
    go_ret
    exact ⟨rfl, hBa⟩
end Go.Proofs.Ytififjlgjmgikaa
