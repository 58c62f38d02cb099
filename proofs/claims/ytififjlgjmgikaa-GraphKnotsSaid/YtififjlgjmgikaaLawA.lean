/- The laws' has, above, closed, leads (seat Try). -/
import Derived.Test.YtififjlgjmgikaaLoopM
namespace Go.Proofs.Ytififjlgjmgikaa
set_option linter.all false
open Go.RowKit

def hasB (xs : List Int) (n : Int) : Bool := decide (n ∈ xs)
set_option maxHeartbeats 2000000 in
theorem law_has (H : PH) (n : Int) (u : Value) (xs : List Int) (w : World) (hw : Sees w H) (hx : SlV rInt H u xs) :
    Calls Try.prog 20 #[u, .int .i64 n] w fun e w' => e = .returned (.bool (hasB xs n)) ∧ w = w' := by
  have lx := hx.le
  obtain ⟨Ax, cx, rfl, -, -⟩ := hx.open_
  have hS := Lib.hid (show hasB xs n = decide (n ∈ xs) from rfl)
  generalize hasB xs n = B at *
  go_enter Try.func20, Try.ntmps20
  go_wp2
  go_loop [5] (fun i => ∃ k : Nat, k ≤ xs.length ∧ i = .int .i64 k ∧ Aside (∀ j, j < k → xs.getD j 0 ≠ n)) (fun i => xs.length - (intOf i).toNat)
  case atStart => exact ⟨0, Nat.zero_le _, rfl, fun j h => by omega⟩
  case round =>
    obtain ⟨k, hk, rfl, hno⟩ := hrel
    have hnoh := Lib.hid hno
    clear hno
    by_cases hlt : k < xs.length
    · obtain ⟨b1, o1, c1, e1, -, hb1, hc1, -⟩ := hx.ints (by omega)
      cases e1
      have q1 := hc1 w hw k hlt
      have l1 := hw.lt' hb1
      clear hc1
      by_cases he : xs.getD k 0 = n
      · have hb := Lib.hid (show B = true by rw [hS.out]; exact decide_eq_true (by rw [← he, List.getD_eq_getElem?_getD, List.getElem?_eq_getElem hlt]; simp))
        rw [he] at q1
        have hne : (n == n) = true := by simp
        clear he
        go_wp2
        go_ret
        exact ⟨ret_bool hb.out.symm, rfl⟩
      · have hne : (xs.getD k 0 == n) = false := by simpa using he
        have heh := Lib.hid he
        clear he
        obtain ⟨y, hy⟩ : ∃ y, xs.getD k 0 = y := ⟨_, rfl⟩
        rw [hy] at q1 hne
        have hyh := Lib.hid hy
        clear hy
        go_wp2
        go_round
        case rel =>
          refine ⟨k + 1, by omega, by go_num, fun j hj => ?_⟩
          by_cases e : j = k
          · subst e; exact heh.out
          · exact hnoh.out j (by omega)
        case measure => simp [intOf]; omega
    · obtain rfl : k = xs.length := by omega
      have hltn : ¬ (xs.length : Int) < xs.length := by omega
      have hb := Lib.hid (show B = false by
        rw [hS.out]
        refine decide_eq_false fun hm => ?_
        obtain ⟨j, hj, rfl⟩ := List.getElem_of_mem hm
        exact hnoh.out j hj (by rw [List.getD_eq_getElem?_getD, List.getElem?_eq_getElem hj]; rfl))
      clear hlt
      go_wp2
      go_ret
      exact ⟨ret_bool hb.out.symm, rfl⟩
def aboveB (idom : List Int) (a b : Int) : Bool := aboveK idom a (idom.length + 1) b
set_option maxHeartbeats 2000000 in
theorem law_above (H : PH) (a b : Int) (u : Value) (xs : List Int) (w : World) (hw : Sees w H) (hx : SlV rInt H u xs) :
    Calls Try.prog 23 #[u, .int .i64 a, .int .i64 b] w fun e w' => e = .returned (.bool (aboveB xs a b)) ∧ w = w' := by
  have lx := hx.le
  obtain ⟨Ax, cx, rfl, -, -⟩ := hx.open_
  have hS := Lib.hid (show aboveB xs a b = aboveK xs a (xs.length + 1) b from rfl)
  generalize aboveB xs a b = B at *
  go_enter Try.func23, Try.ntmps23
  go_wp2
  go_loop [2, 7] (fun y i => ∃ (k : Nat) (z : Int), k ≤ xs.length + 1 ∧ i = .int .i64 k ∧ y = .int .i64 z ∧ Aside (B = aboveK xs a (xs.length + 1 - k) z)) (fun _ i => xs.length + 1 - (intOf i).toNat)
  case atStart => exact ⟨0, b, Nat.zero_le _, rfl, rfl, hS.out⟩
  case round =>
    obtain ⟨k, z, hk, rfl, rfl, hno⟩ := hrel
    have hnoh := Lib.hid hno
    clear hno
    by_cases hlt : k ≤ xs.length
    · have hlt' : (k : Int) ≤ xs.length := by omega
      have hstep := hnoh.out
      rw [show xs.length + 1 - k = (xs.length - k) + 1 by omega] at hstep
      unfold aboveK at hstep
      by_cases hz0 : z < 0
      · rw [if_pos (.inl hz0)] at hstep
        have hb := Lib.hid hstep
        clear hstep
        go_wp2
        go_ret
        exact ⟨ret_bool hb.out.symm, rfl⟩
      · by_cases hzl : (xs.length : Int) ≤ z
        · rw [if_pos (.inr hzl)] at hstep
          have hb := Lib.hid hstep
          clear hstep
          go_wp2
          go_ret
          exact ⟨ret_bool hb.out.symm, rfl⟩
        · rw [if_neg (by omega)] at hstep
          obtain ⟨m, rfl⟩ : ∃ m : Nat, z = (m : Int) := ⟨z.toNat, by omega⟩
          rw [Int.toNat_natCast] at hstep
          have hm : m < xs.length := by omega
          by_cases haz : a = (m : Int)
          · rw [if_pos haz] at hstep
            have hb := Lib.hid hstep
            have hne : (a == (m : Int)) = true := by simp [haz]
            clear hstep haz
            go_wp2
            go_ret
            exact ⟨ret_bool hb.out.symm, rfl⟩
          · rw [if_neg haz] at hstep
            have hb := Lib.hid hstep
            have hne : (a == (m : Int)) = false := by simp [haz]
            obtain ⟨b1, o1, c1, e1, -, hb1, hc1, -⟩ := hx.ints (by omega)
            cases e1
            have q1 := hc1 w hw m hm
            have l1 := hw.lt' hb1
            clear hstep haz hc1
            generalize xs.getD m 0 = y at *
            go_wp2
            go_round
            case rel => exact ⟨k + 1, y, by omega, by go_num, rfl, by show B = aboveK _ _ _ _; rw [hb.out, show xs.length + 1 - (k + 1) = xs.length - k by omega]⟩
            case measure => simp [intOf]; omega
    · obtain rfl : k = xs.length + 1 := by omega
      have hltn : ¬ ((xs.length + 1 : Nat) : Int) ≤ xs.length := by omega
      have hb := Lib.hid (show B = false by rw [hnoh.out, Nat.sub_self]; rfl)
      clear hlt
      go_wp2
      go_ret
      exact ⟨ret_bool hb.out.symm, rfl⟩
theorem cell_heap {w w' : World} (h : w'.heap = w.heap) (a : Addr) : w'.cell? a = w.cell? a := by
  simp only [World.cell?, h]
theorem size_heap {w w' : World} {b : Nat} (h : w'.heap = w.heap) (hb : b < w.heap.size) : b < w'.heap.size := by rw [h]; exact hb
theorem bdrew {w w1 : World} (h : Below w.heap.size w w1) : Below w.heap.size w w1.drew := ⟨h.os, h.tape, h.output, h.size, h.block⟩
set_option maxHeartbeats 4000000 in
set_option maxRecDepth 100000 in
theorem law_closed (H : PH) (vl vi u : Value) (f : FlowD) (idom : List Int) (h : Int) (body : List Int) (w : World) (hw : Sees w H) (hl : SlV rBlock H vl f.blocks) (hi : SlV rInt H vi idom) (hb : SlV rInt H u body)
    (hlen : idom.length = f.blocks.length) (hle : f.blocks.length ≤ 20000) (hcl : ∀ v : Nat, v < f.blocks.length → idom.getD v 0 ≠ -2 → (v : Int) ∉ body → ∀ z ∈ nxB f v, z = h ∨ z ∉ body) :
    Calls Try.prog 21 #[vl, vi, .agg #[.int .i64 h, u]] w fun e w' => e = .returned (.bool true) ∧ Below w.heap.size w w' := by
  obtain ⟨Al, cl, rfl, -, -⟩ := hl.open_
  obtain ⟨Ai, ci, rfl, -, -⟩ := hi.open_
  obtain ⟨Ab, cb, rfl, -, -⟩ := hb.open_
  have hx0 := ga_new w (.cells #[.int .i64 h, .slice Ab body.length cb] 53)
  have hB0 : Below w.heap.size w (w.alloc (.cells #[.int .i64 h, .slice Ab body.length cb] 53)) := (Below.refl _ _).alloc (Nat.le_refl _) _
  have hHas := Lib.hid (fun (y : Int) (w1 : World) (hs : Sees w1 H) => law_has H y _ body w1 hs hb)
  have hclh := Lib.hid hcl
  have hlenh := Lib.hid hlen
  rw [hlen] at hi ⊢
  clear hcl hlen hb
  go_enter Try.func21, Try.ntmps21
  go_wp2
  go_loopw [7] (fun i wr => ∃ k : Nat, k ≤ f.blocks.length ∧ i = .int .i64 k ∧ wr.heap[w.heap.size]? = some (.cells #[.int .i64 h, .slice Ab body.length cb] 53 (0, 0)) ∧ Below w.heap.size w wr) (fun i _ => f.blocks.length - (intOf i).toNat)
  case atStart => exact ⟨0, Nat.zero_le _, rfl, hx0, hB0⟩
  case round =>
    obtain ⟨k, hk, rfl, hx, hB⟩ := hrel
    have hs := hw.below hB
    have q0 := cell_blk hx 0
    have q1 := cell_blk hx 1
    simp only [List.getElem?_toArray, List.getElem?_cons_succ, List.getElem?_cons_zero] at q0 q1
    have lq := (Array.getElem?_eq_some_iff.1 hx).1
    by_cases hlt : k < f.blocks.length
    · have hlt' : (k : Int) < f.blocks.length := by omega
      have hk0 : (0 : Int) ≤ k := by omega
      obtain ⟨b1, o1, c1, e1, -, hb1, hc1, -⟩ := hi.ints (by rw [hlenh.out]; omega)
      rw [hlenh.out] at e1 hc1
      cases e1
      have p1 := hc1 wr hs k hlt
      have l1 := hs.lt' hb1
      have hck := hclh.out k hlt
      clear hc1
      obtain ⟨y, hy⟩ : ∃ y, idom.getD k 0 = y := ⟨_, rfl⟩
      rw [hy] at p1 hck
      clear hy
      by_cases h2 : y = -2
      · have t1 : (y == -2) = true := by simp [h2]
        clear h2 hck
        go_wp2
        go_roundw
        case rel => exact ⟨k + 1, by omega, by go_num, hx, hB⟩
        case measure => simp [intOf]; omega
      · have t1 : (y == -2) = false := by simp [h2]
        have hHk := hHas.out (k : Int) wr hs
        cases hin : hasB body (k : Int)
        · rw [hin] at hHk
          have hnot : (k : Int) ∉ body := by unfold hasB at hin; simpa using hin
          have hck2 := Lib.hid (hck h2 hnot)
          clear hin hnot h2 hck
          go_wp2_with (go_at_call 20; refine hHk.mono ?_; rintro e w1 ⟨rfl, rfl⟩)
          clear hHk q0 q1 lq t1 p1 l1
          obtain ⟨wo, rfl⟩ : ∃ wo : World, wo = wr := ⟨_, rfl⟩
          obtain ⟨bL, oL, cL', hLe, -, hbL, hrow, -⟩ := hl.blocks (by omega)
          cases hLe
          obtain ⟨un, hun, huc⟩ := hrow k hlt
          have hnz : (f.blocks.getD k default).next = nxB f (k : Int) := rfl
          rw [hnz] at hun
          have hnl := hun.le
          obtain ⟨An, cn, rfl, -, -⟩ := hun.open_
          have huch := Lib.hid huc
          clear huc hrow hnz
          generalize nxB f (k : Int) = nx at *
          go_loopw [8] (fun j wr => ∃ m : Nat, m ≤ nx.length ∧ j = .int .i64 m ∧ wr.heap[w.heap.size]? = some (.cells #[.int .i64 h, .slice Ab body.length cb] 53 (0, 0)) ∧ Below w.heap.size w wr) (fun j _ => nx.length - (intOf j).toNat)
          case atStart => exact ⟨0, Nat.zero_le _, rfl, hx, hB⟩
          clear hx hB hs
          case round =>
            obtain ⟨m, hm, rfl, hx, hB⟩ := hrel
            have hs := hw.below hB
            have q0 := cell_blk hx 0
            have q1 := cell_blk hx 1
            simp only [List.getElem?_toArray, List.getElem?_cons_succ, List.getElem?_cons_zero] at q0 q1
            have lq := (Array.getElem?_eq_some_iff.1 hx).1
            have p3 := (huch.out wr hs).2.2
            have lL := hs.lt' hbL
            by_cases hml : m < nx.length
            · have hml' : (m : Int) < nx.length := by omega
              have hm0 : (0 : Int) ≤ m := by omega
              obtain ⟨b2, o2, c2, e2, -, hb2, hc2, -⟩ := hun.ints (by omega)
              cases e2
              have p4 := hc2 wr hs m hml
              have l4 := hs.lt' hb2
              have hcm := hck2.out (nx.getD m 0) (by rw [List.getD_eq_getElem?_getD, List.getElem?_eq_getElem hml]; exact List.getElem_mem _)
              clear hc2
              obtain ⟨y2, hy2⟩ : ∃ y, nx.getD m 0 = y := ⟨_, rfl⟩
              rw [hy2] at p4 hcm
              clear hy2
              have hcs := Lib.hid (fun (w' : World) (h : w'.heap = wr.heap) => And.intro ((cell_heap h _).trans q0) (And.intro ((cell_heap h _).trans q1) (And.intro (size_heap h lq) (And.intro ((cell_heap h _).trans p3) (And.intro (size_heap h lL) (And.intro ((cell_heap h _).trans p4) (size_heap h l4)))))))
              have hHy := hHas.out y2 wr.drew (by exact fun i o e => hs i o e)
              by_cases hyh : y2 = h
              · have t2 : (y2 != h) = false := by simp [hyh]
                clear hyh hcm hHy
                go_upto_region 8 with fail
                refine wp_region_plan (fun w' => w'.heap = wr.heap) [(0, true), (1, true), (2, true), (3, true), (4, true), (5, true), (6, true), (7, true), (8, true), (9, true), (10, true), (11, true), (12, true), (13, true), (14, true), (15, true), (16, true), (17, true), (18, true), (19, true), (20, true), (21, true), (22, true), (23, true)] (by kernel_rfl) (by kernel_rfl) (by kernel_rfl) rfl ?_
                repeat first
                  | (refine plan_skip rfl (by rfl) ?_; simp only [Act.put, List.setIfInBounds_toArray, List.set_cons_zero, List.set_cons_succ])
                  | (refine plan_read (v := ?_) rfl (by rfl) ?_ ?_; rotate_left; (focus (intro w' hSw; obtain ⟨p1, p2, p3, p4, p5, p6, p7⟩ := hcs.out _ hSw; clear hSw; go_simp; all_goals with_reducible rfl)); simp only [Act.put, List.setIfInBounds_toArray, List.set_cons_zero, List.set_cons_succ])
                refine plan_nil (NoPanic.normal ?_)
                go_wp2
                go_roundw
                case rel => exact ⟨m + 1, by omega, by go_num, hx, bdrew hB⟩
                case measure => simp [intOf]; omega
              · have t2 : (y2 != h) = true := by simpa using hyh
                have hnb : hasB body y2 = false := by unfold hasB; simpa using hcm.resolve_left hyh
                rw [hnb] at hHy
                clear hyh hcm hnb
                go_upto_region 8 with fail
                refine wp_region_plan (fun w' => w'.heap = wr.heap) [(0, true), (1, true), (2, true), (3, true), (4, true), (5, true), (6, true), (7, true), (8, true), (9, true), (10, true), (11, true), (12, true), (13, true), (14, true), (15, true), (16, true), (17, true), (18, true), (19, true), (20, true), (21, true), (22, false), (23, true)] (by kernel_rfl) (by kernel_rfl) (by kernel_rfl) rfl ?_
                repeat first
                  | (refine plan_skip rfl (by rfl) ?_; simp only [Act.put, List.setIfInBounds_toArray, List.set_cons_zero, List.set_cons_succ])
                  | (refine plan_read (v := ?_) rfl (by rfl) ?_ ?_; rotate_left; (focus (intro w' hSw; obtain ⟨p1, p2, p3, p4, p5, p6, p7⟩ := hcs.out _ hSw; clear hSw; go_simp; all_goals with_reducible rfl)); simp only [Act.put, List.setIfInBounds_toArray, List.set_cons_zero, List.set_cons_succ])
                refine plan_step rfl (by rfl) (fun K hK => ?_)
                go_simp
                refine hHy.mono ?_
                rintro e w6 ⟨rfl, rfl⟩
                refine hK.out _ _ rfl ?_
                clear hK K
                repeat first
                  | (refine plan_skip rfl (by rfl) ?_; simp only [Act.put, List.setIfInBounds_toArray, List.set_cons_zero, List.set_cons_succ])
                  | (refine plan_read (v := ?_) rfl (by rfl) ?_ ?_; rotate_left; (focus (intro w' hSw; skip; clear hSw; go_simp; all_goals with_reducible rfl)); simp only [Act.put, List.setIfInBounds_toArray, List.set_cons_zero, List.set_cons_succ])
                refine plan_nil (NoPanic.normal ?_)
                go_wp2
                go_roundw
                case rel => exact ⟨m + 1, by omega, by go_num, hx, bdrew hB⟩
                case measure => simp [intOf]; omega
            · obtain rfl : m = nx.length := by omega
              have hmn : ¬ (nx.length : Int) < nx.length := by omega
              clear hml
              go_wp2
              go_roundw
              case rel => exact ⟨k + 1, by omega, by go_num, hx, hB⟩
              case measure => simp [intOf]; omega
        · rw [hin] at hHk
          clear hin hck h2
          go_wp2_with (go_at_call 20; refine hHk.mono ?_; rintro e w1 ⟨rfl, rfl⟩)
          go_roundw
          case rel => exact ⟨k + 1, by omega, by go_num, hx, hB⟩
          case measure => simp [intOf]; omega
    · obtain rfl : k = f.blocks.length := by omega
      have hltn : ¬ (f.blocks.length : Int) < f.blocks.length := by omega
      clear hlt
      go_wp2
      go_ret
      exact ⟨rfl, hB⟩
def goI (f : FlowD) (body : List Int) (h : Int) (n i : Nat) : List Int := (body.take i).foldl (stepG f) (iterG f body h n)
theorem goI_zero (f : FlowD) (body : List Int) (h : Int) (n : Nat) : goI f body h n 0 = iterG f body h n := by simp [goI]
theorem goI_all (f : FlowD) (body : List Int) (h : Int) (n : Nat) : goI f body h n body.length = iterG f body h (n + 1) := by
  unfold goI
  rw [List.take_length]
  rfl
theorem goI_succ (f : FlowD) (body : List Int) (h : Int) (n : Nat) {i : Nat} {b : Int} (hb : body[i]? = some b) : goI f body h n (i + 1) = stepG f (goI f body h n i) b := by
  unfold goI
  rw [List.take_add_one, hb]
  simp
set_option maxHeartbeats 4000000 in
set_option maxRecDepth 100000 in
theorem law_leads (H : PH) (vl u : Value) (f : FlowD) (h : Int) (body : List Int) (w : World) (hw : Sees w H) (hl : SlV rBlock H vl f.blocks) (hb : SlV rInt H u body) (hle : f.blocks.length ≤ 20000)
    (hbr : ∀ x ∈ body, 0 ≤ x ∧ x < f.blocks.length) (hbl : body.length ≤ 20000) (hg : ∀ n i, i ≤ body.length → (∀ x ∈ goI f body h n i, x ∈ body) ∧ (goI f body h n i).length ≤ body.length) :
    Calls Try.prog 22 #[vl, .agg #[.int .i64 h, u]] w fun e w' => e = .returned (.bool (decide ((iterG f body h body.length).length = body.length))) ∧ Below w.heap.size w w' := by
  obtain ⟨Al, cl, rfl, -, -⟩ := hl.open_
  obtain ⟨Ab, cb, rfl, -, -⟩ := hb.open_
  obtain ⟨W0, hW0⟩ : ∃ W0, W0 = w.alloc (.cells #[.int .i64 h, .slice Ab body.length cb] 53) := ⟨_, rfl⟩
  have hz0 : W0.heap.size = w.heap.size + 1 := by rw [hW0]; simp
  have hx0 : W0.heap[w.heap.size]? = some (.cells #[.int .i64 h, .slice Ab body.length cb] 53 (0, 0)) := by rw [hW0]; exact ga_new w _
  have hB0 : Below w.heap.size w W0 := by rw [hW0]; exact (Below.refl _ _).alloc (Nat.le_refl _) _
  have hgh := Lib.hid hg
  have hbrh := Lib.hid hbr
  have hHas := Lib.hid (fun (y : Int) (v : Value) (g : List Int) (wr : World) (hB : Below w.heap.size w wr) (ho : OwnI wr W0.heap.size v g) (hi : ∀ x ∈ g, x ∈ body) (hn : g.length ≤ body.length) =>
    law_has (extH H w wr) y v g wr (extH.sees hw hB) ((ho.lower (by omega)).read (fun x hx => by have := hbr x (hi x hx); unfold I64; omega) (by unfold maxN; omega)))
  have hq := cell_blk hx0 0
  simp only [List.getElem?_toArray, List.getElem?_cons_zero] at hq
  have hlq := (Array.getElem?_eq_some_iff.1 hx0).1
  clear hg hbr
  go_enter Try.func22, Try.ntmps22
  go_upto_region 1 with fail
  refine wp_name fun w0 hw0 => ?_
  rw [← hW0] at hw0
  subst hw0
  clear hW0
  have hzh := Lib.hid hz0
  clear hz0
  go_wp2
  have hxa := ga_old (o := .cells #[.int .i64 h] 3) hx0
  have hBa := hB0.alloc hB0.size (.cells #[.int .i64 h] 3)
  have hoa : OwnI (w0.alloc (.cells #[.int .i64 h] 3)) w0.heap.size (.slice (some ⟨w0.heap.size, 0, none⟩) 1 1) (iterG f body h 0) := OwnI.snoc_lit w0 h
  clear hq hlq hx0 hB0
  go_loopw [5, 6] (fun v i wr => ∃ n : Nat, n ≤ body.length ∧ i = .int .i64 n ∧ OwnI wr w0.heap.size v (iterG f body h n) ∧ wr.heap[w.heap.size]? = some (.cells #[.int .i64 h, .slice Ab body.length cb] 53 (0, 0)) ∧ Below w.heap.size w wr) (fun _ i _ => body.length - (intOf i).toNat)
  case atStart => exact ⟨0, Nat.zero_le _, rfl, hoa, hxa, hBa⟩
  clear hoa hxa hBa
  case round =>
    obtain ⟨n, hn, rfl, hown, hx, hB⟩ := hrel
    have q0 := cell_blk hx 0
    have q1 := cell_blk hx 1
    simp only [List.getElem?_toArray, List.getElem?_cons_succ, List.getElem?_cons_zero] at q0 q1
    have lq := (Array.getElem?_eq_some_iff.1 hx).1
    by_cases hnl : n < body.length
    · have hnl' : (n : Int) < body.length := by omega
      go_wp2
      clear q0 q1 lq
      obtain ⟨wo, rfl⟩ : ∃ wo : World, wo = wr := ⟨_, rfl⟩
      go_loopw [5, 7] (fun v i wr => ∃ j : Nat, j ≤ body.length ∧ i = .int .i64 j ∧ OwnI wr w0.heap.size v (goI f body h n j) ∧ wr.heap[w.heap.size]? = some (.cells #[.int .i64 h, .slice Ab body.length cb] 53 (0, 0)) ∧ Below w.heap.size w wr) (fun _ i _ => body.length - (intOf i).toNat)
      case atStart => exact ⟨0, Nat.zero_le _, rfl, by rw [goI_zero]; exact hown, hx, hB⟩
      clear hown hx hB
      case round =>
        obtain ⟨j, hj, rfl, hown, hx, hB⟩ := hrel
        have hs := hw.below hB
        have q0 := cell_blk hx 0
        have q1 := cell_blk hx 1
        simp only [List.getElem?_toArray, List.getElem?_cons_succ, List.getElem?_cons_zero] at q0 q1
        have lq := (Array.getElem?_eq_some_iff.1 hx).1
        by_cases hjl : j < body.length
        · have hjl' : (j : Int) < body.length := by omega
          have hj0 : (0 : Int) ≤ j := by omega
          obtain ⟨b1, o1, c1, e1, -, hb1, hc1, -⟩ := hb.ints (by omega)
          cases e1
          have p1 := hc1 wr hs j hjl
          have l1 := hs.lt' hb1
          have hbj : body[j]? = some (body.getD j 0) := by rw [List.getD_eq_getElem?_getD, List.getElem?_eq_getElem hjl]; rfl
          have hrb := hbrh.out (body.getD j 0) (List.mem_of_getElem? hbj)
          have hsuc := Lib.hid (goI_succ f body h n hbj)
          have hsub := hgh.out n j hj
          clear hc1 hbj
          obtain ⟨y, hy⟩ : ∃ y, body.getD j 0 = y := ⟨_, rfl⟩
          rw [hy] at p1 hrb hsuc
          clear hy
          obtain ⟨m, rfl⟩ : ∃ m : Nat, y = (m : Int) := ⟨y.toNat, by omega⟩
          have hm : (m : Int) < f.blocks.length := hrb.2
          have hm0 : (0 : Int) ≤ m := hrb.1
          clear hrb
          have hmn : m < f.blocks.length := by omega
          obtain ⟨g0, hg0⟩ : ∃ g0, g0 = goI f body h n j := ⟨_, rfl⟩
          rw [← hg0] at hown hsub hsuc
          clear hg0
          have t9 : decide ((m : Int) < 0) = false := by simp
          have t10 : decide ((f.blocks.length : Int) ≤ m) = false := decide_eq_false (by omega)
          have t11 : decide (f.blocks.length ≤ m) = false := decide_eq_false (by omega)
          go_wp2
          clear t9 t10 t11
          clear p1 l1 q0 q1 lq
          obtain ⟨bL, oL, cL', hLe, -, hbL, hrow, -⟩ := hl.blocks (by omega)
          cases hLe
          obtain ⟨un, hun, huc⟩ := hrow m hmn
          have hnz : (f.blocks.getD m default).next = nxB f (m : Int) := rfl
          rw [hnz] at hun
          have hnl9 := hun.le
          obtain ⟨An, cn, rfl, -, -⟩ := hun.open_
          have huch := Lib.hid huc
          have hst : stepG f g0 (m : Int) = if (m : Int) ∈ g0 then g0 else if ∃ z ∈ nxB f (m : Int), z ∈ g0 then g0 ++ [(m : Int)] else g0 := rfl
          have hsth := Lib.hid hst
          obtain ⟨g1, hg1⟩ : ∃ g1, g1 = stepG f g0 (m : Int) := ⟨_, rfl⟩
          rw [← hg1] at hsth hsuc
          have hsub1 := hgh.out n (j + 1) hjl
          rw [hsuc.out] at hsub1
          clear huc hrow hnz hst hg1
          generalize nxB f (m : Int) = nx at *
          obtain ⟨wo2, rfl⟩ : ∃ wo : World, wo = wr := ⟨_, rfl⟩
          go_loopw [5, 9] (fun v i wr => ∃ (k : Nat) (g : List Int), k ≤ nx.length ∧ i = .int .i64 k ∧ OwnI wr w0.heap.size v g ∧ Aside ((g = g1 ∧ (m : Int) ∈ g) ∨ (g = g0 ∧ (m : Int) ∉ g ∧ ∀ z ∈ nx.take k, z ∉ g)) ∧ wr.heap[w.heap.size]? = some (.cells #[.int .i64 h, .slice (some ⟨b1, o1, none⟩) body.length cb] 53 (0, 0)) ∧ Below w.heap.size w wr) (fun _ i _ => nx.length - (intOf i).toNat)
          case atStart =>
            refine ⟨0, g0, Nat.zero_le _, rfl, hown, ?_, hx, hB⟩
            by_cases hmg : (m : Int) ∈ g0
            · exact .inl ⟨by rw [hsth.out, if_pos hmg], hmg⟩
            · exact .inr ⟨rfl, hmg, by simp⟩
          clear hown hx hB hs
          case round =>
            obtain ⟨k, g, hk, rfl, hown, hcase, hx, hB⟩ := hrel
            have hs := hw.below hB
            have hcaseh := Lib.hid hcase
            have hgs : (∀ x ∈ g, x ∈ body) ∧ g.length ≤ body.length := by
              rcases hcase with ⟨rfl, _⟩ | ⟨rfl, _⟩
              · exact hsub1
              · exact hsub
            have hgsl := hgs.2
            have hHm := hHas.out (m : Int) _ g wr hB hown hgs.1 hgs.2
            have p3 := (huch.out wr hs).2.2
            have lL := hs.lt' hbL
            by_cases hkl : k < nx.length
            · have hkl' : (k : Int) < nx.length := by omega
              have hk0 : (0 : Int) ≤ k := by omega
              cases hin : hasB g (m : Int)
              · rw [hin] at hHm
                have hnm : (m : Int) ∉ g := by unfold hasB at hin; simpa using hin
                obtain ⟨rfl, hno⟩ : g = g0 ∧ ∀ z ∈ nx.take k, z ∉ g := by
                  rcases hcase with ⟨_, h9⟩ | ⟨h9, _, h8⟩
                  · exact absurd h9 hnm
                  · exact ⟨h9, h8⟩
                have hnoh := Lib.hid hno
                have hnmh := Lib.hid hnm
                obtain ⟨b2, o2, c2, e2, -, hb2, hc2, -⟩ := hun.ints (by omega)
                cases e2
                have p4 := hc2 wr hs k hkl
                have l4 := hs.lt' hb2
                have hzk : nx[k]? = some (nx.getD k 0) := by rw [List.getD_eq_getElem?_getD, List.getElem?_eq_getElem hkl]; rfl
                have hzkh := Lib.hid hzk
                have hHz := hHas.out (nx.getD k 0) _ g wr hB hown hgs.1 hgs.2
                clear hc2 hcase hno hnm hin hzk
                obtain ⟨z, hz⟩ : ∃ z, nx.getD k 0 = z := ⟨_, rfl⟩
                rw [hz] at p4 hzkh hHz
                clear hz hgs hsub hsub1
                cases hiz : hasB g z
                · rw [hiz] at hHz
                  have hzn := Lib.hid (show z ∉ g by unfold hasB at hiz; simpa using hiz)
                  clear hiz
                  go_upto_region 14 with (go_at_call 20; refine hHm.mono ?_; rintro e w6 ⟨rfl, rfl⟩)
                  go_wp2_with (go_at_call 20; refine hHz.mono ?_; rintro e w6 ⟨rfl, rfl⟩)
                  go_roundw
                  case rel =>
                    refine ⟨k + 1, g, by omega, by go_num, hown, .inr ⟨rfl, hnmh.out, fun z' hz' => ?_⟩, hx, hB⟩
                    rw [List.take_add_one, hzkh.out] at hz'
                    rcases List.mem_append.1 hz' with h9 | h9
                    · exact hnoh.out z' h9
                    · simp at h9; subst h9; exact hzn.out
                  case measure => simp [intOf]; omega
                · rw [hiz] at hHz
                  have hzy : z ∈ g := by unfold hasB at hiz; simpa using hiz
                  have hg1 : g1 = g ++ [(m : Int)] := by rw [hsth.out, if_neg hnmh.out, if_pos ⟨z, List.mem_of_getElem? hzkh.out, hzy⟩]
                  have hg1h := Lib.hid hg1
                  clear hiz hzy hg1
                  go_upto_region 14 with (go_at_call 20; refine hHm.mono ?_; rintro e w6 ⟨rfl, rfl⟩)
                  go_wp2_with (first
                    | (go_at_call 20; refine hHz.mono ?_; rintro e w6 ⟨rfl, rfl⟩)
                    | (at_builtin; go_loud (refine wpL_appI rfl _ _ rfl w0.heap.size _ g [(m : Int)] rfl (hown.al _) ⟨wr.heap.size, 0, none⟩ 1 1 rfl rfl (one_new rfl) ?hlen ?hsz ?_); go_loud (case hlen => simp; omega); go_loud (case hsz => have := hB.size; have := hzh.out; have := (Array.getElem?_eq_some_iff.1 hx).1; rw [World.size_alloc]; omega); intro v2 w2 hown2 hg2 _))
                  go_roundw
                  case rel =>
                    refine ⟨k + 1, g ++ [(m : Int)], by omega, by go_num, hown2, .inl ⟨hg1h.out.symm, by simp⟩, ?_, ?_⟩
                    · refine (hg2.block _ (by have := (Array.getElem?_eq_some_iff.1 hx).1; rw [World.size_alloc]; omega) (fun e => by have := (hown.lt e.symm).1; have := hzh.out; omega)).trans (ga_old hx)
                    · exact (hB.alloc hB.size _).grown hg2 (by rw [World.size_alloc]; have := hB.size; omega) (fun i hi => by have := (hown.lt hi).1; have := hzh.out; omega)
                  case measure => simp [intOf]; omega
              · rw [hin] at hHm
                have hmm : (m : Int) ∈ g := by unfold hasB at hin; simpa using hin
                have hge : g = g1 := by
                  rcases hcase with ⟨h9, _⟩ | ⟨_, h9, _⟩
                  · exact h9
                  · exact absurd hmm h9
                have hgeh := Lib.hid hge
                clear hge hin hmm hcase hgs
                go_wp2_with (go_at_call 20; refine hHm.mono ?_; rintro e w6 ⟨rfl, rfl⟩)
                go_roundw
                case rel => exact ⟨j + 1, by omega, by go_num, by rw [hsuc.out, ← hgeh.out]; exact hown, hx, hB⟩
                case measure => simp [intOf]; omega
            · obtain rfl : k = nx.length := by omega
              have hkn : ¬ (nx.length : Int) < nx.length := by omega
              have hge : g = g1 := by
                rcases hcase with ⟨h9, _⟩ | ⟨rfl, h9, h8⟩
                · exact h9
                · rw [hsth.out, if_neg h9, if_neg (fun ⟨z, hz1, hz2⟩ => h8 z (by rw [List.take_length]; exact hz1) hz2)]
              have hgeh := Lib.hid hge
              clear hge hcase hgs hkl
              go_wp2
              go_roundw
              case rel => exact ⟨j + 1, by omega, by go_num, by rw [hsuc.out, ← hgeh.out]; exact hown, hx, hB⟩
              case measure => simp [intOf]; omega
        · obtain rfl : j = body.length := by omega
          have hjn : ¬ (body.length : Int) < body.length := by omega
          have hall := Lib.hid (goI_all f body h n)
          clear hjl
          go_wp2
          go_roundw
          case rel => exact ⟨n + 1, by omega, by go_num, by rw [← hall.out]; exact hown, hx, hB⟩
          case measure => simp [intOf]; omega
    · obtain rfl : n = body.length := by omega
      have hnn : ¬ (body.length : Int) < body.length := by omega
      clear hnl
      obtain ⟨A9, c9, rfl, -⟩ := hown.len_form
      obtain ⟨N, hN⟩ : ∃ N, (iterG f body h body.length).length = N := ⟨_, rfl⟩
      rw [hN] at hown
      have hNh := Lib.hid hN
      rw [hN]
      clear hN
      go_wp2
      go_ret
      have htb : ((N : Int) == (body.length : Int)) = decide (N = body.length) := by
        by_cases h9 : N = body.length
        · subst h9; simp
        · rw [decide_eq_false h9, beq_eq_false_iff_ne]; omega
      exact ⟨ret_bool (htb.trans (by rw [hNh.out])), hB⟩
end Go.Proofs.Ytififjlgjmgikaa
