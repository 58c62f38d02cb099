/- The reference's body (seat .Z). -/
import Derived.Test.YtififjlgjmgikaaGreatRefL
namespace Go.Proofs.YtififjlgjmgikaaGreat
set_option linter.all false
open Go.RowKit Go.Shelf

/-- The blocks that are reached and followed by x. -/
noncomputable def predTo (f : FlowD) (x : Int) (k : Nat) : List Int := ((List.range k).filter fun p => f.reached.getD p false && inB x (nxB f (p : Int))).map fun (p : Nat) => (p : Int)
theorem predTo_succ (f : FlowD) (x : Int) (k : Nat) : predTo f x (k + 1) = predTo f x k ++ if (f.reached.getD k false && inB x (nxB f (k : Int))) = true then [(k : Int)] else [] := by
  unfold predTo
  rw [List.range_succ, List.filter_append, List.map_append]
  congr 1
  by_cases e : (f.reached.getD k false && inB x (nxB f (k : Int))) = true
  · rw [if_pos e, List.filter_cons, if_pos e]; rfl
  · rw [if_neg e, List.filter_cons, if_neg e]; rfl
theorem predTo_len (f : FlowD) (x : Int) (k : Nat) : (predTo f x k).length ≤ k := by
  unfold predTo
  rw [List.length_map]
  refine Nat.le_trans (List.length_filter_le _ _) (by simp)
theorem predTo_mem {f : FlowD} {x y : Int} {k : Nat} : y ∈ predTo f x k ↔ (0 ≤ y ∧ y < k) ∧ rchB f y = true ∧ x ∈ nxB f y := by
  unfold predTo inB rchB
  simp only [List.mem_map, List.mem_filter, List.mem_range, Bool.and_eq_true, decide_eq_true_eq]
  constructor
  · rintro ⟨t, ⟨ht, h1, h2⟩, rfl⟩
    exact ⟨by omega, by simpa using h1, h2⟩
  · rintro ⟨h1, h2, h3⟩
    exact ⟨y.toNat, ⟨by omega, h2, by rw [show ((y.toNat : Nat) : Int) = y by omega]; exact h3⟩, by omega⟩
noncomputable def predN (f : FlowD) (h x : Int) : List Int := if x = h then [] else predTo f x f.blocks.length
theorem predN_range {f : FlowD} {h x : Int} : ∀ y ∈ predN f h x, 0 ≤ y ∧ y < f.blocks.length := by
  intro y hy
  unfold predN at hy
  split at hy
  · cases hy
  · exact (predTo_mem.1 hy).1
theorem predN_loop {c : CodeD} {h x y : Int} : y ∈ predN (theFlow c) h x ↔ y ∈ loopNx (theFlow c) h x := by
  unfold predN loopNx
  by_cases e : x = h
  · rw [if_pos e, if_pos e]
  · rw [if_neg e, if_neg e, predTo_mem, List.mem_filter, ahead_mem]
    constructor
    · rintro ⟨h1, h2, h3⟩; exact ⟨⟨h1, h3⟩, by simpa using h2⟩
    · rintro ⟨⟨h1, h3⟩, h2⟩; exact ⟨h1, by simpa using h2, h3⟩
/-- What the marks hold at the end is the loop's blocks. -/
theorem body_marks {c : CodeD} {h : Int} {tl : List Int} {bs : List Bool} (ht : ∀ y, y ∈ tl ↔ y ∈ tailsR (theFlow c) h) (hl : bs.length = (theFlow c).blocks.length)
    (hm : ∀ j, j < (theFlow c).blocks.length → (bs.getD j false = true ↔ Reach (· ∈ tl ++ [h]) (fun a b => b ∈ predN (theFlow c) h a) j)) : marksK bs (theFlow c).blocks.length = bodyR (theFlow c) h := by
  refine sorted_ext (marksK_sorted _ _) (bodyR_sorted _ _) fun y => ?_
  rw [marksK_mem, bodyR_mem]
  have key : ∀ y, Reach (· ∈ tl ++ [h]) (fun a b => b ∈ predN (theFlow c) h a) y ↔ inLoop (theFlow c) h y := by
    intro y
    unfold inLoop
    constructor
    · intro k
      exact Reach.mono (fun x hx => by
        rcases List.mem_append.1 hx with k | k
        · exact List.mem_cons_of_mem _ ((ht x).1 k)
        · simp at k; subst k; exact List.mem_cons_self) (fun a b hb => predN_loop.1 hb) k
    · intro k
      exact Reach.mono (fun x hx => by
        rcases List.mem_cons.1 hx with k | k
        · subst k; simp
        · exact List.mem_append_left _ ((ht x).2 k)) (fun a b hb => predN_loop.2 hb) k
  constructor
  · rintro ⟨i, rfl, hi, hb⟩
    exact ⟨by omega, (key _).1 ((hm i hi).1 hb)⟩
  · rintro ⟨h1, h2⟩
    obtain ⟨i, rfl⟩ : ∃ i : Nat, y = (i : Int) := ⟨y.toNat, by omega⟩
    exact ⟨i, rfl, by omega, (hm i (by omega)).2 ((key _).2 h2)⟩
/-- A list that was made behind a world: nothing of the reader's is touched. -/
def BodyRes (base : Nat) (w' : World) (f : FlowD) (h : Int) (tl : List Int) (e : Ending) : Prop := ∃ u bs, e = .returned u ∧ OwnI w' base u (marksK bs f.blocks.length) ∧ bs.length = f.blocks.length ∧ ∀ j, j < f.blocks.length → (bs.getD j false = true ↔ Reach (· ∈ tl ++ [h]) (fun a b => b ∈ predN f h a) j)
set_option maxHeartbeats 8000000 in
set_option maxRecDepth 100000 in
theorem r19_body (H : PH) (bg base : Nat) (L E R vt : Value) (f : FlowD) (h : Nat) (tl : List Int) (w : World) (hw : Sees w H) (hg : GrB H bg L E R f) (hh : h < f.blocks.length) (hown0 : OwnI w base vt tl) (hbase : base ≤ w.heap.size) (hHb : ∀ i o, H i = some o → i < base) (htr : ∀ x ∈ tl, 0 ≤ x ∧ x < f.blocks.length) (htl : tl.length ≤ f.blocks.length) :
    Calls Tryz.prog 83 #[.pointer (some ⟨bg, 0, none⟩), .int .i64 h, vt] w fun e w' => BodyRes base w' f h tl e ∧ Below base w w' := by
  obtain ⟨s0, s1, s2, s3, s4, s5, s6, hbk⟩ := hg.blk
  have hle := hg.le
  have hlR := hg.lenR
  have hL := hg.blocks
  have hRe := hg.reached
  obtain ⟨AL, cL, rfl, -, -⟩ := hL.open_
  obtain ⟨AR, cR, rfl, -, -⟩ := hRe.open_
  rw [hlR] at hbk
  have hlRh := Lib.hid hlR
  have hmk := mk_bools f.blocks.length (by omega)
  have hh' : (h : Int) < f.blocks.length := by omega
  have hh0 : (0 : Int) ≤ h := by omega
  have hIn := Lib.hid (fun (x : Int) (u : Value) (xs : List Int) (w1 : World) (hs : Sees w1 H) (hx : SlV rInt H u xs) => r19_in H x u xs w1 hs hx)
  have q := box10 (hw _ _ hbk)
  have lg := hw.lt hbk
  have hvt := Lib.hid (fun k (hk : vt.ownBlock = some k) => hown0.lt hk)
  obtain ⟨At, ct, rfl, -⟩ := hown0.len_form
  clear hg hlR
  go_enter Tryz.func83, Tryz.ntmps83
  go_upto_region 2 with fail
  refine wp_name fun W hW => ?_
  have hBW0 : Below w.heap.size w W := by rw [hW]; exact (Below.refl _ _).alloc (Nat.le_refl _) _
  have hA : ArrB W w.heap.size (List.replicate f.blocks.length false) := by rw [hW]; exact ArrB.new w f.blocks.length
  have hzW : W.heap.size = w.heap.size + 1 := by rw [hW]; simp
  clear hW hmk q lg
  have hownW := hown0.below hBW0
  have hac := hA.cell (j := h) (by simp; omega)
  have haf := hA.free h
  have hal := hA.lt
  go_upto_region 3 with fail
  refine wp_name fun W3 hW3 => ?_
  obtain ⟨G, hG⟩ : ∃ G, w.heap.size = G := ⟨_, rfl⟩
  have hA3 : ArrB W3 G ((List.replicate f.blocks.length false).set h true) := by rw [hW3, ← hG]; exact hA.set h true
  have hB3 : Below base w W3 := by rw [hW3]; exact setCell_below (hBW0.mono hbase) (by first | omega | (simp only; omega))
  have hown3 : OwnI W3 base (.slice At tl.length ct) tl := by rw [hW3]; exact hownW.of_block fun k hk => setCell_other (by have := (hvt.out k hk).2; first | omega | (simp only; omega))
  have hne3 : ∀ k, (Value.slice At tl.length ct).ownBlock = some k → k ≠ G := fun k hk => by have := (hvt.out k hk).2; omega
  have hbG : base ≤ G := by omega
  have hS0 : Search (· ∈ tl ++ [(h : Int)]) (predN f h) f.blocks.length ((List.replicate f.blocks.length false).set h true) tl := by
    have h1 : Search (· ∈ tl ++ [(h : Int)]) (predN f h) f.blocks.length (List.replicate f.blocks.length false) (tl ++ [(h : Int)]) := Search.init fun x hx => by
      rcases List.mem_append.1 hx with k | k
      · exact htr x k
      · simp at k; subst k; exact ⟨hh0, hh'⟩
    have h2 := h1.go (fun y hy => predN_range y hy)
    rw [Int.toNat_natCast] at h2
    have e : predN f (h : Int) (h : Int) = [] := by unfold predN; rw [if_pos rfl]
    rw [e, List.append_nil] at h2
    exact h2
  have hu0 : unmarked ((List.replicate f.blocks.length false).set h true) + 1 = f.blocks.length := by
    rw [unmarked_set (by simp; omega) (by simp [List.getD_eq_getElem?_getD, hh])]
    simp [unmarked]
  rw [hG]
  clear hW3 hac haf hal hown0 hownW hA hBW0 hzW hG hvt
  have hS0h := Lib.hid hS0
  clear hS0
  go_wp2_with fail
  go_loopg [8] (20001 * f.blocks.length + f.blocks.length) (fun gk o wr => ∃ todo bs, OwnI wr base o todo ∧ (∀ k, o.ownBlock = some k → k ≠ G) ∧ ArrB wr G bs ∧ Aside (Search (· ∈ tl ++ [(h : Int)]) (predN f h) f.blocks.length bs todo ∧ bs.getD h false = true ∧ 20001 * unmarked bs + todo.length ≤ gk ∧ gk ≤ 20001 * f.blocks.length + f.blocks.length) ∧ Below base w wr)
  case atStart => exact ⟨tl, _, hown3, hne3, hA3, ⟨hS0h.out, by simp [List.getD_eq_getElem?_getD, hh], by omega, Nat.le_refl _⟩, hB3⟩
  clear hown3 hne3 hA3 hB3 hS0h hu0
  case round =>
    obtain ⟨todo, bs, hown, hne, hA, hS, hB⟩ := hrel
    have hsz := hB.size
    have hs : Sees wr H := fun i o e => (hB.block i (hHb i o e)).trans (hw i o e)
    have q := box10 (hs _ _ hbk)
    have lg := hs.lt hbk
    by_cases hlt : 0 < todo.length
    · obtain ⟨g, cap, rfl, hcap, hg, hgl, hcell⟩ := hown.form hlt
      have hd := dropLast_snoc hlt
      obtain ⟨m, hm⟩ : ∃ m, todo.length = m + 1 := ⟨todo.length - 1, by omega⟩
      have hcl := hcell m (by omega)
      rw [hm, Nat.add_sub_cancel] at hd
      have hcut := hown.cut (k := m) (by omega)
      obtain ⟨hS1, hSh1, hS2, hS3⟩ := hS.out
      have hx := hS1.in_ (todo.getD m 0) (by simp [List.getD_eq_getElem?_getD, List.getElem?_eq_getElem (show m < todo.length by omega)])
      rw [hd] at hS1
      obtain ⟨p, hp⟩ : ∃ p : Nat, todo.getD m 0 = (p : Int) := ⟨(todo.getD m 0).toNat, by omega⟩
      rw [hp] at hcl hx hS1
      have hpn : p < f.blocks.length := by omega
      have hpn' : (p : Int) < f.blocks.length := by omega
      have hp0 : (0 : Int) ≤ p := by omega
      have hmb : m ≤ 400040000 := by have := Nat.mul_le_mul_left 20001 hle; omega
      have hmc : m ≤ cap := by omega
      have hbl := hS1.len
      have hac := hA.cell (j := p) (by omega)
      have hal := hA.lt
      have haf := hA.free p
      have hmlen : (todo.take m).length = m := by simp; omega
      have hgne := hne g rfl
      rw [hm] at hown ⊢
      have hSh := Lib.hid hS1
      have hSmh := Lib.hid hSh1
      have hS2h := Lib.hid hS2
      have hS3h := Lib.hid hS3
      have hmh := Lib.hid hm
      have hmlh := Lib.hid hmlen
      clear hcell hd hS hS1 hS2 hS3 hm hp hlt hmlen hx hSh1
      cases hb : bs.getD p false
      · have hun := Lib.hid (unmarked_set (bs := bs) (j := p) (by omega) hb)
        have hph : (p : Int) ≠ h := fun e => by
          have : p = h := by omega
          subst this
          rw [hSmh.out] at hb; cases hb
        have hgo := Lib.hid (hSh.out.go (fun y hy => predN_range y hy))
        have hpe : predN f h (p : Int) = predTo f p f.blocks.length := by unfold predN; rw [if_neg hph]
        have hpeh := Lib.hid hpe
        have hSm2 := Lib.hid (show (bs.set p true).getD h false = true from by
          rw [getD_set_bool (by omega)]
          split
          · rfl
          · exact hSmh.out)
        rw [hb] at hac
        clear hb hph hpe hSmh
        go_upto_region 9 with fail
        refine wp_name fun ws hws => ?_
        have hBs : Below base w ws := by rw [hws]; exact setCell_below hB hbG
        have hAs : ArrB ws G (bs.set p true) := by rw [hws]; exact hA.set p true
        have hos : OwnI ws base (.slice (some ⟨g, 0, none⟩) m cap) (todo.take m) := by rw [hws]; exact hcut.of_block fun k hk => setCell_other (by cases hk; show g ≠ _; omega)
        clear hws hac haf hal hcut hown hA hB hs q lg hcl hsz hg hgl hne
        go_wp2_with fail
        obtain ⟨wo, rfl⟩ : ∃ wo : World, wo = wr := ⟨_, rfl⟩
        go_loopw [8, 10] (fun o i wr => ∃ k : Nat, k ≤ f.blocks.length ∧ i = .int .i64 k ∧ OwnI wr base o (todo.take m ++ predTo f p k) ∧ (∀ j, o.ownBlock = some j → j ≠ G) ∧ ArrB wr G (bs.set p true) ∧ Below base w wr) (fun _ i _ => f.blocks.length - (intOf i).toNat)
        case atStart => exact ⟨0, Nat.zero_le _, rfl, by simpa [predTo] using hos, fun j hj => by cases hj; exact hgne, hAs, hBs⟩
        clear hos hAs hBs
        case round =>
          obtain ⟨k, hk, rfl, hown, hne, hA, hB⟩ := hrel
          have hsz := hB.size
          have hs : Sees wr H := fun i o e => (hB.block i (hHb i o e)).trans (hw i o e)
          have q := box10 (hs _ _ hbk)
          have lg := hs.lt hbk
          by_cases hlt : k < f.blocks.length
          · have hlt' : (k : Int) < f.blocks.length := by omega
            have hk0 : (0 : Int) ≤ k := by omega
            obtain ⟨rb, ro, rc, hve, -, hrb, hrcell⟩ := hRe.bools (by rw [hlRh.out]; omega)
            rw [hlRh.out] at hve
            cases hve
            have hcr := hrcell wr hs k (by rw [hlRh.out]; exact hlt)
            have lr := hs.lt' hrb
            obtain ⟨bL, oL, cL', e4, -, hbL, hrow, -⟩ := hL.blocks (by omega)
            cases e4
            obtain ⟨un, hun2, huc⟩ := hrow k hlt
            rw [show (f.blocks.getD k default).next = nxB f (k : Int) from rfl] at hun2
            have p6 := (huc wr hs).2.2
            have lL := hs.lt' hbL
            have hIk := hIn.out p _ _ wr hs hun2
            have hlen := predTo_len f p k
            have hst := Lib.hid (predTo_succ f p k)
            clear hrcell hrow huc
            generalize predTo f p k = es at *
            generalize inB (p : Int) (nxB f (k : Int)) = iv at *
            generalize f.reached.getD k false = rv at *
            cases rv
            · have hst2 := Lib.hid (show predTo f p (k + 1) = es by rw [hst.out]; simp)
              go_wp2
              go_roundw
              case rel => exact ⟨k + 1, by omega, by go_num, by rw [hst2.out]; exact hown, hne, hA, hB⟩
              case measure => simp [intOf]; omega
            · cases iv
              · have hst2 := Lib.hid (show predTo f p (k + 1) = es by rw [hst.out]; simp)
                go_wp2_with (go_at_call 58; refine hIk.mono ?_; rintro e w3 ⟨rfl, rfl⟩)
                go_roundw
                case rel => exact ⟨k + 1, by omega, by go_num, by rw [hst2.out]; exact hown, hne, hA, hB⟩
                case measure => simp [intOf]; omega
              · have hst2 := Lib.hid (show predTo f p (k + 1) = es ++ [(k : Int)] by rw [hst.out]; simp)
                have hAl := hA.lt
                have htk : (todo.take m ++ es).length ≤ 400060000 := by rw [List.length_append, hmlh.out]; omega
                go_wp2_with (first
                  | (go_at_call 58; refine hIk.mono ?_; rintro e w3 ⟨rfl, rfl⟩)
                  | (at_builtin; go_loud (refine wpL_appI rfl _ _ rfl base _ (todo.take m ++ es) [(k : Int)] rfl (hown.al _) ⟨wr.heap.size, 0, none⟩ 1 1 rfl rfl (one_new (by simp)) ?hlen ?hsz ?_); go_loud (case hlen => omega); go_loud (case hsz => rw [World.size_alloc]; omega); intro v2 w2 hown2 hg2 hat2))
                go_roundw
                case rel =>
                  refine ⟨k + 1, by omega, by go_num, by rw [hst2.out, ← List.append_assoc]; exact hown2, fun j hj => ?_, (hA.of_block (show (wr.alloc (.cells #[.int .i64 (k : Int)] 3)).heap[G]? = wr.heap[G]? from by rw [get_alloc, if_neg (by omega)])).of_block (hg2.block _ (by rw [World.size_alloc]; omega) (fun e => hne _ e.symm rfl)), ((hB.alloc (by omega) _).grown hg2 (by rw [World.size_alloc]; omega) (fun j hj => (hown.lt hj).1))⟩
                  rcases hat2 with e | e
                  · rw [e] at hj; exact hne j hj
                  · rw [e] at hj
                    injection hj with hj
                    rw [World.size_alloc] at hj
                    omega
                case measure => simp [intOf]; omega
          · obtain rfl : k = f.blocks.length := by omega
            have hltn : ¬ (f.blocks.length : Int) < f.blocks.length := by omega
            have hpl := predTo_len f p f.blocks.length
            clear hlt
            go_wp2
            go_roundg (gk - 1)
            case measure => have := hS2h.out; have := hmh.out; omega
            case rel =>
              have e := hgo.out
              rw [hpeh.out, Int.toNat_natCast] at e
              exact ⟨_, bs.set p true, hown, hne, hA, ⟨e, hSm2.out, by rw [List.length_append, hmlh.out]; have := hS2h.out; have := hmh.out; have := hun.out; omega, by have := hS3h.out; omega⟩, hB⟩
      · have hbb2 := Lib.hid hb
        rw [hb] at hac
        clear hb
        go_wp2
        go_roundg (gk - 1)
        case measure => have := hS2h.out; have := hmh.out; omega
        case rel => exact ⟨todo.take m, bs, hcut, fun k hk => by cases hk; exact hgne, hA, ⟨hSh.out.skip (by simpa using hbb2.out), hSmh.out, by rw [hmlh.out]; have := hS2h.out; have := hmh.out; omega, by have := hS3h.out; omega⟩, hB⟩
    · obtain ⟨A, cap, rfl, -⟩ := hown.len_form
      have hnil : todo = [] := List.eq_nil_of_length_eq_zero (by omega)
      subst hnil
      have hlt' : ¬ (0 : Int) < ((([] : List Int).length : Nat) : Int) := by simp
      obtain ⟨hS1, _, _⟩ := hS.out
      have hdone := Lib.hid (fun (j : Nat) (hj : j < f.blocks.length) => hS1.done (fun x hx => by
        rcases List.mem_append.1 hx with k | k
        · exact htr x k
        · simp at k; subst k; exact ⟨hh0, hh'⟩) (fun j hj y hy => predN_range y hy) j hj)
      have hbl := hS1.len
      clear hS hS1 hlt hown hne
      go_wp2_with fail
      obtain ⟨wo, rfl⟩ : ∃ wo : World, wo = wr := ⟨_, rfl⟩
      have hAl := hA.lt
      go_loopw [11, 12] (fun o i wr => ∃ k : Nat, k ≤ f.blocks.length ∧ i = .int .i64 k ∧ OwnI wr wo.heap.size o (marksK bs k) ∧ Below wo.heap.size wo wr) (fun _ i _ => f.blocks.length - (intOf i).toNat)
      case atStart => exact ⟨0, Nat.zero_le _, rfl, OwnI.nil _ _, Below.refl _ _⟩
      case round =>
        obtain ⟨k, hk, rfl, hown, hBo⟩ := hrel
        have hAr := hA.of_block (hBo.block _ hAl)
        have hArl := hAr.lt
        by_cases hlt : k < f.blocks.length
        · have hlt' : (k : Int) < f.blocks.length := by omega
          have hk0 : (0 : Int) ≤ k := by omega
          have hac := hAr.cell (j := k) (by omega)
          have hlen := marksK_len bs k
          have hst := Lib.hid (marksK_succ bs k)
          have hblh := Lib.hid hbl
          generalize marksK bs k = es at *
          generalize bs.getD k false = g at *
          cases g
          · go_wp2
            go_roundw
            case rel => exact ⟨k + 1, by omega, by go_num, by rw [hst.out]; simpa using hown, hBo⟩
            case measure => simp [intOf]; omega
          · go_wp2_with (at_builtin; go_loud (refine wpL_appI rfl _ _ rfl wo.heap.size _ es [(k : Int)] rfl (hown.al _) ⟨wr.heap.size, 0, none⟩ 1 1 rfl rfl (one_new (by simp)) ?hlen ?hsz ?_); go_loud (case hlen => first | omega | (simp; omega)); go_loud (case hsz => have := hBo.size; first | omega | (simp; omega)); intro v2 w2 hown2 hg2 _)
            go_roundw
            case rel => exact ⟨k + 1, by omega, by go_num, by rw [hst.out]; simpa using hown2, (hBo.alloc hBo.size _).grown hg2 (by have := hBo.size; simp; omega) (fun j hj => (hown.lt hj).1)⟩
            case measure => simp [intOf]; omega
        · obtain rfl : k = f.blocks.length := by omega
          have hltn : ¬ (f.blocks.length : Int) < f.blocks.length := by omega
          have hownh := Lib.hid hown
          clear hlt hown
          go_wp2
          go_ret
          exact ⟨⟨_, bs, rfl, hownh.out.lower (by omega), hbl, hdone.out⟩, hB.trans (hBo.mono (by omega))⟩
theorem bodyR_len2 (f : FlowD) (h : Int) : (bodyR f h).length ≤ f.blocks.length := by
  unfold bodyR
  rw [List.length_map]
  refine Nat.le_trans (List.length_filter_le _ _) (by simp)
def LpF (w' : World) (c : CodeD) (e : Ending) : Prop := ∃ u, e = .returned (.tuple #[u, .int .i64 (checkedE c)]) ∧ SlV rLoop (full w') u (lpsL c)
set_option maxHeartbeats 4000000 in
set_option maxRecDepth 100000 in
theorem r19_Loops_no (H : PH) (v : Value) (c : CodeD) (w : World) (hw : Sees w H) (hc : CodeV H v c) (hE0 : checkedE c ≠ 0) :
    Calls Tryz.prog 37 #[v] w fun e w' => e = .returned (.tuple #[.slice none 0 0, .int .i64 (checkedE c)]) ∧ Below w.heap.size w w' := by
  have hSm := Lib.hid (fun (w1 : World) (hs : Sees w1 H) => r19_Small H _ c w1 hs hc)
  have hc0 := hc
  obtain ⟨s0, s1, s2, s3, s4, s5, s6, rfl, hc⟩ := hc
  have hx0 := ga_new w (.cells #[s0, s1, s2, s3, s4, s5, s6] 30)
  have hB0 : Below w.heap.size w (w.alloc (.cells #[s0, s1, s2, s3, s4, s5, s6] 30)) := (Below.refl _ _).alloc (Nat.le_refl _) _
  clear hc hc0
  obtain ⟨CE, hE⟩ : ∃ CE, checkedE c = CE := ⟨_, rfl⟩
  have hEh := Lib.hid hE
  rw [hE] at hE0 ⊢
  have hne : (CE != 0) = true := by simpa using hE0
  clear hE hE0
  go_enter Tryz.func37, Tryz.ntmps37
  go_wp2_with (first
    | (go_at_call 35; refine (hSm.out _ (hw.below hB0)).mono ?_; rintro e w1 ⟨⟨t0, t1, t2, t3, t4, t5, t6, L, E, R, rfl, hone, ho3, hrd⟩, hB1⟩; go_must (rw [hEh.out]); have hBa := bstep hB0 hB1; have hsa := extH.sees (hw.below hB0) hB1; have hrdh := Lib.hid hrd; clear hrd)
    | (with_reducible refine wpL_storeG rfl _ _ rfl w1.heap.size t0 t1 t2 t3 t4 t5 t6 L E R _ rfl rfl (ga_new w1 (.cells zeroG 65)) rfl hone ho3 ?_; intro w2 hb2 hg2 hz2; rw [World.size_alloc] at hz2; have hB12 : Below w1.heap.size w1 w2 := (((Below.refl _ _).alloc (Nat.le_refl _) _).grown hg2 (by simp) fun k hk => by injection hk with hk; omega); replace hBa := bstep hBa hB12))
  go_ret2
  exact ⟨rfl, hBa⟩
set_option maxHeartbeats 8000000 in
set_option maxRecDepth 100000 in
theorem r19_Loops_ok (H : PH) (v : Value) (c : CodeD) (w : World) (hw : Sees w H) (hc : CodeV H v c) (hE : checkedE c = 0) :
    Calls Tryz.prog 37 #[v] w fun e w' => (∃ u, e = .returned (.tuple #[u, .int .i64 0]) ∧ SlV rLoop (full w') u (loopsTo (theFlow c) (theFlow c).blocks.length)) ∧ Below w.heap.size w w' := by
  have hSm := Lib.hid (fun (w1 : World) (hs : Sees w1 H) => r19_Small H _ c w1 hs hc)
  have hc0 := hc
  obtain ⟨s0, s1, s2, s3, s4, s5, s6, rfl, hc⟩ := hc
  have hx0 := ga_new w (.cells #[s0, s1, s2, s3, s4, s5, s6] 30)
  have hB0 : Below w.heap.size w (w.alloc (.cells #[s0, s1, s2, s3, s4, s5, s6] 30)) := (Below.refl _ _).alloc (Nat.le_refl _) _
  clear hc hc0
  have hEh := Lib.hid hE
  have hf := checked_fine hE
  have hfh := Lib.hid hf
  have hle := flow_le hf
  have htm := Lib.hid (fun (h : Nat) (hh : h < (theFlow c).blocks.length) => (fun y => tailsN_mem hf hh (y := y)))
  have hbm := Lib.hid (fun (h : Int) (tl : List Int) (bs : List Bool) => body_marks (c := c) (h := h) (tl := tl) (bs := bs))
  have hrk := Lib.hid (reachOk hf)
  obtain ⟨RES, hRES⟩ : ∃ RES, loopsTo (theFlow c) (theFlow c).blocks.length = RES := ⟨_, rfl⟩
  have hRESh := Lib.hid hRES
  rw [hRES]
  clear hE hf hRES
  go_enter Tryz.func37, Tryz.ntmps37
  go_upto_region 4 with (first
    | (go_at_call 35; refine (hSm.out _ (hw.below hB0)).mono ?_; rintro e w1 ⟨⟨t0, t1, t2, t3, t4, t5, t6, L, E, R, rfl, hone, ho3, hrd⟩, hB1⟩; go_must (rw [hEh.out]); have hBa := bstep hB0 hB1; have hsa := extH.sees (hw.below hB0) hB1; have hrdh := Lib.hid hrd; clear hrd)
    | (with_reducible refine wpL_storeG rfl _ _ rfl w1.heap.size t0 t1 t2 t3 t4 t5 t6 L E R _ rfl rfl (ga_new w1 (.cells zeroG 65)) rfl hone ho3 ?_; intro w2 hb2 hg2 hz2; rw [World.size_alloc] at hz2; have hB12 : Below w1.heap.size w1 w2 := (((Below.refl _ _).alloc (Nat.le_refl _) _).grown hg2 (by simp) fun k hk => by injection hk with hk; omega); replace hBa := bstep hBa hB12))
  obtain ⟨hL, hE2, hR⟩ := hrdh.out hfh.out
  have hleK := extH.step (H := H) (w := w.alloc (.cells #[s0, s1, s2, s3, s4, s5, s6] 30)) hB12
  have hG := grB_of hfh.out (extH.new (by have := hB0.size; have := hB1.size; omega) hb2) (hL.mono hleK) (hE2.mono hleK) (hR.mono hleK)
  have hs2 := extH.sees (hw.below hB0) (bstep hB1 hB12)
  have hBw2 := hBa
  clear hL hE2 hR hleK hrdh hfh hSm hEh hB1 hB12 hb2 hg2 hz2 hBa hone ho3 hx0 hB0
  generalize extH H (w.alloc (.cells #[s0, s1, s2, s3, s4, s5, s6] 30)) w2 = K at *
  obtain ⟨bg, hbg⟩ : ∃ bg, w1.heap.size = bg := ⟨_, rfl⟩
  rw [hbg] at hG ⊢
  clear hbg
  generalize theFlow c = f at *
  have hD := r19_Doms K bg L E R f w2 hs2 hG hrk.out
  go_upto_region 5 with (go_at_call 81; refine hD.mono ?_; rintro e w3 ⟨⟨ud, rfl, hud⟩, hB3⟩)
  have hs3 := extH.sees hs2 hB3
  have hG3 := hG.mono (extH.le hs2 w3)
  have hBw3 := bstep hBw2 hB3
  clear hD hG hs2 hBw2 hB3 hrk
  generalize extH K w2 w3 = K3 at *
  have hK3b := Lib.hid (fun i o (e : K3 i = some o) => hs3.lt e)
  have hGh := Lib.hid hG3
  obtain ⟨g0, g1, g2, g3, g4, g5, g6, hbk⟩ := hG3.blk
  obtain ⟨AL, cL, rfl, -, -⟩ := hG3.blocks.open_
  have hudh := Lib.hid hud
  obtain ⟨Ad, cd, rfl, -, -⟩ := hud.open_
  have hll : (domL f).length = f.blocks.length := by simp [domL]
  rw [hll] at hudh ⊢
  have hq := Lib.hid (fun (w' : World) (hs : Sees w' K3) => And.intro (box10 (hs _ _ hbk)).2.2.2.2.2.2.2.1 (hs.lt hbk))
  clear hud hll hG3 hbk
  obtain ⟨q, lg⟩ := hq.out w3 hs3
  go_wp2_with fail
  clear q lg
  go_loopw [7, 8] (fun o i wr => ∃ k : Nat, k ≤ f.blocks.length ∧ i = .int .i64 k ∧ OwnL rLoop 72 K3 w3 wr o (loopsTo f k) ∧ Below w3.heap.size w3 wr) (fun _ i _ => f.blocks.length - (intOf i).toNat)
  case atStart => exact ⟨0, Nat.zero_le _, rfl, OwnL.nil _ _ _ _ _, Below.refl _ _⟩
  case round =>
    obtain ⟨k, hk, rfl, hown, hB⟩ := hrel
    have hs := hs3.below hB
    have hsz := hB.size
    obtain ⟨q, lg⟩ := hq.out wr hs
    by_cases hlt : k < f.blocks.length
    · have hlt' : (k : Int) < f.blocks.length := by omega
      have hk0 : (0 : Int) ≤ k := by omega
      have hTl := r19_tails K3 bg _ _ _ _ f k wr hs hGh.out hudh.out hlt
      have hmem := htm.out k hlt
      have hlen := loopsTo_len f k
      have hst := Lib.hid (loopsTo_succ f k)
      have hlo : loopOf f k = if tailsR f (k : Int) = [] then [] else [⟨(k : Int), bodyR f (k : Int)⟩] := rfl
      have hloh := Lib.hid hlo
      have htlen := tailsN_len f k f.blocks.length
      have hmemh := Lib.hid hmem
      clear hlo
      obtain ⟨tl, htl⟩ : ∃ tl, tailsN f k f.blocks.length = tl := ⟨_, rfl⟩
      rw [htl] at hTl htlen hmemh
      clear htl hmem
      have hownh := Lib.hid hown
      generalize loopsTo f k = lps at *
      clear hown
      by_cases ht0 : tl.length = 0
      · have hst2 := Lib.hid (show loopsTo f (k + 1) = lps by
          rw [hst.out, hloh.out, if_pos]
          · simp
          · have : tl = [] := List.eq_nil_of_length_eq_zero ht0
            exact List.eq_nil_iff_forall_not_mem.2 fun y hy => by have := (hmemh.out y).2 hy; simp_all)
        have hnil : tl = [] := List.eq_nil_of_length_eq_zero ht0
        subst hnil
        clear ht0 htlen
        go_wp2_with (go_at_call 82; refine hTl.mono ?_; rintro e w4 ⟨⟨ut, rfl, hownt⟩, hB4⟩; obtain ⟨At, ct, rfl, -⟩ := hownt.len_form)
        go_roundw
        case rel => exact ⟨k + 1, by omega, by go_num, by rw [hst2.out]; exact hownh.out.below hB4, bstep hB hB4⟩
        case measure => simp [intOf]; omega
      · have t1 : decide (0 < tl.length) = true := decide_eq_true (by omega)
        have t2 : decide ((0 : Int) < tl.length) = true := decide_eq_true (by omega)
        have hst2 := Lib.hid (show loopsTo f (k + 1) = lps ++ [⟨(k : Int), bodyR f (k : Int)⟩] by
          rw [hst.out, hloh.out, if_neg]
          intro e
          obtain ⟨y, hy⟩ := List.exists_mem_of_length_pos (show 0 < tl.length by omega)
          have := (hmemh.out y).1 hy
          rw [e] at this
          cases this)
        have htr := Lib.hid (show ∀ x ∈ tl, 0 ≤ x ∧ x < f.blocks.length from fun x hx => tailsR_range ((hmemh.out x).1 hx))
        clear ht0
        go_upto_region 11 with (go_at_call 82; refine hTl.mono ?_; rintro e w4 ⟨⟨ut, rfl, hownt⟩, hB4⟩; obtain ⟨At, ct, rfl, -⟩ := hownt.len_form)
        have hs4 := hs.below hB4
        have hBd := r19_body K3 bg wr.heap.size _ _ _ _ f k tl w4 hs4 hGh.out hlt hownt hB4.size (fun i o e => by have := hK3b.out i o e; omega) htr.out htlen
        go_upto_region 8 with (first
          | (go_at_call 83; refine hBd.mono ?_; rintro e w5 ⟨⟨ub, bs, rfl, hownb, hbl, hbs⟩, hB5⟩; have hbm2 := hbm.out k tl bs hmemh.out hbl hbs; rw [hbm2] at hownb; obtain ⟨Ab, cb, rfl, -⟩ := hownb.len_form; have hB45 : Below wr.heap.size wr w5 := ((hB4.trans hB5)); have hset := set_new w5; have hBw5 := bstep hB hB45; have hownO := hownh.out.below hB45; have hz45 := hB45.size; have hI64 : ∀ y ∈ bodyR f (k : Int), I64 y := (fun y hy => by have := (bodyR_mem.1 hy).1; unfold I64; omega); have hcell : ∀ j u, [Value.int .i64 (k : Int), .slice Ab (bodyR f (k : Int)).length cb][j]? = some u → (w5.alloc (.cells #[.int .i64 (k : Int), .slice Ab (bodyR f (k : Int)).length cb] 72)).cell? ⟨w5.heap.size, j, none⟩ = some u := (by intro j u hj; rw [cell_blk (ga_new w5 _) j]; simpa using hj); have hcellh := Lib.hid hcell; clear hcell hbm2)
          | (at_builtin; go_loud (refine wpL_appL rLoop 68 72 (.agg #[.int .i64 0, .slice none 0 0]) 32 Tryz.underlying68 infoLp rfl (by decide) (by decide) rfl _ _ rfl _ _ rfl (hownO.below ((Below.refl _ _).alloc (Nat.le_refl _) _)) w5.heap.size 1 [.int .i64 (k : Int), .slice Ab (bodyR f (k : Int)).length cb] rfl ?hcell ?hone ⟨(k : Int), bodyR f (k : Int)⟩ ?hR ?hlen ?hbase ?_); (case hcell => exact hcellh.out); (case hone => exact fun u hu => by (simp at hu; rcases hu with rfl | rfl <;> rfl)); (case hR => (refine ⟨_, rfl, by unfold I64; simp only; omega, (hownb.al (.cells #[.int .i64 (k : Int), .slice Ab (bodyR f (k : Int)).length cb] 72)).readK (fun j hj => ?_) hI64 ?_⟩; (have h9 := (hownb.lt hj).1; unfold extX; rw [if_neg (by omega), if_neg (fun e => by have := (hownh.out.lt e).2; omega)]); (unfold maxN; have := bodyR_len2 f (k : Int); omega))); (case hlen => omega); (case hbase => rw [World.size_alloc]; omega); intro v9 w9 hown9 hg9 _))
        go_wp2_with fail
        go_roundw
        case rel => exact ⟨k + 1, by omega, by go_num, by rw [hst2.out]; exact hown9, ((hBw5).alloc (by omega) _).grown hg9 (by rw [World.size_alloc]; omega) (fun j hj => by have := (hownh.out.lt hj).1; omega)⟩
        case measure => simp [intOf]; omega
    · obtain rfl : k = f.blocks.length := by omega
      have hltn : ¬ (f.blocks.length : Int) < f.blocks.length := by omega
      have hownh := Lib.hid hown
      have hlen := loopsTo_len f f.blocks.length
      clear hlt hown
      go_wp2
      go_ret2
      have h9 := (hownh.out.read (by unfold maxN; omega)).mono (show PH.le _ (full wr) from extH.sees hs3 hB)
      refine ⟨⟨_, rfl, ?_⟩, bstep hBw3 hB⟩
      rw [hRESh.out] at h9
      exact h9
theorem r19_Loops (H : PH) (v : Value) (c : CodeD) (w : World) (hw : Sees w H) (hc : CodeV H v c) :
    Calls Tryz.prog 37 #[v] w fun e w' => LpF w' c e ∧ Below w.heap.size w w' := by
  unfold LpF lpsL
  by_cases hE : checkedE c = 0
  · refine (r19_Loops_ok H v c w hw hc hE).mono ?_
    rintro e w' ⟨⟨u, rfl, hu⟩, hB⟩
    exact ⟨⟨u, by rw [hE], by rw [if_pos hE]; exact hu⟩, hB⟩
  · refine (r19_Loops_no H v c w hw hc hE).mono ?_
    rintro e w' ⟨rfl, hB⟩
    exact ⟨⟨_, rfl, by rw [if_neg hE]; exact SlV.nil _ _⟩, hB⟩
end Go.Proofs.YtififjlgjmgikaaGreat
