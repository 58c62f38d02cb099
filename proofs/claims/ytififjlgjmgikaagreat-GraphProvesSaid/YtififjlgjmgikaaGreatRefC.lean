/- The reference's layer 14: marks, SameInts, Next; layer 19: in (seat .Z). The reference's layer 14: Next (seat .Z). The reference's layer 14: Entries (seat .Z). The reference's layer 14: Reached (seat .Z). -/
import Derived.Test.YtififjlgjmgikaaGreatRefB
import Derived.Test.YtififjlgjmgikaaGreatNextA
import Derived.Test.YtififjlgjmgikaaGreatFlow
import Derived.Test.YtififjlgjmgikaaGreatLeaders
import Derived.Test.YtififjlgjmgikaaGreatDom
import Derived.Deep.DeepCutAuto
import Derived.Test.YtififjlgjmgikaaGreatFlowN
namespace Go.Proofs.YtififjlgjmgikaaGreat
set_option linter.all false
open Go.RowKit

/-- The places that are marked, ascending. -/
def marksK (bs : List Bool) (k : Nat) : List Int := ((List.range k).filter fun i => bs.getD i false).map fun (i : Nat) => (i : Int)
def marksL (bs : List Bool) : List Int := marksK bs bs.length
theorem marksK_succ (bs : List Bool) (k : Nat) : marksK bs (k + 1) = marksK bs k ++ if bs.getD k false then [(k : Int)] else [] := by
  unfold marksK
  rw [List.range_succ, List.filter_append, List.map_append]
  congr 1
  have e : ∀ b : Bool, (if b = true then [k] else []).map (fun i : Nat => (i : Int)) = if b = true then [(k : Int)] else [] := by intro b; cases b <;> rfl
  simp only [List.filter_cons, List.filter_nil]
  exact e _
theorem marksK_len (bs : List Bool) (k : Nat) : (marksK bs k).length ≤ k := by
  unfold marksK
  rw [List.length_map]
  exact Nat.le_trans (List.length_filter_le _ _) (by simp)
theorem marksK_mem {bs : List Bool} {k : Nat} {x : Int} : x ∈ marksK bs k ↔ ∃ i : Nat, x = (i : Int) ∧ i < k ∧ bs.getD i false = true := by
  unfold marksK
  simp only [List.mem_map, List.mem_filter, List.mem_range]
  constructor
  · rintro ⟨i, ⟨h1, h2⟩, rfl⟩; exact ⟨i, rfl, h1, h2⟩
  · rintro ⟨i, rfl, h1, h2⟩; exact ⟨i, ⟨h1, h2⟩, rfl⟩
theorem marksK_sorted (bs : List Bool) (k : Nat) : (marksK bs k).Pairwise (· < ·) := by
  unfold marksK
  rw [List.pairwise_map]
  refine (List.Pairwise.filter _ (List.pairwise_lt_range (n := k))).imp fun h => ?_
  omega
/-- Marks of a set of places are its elements in order. -/
theorem marks_eq {bs : List Bool} {n : Nat} {xs : List Int} (hn : bs.length = n) (hx : xs.Pairwise (· < ·)) (h0 : ∀ x ∈ xs, 0 ≤ x ∧ x < n) (h : ∀ j, j < n → (bs.getD j false = true ↔ (j : Int) ∈ xs)) : marksL bs = xs := by
  unfold marksL
  refine sorted_ext (marksK_sorted _ _) hx fun a => ?_
  rw [marksK_mem, hn]
  constructor
  · rintro ⟨i, rfl, h1, h2⟩; exact (h i h1).1 h2
  · intro ha
    have := h0 a ha
    obtain ⟨i, rfl⟩ : ∃ i : Nat, a = (i : Int) := ⟨a.toNat, by omega⟩
    exact ⟨i, rfl, by omega, (h i (by omega)).2 ha⟩
def OwnRet (base : Nat) (w' : World) (xs : List Int) (e : Ending) : Prop := ∃ v', e = .returned v' ∧ OwnI w' base v' xs
set_option maxHeartbeats 2000000 in
set_option maxRecDepth 100000 in
theorem r14_marks (H : PH) (v : Value) (bs : List Bool) (w : World) (hw : Sees w H) (hb : SlV rBool H v bs) (hn : bs.length ≤ 1000000) :
    Calls Tryz.prog 103 #[v] w fun e w' => OwnRet w.heap.size w' (marksL bs) e ∧ Below w.heap.size w w' := by
  obtain ⟨A0, c0, rfl, k0, -⟩ := hb.open_
  have hM := Lib.hid (show marksL bs = marksK bs bs.length from rfl)
  generalize marksL bs = M at *
  go_enter Tryz.func103, Tryz.ntmps103
  go_wp2
  refine wp_name fun w1 hw1 => ?_
  obtain rfl := hw1.symm
  go_loopw [3, 4] (fun o i wr => ∃ k : Nat, k ≤ bs.length ∧ i = .int .i64 k ∧ OwnI wr w.heap.size o (marksK bs k) ∧ Below w.heap.size w wr) (fun _ i _ => bs.length - (intOf i).toNat)
  case atStart => exact ⟨0, Nat.zero_le _, rfl, OwnI.nil _ _, Below.refl _ _⟩
  case round =>
    obtain ⟨k, hk, rfl, hown, hB⟩ := hrel
    by_cases hlt : k < bs.length
    · obtain ⟨b, off, c', hve, -, hbb, hcell⟩ := hb.bools (by omega)
      cases hve
      have hsee := hw.below hB
      have hcl := hcell wr hsee k hlt
      have hbl := hsee.lt' hbb
      have hlen := marksK_len bs k
      have hst := Lib.hid (marksK_succ bs k)
      clear hcell
      generalize marksK bs k = es at *
      generalize hg : bs.getD k false = g at *
      have hgh := Lib.hid hg
      clear hg
      cases g
      · go_wp2
        go_roundw
        case rel => exact ⟨k + 1, by omega, by go_num, by rw [hst.out]; simpa using hown, hB⟩
        case measure => simp [intOf]; omega
      · go_wp2_with (at_builtin; go_loud (refine wpL_appI rfl _ _ rfl w.heap.size _ es [(k : Int)] rfl (hown.al _) ⟨wr.heap.size, 0, none⟩ 1 1 rfl rfl (one_new (by simp)) ?hlen ?hsz ?_); go_loud (case hlen => first | omega | (simp; omega)); go_loud (case hsz => have := hB.size; first | omega | (simp; omega)); intro v2 w2 hown2 hg2 _)
        go_roundw
        case rel => exact ⟨k + 1, by omega, by go_num, by rw [hst.out]; simpa using hown2, (hB.alloc hB.size _).grown hg2 (by have := hB.size; simp; omega) (fun j hj => (hown.lt hj).1)⟩
        case measure => simp [intOf]; omega
    · obtain rfl : k = bs.length := by omega
      rw [← hM.out] at hown
      have hownh := Lib.hid hown
      clear hown
      go_wp2
      go_ret
      exact ⟨⟨_, rfl, hownh.out⟩, hB⟩
def sameB (xs ys : List Int) : Bool := decide (xs = ys)
def inB (n : Int) (xs : List Int) : Bool := decide (n ∈ xs)
set_option maxHeartbeats 2000000 in
theorem r19_in (H : PH) (n : Int) (u : Value) (xs : List Int) (w : World) (hw : Sees w H) (hx : SlV rInt H u xs) :
    Calls Tryz.prog 58 #[.int .i64 n, u] w fun e w' => e = .returned (.bool (inB n xs)) ∧ w = w' := by
  have lx := hx.le
  obtain ⟨Ax, cx, rfl, -, -⟩ := hx.open_
  have hS := Lib.hid (show inB n xs = decide (n ∈ xs) from rfl)
  generalize inB n xs = B at *
  go_enter Tryz.func58, Tryz.ntmps58
  go_wp2
  go_loop [5] (fun i => ∃ k : Nat, k ≤ xs.length ∧ i = .int .i64 k ∧ Aside (∀ j, j < k → xs.getD j 0 ≠ n)) (fun i => xs.length - (intOf i).toNat)
  case atStart => exact ⟨0, Nat.zero_le _, rfl, fun j h => by omega⟩
  case round =>
    obtain ⟨k, hk, rfl, hno⟩ := hrel
    have hnoh := Lib.hid hno
    clear hno
    by_cases hlt : k < xs.length
    · obtain ⟨b1, o1, c1, e1, -, hb1, hc1, -⟩ := hx.ints (by omega)
      cases e1
      have q1 := hc1 w hw k hlt
      have l1 := hw.lt' hb1
      clear hc1
      by_cases he : xs.getD k 0 = n
      · have hb := Lib.hid (show B = true by rw [hS.out]; exact decide_eq_true (by rw [← he, List.getD_eq_getElem?_getD, List.getElem?_eq_getElem hlt]; simp))
        rw [he] at q1
        have hne : (n == n) = true := by simp
        clear he
        go_wp2
        go_ret
        exact ⟨ret_bool hb.out.symm, rfl⟩
      · have hne : (xs.getD k 0 == n) = false := by simpa using he
        have heh := Lib.hid he
        clear he
        obtain ⟨y, hy⟩ : ∃ y, xs.getD k 0 = y := ⟨_, rfl⟩
        rw [hy] at q1 hne
        have hyh := Lib.hid hy
        clear hy
        go_wp2
        go_round
        case rel =>
          refine ⟨k + 1, by omega, by go_num, fun j hj => ?_⟩
          by_cases e : j = k
          · subst e; exact heh.out
          · exact hnoh.out j (by omega)
        case measure => simp [intOf]; omega
    · obtain rfl : k = xs.length := by omega
      have hltn : ¬ (xs.length : Int) < xs.length := by omega
      have hb := Lib.hid (show B = false by
        rw [hS.out]
        refine decide_eq_false fun hm => ?_
        obtain ⟨j, hj, rfl⟩ := List.getElem_of_mem hm
        exact hnoh.out j hj (by rw [List.getD_eq_getElem?_getD, List.getElem?_eq_getElem hj]; rfl))
      clear hlt
      go_wp2
      go_ret
      exact ⟨ret_bool hb.out.symm, rfl⟩
end Go.Proofs.YtififjlgjmgikaaGreat
namespace Go.Proofs.YtififjlgjmgikaaGreat
set_option linter.all false
open Go.RowKit

/-- What Next marks. -/
def nextMarks (q : InstrD) (p n : Nat) : List Bool :=
  let l := List.replicate (n + 1) false
  if stops q.op then l else if q.op = 47 then l.set q.a.toNat true else if q.op = 48 then (l.set q.a.toNat true).set (p + 1) true else l.set (p + 1) true
theorem nextMarks_len (q : InstrD) (p n : Nat) : (nextMarks q p n).length = n + 1 := by
  unfold nextMarks
  simp only
  split
  · simp
  · split
    · simp
    · split <;> simp
theorem getD_take {bs : List Bool} {n j : Nat} (h : j < n) : (bs.take n).getD j false = bs.getD j false := by
  rw [List.getD_eq_getElem?_getD, List.getElem?_take, if_pos h, List.getD_eq_getElem?_getD]
theorem getD_rep (n j : Nat) : (List.replicate n false).getD j false = false := by
  rw [List.getD_eq_getElem?_getD, List.getElem?_replicate]
  split <;> rfl
theorem getD_set_b {bs : List Bool} {i j : Nat} {b : Bool} (hi : i < bs.length) : (bs.set i b).getD j false = if j = i then b else bs.getD j false := by
  by_cases e : j = i
  · subst e
    rw [if_pos rfl, List.getD_eq_getElem?_getD, List.getElem?_set_self hi]
    rfl
  · rw [if_neg e, List.getD_eq_getElem?_getD, List.getElem?_set_ne (fun k => e k.symm), List.getD_eq_getElem?_getD]
theorem nextL_sorted (c : CodeD) (p : Nat) : (nextL c p).Pairwise (· < ·) := by
  unfold nextL nextQ
  split
  · simp
  · split
    · simp
    · exact cs_sorted _
theorem nextMarks_eq {c : CodeD} (hf : fineB c = true) {p : Nat} (hp : p < c.instrs.length) : marksL ((nextMarks (c.instrs.getD p default) p c.instrs.length).take c.instrs.length) = nextL c p := by
  have hl := nextMarks_len (c.instrs.getD p default) p c.instrs.length
  refine marks_eq (n := c.instrs.length) (by rw [List.length_take, hl]; omega) (nextL_sorted c p) (next_in hf hp) fun j hj => ?_
  rw [getD_take hj]
  have hn := fun h => fine_target hf hp h
  unfold nextL nextQ nextMarks
  simp only
  generalize c.instrs.getD p default = q at *
  by_cases h1 : stops q.op = true
  · rw [if_pos h1, if_pos h1, getD_rep]; simp
  · rw [if_neg h1, if_neg h1]
    by_cases h2 : q.op = 47
    · have ha := hn (.inl h2)
      rw [if_pos h2, if_pos h2, getD_set_b (by simp; omega), getD_rep]
      simp
      omega
    · rw [if_neg h2, if_neg h2]
      by_cases h3 : q.op = 48
      · have ha := hn (.inr (.inl h3))
        rw [if_pos h3, getD_set_b (by simp; omega), getD_set_b (by simp; omega), getD_rep, mem_cs]
        unfold next1
        rw [if_pos h3]
        simp only [List.mem_append, List.mem_singleton]
        by_cases e : p + 1 < c.instrs.length
        · rw [if_pos e]; simp; omega
        · rw [if_neg e]; simp; omega
      · rw [if_neg h3, getD_set_b (by simp; omega), getD_rep, mem_cs]
        unfold next1
        rw [if_neg h3]
        simp only [List.nil_append]
        by_cases e : p + 1 < c.instrs.length
        · rw [if_pos e]; simp; omega
        · rw [if_neg e]; simp; omega
/-- The first n of a row of bools. -/
theorem bools_pre {K : PH} {g n cap : Nat} {bs : List Bool} (h : K g = some (.cells (bs.map Value.bool).toArray 4 (0, 0))) (hn : n ≤ bs.length) (hc : n ≤ cap) (hm : n ≤ maxN) : SlV rBool K (.slice (some ⟨g, 0, none⟩) n cap) (bs.take n) := by
  have hl : (bs.take n).length = n := by simp; omega
  refine ⟨_, cap, by rw [hl], by omega, by omega, fun i x hi => ⟨g, 0, [.bool x], rfl, ⟨rfl, _, _, _, h, ?_⟩, rfl⟩⟩
  intro j u hj
  have hj0 : j = 0 := by
    have := (List.getElem?_eq_some_iff.1 hj).1
    simp at this
    exact this
  subst hj0
  cases hj
  have hi2 : i < n := by have := (List.getElem?_eq_some_iff.1 hi).1; omega
  rw [List.getElem?_take, if_pos hi2] at hi
  simp [rBool, Rp.plain, hi]
set_option maxHeartbeats 4000000 in
set_option maxRecDepth 100000 in
theorem r14_Next (H : PH) (v : Value) (c : CodeD) (w : World) (hw : Sees w H) (hc : CodeV H v c) (hf : fineB c = true) (p : Nat) (hp : p < c.instrs.length) :
    Calls Tryz.prog 64 #[v, .int .i64 p] w fun e w' => OwnRet w.heap.size w' (nextL c p) e ∧ Below w.heap.size w w' := by
  have n0 := (fine_bounds hf).i1
  have hEq := Lib.hid (nextMarks_eq hf hp)
  have hT := fine_target hf hp
  obtain ⟨s0, s1, s2, s3, s4, s5, s6, rfl, hc⟩ := hc
  obtain ⟨b, off, ci, rfl, -, hb, hcell, hint⟩ := hc.instrs.instrs (by omega)
  have hck := hcell w hw p hp
  have hlb := hw.lt' hb
  have hx0 := ga_new w (.cells #[.slice (some ⟨b, off, none⟩) c.instrs.length ci, s1, s2, s3, s4, s5, s6] 30)
  have q0 := cell_al (o := .cells #[.slice (some ⟨b, off, none⟩) c.instrs.length ci, s1, s2, s3, s4, s5, s6] 30) hck.1
  have q1 := cell_al (o := .cells #[.slice (some ⟨b, off, none⟩) c.instrs.length ci, s1, s2, s3, s4, s5, s6] 30) hck.2.1
  have q2 := cell_al (o := .cells #[.slice (some ⟨b, off, none⟩) c.instrs.length ci, s1, s2, s3, s4, s5, s6] 30) hck.2.2.1
  have q3 := cell_al (o := .cells #[.slice (some ⟨b, off, none⟩) c.instrs.length ci, s1, s2, s3, s4, s5, s6] 30) hck.2.2.2
  have hlt' : (p : Int) < c.instrs.length := by omega
  have hp0 : (0 : Int) ≤ p := by omega
  have hmk := mk_bools (c.instrs.length + 1) (by omega)
  simp only [Int.natCast_add, Int.natCast_one] at hmk
  have hLs := nextL_sorted c p
  generalize nextL c p = L at *
  generalize c.instrs.getD p default = x at *
  obtain ⟨xo, xa, xb, xc⟩ := x
  simp only at *
  clear hc hcell hint hck
  go_enter Tryz.func64, Tryz.ntmps64
  go_upto_region 3 with fail
  refine wp_name fun W hW => ?_
  have hBW : Below w.heap.size w W := by rw [hW]; exact (((Below.refl _ _).alloc (Nat.le_refl _) _).alloc (by simp) _).alloc (by simp; omega) _
  have hA : ArrB W (w.heap.size + 1 + 1) (List.replicate (c.instrs.length + 1) false) := by
    rw [hW]
    have := ArrB.new ((w.alloc (.cells #[.slice (some ⟨b, off, none⟩) c.instrs.length ci, s1, s2, s3, s4, s5, s6] 30)).alloc (.cells #[.int .i64 xo, .int .i64 xa, .int .i64 xb, .int .i64 xc] 123)) (c.instrs.length + 1)
    simpa using this
  have hx1 : W.heap[w.heap.size]? = some (.cells #[.slice (some ⟨b, off, none⟩) c.instrs.length ci, s1, s2, s3, s4, s5, s6] 30 (0, 0)) := by rw [hW]; exact ga_old (ga_old hx0)
  have hy1 : W.heap[w.heap.size + 1]? = some (.cells #[.int .i64 xo, .int .i64 xa, .int .i64 xb, .int .i64 xc] 123 (0, 0)) := by rw [hW]; exact ga_old (blk1 _ _ _)
  clear hW hmk q0 q1 q2 q3 hx0
  have l1 := (Array.getElem?_eq_some_iff.1 hx1).1
  have l2 := (Array.getElem?_eq_some_iff.1 hy1).1
  have l3 := hA.lt
  have r := box7 hx1
  have r2 := box4 hy1
  have hpn : (p : Int) < (c.instrs.length : Int) + 1 := by omega
  have hp1n : (p : Int) + 1 < (c.instrs.length : Int) + 1 := by omega
  have hp10 : (0 : Int) ≤ (p : Int) + 1 := by omega
  have hp1t : ((p : Int) + 1).toNat = p + 1 := by omega
  have hpc := hA.cell (j := p + 1) (by simp; omega)
  have hpf := hA.free (p + 1)
  by_cases hs : stops xo = true
  · have h4 : xo = 1 ∨ xo = 24 ∨ xo = 25 ∨ xo = 53 := by simp [stops] at hs; omega
    have hE := hEq.out
    rw [show nextMarks ⟨xo, xa, xb, xc⟩ p c.instrs.length = List.replicate (c.instrs.length + 1) false from by simp [nextMarks, hs]] at hE
    have hEh := Lib.hid hE
    clear hE hs hT
    rcases h4 with rfl | rfl | rfl | rfl
    all_goals go_wp2_with fail
              refine (r14_marks (full _) _ ((List.replicate (c.instrs.length + 1) false).take c.instrs.length) _ (full.sees _) (bools_pre (hA) (by simp) (by omega) (by unfold maxN; omega)) (by simp; omega)).mono ?_
              rintro e w6 ⟨⟨v6, rfl, ho⟩, hB6⟩
              rw [hEh.out] at ho
              have hoh := Lib.hid ho
              clear ho
              have hBm := hBW
              have hB7 := bstep hBm hB6
              have hz := hBm.size
              go_wp2
              go_ret
              exact ⟨⟨_, rfl, hoh.out.lower hz⟩, hB7⟩
  · by_cases h47 : xo = 47
    · subst h47
      have ha := hT (.inl rfl)
      have hE := hEq.out
      rw [show nextMarks ⟨47, xa, xb, xc⟩ p c.instrs.length = (List.replicate (c.instrs.length + 1) false).set xa.toNat true from by simp [nextMarks, hs]] at hE
      have hEh := Lib.hid hE
      have hac := hA.cell (j := xa.toNat) (by simp; omega)
      have haf := hA.free xa.toNat
      obtain ⟨ha0, ha1⟩ := ha
      have ha2 : xa < (c.instrs.length : Int) + 1 := by omega
      clear hE hs hT
      go_wp2_with fail
      refine (r14_marks (full _) _ (((List.replicate (c.instrs.length + 1) false).set xa.toNat true).take c.instrs.length) _ (full.sees _) (bools_pre (hA.set xa.toNat true) (by simp) (by omega) (by unfold maxN; omega)) (by simp; omega)).mono ?_
      rintro e w6 ⟨⟨v6, rfl, ho⟩, hB6⟩
      rw [hEh.out] at ho
      have hoh := Lib.hid ho
      clear ho
      have hBm := setCell_below hBW (by omega : w.heap.size ≤ w.heap.size + 1 + 1) (j := xa.toNat) (u := .bool true)
      have hB7 := bstep hBm hB6
      have hz := hBm.size
      go_wp2
      go_ret
      exact ⟨⟨_, rfl, hoh.out.lower hz⟩, hB7⟩
    · by_cases h48 : xo = 48
      · subst h48
        have ha := hT (.inr (.inl rfl))
        have hE := hEq.out
        rw [show nextMarks ⟨48, xa, xb, xc⟩ p c.instrs.length = ((List.replicate (c.instrs.length + 1) false).set xa.toNat true).set (p + 1) true from by simp [nextMarks, hs]] at hE
        have hEh := Lib.hid hE
        have hac := hA.cell (j := xa.toNat) (by simp; omega)
        have haf := hA.free xa.toNat
        obtain ⟨ha0, ha1⟩ := ha
        have ha2 : xa < (c.instrs.length : Int) + 1 := by omega
        have hpc2 := (hA.set xa.toNat true).cell (j := p + 1) (by simp; omega)
        have hpf2 := (hA.set xa.toNat true).free (p + 1)
        clear hE hs hT hpc hpf
        go_wp2_with fail
        refine (r14_marks (full _) _ ((((List.replicate (c.instrs.length + 1) false).set xa.toNat true).set (p + 1) true).take c.instrs.length) _ (full.sees _) (bools_pre ((hA.set xa.toNat true).set (p + 1) true) (by simp) (by omega) (by unfold maxN; omega)) (by simp; omega)).mono ?_
        rintro e w6 ⟨⟨v6, rfl, ho⟩, hB6⟩
        rw [hEh.out] at ho
        have hoh := Lib.hid ho
        clear ho
        have hBm := setCell_below (setCell_below hBW (by omega : w.heap.size ≤ w.heap.size + 1 + 1) (j := xa.toNat) (u := .bool true)) (by omega : w.heap.size ≤ w.heap.size + 1 + 1) (j := p + 1) (u := .bool true)
        have hB7 := bstep hBm hB6
        have hz := hBm.size
        go_wp2
        go_ret
        exact ⟨⟨_, rfl, hoh.out.lower hz⟩, hB7⟩
      · have hE := hEq.out
        rw [show nextMarks ⟨xo, xa, xb, xc⟩ p c.instrs.length = (List.replicate (c.instrs.length + 1) false).set (p + 1) true from by simp [nextMarks, hs, h47, h48]] at hE
        have hEh := Lib.hid hE
        have e1 : (xo == 1) = false := by simp [stops] at hs; simp; omega
        have e2 : (xo == 24) = false := by simp [stops] at hs; simp; omega
        have e3 : (xo == 25) = false := by simp [stops] at hs; simp; omega
        have e4 : (xo == 53) = false := by simp [stops] at hs; simp; omega
        have e5 : (xo == 47) = false := by simpa using h47
        have e6 : (xo == 48) = false := by simpa using h48
        clear hE hs hT h47 h48
        go_wp2_with fail
        refine (r14_marks (full _) _ (((List.replicate (c.instrs.length + 1) false).set (p + 1) true).take c.instrs.length) _ (full.sees _) (bools_pre (hA.set (p + 1) true) (by simp) (by omega) (by unfold maxN; omega)) (by simp; omega)).mono ?_
        rintro e w6 ⟨⟨v6, rfl, ho⟩, hB6⟩
        rw [hEh.out] at ho
        have hoh := Lib.hid ho
        clear ho
        have hBm := setCell_below hBW (by omega : w.heap.size ≤ w.heap.size + 1 + 1) (j := p + 1) (u := .bool true)
        have hB7 := bstep hBm hB6
        have hz := hBm.size
        go_wp2
        go_ret
        exact ⟨⟨_, rfl, hoh.out.lower hz⟩, hB7⟩
end Go.Proofs.YtififjlgjmgikaaGreat
namespace Go.Proofs.YtififjlgjmgikaaGreat
set_option linter.all false
open Go.RowKit

/-- A row of marks after those of a list. -/
structure MarkI (n : Nat) (bs : List Bool) (xs : List Int) : Prop where
  len : bs.length = n
  iff_ : ∀ j, j < n → (bs.getD j false = true ↔ (j : Int) ∈ xs)
theorem MarkI.init (n : Nat) : MarkI n (List.replicate n false) [] := ⟨by simp, fun j hj => by rw [getD_rep]; simp⟩
theorem MarkI.set {n : Nat} {bs : List Bool} {xs : List Int} (h : MarkI n bs xs) {x : Int} (h0 : 0 ≤ x) (h1 : x < n) : MarkI n (bs.set x.toNat true) (xs ++ [x]) := by
  refine ⟨by rw [List.length_set]; exact h.len, fun j hj => ?_⟩
  rw [getD_set_b (by rw [h.len]; omega), List.mem_append, List.mem_singleton]
  by_cases e : j = x.toNat
  · rw [if_pos e]; simp; right; omega
  · rw [if_neg e, h.iff_ j hj]
    constructor
    · exact .inl
    · rintro (k | k)
      · exact k
      · omega
theorem MarkI.congr {n : Nat} {bs : List Bool} {xs ys : List Int} (h : MarkI n bs xs) (e : xs = ys) : MarkI n bs ys := e ▸ h
theorem MarkI.marks {c : CodeD} (hf : fineB c = true) {bs : List Bool} (h : MarkI c.instrs.length bs (entries0 c)) : marksL bs = entriesL c := by
  refine marks_eq h.len (cs_sorted _) (entries_in hf) fun j hj => ?_
  rw [h.iff_ j hj]
  exact mem_cs.symm
theorem entry_in0 {c : CodeD} (hf : fineB c = true) {x : Int} (h : x ∈ entries0 c) : 0 ≤ x ∧ x < c.instrs.length := entries_in hf x (mem_cs.2 h)
theorem take_succ_map {α : Type} (l : List α) (f : α → Int) {k : Nat} {x : α} (h : l[k]? = some x) : (l.take (k + 1)).map f = (l.take k).map f ++ [f x] := by
  rw [take_succ_getD h, List.map_append]; rfl
theorem take_succ_flat {α : Type} (l : List α) (f : α → List Int) {k : Nat} {x : α} (h : l[k]? = some x) : (l.take (k + 1)).flatMap f = (l.take k).flatMap f ++ f x := by
  rw [take_succ_getD h, List.flatMap_append]; simp
theorem take_succ_filt {α : Type} (l : List α) (q : α → Bool) (f : α → Int) {k : Nat} {x : α} (h : l[k]? = some x) : ((l.take (k + 1)).filter q).map f = ((l.take k).filter q).map f ++ if q x then [f x] else [] := by
  rw [take_succ_getD h, List.filter_append, List.map_append]
  congr 1
  cases hq : q x <;> simp [hq]
theorem drewB3 {w w1 : World} (h : Below w.heap.size w w1) : Below w.drew.heap.size w.drew w1.drew := ⟨h.os, h.tape, h.output, h.size, h.block⟩
set_option maxHeartbeats 8000000 in
set_option maxRecDepth 100000 in
theorem r14_Entries (H : PH) (v : Value) (c : CodeD) (w : World) (hw : Sees w H) (hc : CodeV H v c) (hf : fineB c = true) :
    Calls Tryz.prog 94 #[v] w fun e w' => OwnRet w.heap.size w' (entriesL c) e ∧ Below w.heap.size w w' := by
  have n0 := (fine_bounds hf).i1
  have n1 := (fine_bounds hf).i0
  have hIn := Lib.hid (fun x (h : x ∈ entries0 c) => entry_in0 hf h)
  have hMk := Lib.hid (fun (bs : List Bool) (h : MarkI c.instrs.length bs (entries0 c)) => h.marks hf)
  obtain ⟨A0, c0, A1, c1, A2, c2, A3, c3, A4, c4, A5, c5, A6, c6, rfl, hc, b0, b1, b2, b3, b4, b5, b6⟩ := hc.forms
  have hmk := mk_bools c.instrs.length (by omega)
  have hch := Lib.hid hc
  have hx00 := ga_new w (.cells #[.slice A0 c.instrs.length c0, .slice A1 c.procs.length c1, .slice A2 c.thunks.length c2, .slice A3 c.switches.length c3, .slice A4 c.strings.length c4, .slice A5 c.reals.length c5, .slice A6 c.owns.length c6] 30)
  clear hc hf
  go_enter Tryz.func94, Tryz.ntmps94
  go_upto_region 2 with fail
  refine wp_name fun W hW => ?_
  have hBW : Below w.heap.size w W := by rw [hW]; exact ((Below.refl _ _).alloc (Nat.le_refl _) _).alloc (by simp) _
  have hA : ArrB W (w.heap.size + 1) (List.replicate c.instrs.length false) := by
    rw [hW]
    have := ArrB.new (w.alloc (.cells #[.slice A0 c.instrs.length c0, .slice A1 c.procs.length c1, .slice A2 c.thunks.length c2, .slice A3 c.switches.length c3, .slice A4 c.strings.length c4, .slice A5 c.reals.length c5, .slice A6 c.owns.length c6] 30)) c.instrs.length
    simpa using this
  have hx1 : W.heap[w.heap.size]? = some (.cells #[.slice A0 c.instrs.length c0, .slice A1 c.procs.length c1, .slice A2 c.thunks.length c2, .slice A3 c.switches.length c3, .slice A4 c.strings.length c4, .slice A5 c.reals.length c5, .slice A6 c.owns.length c6] 30 (0, 0)) := by rw [hW]; exact ga_old hx00
  clear hW hmk hx00
  have hac := hA.cell (j := 0) (by simp; omega)
  have haf := hA.free 0
  have hlg := hA.lt
  have hn1 : (0 : Int) < c.instrs.length := by omega
  go_wp2
  refine wp_name fun w0 hw0 => ?_
  have hA0 : ArrB w0 (w.heap.size + 1) ((List.replicate c.instrs.length false).set 0 true) := by rw [hw0]; exact hA.set 0 true
  have hB0 : Below w.heap.size w w0 := by rw [hw0]; exact setCell_below hBW (by omega)
  have hx0 := (show w0.heap[w.heap.size]? = W.heap[w.heap.size]? by rw [hw0]; exact setCell_other (by omega)).trans hx1
  have hs0 := hw.below hB0
  have hHg : H (w.heap.size + 1) = none := hw.fresh (by omega)
  have hmk : Hid (MarkI c.instrs.length ((List.replicate c.instrs.length false).set 0 true) ([0] ++ (c.procs.take 0).map (·.entry))) := Lib.hid (by simpa using (MarkI.init c.instrs.length).set (x := 0) (by omega) (by omega))
  generalize (List.replicate c.instrs.length false).set 0 true = bs0 at *
  clear hw0 hac haf hlg hA hx1 hBW
  go_loopw [4] (fun i wr => ∃ (k : Nat) (bs : List Bool), k ≤ c.procs.length ∧ i = .int .i64 k ∧ Aside (MarkI c.instrs.length bs ([0] ++ (c.procs.take k).map (·.entry))) ∧ ArrB wr (w.heap.size + 1) bs ∧ w0.grownBy wr (some (w.heap.size + 1))) (fun i _ => c.procs.length - (intOf i).toNat)
  case atStart => exact ⟨0, bs0, Nat.zero_le _, rfl, hmk.out, hA0, grown_refl _ _⟩
  case round =>
    obtain ⟨k, bs, hk, rfl, hm, hA, hg⟩ := hrel
    have hmh := Lib.hid hm
    clear hm
    have hg1 : w.heap.size + 1 < w0.heap.size := hA0.lt
    have hs1 := hs0.grown hg hHg
    have hx1 := (hg.block w.heap.size (by omega) (fun e => by injection e with e; omega)).trans hx0
    have q := box7 hx1
    have l0 : w.heap.size < wr.heap.size := (Array.getElem?_eq_some_iff.1 hx1).1
    have hlg := hA.lt
    have hbl := hmh.out.len
    by_cases hlt : k < c.procs.length
    · have hlt' : (k : Int) < c.procs.length := by omega
      obtain ⟨b, off, c', hAA, -, hb, hcell, -⟩ := hch.out.procs.procs (by omega)
      cases hAA
      have hx : c.procs[k]? = some (c.procs.getD k default) := by simp [hlt]
      have hck := (hcell wr hs1 k hlt).1
      have hmm := take_succ_map c.procs (·.entry) hx
      have hin := hIn.out (c.procs.getD k default).entry (by unfold entries0; simp only [List.mem_append]; exact .inl (.inl (.inl (.inr (List.mem_map.2 ⟨_, List.mem_of_getElem? hx, rfl⟩)))))
      have lb := hs1.lt' hb
      clear hcell hx
      generalize (c.procs.getD k default).entry = x at *
      obtain ⟨hi0, hi1⟩ := hin
      have hac := hA.cell (j := x.toNat) (by omega)
      have haf := hA.free x.toNat
      have hset := Lib.hid ((hmh.out.set hi0 hi1).congr (by rw [hmm, List.append_assoc] : _ = [0] ++ (c.procs.take (k + 1)).map (·.entry)))
      clear hmm
      go_wp2
      go_roundw
      case rel => exact ⟨k + 1, bs.set x.toNat true, by omega, by go_num, hset.out, hA.set x.toNat true, grown_set hg⟩
      case measure => simp [intOf]; omega
    · have hltn : ¬ (k : Int) < c.procs.length := by omega
      have hmk := Lib.hid (hmh.out.congr (by rw [List.take_of_length_le (by omega)]; simp : _ = [0] ++ c.procs.map (·.entry) ++ (c.thunks.take 0).flatMap thunkPlaces))
      go_wp2
      clear hlt hmh hltn q
      have hBw := hB0.grown hg (by omega) fun j hj => by injection hj with hj; omega
      clear hB0 hg hx0 hs0 hA0 hbl hlg l0 hg1
      have hA0 := hA
      have hs0 := hs1
      have hx0 := hx1
      have hB0 := hBw
      clear hA hs1 hx1 hBw
      obtain ⟨w0, rfl⟩ : ∃ w0 : World, w0 = wr := ⟨_, rfl⟩
      go_loopw [5] (fun i wr => ∃ (k : Nat) (bs : List Bool), k ≤ c.thunks.length ∧ i = .int .i64 k ∧ Aside (MarkI c.instrs.length bs ([0] ++ c.procs.map (·.entry) ++ (c.thunks.take k).flatMap thunkPlaces)) ∧ ArrB wr (w.heap.size + 1) bs ∧ w0.grownBy wr (some (w.heap.size + 1))) (fun i _ => c.thunks.length - (intOf i).toNat)
      case atStart => exact ⟨0, bs, Nat.zero_le _, rfl, hmk.out, hA0, grown_refl _ _⟩
      case round =>
        obtain ⟨k, bs, hk, rfl, hm, hA, hg⟩ := hrel
        have hmh := Lib.hid hm
        clear hm
        have hg1 : w.heap.size + 1 < w0.heap.size := hA0.lt
        have hs1 := hs0.grown hg hHg
        have hx1 := (hg.block w.heap.size (by omega) (fun e => by injection e with e; omega)).trans hx0
        have q := box7 hx1
        have l0 : w.heap.size < wr.heap.size := (Array.getElem?_eq_some_iff.1 hx1).1
        have hlg := hA.lt
        have hbl := hmh.out.len
        by_cases hlt : k < c.thunks.length
        · have hlt' : (k : Int) < c.thunks.length := by omega
          have hk0 : (0 : Int) ≤ (k : Int) := by omega
          obtain ⟨b, off, c', hAA, -, hb, hcell, -⟩ := hch.out.thunks.thunks (by omega)
          cases hAA
          have hx : c.thunks[k]? = some (c.thunks.getD k default) := by simp [hlt]
          have hck := fun (w' : World) (hs : Sees w' H) => hcell w' hs k hlt
          have hmm := take_succ_flat c.thunks thunkPlaces hx
          have hin := fun y (hy : y ∈ thunkPlaces (c.thunks.getD k default)) => hIn.out y (by unfold entries0; simp only [List.mem_append]; exact .inl (.inl (.inr (List.mem_flatMap.2 ⟨_, List.mem_of_getElem? hx, hy⟩))))
          clear hcell hx
          generalize c.thunks.getD k default = x at *
          have hckh := Lib.hid hck
          have hmmh := Lib.hid hmm
          have hinh := Lib.hid hin
          obtain ⟨xv, xa, xd⟩ := x
          clear hck hmm hin
          go_wp2
          refine wp_region_plan (fun w' => Sees w' H ∧ w'.heap[w.heap.size]? = wr.heap[w.heap.size]?) [(0, true), (1, true), (2, true), (3, true), (4, true), (5, true), (6, true), (7, true), (8, true), (9, true), (10, true), (11, true), (12, true), (13, true), (14, true), (15, true), (16, true), (17, true), (18, false), (19, true)] (by kernel_rfl) (by kernel_rfl) (by kernel_rfl) ⟨fun i o e => hs1 i o e, rfl⟩ ?_
          repeat first
            | (refine plan_skip rfl (by rfl) ?_; simp only [Act.put, List.setIfInBounds_toArray, List.set_cons_zero, List.set_cons_succ])
            | (refine plan_read (v := ?_) rfl (by rfl) ?_ ?_; rotate_left; (focus (intro w' hSw; have q' := box7 (hSw.2.trans hx1); have l' := (Array.getElem?_eq_some_iff.1 (hSw.2.trans hx1)).1; have q2 := hckh.out w' hSw.1; have l2 := hSw.1.lt' hb; clear hSw; go_simp; all_goals with_reducible rfl)); simp only [Act.put, List.setIfInBounds_toArray, List.set_cons_zero, List.set_cons_succ])
          refine plan_step rfl (by rfl) (fun K hK => ?_)
          go_simp
          refine hK.out _ _ ⟨(by exact fun i o e => hs1 i o e : Sees wr.drew H).below (drewB3 ((Below.refl _ _).alloc (Nat.le_refl _) _)), (show (wr.alloc _).heap[w.heap.size]? = _ from ga_old hx1).trans hx1.symm⟩ ?_
          clear hK K
          repeat first
            | (refine plan_skip rfl (by rfl) ?_; simp only [Act.put, List.setIfInBounds_toArray, List.set_cons_zero, List.set_cons_succ])
            | (refine plan_read (v := ?_) rfl (by rfl) ?_ ?_; rotate_left; (focus (intro w' hSw; skip; clear hSw; go_simp; all_goals with_reducible rfl)); simp only [Act.put, List.setIfInBounds_toArray, List.set_cons_zero, List.set_cons_succ])
          refine plan_nil (NoPanic.normal ?_)
          go_wp2
          refine wp_name fun wA hwA => ?_
          have hgA : w0.grownBy wA (some (w.heap.size + 1)) := by rw [hwA]; exact grow_drew (grow_al hg _)
          have hAA : ArrB wA (w.heap.size + 1) bs := by rw [hwA]; exact hA.of_block ((Below.refl wr.heap.size wr).alloc (Nat.le_refl _) _ |>.block _ hlg)
          have hxA : wA.heap[w.heap.size]? = wr.heap[w.heap.size]? := by rw [hwA]; exact (show (wr.alloc _).heap[w.heap.size]? = _ from ga_old hx1).trans hx1.symm
          have hyA : wA.heap[wr.heap.size]? = some (.cells #[.int .i64 xv, .int .i64 xa, .int .i64 xd] 3 (0, 0)) := by rw [hwA]; exact ga_new wr _
          have hgt : w.heap.size + 1 < wr.heap.size := hlg
          clear hwA q hA hg
          obtain ⟨B6, hB6⟩ : ∃ B6, wr.heap.size = B6 := ⟨_, rfl⟩
          rw [hB6] at hyA hgt ⊢
          have hB6h := Lib.hid hB6
          have hx1A := hxA.trans hx1
          clear hB6 hxA hx1 hs1 hbl hlg l0
          go_loopw [7] (fun i wi => ∃ (j : Nat) (bs : List Bool), j ≤ 3 ∧ i = .int .i64 j ∧ Aside (MarkI c.instrs.length bs ([0] ++ c.procs.map (·.entry) ++ (c.thunks.take k).flatMap thunkPlaces ++ (([xv, xa, xd] : List Int).take j).filter fun n => decide (0 ≤ n))) ∧ ArrB wi (w.heap.size + 1) bs ∧ wA.grownBy wi (some (w.heap.size + 1))) (fun i _ => 3 - (intOf i).toNat)
          case atStart => exact ⟨0, bs, by omega, rfl, hmh.out.congr (by simp), hAA, grown_refl _ _⟩
          case round =>
            obtain ⟨j, bs, hj, rfl, hm, hA, hg⟩ := hrel
            have hm2 := Lib.hid hm
            clear hm
            have hbl := hm2.out.len
            have hlg := hA.lt
            have hy := (hg.block B6 (Array.getElem?_eq_some_iff.1 hyA).1 (fun e => by injection e with e; omega)).trans hyA
            have ly := (Array.getElem?_eq_some_iff.1 hy).1
            have q := box3 hy
            by_cases hj3 : j < 3
            · have hp : ∀ y : Int, ([xv, xa, xd] : List Int)[j]? = some y → Hid (([xv, xa, xd] : List Int).take (j + 1) = ([xv, xa, xd] : List Int).take j ++ [y]) := fun y h => Lib.hid (take_succ_getD h)
              have hj03 : j = 0 ∨ j = 1 ∨ j = 2 := by omega
              rcases hj03 with rfl | rfl | rfl
              · have e1 := (hp xv rfl)
                clear hp
                by_cases h0 : 0 ≤ xv
                · have hi := hinh.out xv (by simp [thunkPlaces, h0])
                  obtain ⟨-, hi1⟩ := hi
                  have hac := hA.cell (j := (xv).toNat) (by omega)
                  have haf := hA.free (xv).toNat
                  have hset := Lib.hid ((hm2.out.set h0 hi1).congr (by rw [e1.out, List.filter_append, ← List.append_assoc]; simp [h0] : _ = [0] ++ c.procs.map (·.entry) ++ (c.thunks.take k).flatMap thunkPlaces ++ (([xv, xa, xd] : List Int).take (0 + 1)).filter fun n => decide (0 ≤ n)))
                  go_wp2
                  go_roundw
                  case rel => exact ⟨0 + 1, bs.set (xv).toNat true, by omega, by first | rfl | go_num, hset.out, hA.set (xv).toNat true, grown_set hg⟩
                  case measure => simp [intOf]
                · have hset := Lib.hid (hm2.out.congr (by rw [e1.out, List.filter_append]; simp [h0] : _ = [0] ++ c.procs.map (·.entry) ++ (c.thunks.take k).flatMap thunkPlaces ++ (([xv, xa, xd] : List Int).take (0 + 1)).filter fun n => decide (0 ≤ n)))
                  go_wp2
                  go_roundw
                  case rel => exact ⟨0 + 1, bs, by omega, by first | rfl | go_num, hset.out, hA, hg⟩
                  case measure => simp [intOf]
              · have e1 := (hp xa rfl)
                clear hp
                by_cases h0 : 0 ≤ xa
                · have hi := hinh.out xa (by simp [thunkPlaces, h0])
                  obtain ⟨-, hi1⟩ := hi
                  have hac := hA.cell (j := (xa).toNat) (by omega)
                  have haf := hA.free (xa).toNat
                  have hset := Lib.hid ((hm2.out.set h0 hi1).congr (by rw [e1.out, List.filter_append, ← List.append_assoc]; simp [h0] : _ = [0] ++ c.procs.map (·.entry) ++ (c.thunks.take k).flatMap thunkPlaces ++ (([xv, xa, xd] : List Int).take (1 + 1)).filter fun n => decide (0 ≤ n)))
                  go_wp2
                  go_roundw
                  case rel => exact ⟨1 + 1, bs.set (xa).toNat true, by omega, by first | rfl | go_num, hset.out, hA.set (xa).toNat true, grown_set hg⟩
                  case measure => simp [intOf]
                · have hset := Lib.hid (hm2.out.congr (by rw [e1.out, List.filter_append]; simp [h0] : _ = [0] ++ c.procs.map (·.entry) ++ (c.thunks.take k).flatMap thunkPlaces ++ (([xv, xa, xd] : List Int).take (1 + 1)).filter fun n => decide (0 ≤ n)))
                  go_wp2
                  go_roundw
                  case rel => exact ⟨1 + 1, bs, by omega, by first | rfl | go_num, hset.out, hA, hg⟩
                  case measure => simp [intOf]
              · have e1 := (hp xd rfl)
                clear hp
                by_cases h0 : 0 ≤ xd
                · have hi := hinh.out xd (by simp [thunkPlaces, h0])
                  obtain ⟨-, hi1⟩ := hi
                  have hac := hA.cell (j := (xd).toNat) (by omega)
                  have haf := hA.free (xd).toNat
                  have hset := Lib.hid ((hm2.out.set h0 hi1).congr (by rw [e1.out, List.filter_append, ← List.append_assoc]; simp [h0] : _ = [0] ++ c.procs.map (·.entry) ++ (c.thunks.take k).flatMap thunkPlaces ++ (([xv, xa, xd] : List Int).take (2 + 1)).filter fun n => decide (0 ≤ n)))
                  go_wp2
                  go_roundw
                  case rel => exact ⟨2 + 1, bs.set (xd).toNat true, by omega, by first | rfl | go_num, hset.out, hA.set (xd).toNat true, grown_set hg⟩
                  case measure => simp [intOf]
                · have hset := Lib.hid (hm2.out.congr (by rw [e1.out, List.filter_append]; simp [h0] : _ = [0] ++ c.procs.map (·.entry) ++ (c.thunks.take k).flatMap thunkPlaces ++ (([xv, xa, xd] : List Int).take (2 + 1)).filter fun n => decide (0 ≤ n)))
                  go_wp2
                  go_roundw
                  case rel => exact ⟨2 + 1, bs, by omega, by first | rfl | go_num, hset.out, hA, hg⟩
                  case measure => simp [intOf]
            · have hltn2 : ¬ (j : Int) < 3 := by omega
              have hfin := Lib.hid (hm2.out.congr (by rw [List.take_of_length_le (l := [xv, xa, xd]) (i := j) (by simp; omega), hmmh.out, ← List.append_assoc]; rfl : _ = [0] ++ c.procs.map (·.entry) ++ (c.thunks.take (k + 1)).flatMap thunkPlaces))
              go_wp2
              go_roundw
              case rel => exact ⟨k + 1, bs, by omega, by go_num, hfin.out, hA, hgA.trans hg⟩
              case measure => simp [intOf]; omega
        · have hltn : ¬ (k : Int) < c.thunks.length := by omega
          have hmk := Lib.hid (hmh.out.congr (by rw [List.take_of_length_le (by omega)]; simp : _ = [0] ++ c.procs.map (·.entry) ++ c.thunks.flatMap thunkPlaces ++ (c.switches.take 0).flatMap id))
          go_wp2
          clear hlt hmh hltn q
          have hBw := hB0.grown hg (by omega) fun j hj => by injection hj with hj; omega
          clear hB0 hg hx0 hs0 hA0 hbl hlg l0 hg1
          have hA0 := hA
          have hs0 := hs1
          have hx0 := hx1
          have hB0 := hBw
          clear hA hs1 hx1 hBw
          obtain ⟨w0, rfl⟩ : ∃ w0 : World, w0 = wr := ⟨_, rfl⟩
          go_loopw [8] (fun i wr => ∃ (k : Nat) (bs : List Bool), k ≤ c.switches.length ∧ i = .int .i64 k ∧ Aside (MarkI c.instrs.length bs ([0] ++ c.procs.map (·.entry) ++ c.thunks.flatMap thunkPlaces ++ (c.switches.take k).flatMap id)) ∧ ArrB wr (w.heap.size + 1) bs ∧ w0.grownBy wr (some (w.heap.size + 1))) (fun i _ => c.switches.length - (intOf i).toNat)
          case atStart => exact ⟨0, bs, Nat.zero_le _, rfl, hmk.out, hA0, grown_refl _ _⟩
          case round =>
            obtain ⟨k, bs, hk, rfl, hm, hA, hg⟩ := hrel
            have hmh := Lib.hid hm
            clear hm
            have hg1 : w.heap.size + 1 < w0.heap.size := hA0.lt
            have hs1 := hs0.grown hg hHg
            have hx1 := (hg.block w.heap.size (by omega) (fun e => by injection e with e; omega)).trans hx0
            have q := box7 hx1
            have l0 : w.heap.size < wr.heap.size := (Array.getElem?_eq_some_iff.1 hx1).1
            have hlg := hA.lt
            have hbl := hmh.out.len
            by_cases hlt : k < c.switches.length
            · have hlt' : (k : Int) < c.switches.length := by omega
              have hk0 : (0 : Int) ≤ (k : Int) := by omega
              obtain ⟨b, off, c', hAA, -, hb, hcell⟩ := hch.out.switches.rows (by omega)
              cases hAA
              obtain ⟨u, hu, hck⟩ := hcell k hlt
              have hx : c.switches[k]? = some (c.switches.getD k []) := by simp [hlt]
              have hmm := take_succ_flat c.switches id hx
              have hin := fun y (hy : y ∈ c.switches.getD k []) => hIn.out y (by unfold entries0; simp only [List.mem_append]; exact .inl (.inr (List.mem_flatMap.2 ⟨_, List.mem_of_getElem? hx, hy⟩)))
              clear hcell hx
              generalize c.switches.getD k [] = x at *
              have hckh := Lib.hid hck
              have hmmh := Lib.hid hmm
              have hinh := Lib.hid hin
              have hxl := hu.le
              obtain ⟨Au, cu, rfl, -, -⟩ := hu.open_
              clear hck hmm hin
              go_wp2
              obtain ⟨wA, rfl⟩ : ∃ wA : World, wA = wr := ⟨_, rfl⟩
              have hgt : w.heap.size + 1 < wA.heap.size := hlg
              clear q
              go_loopw [9] (fun i wi => ∃ (j : Nat) (bs : List Bool), j ≤ x.length ∧ i = .int .i64 j ∧ Aside (MarkI c.instrs.length bs ([0] ++ c.procs.map (·.entry) ++ c.thunks.flatMap thunkPlaces ++ (c.switches.take k).flatMap id ++ x.take j)) ∧ ArrB wi (w.heap.size + 1) bs ∧ wA.grownBy wi (some (w.heap.size + 1))) (fun i _ => x.length - (intOf i).toNat)
              case atStart => exact ⟨0, bs, by omega, rfl, hmh.out.congr (by simp), hA, grown_refl _ _⟩
              case round =>
                obtain ⟨j, bs, hj, rfl, hm, hA, hgj⟩ := hrel
                have hm2 := Lib.hid hm
                clear hm
                have hbl := hm2.out.len
                have hlg := hA.lt
                have hxj := (hgj.block w.heap.size l0 (fun e => by injection e with e; omega)).trans hx1
                have q := box7 hxj
                have lj := (Array.getElem?_eq_some_iff.1 hxj).1
                have hsj := hs1.grown hgj hHg
                have q2 := hckh.out wr hsj
                have lb := hsj.lt' hb
                by_cases hj3 : j < x.length
                · have hj3' : (j : Int) < x.length := by omega
                  obtain ⟨bu, ou, cu2, eu, -, hbu, hucell, -⟩ := hu.ints (by omega)
                  cases eu
                  have hy : x[j]? = some (x.getD j 0) := by simp [hj3]
                  have q3 := hucell wr hsj j hj3
                  have lu := hsj.lt' hbu
                  have e1 := take_succ_getD hy
                  obtain ⟨hi0, hi1⟩ := hinh.out _ (List.mem_of_getElem? hy)
                  clear hucell hy
                  generalize x.getD j 0 = y at *
                  have hac := hA.cell (j := y.toNat) (by omega)
                  have haf := hA.free y.toNat
                  have hset := Lib.hid ((hm2.out.set hi0 hi1).congr (by rw [e1, ← List.append_assoc] : _ = [0] ++ c.procs.map (·.entry) ++ c.thunks.flatMap thunkPlaces ++ (c.switches.take k).flatMap id ++ x.take (j + 1)))
                  clear e1
                  go_wp2
                  go_roundw
                  case rel => exact ⟨j + 1, bs.set y.toNat true, by omega, by go_num, hset.out, hA.set y.toNat true, grown_set hgj⟩
                  case measure => simp [intOf]; omega
                · have hltn2 : ¬ (j : Int) < x.length := by omega
                  have hfin := Lib.hid (hm2.out.congr (by rw [List.take_of_length_le (l := x) (i := j) (by omega), hmmh.out, ← List.append_assoc]; rfl : _ = [0] ++ c.procs.map (·.entry) ++ c.thunks.flatMap thunkPlaces ++ (c.switches.take (k + 1)).flatMap id))
                  go_wp2
                  go_roundw
                  case rel => exact ⟨k + 1, bs, by omega, by go_num, hfin.out, hA, hg.trans hgj⟩
                  case measure => simp [intOf]; omega
            · have hltn : ¬ (k : Int) < c.switches.length := by omega
              have hmk := Lib.hid (hmh.out.congr (by rw [List.take_of_length_le (by omega)]; simp : _ = [0] ++ c.procs.map (·.entry) ++ c.thunks.flatMap thunkPlaces ++ c.switches.flatMap id ++ ((c.instrs.take 0).filter fun x => x.op == 20).map (·.a)))
              go_wp2
              clear hlt hmh hltn q
              have hBw := hB0.grown hg (by omega) fun j hj => by injection hj with hj; omega
              clear hB0 hg hx0 hs0 hA0 hbl hlg l0 hg1
              have hA0 := hA
              have hs0 := hs1
              have hx0 := hx1
              have hB0 := hBw
              clear hA hs1 hx1 hBw
              obtain ⟨w0, rfl⟩ : ∃ w0 : World, w0 = wr := ⟨_, rfl⟩
              go_loopw [10] (fun i wr => ∃ (k : Nat) (bs : List Bool), k ≤ c.instrs.length ∧ i = .int .i64 k ∧ Aside (MarkI c.instrs.length bs ([0] ++ c.procs.map (·.entry) ++ c.thunks.flatMap thunkPlaces ++ c.switches.flatMap id ++ ((c.instrs.take k).filter fun x => x.op == 20).map (·.a))) ∧ ArrB wr (w.heap.size + 1) bs ∧ w0.grownBy wr (some (w.heap.size + 1))) (fun i _ => c.instrs.length - (intOf i).toNat)
              case atStart => exact ⟨0, bs, Nat.zero_le _, rfl, hmk.out, hA0, grown_refl _ _⟩
              case round =>
                obtain ⟨k, bs, hk, rfl, hm, hA, hg⟩ := hrel
                have hmh := Lib.hid hm
                clear hm
                have hg1 : w.heap.size + 1 < w0.heap.size := hA0.lt
                have hs1 := hs0.grown hg hHg
                have hx1 := (hg.block w.heap.size (by omega) (fun e => by injection e with e; omega)).trans hx0
                have q := box7 hx1
                have l0 : w.heap.size < wr.heap.size := (Array.getElem?_eq_some_iff.1 hx1).1
                have hlg := hA.lt
                have hbl := hmh.out.len
                by_cases hlt : k < c.instrs.length
                · have hlt' : (k : Int) < c.instrs.length := by omega
                  have hk0 : (0 : Int) ≤ (k : Int) := by omega
                  obtain ⟨b, off, c', hAA, -, hb, hcell, -⟩ := hch.out.instrs.instrs (by omega)
                  cases hAA
                  have hx : c.instrs[k]? = some (c.instrs.getD k default) := by simp [hlt]
                  obtain ⟨q2, q3, -, -⟩ := hcell wr hs1 k hlt
                  have hmm := take_succ_filt c.instrs (fun x => x.op == 20) (·.a) hx
                  have hin := fun (h : (c.instrs.getD k default).op = 20) => hIn.out (c.instrs.getD k default).a (by unfold entries0; simp only [List.mem_append]; exact .inr (List.mem_map.2 ⟨_, List.mem_filter.2 ⟨List.mem_of_getElem? hx, by simpa using h⟩, rfl⟩))
                  have lb := hs1.lt' hb
                  clear hcell hx
                  generalize c.instrs.getD k default = x at *
                  obtain ⟨xo, xa, xb, xc⟩ := x
                  simp only at q2 q3 hmm hin
                  by_cases h20 : xo = 20
                  · obtain ⟨hi0, hi1⟩ := hin h20
                    have e20 : (xo == 20) = true := by simpa using h20
                    have hac := hA.cell (j := xa.toNat) (by omega)
                    have haf := hA.free xa.toNat
                    have hset := Lib.hid ((hmh.out.set hi0 hi1).congr (by rw [hmm, if_pos e20, List.append_assoc] : _ = [0] ++ c.procs.map (·.entry) ++ c.thunks.flatMap thunkPlaces ++ c.switches.flatMap id ++ ((c.instrs.take (k + 1)).filter fun x => x.op == 20).map (·.a)))
                    clear hmm hin h20
                    go_wp2
                    go_roundw
                    case rel => exact ⟨k + 1, bs.set xa.toNat true, by omega, by go_num, hset.out, hA.set xa.toNat true, grown_set hg⟩
                    case measure => simp [intOf]; omega
                  · have e20 : (xo == 20) = false := by simpa using h20
                    have hset := Lib.hid (hmh.out.congr (by rw [hmm, e20]; simp : _ = [0] ++ c.procs.map (·.entry) ++ c.thunks.flatMap thunkPlaces ++ c.switches.flatMap id ++ ((c.instrs.take (k + 1)).filter fun x => x.op == 20).map (·.a)))
                    clear hmm hin h20
                    go_wp2
                    go_roundw
                    case rel => exact ⟨k + 1, bs, by omega, by go_num, hset.out, hA, hg⟩
                    case measure => simp [intOf]; omega
                · have hltn : ¬ (k : Int) < c.instrs.length := by omega
                  have hE := Lib.hid (hMk.out bs (hmh.out.congr (by rw [List.take_of_length_le (by omega)]; rfl)))
                  have hBw := hB0.grown hg (by omega) fun j hj => by injection hj with hj; omega
                  have hR := bools_pre (K := full wr) (n := c.instrs.length) (cap := c.instrs.length) hA (by omega) (Nat.le_refl _) (by unfold maxN; omega)
                  rw [List.take_of_length_le (by omega)] at hR
                  go_wp2_with (go_at_call 103; refine (r14_marks (full wr) _ bs _ (full.sees _) hR (by omega)).mono ?_; rintro e w6 ⟨⟨v6, rfl, ho⟩, hB6⟩; rw [hE.out] at ho; have hoh := Lib.hid ho; clear ho)
                  go_ret
                  exact ⟨⟨_, rfl, hoh.out.lower hBw.size⟩, bstep hBw hB6⟩
end Go.Proofs.YtififjlgjmgikaaGreat
namespace Go.Proofs.YtififjlgjmgikaaGreat
set_option linter.all false
open Go.RowKit

set_option maxHeartbeats 2000000 in
set_option maxRecDepth 100000 in
theorem r14_Reached (H : PH) (v : Value) (c : CodeD) (w : World) (hw : Sees w H) (hc : CodeV H v c) (hf : fineB c = true) :
    Calls Tryz.prog 95 #[v] w fun e w' => RowB w.heap.size c.instrs.length w' (fun j => ReachC c j) e ∧ Below w.heap.size w w' := by
  have hfb := fine_bounds hf
  have n0 := hfb.i1
  have hc0 := hc
  obtain ⟨s0, s1, s2, s3, s4, s5, s6, rfl, hc⟩ := hc
  obtain ⟨A0, c0, rfl, k0, -⟩ := hc.instrs.open_
  have hbx := ga_new w (.cells #[.slice A0 c.instrs.length c0, s1, s2, s3, s4, s5, s6] 30)
  have hB0 : Below w.heap.size w (w.alloc (.cells #[.slice A0 c.instrs.length c0, s1, s2, s3, s4, s5, s6] 30)) := (Below.refl _ _).alloc (Nat.le_refl _) _
  have hz : w.heap.size < (w.alloc (.cells #[.slice A0 c.instrs.length c0, s1, s2, s3, s4, s5, s6] 30)).heap.size := by simp
  have hE := Lib.hid (fun (w1 : World) (hs : Sees w1 H) => r14_Entries H _ c w1 hs hc0 hf)
  have hN := Lib.hid (fun (w1 : World) (hs : Sees w1 H) (p : Nat) (hp : p < c.instrs.length) => r14_Next H _ c w1 hs hc0 hf p hp)
  have hfh := Lib.hid hf; clear hf
  have hmk := mk_bools c.instrs.length (by omega)
  go_enter Tryz.func95, Tryz.ntmps95
  go_upto_region 1 with fail
  generalize w.alloc (.cells #[.slice A0 c.instrs.length c0, s1, s2, s3, s4, s5, s6] 30) = w1 at *
  have q := box7 hbx
  have l1 := (Array.getElem?_eq_some_iff.1 hbx).1
  go_wp2_with (go_at_call 94; have hA := ArrB.new w1 c.instrs.length; refine (hE.out _ (hw.below (hB0.alloc hB0.size _))).mono ?_; rintro e w2 ⟨⟨v', rfl, hown⟩, hB2⟩; rw [World.size_alloc] at hown)
  have hBw := bstep hB0 ((Below.refl _ _).alloc (Nat.le_refl _) _ |>.trans (hB2.mono (by simp)))
  have hA2 := hA.of_block (hB2.block _ (by simp))
  have hbx2 : w2.heap[w.heap.size]? = some (.cells #[.slice A0 c.instrs.length c0, s1, s2, s3, s4, s5, s6] 30 (0, 0)) := (hB2.block _ (by simp; omega)).trans (ga_old hbx)
  clear q hbx hA
  have hE0 := entries_in hfh.out
  have hN0 := fun (j : Nat) (hj : j < c.instrs.length) => next_in hfh.out hj
  have hE0h := Lib.hid hE0
  have hN0h := Lib.hid hN0
  clear hmk
  go_loopg [4] (3 * c.instrs.length + (entriesL c).length) (fun gk o wr => ∃ todo bs, OwnI wr (w1.heap.size + 1) o todo ∧ ArrB wr w1.heap.size bs ∧ Aside (Search (· ∈ entriesL c) (fun a => nextL c a.toNat) c.instrs.length bs todo ∧ 3 * unmarked bs + todo.length ≤ gk ∧ gk ≤ 3 * c.instrs.length + (entriesL c).length) ∧ Below w1.heap.size w2 wr)
  case atStart =>
    refine ⟨entriesL c, _, hown, hA2, ⟨Search.init (N := fun a => nextL c a.toNat) hE0, ?_, by omega⟩, Below.refl _ _⟩
    simp [unmarked]
  clear hown hA2 hE0 hN0
  have hG := entries_len hfh.out
  case round =>
    obtain ⟨todo, bs, hown, hA, hS, hB⟩ := hrel
    have hsz := hB.size
    have hz2 := hB2.size
    simp only [World.size_alloc] at hz2
    have l0 : w.heap.size < wr.heap.size := by omega
    have hbr := (hB.block w.heap.size hz).trans hbx2
    by_cases hlt : 0 < todo.length
    · obtain ⟨g, cap, rfl, hcap, hg, hgl, hcell⟩ := hown.form hlt
      have hd := dropLast_snoc hlt
      obtain ⟨m, hm⟩ : ∃ m, todo.length = m + 1 := ⟨todo.length - 1, by omega⟩
      have hcl := hcell m (by omega)
      rw [hm, Nat.add_sub_cancel] at hd
      have hcut := hown.cut (k := m) (by omega)
      obtain ⟨hS1, hS2, hS3⟩ := hS.out
      rw [hd] at hS1
      have hx := hS1.in_ _ (List.mem_append_right _ (List.mem_singleton_self _))
      obtain ⟨p, hp⟩ : ∃ p : Nat, todo.getD m 0 = (p : Int) := ⟨(todo.getD m 0).toNat, by omega⟩
      rw [hp] at hcl hx hS1
      have hpn : p < c.instrs.length := by omega
      have hm6 : m ≤ 5000000 := by omega
      have hmc : m ≤ cap := by omega
      have hBg : Below w.heap.size w wr := hBw.trans (hB.mono (by omega))
      have q := box7 hbr
      have hg1 : w1.heap.size < g := by omega
      have hbl := hS1.len
      have hac := hA.cell (j := p) (by omega)
      have haf := hA.free p
      have hal := hA.lt
      have hmlen : (todo.take m).length = m := by simp; omega
      rw [hm] at hown ⊢
      have hSh := Lib.hid hS1
      have hS2h := Lib.hid hS2
      have hmh := Lib.hid hm
      have hmlh := Lib.hid hmlen
      clear hcell hd hS hS1 hS2 hm hp hlt hmlen
      cases hb : bs.getD p false
      · have hbh := Lib.hid hb
        rw [hb] at hac
        clear hb
        have hBs := setCell_below (g := w1.heap.size) (j := p) (u := .bool true) hBg (by omega)
        have hAs := hA.set p true
        have hos : OwnI (wr.setCell ⟨w1.heap.size, p, none⟩ (.bool true)) (w1.heap.size + 1) (.slice (some ⟨g, 0, none⟩) m cap) (todo.take m) := hcut.of_block fun k hk => setCell_other (by cases hk; show g ≠ _; omega)
        have hBB := setCell_below (g := w1.heap.size) (j := p) (u := .bool true) hB (Nat.le_refl _)
        have hNp := hN.out _ (hw.below hBs) p hpn
        have hgo := Lib.hid (hSh.out.go (hN0h.out p hpn))
        have hun := unmarked_set (bs := bs) (j := p) (by omega) hbh.out
        have hnl := next_len c p
        go_wp2_with (first
          | (go_at_call 64; refine hNp.mono ?_; rintro e w3 ⟨⟨v3, rfl, hown3⟩, hB3⟩; clear q hac haf hcl; have hos3 := hos.below hB3; have hAs3 := hAs.of_block (hB3.block _ hAs.lt); have hB4 := hBB.trans (hB3.mono (by rw [show (wr.setCell ⟨w1.heap.size, p, none⟩ (.bool true)).heap.size = wr.heap.size by simp [World.setCell]]; omega)); have hsz4 := hB4.size; dsimp only; rcases hown3.cases_ with ⟨rfl, hnil⟩ | ⟨ad3, cap3, rfl⟩)
          | (at_builtin; refine wpL_appI_nil rfl _ _ rfl (w1.heap.size + 1) _ _ rfl hos3 rfl ?_)
          | (at_builtin; refine wpL_appI rfl _ _ rfl (w1.heap.size + 1) _ (todo.take m) (nextL c p) rfl hos3 ad3 _ cap3 rfl rfl hown3.news.2 (by rw [hmlh.out]; omega) (by omega) ?_; intro v4 w4 hown4 hg4 _))
        · go_roundg (gk - 1)
          case measure => have := hS2h.out; have := hmh.out; omega
          case rel =>
            have e := hgo.out
            simp only [Int.toNat_natCast, hnil, List.append_nil] at e
            exact ⟨todo.take m, bs.set p true, hos3, hAs3, ⟨e, by rw [hmlh.out]; have := hS2h.out; have := hmh.out; omega, by omega⟩, hB4⟩
        · go_roundg (gk - 1)
          case measure => have := hS2h.out; have := hmh.out; omega
          case rel =>
            have e := hgo.out
            simp only [Int.toNat_natCast] at e
            refine ⟨todo.take m ++ nextL c p, bs.set p true, hown4, hAs3.of_block (hg4.block _ hAs3.lt (fun hk => ?_)), ⟨e, by rw [List.length_append, hmlh.out]; have := hS2h.out; have := hmh.out; omega, by omega⟩, hB4.grown hg4 (by omega) (fun k hk => by have := (hos3.lt hk).1; omega)⟩
            have := (hos3.lt hk.symm).1
            omega
      · have hbh := Lib.hid hb
        rw [hb] at hac
        clear hb
        go_wp2
        go_roundg (gk - 1)
        case measure => have := hS2h.out; have := hmh.out; omega
        case rel => exact ⟨todo.take m, bs, hcut, hA, ⟨hSh.out.skip (by simpa using hbh.out), by rw [hmlh.out]; have := hS2h.out; have := hmh.out; omega, by omega⟩, hB⟩
    · obtain ⟨A, cap, rfl, -⟩ := hown.len_form
      have hnil : todo = [] := List.eq_nil_of_length_eq_zero (by omega)
      subst hnil
      have hlt' : ¬ (0 : Int) < ((([] : List Int).length : Nat) : Int) := by simp
      go_wp2
      go_ret
      obtain ⟨hS1, _, _⟩ := hS.out
      refine ⟨⟨_, bs, rfl, by omega, hA, hS1.len, fun j hj => ?_⟩, hBw.trans (hB.mono (by omega))⟩
      exact hS1.done hE0h.out (fun j hj y hy => hN0h.out j hj y (by simpa using hy)) j hj
end Go.Proofs.YtififjlgjmgikaaGreat
