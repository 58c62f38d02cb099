/- code.Reached: the places that control can reach. -/
import Derived.Test.YtififjlgjmgikaaGreatNextA
import Derived.Deep.LoopGhost
namespace Go.Proofs.YtififjlgjmgikaaGreat
set_option linter.all false
open Go.RowKit

theorem infoBool : (Tryz.prog.info? 4).map (fun i => (i.zero, i.size, i.bytes)) = some (some (.bool false), 1, 1) := by kernel_rfl
theorem mk_bools (n : Nat) (hn : n ≤ 17592186044416) (w : World) : (Instr.makeSlice 63 (.int .i64 n) (.int .i64 n)).run Tryz.prog w =
    .ok (.slice (some ⟨w.heap.size, 0, none⟩) n n) (w.alloc (.cells (Array.replicate n (.bool false)) 4)) := by
  obtain ⟨i0, hi, hz0, hz1, hz2⟩ := info_parts infoBool
  have h := run_make (P := Tryz.prog) w 63 4 i0 (.bool false) Tryz.underlying63 hi hz0 .i64 .i64 n n (by omega) (by omega) (by rw [hz2]; omega) (by omega)
  have e : madeCells (Value.bool false).cells (n * 1) = Array.replicate n (.bool false) := by
    apply Array.ext
    · simp [madeCells]
    · intro j h1 h2
      have h3 : j % 1 = 0 := by omega
      simp [madeCells, Value.cells, h3]
  rw [hz1, Int.toNat_natCast, e] at h
  exact h

/-- What can be reached from some numbers by some steps. -/
inductive Reach (E : Int → Prop) (N : Int → Int → Prop) : Int → Prop
  | start {x : Int} : E x → Reach E N x
  | step {x y : Int} : Reach E N x → N x y → Reach E N y
def IsNext (c : CodeD) (x y : Int) : Prop := y ∈ nextL c x.toNat
def IsEntry (c : CodeD) (x : Int) : Prop := x ∈ entriesL c
def ReachC (c : CodeD) : Int → Prop := Reach (IsEntry c) (IsNext c)

/-- How many are not marked. -/
def unmarked (bs : List Bool) : Nat := (bs.filter fun b => !b).length
theorem unmarked_set {bs : List Bool} {j : Nat} (hj : j < bs.length) (h : bs.getD j false = false) : unmarked (bs.set j true) + 1 = unmarked bs := by
  induction bs generalizing j with
  | nil => simp at hj
  | cons b bs ih =>
    cases j with
    | zero => simp at h; subst h; simp [unmarked]
    | succ j =>
      simp at hj h
      have := ih hj (by simpa using h)
      unfold unmarked at this ⊢
      cases b <;> simp at * <;> omega

/-- The state of a search over a stack: what is marked, and what is still to be done. -/
structure Search (E : Int → Prop) (N : Int → List Int) (n : Nat) (bs : List Bool) (todo : List Int) : Prop where
  len : bs.length = n
  in_ : ∀ x ∈ todo, 0 ≤ x ∧ x < n
  todo_ : ∀ x ∈ todo, Reach E (fun a b => b ∈ N a) x
  marked : ∀ j, j < n → bs.getD j false = true → Reach E (fun a b => b ∈ N a) j
  start : ∀ x, E x → x ∈ todo ∨ bs.getD x.toNat false = true
  step : ∀ j, j < n → bs.getD j false = true → ∀ y ∈ N j, y ∈ todo ∨ bs.getD y.toNat false = true
theorem Search.skip {E : Int → Prop} {N : Int → List Int} {n : Nat} {bs : List Bool} {todo : List Int} {x : Int} (h : Search E N n bs (todo ++ [x])) (hb : bs.getD x.toNat false = true) : Search E N n bs todo := by
  refine ⟨h.len, fun y hy => h.in_ y (by simp [hy]), fun y hy => h.todo_ y (by simp [hy]), h.marked, fun y hy => ?_, fun j hj hm y hy => ?_⟩
  · rcases h.start y hy with h1 | h1
    · simp at h1
      rcases h1 with h1 | rfl
      · exact .inl h1
      · exact .inr hb
    · exact .inr h1
  · rcases h.step j hj hm y hy with h1 | h1
    · simp at h1
      rcases h1 with h1 | rfl
      · exact .inl h1
      · exact .inr hb
    · exact .inr h1
theorem getD_set_bool {bs : List Bool} {i j : Nat} (hi : i < bs.length) : (bs.set i true).getD j false = if j = i then true else bs.getD j false := by
  simp only [List.getD_eq_getElem?_getD, List.getElem?_set]
  by_cases h : i = j
  · subst h; simp [hi]
  · simp [h, Ne.symm h]
theorem Search.go {E : Int → Prop} {N : Int → List Int} {n : Nat} {bs : List Bool} {todo : List Int} {x : Int} (h : Search E N n bs (todo ++ [x])) (hN : ∀ y ∈ N x, 0 ≤ y ∧ y < n) :
    Search E N n (bs.set x.toNat true) (todo ++ N x) := by
  have hx := h.in_ x (by simp)
  have hlt : x.toNat < bs.length := by have := h.len; omega
  have hxx : ((x.toNat : Nat) : Int) = x := by omega
  have hr := h.todo_ x (by simp)
  refine ⟨by simp [h.len], fun y hy => ?_, fun y hy => ?_, fun j hj hm => ?_, fun y hy => ?_, fun j hj hm y hy => ?_⟩
  · simp at hy
    rcases hy with hy | hy
    · exact h.in_ y (by simp [hy])
    · exact hN y hy
  · simp at hy
    rcases hy with hy | hy
    · exact h.todo_ y (by simp [hy])
    · exact .step hr hy
  · rw [getD_set_bool hlt] at hm
    split at hm
    · rename_i e; subst e; rw [hxx]; exact hr
    · exact h.marked j hj hm
  · rw [getD_set_bool hlt]
    rcases h.start y hy with h1 | h1
    · simp at h1
      rcases h1 with h1 | rfl
      · exact .inl (by simp [h1])
      · exact .inr (by simp)
    · exact .inr (by split <;> first | rfl | exact h1)
  · rw [getD_set_bool hlt] at hm
    rw [getD_set_bool hlt]
    split at hm
    · rename_i e; subst e; rw [hxx] at hy; exact .inl (by simp [hy])
    · rcases h.step j hj hm y hy with h1 | h1
      · simp at h1
        rcases h1 with h1 | rfl
        · exact .inl (by simp [h1])
        · exact .inr (by simp)
      · exact .inr (by split <;> first | rfl | exact h1)
theorem Search.done {E : Int → Prop} {N : Int → List Int} {n : Nat} {bs : List Bool} (h : Search E N n bs []) (hE : ∀ x, E x → 0 ≤ x ∧ x < n) (hN : ∀ j : Nat, j < n → ∀ y ∈ N j, 0 ≤ y ∧ y < n) (j : Nat) (hj : j < n) :
    bs.getD j false = true ↔ Reach E (fun a b => b ∈ N a) j := by
  refine ⟨h.marked j hj, fun hr => ?_⟩
  have key : ∀ x, Reach E (fun a b => b ∈ N a) x → 0 ≤ x ∧ x < n ∧ bs.getD x.toNat false = true := by
    intro x hx
    induction hx with
    | start hE' =>
      rename_i x
      have := hE x hE'
      exact ⟨this.1, this.2, (h.start x hE').resolve_left (by simp)⟩
    | step _ hy ih =>
      rename_i x y _
      obtain ⟨h0, h1, h2⟩ := ih
      have hx : ((x.toNat : Nat) : Int) = x := by omega
      have hy' : y ∈ N (x.toNat : Nat) := by rw [hx]; exact hy
      have := hN x.toNat (by omega) y hy'
      exact ⟨this.1, this.2, (h.step x.toNat (by omega) h2 y hy').resolve_left (by simp)⟩
  have := (key j hr).2.2
  simpa using this
theorem Search.init {E : List Int} {N : Int → List Int} {n : Nat} (hE : ∀ x ∈ E, 0 ≤ x ∧ x < n) : Search (· ∈ E) N n (List.replicate n false) E :=
  ⟨by simp, hE, fun x hx => .start hx, fun j hj hm => by simp [hj] at hm, fun x hx => .inl hx, fun j hj hm => by simp [hj] at hm⟩

/-- A row of bools and an error. -/
def BsErr (base n : Nat) (w' : World) (q : List Bool → Prop) (e : Ending) : Prop := ∃ g bs, e = .returned (.tuple #[.slice (some ⟨g, 0, none⟩) n n, .int .i64 0]) ∧ base ≤ g ∧ ArrB w' g bs ∧ bs.length = n ∧ q bs
theorem OwnI.news {w : World} {base : Nat} {ad : Addr} {n cap : Nat} {xs : List Int} (h : OwnI w base (.slice (some ad) n cap) xs) : n = xs.length ∧ ∀ j y, xs[j]? = some y → w.cell? (ad.add j) = some (.int .i64 y) := by
  rcases h.2 with ⟨e, h0⟩ | ⟨g, cap', cur, e, h2, h3, h4, h5, h6, h7⟩
  · cases e
  · cases e
    refine ⟨rfl, fun j y hj => ?_⟩
    rw [Addr.add_lit, Nat.zero_add, cell_blk h3]
    have hjl := (List.getElem?_eq_some_iff.1 hj).1
    have e : (cur.toList.take (xs.length * 1))[j]? = (ints xs)[j]? := by rw [h7]
    rw [List.getElem?_take, if_pos (by omega)] at e
    rw [← Array.getElem?_toList, e]
    simp [ints, hj]
theorem OwnI.cases_ {w : World} {base : Nat} {v : Value} {xs : List Int} (h : OwnI w base v xs) : (v = .slice none 0 0 ∧ xs = []) ∨ ∃ ad cap, v = .slice (some ad) xs.length cap := by
  rcases h.2 with ⟨e, h0⟩ | ⟨g, cap, cur, rfl, _⟩
  · exact .inl ⟨e, List.eq_nil_of_length_eq_zero h0⟩
  · exact .inr ⟨_, _, rfl⟩
theorem dropLast_snoc {xs : List Int} (h : 0 < xs.length) : xs = xs.take (xs.length - 1) ++ [xs.getD (xs.length - 1) 0] := by
  have h1 : xs.take (xs.length - 1 + 1) = xs.take (xs.length - 1) ++ [xs.getD (xs.length - 1) 0] := by
    rw [List.take_add_one]
    congr 1
    rw [List.getElem?_eq_getElem (by omega), List.getD_eq_getElem?_getD, List.getElem?_eq_getElem (by omega)]
    rfl
  rw [show xs.length - 1 + 1 = xs.length by omega, List.take_length] at h1
  exact h1

theorem entries_len {c : CodeD} (h : fineB c = true) : (entriesL c).length ≤ 4100000 := by
  have hb := fine_bounds h
  have n0 := hb.i1
  have n1 := hb.p
  have n2 := hb.t
  have n3 := hb.s
  have hfl1 := flat_le c.thunks thunkPlaces 3 (fun x _ => List.length_filter_le _ _)
  have hfl := flat_le c.switches id 2000 (fun x hx => (hb.sw x hx).2)
  have hff := List.length_filter_le (fun x : InstrD => x.op == 20) c.instrs
  refine Nat.le_trans (Go.Lib.compact_length_le _) ?_
  rw [isort_length]
  simp only [entries0, List.length_append, List.length_map, List.length_cons, List.length_nil]
  omega

set_option maxHeartbeats 2000000 in
set_option maxRecDepth 100000 in
theorem code_Reached (H : PH) (v : Value) (c : CodeD) (w : World) (hw : Sees w H) (hc : CodeV H v c) (hf : fineB c = true) :
    Calls Tryz.prog 91 #[v] w fun e w' => BsErr w.heap.size c.instrs.length w' (fun bs => ∀ j : Nat, j < c.instrs.length → (bs.getD j false = true ↔ ReachC c j)) e ∧ Below w.heap.size w w' := by
  have hfb := fine_bounds hf
  have n0 := hfb.i1
  have hc0 := hc
  obtain ⟨s0, s1, s2, s3, s4, s5, s6, rfl, hc⟩ := hc
  obtain ⟨A0, c0, rfl, k0, -⟩ := hc.instrs.open_
  have hbx := ga_new w (.cells #[.slice A0 c.instrs.length c0, s1, s2, s3, s4, s5, s6] 30)
  have hB0 : Below w.heap.size w (w.alloc (.cells #[.slice A0 c.instrs.length c0, s1, s2, s3, s4, s5, s6] 30)) := (Below.refl _ _).alloc (Nat.le_refl _) _
  have hz : w.heap.size < (w.alloc (.cells #[.slice A0 c.instrs.length c0, s1, s2, s3, s4, s5, s6] 30)).heap.size := by simp
  have hC := Lib.hid (fun (w1 : World) (hs : Sees w1 H) => code_fine H _ c w1 hs hc0)
  have hE := Lib.hid (fun (w1 : World) (hs : Sees w1 H) => code_entries H _ c w1 hs hc0 hf)
  have hN := Lib.hid (fun (w1 : World) (hs : Sees w1 H) (p : Nat) (hp : p < c.instrs.length) => code_next H _ c w1 hs hc0 p hp)
  have hfh := Lib.hid hf; clear hf
  have hmk := mk_bools c.instrs.length (by omega)
  go_enter Tryz.func91, Tryz.ntmps91
  go_wp2_with (first
    | (go_at_call 123; refine (hC.out _ (hw.below hB0)).mono ?_; rintro e w1 ⟨rfl, hB1⟩; rw [hfh.out]; replace hbx := blk_keep hB1 hbx; replace hB0 := bstep hB0 hB1; replace hz : w.heap.size < w1.heap.size := Nat.lt_of_lt_of_le hz hB1.size; have q := box7 hbx; clear hB1)
    | (go_at_call 124; have hA := ArrB.new w1 c.instrs.length; refine (hE.out _ (hw.below (hB0.alloc hB0.size _))).mono ?_; rintro e w2 ⟨⟨v', rfl, hown⟩, hB2⟩; rw [World.size_alloc] at hown))
  have hBw := bstep hB0 ((Below.refl _ _).alloc (Nat.le_refl _) _ |>.trans (hB2.mono (by simp)))
  have hA2 := hA.of_block (hB2.block _ (by simp))
  have hbx2 : w2.heap[w.heap.size]? = some (.cells #[.slice A0 c.instrs.length c0, s1, s2, s3, s4, s5, s6] 30 (0, 0)) := (hB2.block _ (by simp; omega)).trans (ga_old hbx)
  clear q hbx hA
  have hE0 := entries_in hfh.out
  have hN0 := fun (j : Nat) (hj : j < c.instrs.length) => next_in hfh.out hj
  have hE0h := Lib.hid hE0
  have hN0h := Lib.hid hN0
  clear hmk
  go_loopg [5] (3 * c.instrs.length + (entriesL c).length) (fun gk o wr => ∃ todo bs, OwnI wr (w1.heap.size + 1) o todo ∧ ArrB wr w1.heap.size bs ∧ Aside (Search (· ∈ entriesL c) (fun a => nextL c a.toNat) c.instrs.length bs todo ∧ 3 * unmarked bs + todo.length ≤ gk ∧ gk ≤ 3 * c.instrs.length + (entriesL c).length) ∧ Below w1.heap.size w2 wr)
  case atStart =>
    refine ⟨entriesL c, _, hown, hA2, ⟨Search.init (N := fun a => nextL c a.toNat) hE0, ?_, by omega⟩, Below.refl _ _⟩
    simp [unmarked]
  clear hown hA2 hE0 hN0
  have hG := entries_len hfh.out
  case round =>
    obtain ⟨todo, bs, hown, hA, hS, hB⟩ := hrel
    have hsz := hB.size
    have hz2 := hB2.size
    simp only [World.size_alloc] at hz2
    have l0 : w.heap.size < wr.heap.size := by omega
    have hbr := (hB.block w.heap.size hz).trans hbx2
    by_cases hlt : 0 < todo.length
    · obtain ⟨g, cap, rfl, hcap, hg, hgl, hcell⟩ := hown.form hlt
      have hd := dropLast_snoc hlt
      obtain ⟨m, hm⟩ : ∃ m, todo.length = m + 1 := ⟨todo.length - 1, by omega⟩
      have hcl := hcell m (by omega)
      rw [hm, Nat.add_sub_cancel] at hd
      have hcut := hown.cut (k := m) (by omega)
      obtain ⟨hS1, hS2, hS3⟩ := hS.out
      rw [hd] at hS1
      have hx := hS1.in_ _ (List.mem_append_right _ (List.mem_singleton_self _))
      obtain ⟨p, hp⟩ : ∃ p : Nat, todo.getD m 0 = (p : Int) := ⟨(todo.getD m 0).toNat, by omega⟩
      rw [hp] at hcl hx hS1
      have hpn : p < c.instrs.length := by omega
      have hm6 : m ≤ 5000000 := by omega
      have hmc : m ≤ cap := by omega
      have hBg : Below w.heap.size w wr := hBw.trans (hB.mono (by omega))
      have q := box7 hbr
      have hg1 : w1.heap.size < g := by omega
      have hbl := hS1.len
      have hac := hA.cell (j := p) (by omega)
      have haf := hA.free p
      have hal := hA.lt
      have hmlen : (todo.take m).length = m := by simp; omega
      rw [hm] at hown ⊢
      have hSh := Lib.hid hS1
      have hS2h := Lib.hid hS2
      have hmh := Lib.hid hm
      have hmlh := Lib.hid hmlen
      clear hcell hd hS hS1 hS2 hm hp hlt hmlen
      cases hb : bs.getD p false
      · have hbh := Lib.hid hb
        rw [hb] at hac
        clear hb
        have hBs := setCell_below (g := w1.heap.size) (j := p) (u := .bool true) hBg (by omega)
        have hAs := hA.set p true
        have hos : OwnI (wr.setCell ⟨w1.heap.size, p, none⟩ (.bool true)) (w1.heap.size + 1) (.slice (some ⟨g, 0, none⟩) m cap) (todo.take m) := hcut.of_block fun k hk => setCell_other (by cases hk; show g ≠ _; omega)
        have hBB := setCell_below (g := w1.heap.size) (j := p) (u := .bool true) hB (Nat.le_refl _)
        have hNp := hN.out _ (hw.below hBs) p hpn
        have hgo := Lib.hid (hSh.out.go (hN0h.out p hpn))
        have hun := unmarked_set (bs := bs) (j := p) (by omega) hbh.out
        have hnl := next_len c p
        go_wp2_with (first
          | (go_at_call 125; refine hNp.mono ?_; rintro e w3 ⟨⟨v3, rfl, hown3⟩, hB3⟩; clear q hac haf hcl; have hos3 := hos.below hB3; have hAs3 := hAs.of_block (hB3.block _ hAs.lt); have hB4 := hBB.trans (hB3.mono (by rw [show (wr.setCell ⟨w1.heap.size, p, none⟩ (.bool true)).heap.size = wr.heap.size by simp [World.setCell]]; omega)); have hsz4 := hB4.size; dsimp only; rcases hown3.cases_ with ⟨rfl, hnil⟩ | ⟨ad3, cap3, rfl⟩)
          | (at_builtin; refine wpL_appI_nil rfl _ _ rfl (w1.heap.size + 1) _ _ rfl hos3 rfl ?_)
          | (at_builtin; refine wpL_appI rfl _ _ rfl (w1.heap.size + 1) _ (todo.take m) (nextL c p) rfl hos3 ad3 _ cap3 rfl rfl hown3.news.2 (by rw [hmlh.out]; omega) (by omega) ?_; intro v4 w4 hown4 hg4 _))
        · go_roundg (gk - 1)
          case measure => have := hS2h.out; have := hmh.out; omega
          case rel =>
            have e := hgo.out
            simp only [Int.toNat_natCast, hnil, List.append_nil] at e
            exact ⟨todo.take m, bs.set p true, hos3, hAs3, ⟨e, by rw [hmlh.out]; have := hS2h.out; have := hmh.out; omega, by omega⟩, hB4⟩
        · go_roundg (gk - 1)
          case measure => have := hS2h.out; have := hmh.out; omega
          case rel =>
            have e := hgo.out
            simp only [Int.toNat_natCast] at e
            refine ⟨todo.take m ++ nextL c p, bs.set p true, hown4, hAs3.of_block (hg4.block _ hAs3.lt (fun hk => ?_)), ⟨e, by rw [List.length_append, hmlh.out]; have := hS2h.out; have := hmh.out; omega, by omega⟩, hB4.grown hg4 (by omega) (fun k hk => by have := (hos3.lt hk).1; omega)⟩
            have := (hos3.lt hk.symm).1
            omega
      · have hbh := Lib.hid hb
        rw [hb] at hac
        clear hb
        go_wp2
        go_roundg (gk - 1)
        case measure => have := hS2h.out; have := hmh.out; omega
        case rel => exact ⟨todo.take m, bs, hcut, hA, ⟨hSh.out.skip (by simpa using hbh.out), by rw [hmlh.out]; have := hS2h.out; have := hmh.out; omega, by omega⟩, hB⟩
    · obtain ⟨A, cap, rfl, -⟩ := hown.len_form
      have hnil : todo = [] := List.eq_nil_of_length_eq_zero (by omega)
      subst hnil
      have hlt' : ¬ (0 : Int) < ((([] : List Int).length : Nat) : Int) := by simp
      go_wp2
      go_ret2
      obtain ⟨hS1, _, _⟩ := hS.out
      refine ⟨⟨_, bs, rfl, by omega, hA, hS1.len, fun j hj => ?_⟩, hBw.trans (hB.mono (by omega))⟩
      exact hS1.done hE0h.out (fun j hj y hy => hN0h.out j hj y (by simpa using hy)) j hj
end Go.Proofs.YtififjlgjmgikaaGreat
