/- slices.Reverse in my words; graph.back at ints. -/
import Derived.Test.YtififjlgjmgikaaWalk
namespace Go.Proofs.Ytififjlgjmgikaa
set_option linter.all false
open Go.RowKit

theorem reverse_own {w : World} {base : Nat} {v : Value} {xs : List Int} (h : OwnI w base v xs) (hl : xs.length ≤ 9223372036854775807) :
    Calls Try.prog 74 #[v] w fun e w' => e = .returned (.tuple #[]) ∧ OwnI w' base v xs.reverse ∧ w.grownBy w' v.ownBlock := by
  by_cases hv : v = .slice none 0 0
  · subst hv
    have hx : xs = [] := by
      rcases h.2 with ⟨_, e⟩ | ⟨g, cap, cur, e, _⟩
      · exact List.eq_nil_of_length_eq_zero e
      · cases e
    subst hx
    refine (Try.slices_Reverse_int_empty none 0 w).mono ?_
    rintro e w' ⟨rfl, rfl⟩
    exact ⟨rfl, h, ⟨rfl, rfl, rfl, Nat.le_refl _, fun _ _ _ => rfl⟩⟩
  · obtain ⟨g, cap, rfl, hg, hlt, hn, hm, _, hH⟩ := Go.Lib.holds_of_ownsRow h hv
    refine (Try.slices_Reverse_int g 0 cap xs w hH hl).mono ?_
    rintro e w' ⟨rfl, n, rfl⟩
    have hs : xs.reverse.length = xs.length := List.length_reverse
    have h1 := Go.Lib.ownsRow_putRow (q := n) (k := xs.length) (ys := xs.reverse) h hs (Nat.le_refl _)
    have h2 : OwnI (Go.Sort.putRow (Value.int .i64) (Go.Sort.ahead w n) g 0 xs.reverse.toArray) base (.slice (some ⟨g, 0, none⟩) xs.length cap) xs.reverse := by
      unfold OwnI ints
      rw [hs]
      have h3 : xs.reverse.take xs.length = xs.reverse := by rw [← hs]; exact List.take_length
      rw [h3] at h1
      exact h1
    exact ⟨rfl, h2, grown_putRow⟩

/-- A path to x that begins with a node of fr; it has no node twice. -/
structure PathTo (n : Nat) (fr : List Int) (nx : Int → List Int) (p : List Int) (x : Int) : Prop where
  first : ∃ y, p[0]? = some y ∧ y ∈ fr
  last : p.getLast? = some x
  step : ∀ i a b, p[i]? = some a → p[i + 1]? = some b → b ∈ nx a
  nodup : p.Nodup
  range : ∀ y ∈ p, 0 ≤ y ∧ y < n
structure BackJ (n : Nat) (nx : Int → List Int) (l : IntMap) (ρ : Int → Nat) (xs : List Int) (x y : Int) : Prop where
  first : xs[0]? = some x
  last : xs.getLast? = some y
  step : ∀ i a b, xs[i]? = some a → xs[i + 1]? = some b → a ∈ nx b
  rank : xs.Pairwise fun a b => ρ b < ρ a
  range : ∀ y ∈ xs, 0 ≤ y ∧ y < n
  has : hasK l y
variable {n : Nat} {fr : List Int} {nx : Int → List Int} {l : IntMap} {ρ : Int → Nat} {N : Nat} {xs : List Int} {x y p : Int}
theorem BackJ.start (h : WalkB n fr nx l ρ N) (hx : hasK l x) : BackJ n nx l ρ [x] x x := by
  obtain ⟨v, hv⟩ := Option.isSome_iff_exists.1 hx
  exact ⟨rfl, rfl, fun i a b _ hb => by simp at hb, by simp, fun y hy => by simp at hy; subst hy; exact (h.vals _ v hv).1, hx⟩
theorem BackJ.rank_le (h : BackJ n nx l ρ xs x y) : ∀ z ∈ xs, ρ y ≤ ρ z := by
  intro z hz
  have hl := h.last
  have hr := h.rank
  clear h
  induction xs with
  | nil => cases hz
  | cons a xs ih =>
    cases xs with
    | nil => simp at hl hz; subst hl; subst hz; exact Nat.le_refl _
    | cons b xs =>
      rw [List.getLast?_cons_cons] at hl
      have hr2 := List.pairwise_cons.1 hr
      rcases List.mem_cons.1 hz with rfl | hz
      · exact Nat.le_of_lt (hr2.1 y (List.mem_of_getLast? hl))
      · exact ih hz hl hr2.2
theorem BackJ.more (h : BackJ n nx l ρ xs x y) (hB : WalkB n fr nx l ρ N) (hp : mget l y = some (.int .i64 p)) (hne : p ≠ y) : BackJ n nx l ρ (xs ++ [p]) x p ∧ ρ p < ρ y := by
  obtain ⟨_, _, p', h3, h4⟩ := hB.vals y _ hp
  injection h3 with _ e
  subst e
  obtain ⟨_, h6, h7, h8⟩ := h4.resolve_left (fun h5 => hne h5.1)
  obtain ⟨v, hv⟩ := Option.isSome_iff_exists.1 h7
  have hxs : 0 < xs.length := (List.getElem?_eq_some_iff.1 h.first).1
  refine ⟨⟨by rw [List.getElem?_append_left hxs]; exact h.first, by simp, fun i a b ha hb => ?_, ?_, fun z hz => ?_, h7⟩, h8⟩
  · by_cases hi : i + 1 < xs.length
    · rw [List.getElem?_append_left hi] at hb
      rw [List.getElem?_append_left (by omega)] at ha
      exact h.step i a b ha hb
    · have hl := (List.getElem?_eq_some_iff.1 hb).1
      simp at hl
      have hi2 : i + 1 = xs.length := by omega
      rw [List.getElem?_append_left (by omega)] at ha
      rw [List.getElem?_append_right (by omega), hi2] at hb
      simp at hb
      subst hb
      have hlast := h.last
      rw [List.getLast?_eq_getElem?, show xs.length - 1 = i by omega, ha] at hlast
      injection hlast with e
      subst e
      exact h6
  · refine List.pairwise_append.2 ⟨h.rank, by simp, fun a ha b hb => ?_⟩
    simp at hb
    subst hb
    exact Nat.lt_of_lt_of_le h8 (h.rank_le a ha)
  · rcases List.mem_append.1 hz with hz | hz
    · exact h.range z hz
    · simp at hz; subst hz; exact (hB.vals _ v hv).1
theorem BackJ.nodup (h : BackJ n nx l ρ xs x y) : xs.Nodup := h.rank.imp fun {a b} hab e => by subst e; omega
theorem BackJ.len_le (h : BackJ n nx l ρ xs x y) : xs.length ≤ n := nodup_range h.nodup h.range
theorem BackJ.finish (h : BackJ n nx l ρ xs x y) (hB : WalkB n fr nx l ρ N) (hp : mget l y = some (.int .i64 y)) : PathTo n fr nx xs.reverse x := by
  obtain ⟨_, _, p', h3, h4⟩ := hB.vals y _ hp
  injection h3 with _ e
  subst e
  have hy := (h4.resolve_right (fun h5 => h5.1 rfl)).2
  have hxs : 0 < xs.length := (List.getElem?_eq_some_iff.1 h.first).1
  refine ⟨⟨y, ?_, hy⟩, ?_, fun i a b ha hb => ?_, List.pairwise_reverse.2 (h.nodup.imp fun {a b} hab e => hab e.symm), fun z hz => h.range z (List.mem_reverse.1 hz)⟩
  · rw [List.getElem?_reverse hxs, ← h.last, List.getLast?_eq_getElem?, Nat.sub_zero]
  · rw [List.getLast?_reverse, List.head?_eq_getElem?]; exact h.first
  · have hl := (List.getElem?_eq_some_iff.1 hb).1
    rw [List.length_reverse] at hl
    rw [List.getElem?_reverse (by omega)] at ha
    rw [List.getElem?_reverse hl] at hb
    refine h.step (xs.length - 1 - (i + 1)) b a hb ?_
    rw [show xs.length - 1 - (i + 1) + 1 = xs.length - 1 - i by omega]
    exact ha
def BackRes (B n : Nat) (fr : List Int) (nx : Int → List Int) (x : Int) (w' : World) (e : Ending) : Prop := ∃ v p, e = .returned v ∧ OwnI w' B v p ∧ PathTo n fr nx p x
set_option maxHeartbeats 2000000 in
set_option maxRecDepth 100000 in
theorem graph_back (b : Nat) (l : IntMap) (ρ : Int → Nat) (N n : Nat) (fr : List Int) (nx : Int → List Int) (x : Int) (w : World) (hM : MapL (fun x : Int => Value.int .i64 x) w b l) (hB : WalkB n fr nx l ρ N) (hx : hasK l x) (hn : n ≤ 20000) :
    Calls Try.prog 53 #[.map (some b), .int .i64 x] w fun e w' => BackRes w.heap.size n fr nx x w' e ∧ Below w.heap.size w w' := by
  have hK : KeyK Try.prog 3 (fun x : Int => Value.int .i64 x) := keyInt Try.underlying3
  have hS := Lib.hid (BackJ.start hB hx)
  have hBh := Lib.hid hB
  have hB0 : Below w.heap.size w (w.alloc (.cells #[.int .i64 x] 3)) := (Below.refl _ _).alloc (Nat.le_refl _) _
  have hbl := hM.lt
  have hM0 := hM.of_block (hB0.block _ hbl)
  have hown : OwnI (w.alloc (.cells #[.int .i64 x] 3)) w.heap.size (.slice (some ⟨w.heap.size, 0, none⟩) 1 1) [x] := OwnI.snoc_lit w x
  have hxr : ρ x < N := by
    obtain ⟨v, hv⟩ := Option.isSome_iff_exists.1 hx
    exact (hB.vals x v hv).2.1
  clear hM hB hx
  go_enter Try.func53, Try.ntmps53
  go_wp2
  refine wp_name fun w1 hw1 => ?_
  rw [← hw1] at hB0 hM0 hown
  clear hw1
  go_loopg [1, 5] N (fun gk xv o wr => ∃ (y : Int) (xs : List Int), xv = .int .i64 y ∧ OwnI wr w.heap.size o xs ∧ MapL (fun x : Int => Value.int .i64 x) wr b l ∧ Aside (BackJ n nx l ρ xs x y ∧ ρ y < gk) ∧ Below w.heap.size w wr)
  case atStart => exact ⟨x, [x], rfl, hown, hM0, ⟨hS.out, hxr⟩, hB0⟩
  clear hS hxr hB0 hM0 hown
  case round =>
    obtain ⟨y, xs, rfl, hown, hM, hJ, hB⟩ := hrel
    obtain ⟨v, hv⟩ := Option.isSome_iff_exists.1 hJ.1.has
    obtain ⟨hyr, _, p, rfl, -⟩ := hBh.out.vals y v hv
    have hlk := hM.lookup Try.underlying80 hK (z := .int .i64 0) (fun _ => by kernel_rfl) y false
    have hvh := Lib.hid hv
    rw [hv] at hlk
    simp only [Bool.false_eq_true, if_false, Option.getD_some] at hlk
    have hlen := hJ.1.len_le
    have hJh := Lib.hid hJ
    clear hv hJ
    by_cases hp : p = y
    · subst hp
      obtain ⟨A, cap, rfl, -⟩ := hown.len_form
      have hR := reverse_own hown (by omega)
      go_wp2_with (go_at_call 74; refine hR.mono ?_; rintro e w5 ⟨rfl, hown5, hg5⟩)
      go_ret
      refine ⟨⟨_, _, rfl, hown5, hJh.out.1.finish hBh.out hvh.out⟩, hB.grown hg5 hB.size fun k hk => (hown.lt hk).1⟩
    · go_wp2_with (at_builtin; go_loud (refine wpL_appI rfl _ _ rfl w.heap.size _ xs [p] rfl (hown.al _) ⟨wr.heap.size, 0, none⟩ 1 1 rfl rfl (one_new (by simp)) ?hlen ?hsz ?_); go_loud (case hlen => first | omega | (simp; omega)); go_loud (case hsz => have := hB.size; first | omega | (simp; omega)); intro v2 w2 hown2 hg2 _)
      have hm := hJh.out.1.more hBh.out hvh.out hp
      go_roundg (ρ y)
      case measure => exact hJh.out.2
      case rel => 
        have hz := hB.size
        have hbr := hM.lt
        refine ⟨p, _, rfl, hown2, ?_, ⟨hm.1, hm.2⟩, ?_⟩
        · refine (hM.of_block (w' := wr.alloc (.cells #[.int .i64 p] 3)) (((Below.refl _ _).alloc (Nat.le_refl _) _ : Below wr.heap.size wr _).block _ (by omega))).of_block (hg2.block _ (by simp; omega) (fun e => ?_))
          have := (hown.lt e.symm).1
          omega
        · exact (hB.alloc hz _).grown hg2 (by simp; omega) (fun k hk => (hown.lt hk).1)
end Go.Proofs.Ytififjlgjmgikaa
