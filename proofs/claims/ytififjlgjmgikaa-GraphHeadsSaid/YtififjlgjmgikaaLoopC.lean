/- The closures of graph.Loops. -/
import Derived.Test.YtififjlgjmgikaaHeads
import Derived.Test.YtififjlgjmgikaaMapRange
namespace Go.Proofs.Ytififjlgjmgikaa
set_option linter.all false
open Go.RowKit Go.Shelf

def rchB (f : FlowD) (y : Int) : Bool := f.reached.getD y.toNat false
set_option maxHeartbeats 1000000 in
theorem loops_11 (H : PH) (bf : Nat) (f : FlowD) (y : Int) (w : World) (hw : Sees w H) (hF : BoxF H bf f) (hy : 0 ≤ y ∧ y < f.blocks.length) :
    Calls Try.prog 47 #[.int .i64 y, .pointer (some ⟨bf, 0, none⟩)] w fun e w' => e = .returned (.bool (!rchB f y)) ∧ Below w.heap.size w w' := by
  obtain ⟨v, hbf, hf⟩ := hF
  obtain ⟨b5, s0, s1, s2, s3, m, rfl, hb, hf⟩ := hf
  have hbx := hw bf _ hbf
  have q := cell_blk hbx 0
  simp only [List.getElem?_toArray, List.getElem?_cons_zero] at q
  have hbl := hw.lt hbf
  obtain ⟨k, rfl⟩ : ∃ k : Nat, y = (k : Int) := ⟨y.toNat, by omega⟩
  have hk : k < f.reached.length := by have := hf.lenR; omega
  obtain ⟨rb, ro, rc, rfl, -, hrb, hrcell⟩ := hf.reached.bools (by omega)
  have hrk := hrcell w hw k hk
  have hrl := hw.lt' hrb
  have q5 := box5 (hw b5 _ hb)
  have hbl5 := hw.lt hb
  have he : rchB f (k : Int) = f.reached.getD k false := rfl
  rw [he]
  have hlen := hf.lenR
  clear hf hrcell hb hbf he
  generalize f.reached.getD k false = r at *
  go_enter Try.func47, Try.ntmps47
  go_wp2
  go_ret
  exact ⟨rfl, Below.refl _ _⟩
theorem loops_11V (H : PH) (bf : Nat) (f : FlowD) (hF : BoxF H bf f) : PredV H .i64 (.func (.func 47) #[] #[.pointer (some ⟨bf, 0, none⟩)]) (fun y => 0 ≤ y ∧ y < f.blocks.length) (fun y => !rchB f y) :=
  ⟨_, _, rfl, enters_mk Try.func47 (by kernel_rfl) rfl, fun w' H' x hle hs hx => loops_11 H' bf f x w' hs (by
    obtain ⟨v, h1, h2⟩ := hF
    exact ⟨v, hle _ _ h1, h2.mono hle⟩) hx⟩
/-- What a loop's walk goes on to: the reached blocks ahead, but not beyond the head. -/
def loopNx (f : FlowD) (h : Int) (x : Int) : List Int := if x = h then [] else (f.ahead x).filter fun y => !!rchB f y
set_option maxHeartbeats 2000000 in
set_option maxRecDepth 100000 in
theorem loops_1 (H : PH) (bh bf : Nat) (f : FlowD) (h x : Int) (w : World) (hw : Sees w H) (hF : BoxF H bf f) (hh : BoxI H bh h) (hx : 0 ≤ x ∧ x < f.blocks.length) (hah : ∀ y ∈ f.ahead x, 0 ≤ y ∧ y < f.blocks.length) (hal : (f.ahead x).length ≤ 20000) :
    Calls Try.prog 45 #[.int .i64 x, .pointer (some ⟨bh, 0, none⟩), .pointer (some ⟨bf, 0, none⟩)] w fun e w' => SlRes H w w' (loopNx f h x) e ∧ Below w.heap.size w w' := by
  have hF0 := hF
  obtain ⟨v, hbf, hf⟩ := hF
  obtain ⟨b5, s0, s1, s2, s3, m, rfl, hb, hf⟩ := hf
  have qh := cell_blk (hw bh _ hh) 0
  simp only [List.getElem?_toArray, List.getElem?_cons_zero] at qh
  have lh := hw.lt hh
  have hbx := hw bf _ hbf
  have q := cell_blk hbx 0
  simp only [List.getElem?_toArray, List.getElem?_cons_zero] at q
  have hbl := hw.lt hbf
  have q5 := box5 (hw b5 _ hb)
  have hbl5 := hw.lt hb
  have hmf : ∀ (fn : Fn) (first cap : Array Value) (w : World), (Instr.makeFunc fn first cap).run Try.prog w = .ok (.func fn first cap) w := fun _ _ _ _ => rfl
  by_cases hxh : x = h
  · have hb : (x == h) = true := by simp [hxh]
    have hres : loopNx f h x = [] := by unfold loopNx; rw [if_pos hxh]
    rw [hres]
    clear hres hf hF0 hah hal hxh hmf
    go_enter Try.func45, Try.ntmps45
    go_wp2
    go_ret
    exact ⟨⟨_, rfl, SlV.nil _ _⟩, Below.refl _ _⟩
  · have hb : (x == h) = false := by simp [hxh]
    have hres : loopNx f h x = (f.ahead x).filter fun y => !!rchB f y := by unfold loopNx; rw [if_neg hxh]
    rw [hres]
    obtain ⟨l, hM, hA⟩ := hf.ahead
    have hu := hA x hx
    have hKY : KeyK Try.prog 3 (fun x : Int => Value.int .i64 x) := keyInt Try.underlying3
    have hlk := (hM w hw).lookup Try.underlying68 hKY (z := .slice none 0 0) (fun _ => by kernel_rfl) x false
    simp only [Bool.false_eq_true, if_false] at hlk
    have hC := clone_sl hw hu (by omega)
    have hP := loops_11V H bf f hF0
    obtain ⟨es, hes⟩ : ∃ es, es = (f.ahead x).filter fun y => !!rchB f y := ⟨_, rfl⟩
    rw [← hes]
    have hesh := Lib.hid hes
    have hIh := Lib.hid hah
    have hIh2 := Lib.hid (show ∀ y ∈ f.ahead x, I64 y from fun y hy => by have := hah y hy; have := hf.le; unfold I64; omega)
    have hle := hf.le
    clear hes hah hres hxh hM hA hF0 hf
    generalize (mget l x).getD (.slice none 0 0) = uv at *
    generalize f.ahead x = nx at *
    go_enter Try.func45, Try.ntmps45
    go_wp2_with (first
      | (go_at_call 42; refine hC.mono ?_; rintro e w1 ⟨⟨vq, rfl, hown⟩, hB1⟩)
      | (go_at_call 46; refine (delete_own H _ _ _ (fun y => 0 ≤ y ∧ y < f.blocks.length) (fun y => !rchB f y) w.heap.size w1 (hw.below hB1) hown (fun k hk => hw.fresh (hown.lt hk).1) hP hIh.out hIh2.out (by omega)).mono ?_; rintro e w2 ⟨⟨v2, rfl, hown2, -⟩, hg2⟩; rw [← hesh.out] at hown2))
    go_ret
    have hB2 : Below w.heap.size w w2 := hB1.grown hg2 hB1.size (fun k hk => (hown.lt hk).1)
    refine ⟨⟨_, rfl, hown2.read (fun y hy => ?_) ?_⟩, hB2⟩
    · rw [hesh.out] at hy
      exact hIh2.out y (List.mem_filter.1 hy).1
    · have h1 : es.length ≤ nx.length := by rw [hesh.out]; exact List.length_filter_le _ _
      unfold maxN
      omega
theorem loops_1V (H : PH) (bh bf : Nat) (f : FlowD) (h : Int) (hF : BoxF H bf f) (hh : BoxI H bh h) (hah : ∀ x : Int, 0 ≤ x ∧ x < f.blocks.length → ∀ y ∈ f.ahead x, 0 ≤ y ∧ y < f.blocks.length) (hal : ∀ x : Int, 0 ≤ x ∧ x < f.blocks.length → (f.ahead x).length ≤ 20000) :
    NextV H (.func (.func 45) #[] #[.pointer (some ⟨bh, 0, none⟩), .pointer (some ⟨bf, 0, none⟩)]) f.blocks.length (loopNx f h) :=
  ⟨_, _, rfl, enters_mk Try.func45 (by kernel_rfl) rfl, fun w' H' x hle hs hx => loops_1 H' bh bf f h x w' hs (by
    obtain ⟨v, h1, h2⟩ := hF
    exact ⟨v, hle _ _ h1, h2.mono hle⟩) (hle _ _ hh) hx (hah x hx) (hal x hx)⟩
end Go.Proofs.Ytififjlgjmgikaa
