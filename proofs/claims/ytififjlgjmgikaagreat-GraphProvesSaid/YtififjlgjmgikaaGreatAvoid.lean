/- The walks over initial paths without a block. -/
import Derived.Test.YtififjlgjmgikaaGreatDelete
namespace Go.Proofs.YtififjlgjmgikaaGreat
set_option linter.all false
open Go.RowKit

def BoxI (H : PH) (b : Nat) (x : Int) : Prop := H b = some (.cells #[.int .i64 x] 3 (0, 0))
def BoxF (H : PH) (b : Nat) (f : FlowD) : Prop := ∃ v, H b = some (.cells #[v] 76 (0, 0)) ∧ FlowV H v f
set_option maxHeartbeats 400000 in
theorem avoiding_11 (H : PH) (ba : Nat) (a y : Int) (w : World) (hw : Sees w H) (ha : BoxI H ba a) :
    Calls Tryz.prog 98 #[.int .i64 y, .pointer (some ⟨ba, 0, none⟩)] w fun e w' => e = .returned (.bool (y == a)) ∧ Below w.heap.size w w' := by
  have hbx := hw ba _ ha
  have q := cell_blk hbx 0
  simp only [List.getElem?_toArray, List.getElem?_cons_zero] at q
  have hbl := hw.lt ha
  go_enter Tryz.func98, Tryz.ntmps98
  go_wp2
  go_ret
  exact ⟨rfl, Below.refl _ _⟩
theorem avoiding_11V (H : PH) (ba : Nat) (a : Int) (ha : BoxI H ba a) : PredV H .i64 (.func (.func 98) #[] #[.pointer (some ⟨ba, 0, none⟩)]) (fun _ => True) (fun y => y == a) :=
  ⟨_, _, rfl, enters_mk Tryz.func98 (by kernel_rfl) rfl, fun w' H' x hle hs _ => avoiding_11 H' ba a x w' hs (hle _ _ ha)⟩
def avoidNx (f : FlowD) (a : Int) (x : Int) : List Int := (f.blocks.getD x.toNat default).next.filter fun y => !(y == a)
set_option maxHeartbeats 2000000 in
set_option maxRecDepth 100000 in
theorem avoiding_1 (H : PH) (bf ba : Nat) (f : FlowD) (a x : Int) (w : World) (hw : Sees w H) (hF : BoxF H bf f) (ha : BoxI H ba a) (hx : 0 ≤ x ∧ x < f.blocks.length) :
    Calls Tryz.prog 97 #[.int .i64 x, .pointer (some ⟨bf, 0, none⟩), .pointer (some ⟨ba, 0, none⟩)] w fun e w' => SlRes H w w' (avoidNx f a x) e ∧ Below w.heap.size w w' := by
  obtain ⟨v, hbf, hf⟩ := hF
  obtain ⟨b5, s0, s1, s2, s3, m, rfl, hb, hf⟩ := hf
  have hbx := hw bf _ hbf
  have q := cell_blk hbx 0
  simp only [List.getElem?_toArray, List.getElem?_cons_zero] at q
  have hbl := hw.lt hbf
  have q5 := box5 (hw b5 _ hb)
  have hbl5 := hw.lt hb
  obtain ⟨k, rfl⟩ : ∃ k : Nat, x = (k : Int) := ⟨x.toNat, by omega⟩
  have hk : k < f.blocks.length := by omega
  obtain ⟨bb, off, cap, rfl, hcap, hbb, hrow, -⟩ := hf.blocks.blocks (by omega)
  obtain ⟨u, hu, hcells⟩ := hrow k hk
  have hce := hcells w hw
  have hbbl := hw.lt' hbb
  have hmf : ∀ (fn : Fn) (first cap : Array Value) (w : World), (Instr.makeFunc fn first cap).run Tryz.prog w = .ok (.func fn first cap) w := fun _ _ _ _ => rfl
  have hP := avoiding_11V H ba a ha
  have hmem : f.blocks.getD k default ∈ f.blocks := by
    rw [List.getD_eq_getElem?_getD, List.getElem?_eq_getElem hk]
    exact List.getElem_mem hk
  have hnl := hf.nlen _ hmem
  have hle := hf.le
  have hI : ∀ y ∈ (f.blocks.getD k default).next, I64 y := fun y hy => by have := hf.next _ hmem y hy; unfold I64; omega
  have hres : avoidNx f a (k : Int) = (f.blocks.getD k default).next.filter fun y => !(y == a) := rfl
  rw [hres]
  generalize (f.blocks.getD k default).next = nx at *
  obtain ⟨es, hes⟩ : ∃ es, es = nx.filter fun y => !(y == a) := ⟨_, rfl⟩
  rw [← hes]
  have hesh := Lib.hid hes
  have hIh := Lib.hid hI
  clear hes hI hmem hres
  have hC := clone_sl hw hu (by omega)
  clear hrow hcells hbf hb
  go_enter Tryz.func97, Tryz.ntmps97
  go_wp2_with (first
    | (go_at_call 62; refine hC.mono ?_; rintro e w1 ⟨⟨vq, rfl, hown⟩, hB1⟩)
    | (go_at_call 78; refine (delete_own H _ _ _ (fun _ => True) (fun y => y == a) w.heap.size w1 (hw.below hB1) hown (fun k hk => hw.fresh (hown.lt hk).1) hP (fun _ _ => trivial) hIh.out (by omega)).mono ?_; rintro e w2 ⟨⟨v2, rfl, hown2, -⟩, hg2⟩; rw [← hesh.out] at hown2))
  go_ret
  have hB2 : Below w.heap.size w w2 := hB1.grown hg2 hB1.size (fun k hk => (hown.lt hk).1)
  refine ⟨⟨_, rfl, hown2.read (fun y hy => ?_) ?_⟩, hB2⟩
  · rw [hesh.out] at hy
    exact hIh.out y (List.mem_filter.1 hy).1
  · have h1 : es.length ≤ nx.length := by rw [hesh.out]; exact List.length_filter_le _ _
    unfold maxN
    omega
theorem avoiding_1V (H : PH) (bf ba : Nat) (f : FlowD) (a : Int) (hF : BoxF H bf f) (ha : BoxI H ba a) :
    NextV H (.func (.func 97) #[] #[.pointer (some ⟨bf, 0, none⟩), .pointer (some ⟨ba, 0, none⟩)]) f.blocks.length (avoidNx f a) :=
  ⟨_, _, rfl, enters_mk Tryz.func97 (by kernel_rfl) rfl, fun w' H' x hle hs hx => avoiding_1 H' bf ba f a x w' hs (by
    obtain ⟨v, h1, h2⟩ := hF
    exact ⟨v, hle _ _ h1, h2.mono hle⟩) (hle _ _ ha) hx⟩
theorem entriesB_range {f : FlowD} {a x : Int} (h : x ∈ entriesB f a) : 0 ≤ x ∧ x < f.blocks.length := by
  unfold entriesB at h
  obtain ⟨i, hi, rfl⟩ := List.mem_map.1 h
  have := List.mem_range.1 (List.mem_filter.1 hi).1
  omega
theorem avoidNx_range {H : PH} {s0 s1 s2 s3 : Value} {m : Nat} {f : FlowD} (hf : FlowC H s0 s1 s2 s3 m f) {a x : Int} (hx : 0 ≤ x ∧ x < f.blocks.length) : ∀ y ∈ avoidNx f a x, 0 ≤ y ∧ y < f.blocks.length := by
  intro y hy
  unfold avoidNx at hy
  have hk : x.toNat < f.blocks.length := by omega
  refine hf.next (f.blocks.getD x.toNat default) ?_ y (List.mem_filter.1 hy).1
  rw [List.getD_eq_getElem?_getD, List.getElem?_eq_getElem hk]
  exact List.getElem_mem hk
set_option maxHeartbeats 2000000 in
set_option maxRecDepth 100000 in
theorem flow_avoiding (H : PH) (v : Value) (f : FlowD) (a : Int) (w : World) (hw : Sees w H) (hf : FlowV H v f) :
    Calls Tryz.prog 53 #[v, .int .i64 a] w fun e w' => WalkRes w.heap.size f.blocks.length (entriesB f a) (avoidNx f a) w' e ∧ Below w.heap.size w w' := by
  have hmf : ∀ (fn : Fn) (first cap : Array Value) (w : World), (Instr.makeFunc fn first cap).run Tryz.prog w = .ok (.func fn first cap) w := fun _ _ _ _ => rfl
  have hf0 := hf
  obtain ⟨b5, s0, s1, s2, s3, m, rfl, hb, hf⟩ := hf
  have hle := hf.le
  have hB0 : Below w.heap.size w (w.alloc (.cells #[.pointer (some ⟨b5, 0, none⟩)] 76)) := (Below.refl _ _).alloc (Nat.le_refl _) _
  have hB1 := hB0.alloc hB0.size (.cells #[.int .i64 a] 3)
  have hE := flow_entries H _ f a _ (hw.below hB1) hf0
  have hx0 : ((w.alloc (.cells #[.pointer (some ⟨b5, 0, none⟩)] 76)).alloc (.cells #[.int .i64 a] 3)).heap[w.heap.size]? = some (.cells #[.pointer (some ⟨b5, 0, none⟩)] 76 (0, 0)) := ga_old (ga_new _ _)
  have hx1 : ((w.alloc (.cells #[.pointer (some ⟨b5, 0, none⟩)] 76)).alloc (.cells #[.int .i64 a] 3)).heap[w.heap.size + 1]? = some (.cells #[.int .i64 a] 3 (0, 0)) := by
    have h := ga_new (w.alloc (.cells #[.pointer (some ⟨b5, 0, none⟩)] 76)) (.cells #[.int .i64 a] 3)
    rwa [World.size_alloc] at h
  have hlen : (entriesB f a).length ≤ f.blocks.length := by unfold entriesB; exact entriesK_len
  have hfh := Lib.hid hf
  have hf0h := Lib.hid hf0
  have hx0h := Lib.hid hx0
  have hx1h := Lib.hid hx1
  clear hf hx0 hx1 hf0
  go_enter Tryz.func53, Tryz.ntmps53
  go_wp2_with (first
    | (go_at_call 96; refine hE.mono ?_; rintro e w1 ⟨⟨vq, rfl, hown⟩, hB2⟩)
    | (go_at_call 67
       have hBw := bstep hB1 hB2
       have hsz : ((w.alloc (.cells #[.pointer (some ⟨b5, 0, none⟩)] 76)).alloc (.cells #[.int .i64 a] 3)).heap.size = w.heap.size + 2 := by simp [World.size_alloc]
       have hr : SlV rInt (extH H w w1) vq (entriesB f a) := (hown.lower (by omega)).read (fun y hy => by have := entriesB_range hy; unfold I64; omega) (by unfold maxN; omega)
       have hbF : BoxF (extH H w w1) w.heap.size f := ⟨_, extH.new (Nat.le_refl _) ((hB2.block _ (by omega)).trans hx0h.out), hf0h.out.mono (extH.le hw w1)⟩
       have hbA : BoxI (extH H w w1) (w.heap.size + 1) a := extH.new (by omega) ((hB2.block _ (by omega)).trans hx1h.out)
       refine (graph_walk (extH H w w1) vq _ (entriesB f a) f.blocks.length (avoidNx f a) w1 (extH.sees hw hBw) hr hle (by omega) (fun x hx => entriesB_range hx) (fun x hx => avoidNx_range hfh.out hx) (avoiding_1V _ _ _ f a hbF hbA)).mono ?_
       rintro e w2 ⟨⟨bm, l, ρ, N, rfl, h1, h2, h3⟩, hB3⟩))
  go_ret
  exact ⟨⟨bm, l, ρ, N, rfl, by have := hBw.size; omega, h2, h3⟩, bstep hBw hB3⟩
end Go.Proofs.YtififjlgjmgikaaGreat
