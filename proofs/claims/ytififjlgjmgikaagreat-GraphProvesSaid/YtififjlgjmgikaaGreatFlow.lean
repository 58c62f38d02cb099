/- The control flow of a code, as the program keeps it; its small functions. -/
import Derived.Test.YtififjlgjmgikaaGreatWalkA
namespace Go.Proofs.YtififjlgjmgikaaGreat
set_option linter.all false
open Go.RowKit

structure BlockD where
  from_ : Int
  to_ : Int
  next : List Int
deriving Inhabited
def rBlock : Rp BlockD where
  sz := 3
  R := fun H cs x => ∃ u, cs = [.int .i64 x.from_, .int .i64 x.to_, u] ∧ I64 x.from_ ∧ I64 x.to_ ∧ SlV rInt H u x.next
  len := fun h => by obtain ⟨u, rfl, _⟩ := h; rfl
  mono := fun h ⟨u, e, h1, h2, k⟩ => ⟨u, e, h1, h2, k.mono h⟩
structure FlowD where
  blocks : List BlockD
  of_ : List Int
  entry : List Bool
  reached : List Bool
  ahead : Int → List Int
/-- The map of a flow: each block's list of blocks ahead of it. -/
def AheadV (H : PH) (m : Nat) (n : Nat) (ah : Int → List Int) : Prop :=
  ∃ l : IntMap, (∀ w, Sees w H → MapL (fun x : Int => Value.int .i64 x) w m l) ∧ ∀ y : Int, 0 ≤ y ∧ y < n → SlV rInt H ((mget l y).getD (.slice none 0 0)) (ah y)
structure FlowC (H : PH) (s0 s1 s2 s3 : Value) (m : Nat) (f : FlowD) : Prop where
  blocks : SlV rBlock H s0 f.blocks
  of_ : SlV rInt H s1 f.of_
  entry : SlV rBool H s2 f.entry
  reached : SlV rBool H s3 f.reached
  ahead : AheadV H m f.blocks.length f.ahead
  lenE : f.entry.length = f.blocks.length
  lenR : f.reached.length = f.blocks.length
  le : f.blocks.length ≤ 20000
  next : ∀ b ∈ f.blocks, ∀ y ∈ b.next, 0 ≤ y ∧ y < f.blocks.length
  nlen : ∀ b ∈ f.blocks, b.next.length ≤ 20000
def FlowV (H : PH) (v : Value) (f : FlowD) : Prop :=
  ∃ b s0 s1 s2 s3 m, v = .pointer (some ⟨b, 0, none⟩) ∧ H b = some (.cells #[s0, s1, s2, s3, .map (some m)] 82 (0, 0)) ∧ FlowC H s0 s1 s2 s3 m f
theorem AheadV.mono {H H' : PH} (h : PH.le H H') {m n : Nat} {ah : Int → List Int} (k : AheadV H m n ah) : AheadV H' m n ah := by
  obtain ⟨l, h1, h2⟩ := k
  exact ⟨l, fun w hw => h1 w (fun i o e => hw i o (h i o e)), fun y hy => (h2 y hy).mono h⟩
theorem FlowV.mono {H H' : PH} (h : PH.le H H') {v : Value} {f : FlowD} (k : FlowV H v f) : FlowV H' v f := by
  obtain ⟨b, s0, s1, s2, s3, m, e, hb, k⟩ := k
  exact ⟨b, s0, s1, s2, s3, m, e, h b _ hb, ⟨k.blocks.mono h, k.of_.mono h, k.entry.mono h, k.reached.mono h, k.ahead.mono h, k.lenE, k.lenR, k.le, k.next, k.nlen⟩⟩
theorem SlV.blocks {H : PH} {v : Value} {xs : List BlockD} (h : SlV rBlock H v xs) (hne : 0 < xs.length) :
    ∃ b off cap, v = .slice (some ⟨b, off, none⟩) xs.length cap ∧ xs.length ≤ cap ∧ H b ≠ none ∧
      (∀ i, i < xs.length → ∃ u, SlV rInt H u (xs.getD i default).next ∧ ∀ w, Sees w H → w.cell? ⟨b, off + i * 3, none⟩ = some (.int .i64 (xs.getD i default).from_) ∧ w.cell? ⟨b, off + i * 3 + 1, none⟩ = some (.int .i64 (xs.getD i default).to_) ∧
        w.cell? ⟨b, off + i * 3 + 2, none⟩ = some u) ∧
      (∀ i, i < xs.length → I64 (xs.getD i default).from_ ∧ I64 (xs.getD i default).to_) := by
  obtain ⟨b, off, cap, rfl, hc, hb, he⟩ := h.base hne
  refine ⟨b, off, cap, rfl, hc, hb, fun i hi => ?_, fun i hi => ?_⟩
  · obtain ⟨cs, ⟨u, rfl, _, _, hu⟩, hcell⟩ := he i xs[i] (by simp [hi])
    refine ⟨u, by simpa [hi] using hu, fun w hw => ?_⟩
    have h0 := hcell w hw 0 _ rfl
    have h1 := hcell w hw 1 _ rfl
    have h2 := hcell w hw 2 _ rfl
    simpa [rBlock, hi] using ⟨h0, h1, h2⟩
  · obtain ⟨cs, ⟨u, rfl, h1, h2, _⟩, _⟩ := he i xs[i] (by simp [hi])
    simpa [hi] using ⟨h1, h2⟩
theorem box5 {w : World} {b : Nat} {s0 s1 s2 s3 s4 : Value} {T : TypeId} (h : w.heap[b]? = some (.cells #[s0, s1, s2, s3, s4] T (0, 0))) :
    w.cell? ⟨b, 0, none⟩ = some s0 ∧ w.cell? ⟨b, 1, none⟩ = some s1 ∧ w.cell? ⟨b, 2, none⟩ = some s2 ∧ w.cell? ⟨b, 3, none⟩ = some s3 ∧ w.cell? ⟨b, 4, none⟩ = some s4 :=
  ⟨cell_blk h 0, cell_blk h 1, cell_blk h 2, cell_blk h 3, cell_blk h 4⟩
def bothB (f : FlowD) (a b : Int) : Bool := withinB a 0 (f.blocks.length - 1) && withinB b 0 (f.blocks.length - 1)
/-- The entry blocks but one. -/
def entriesB (f : FlowD) (but : Int) : List Int := ((List.range f.blocks.length).filter fun i => f.entry.getD i false && decide ((i : Int) ≠ but)).map fun (i : Nat) => (i : Int)
theorem entriesK_succ {es : List Bool} {but : Int} {k : Nat} : ((List.range (k + 1)).filter fun i => es.getD i false && decide ((i : Int) ≠ but)).map (fun (i : Nat) => (i : Int)) =
    ((List.range k).filter fun i => es.getD i false && decide ((i : Int) ≠ but)).map (fun (i : Nat) => (i : Int)) ++ if es.getD k false && decide ((k : Int) ≠ but) then [(k : Int)] else [] := by
  rw [List.range_succ, List.filter_append, List.map_append]
  congr 1
  have e : ∀ b : Bool, (if b = true then [k] else []).map (fun i : Nat => (i : Int)) = if b = true then [(k : Int)] else [] := by intro b; cases b <;> rfl
  simp only [List.filter_cons, List.filter_nil]
  exact e _
theorem entriesK_len {es : List Bool} {but : Int} {k : Nat} : (((List.range k).filter fun i => es.getD i false && decide ((i : Int) ≠ but)).map (fun (i : Nat) => (i : Int))).length ≤ k := by
  rw [List.length_map]
  exact Nat.le_trans (List.length_filter_le _ _) (by simp)
set_option maxHeartbeats 2000000 in
set_option maxRecDepth 100000 in
theorem flow_entries (H : PH) (v : Value) (f : FlowD) (but : Int) (w : World) (hw : Sees w H) (hf : FlowV H v f) :
    Calls Tryz.prog 96 #[v, .int .i64 but] w fun e w' => (∃ v', e = .returned v' ∧ OwnI w' w.heap.size v' (entriesB f but)) ∧ Below w.heap.size w w' := by
  obtain ⟨bf, s0, s1, s2, s3, m, rfl, hb, hf⟩ := hf
  have hle := hf.le
  have hlE := hf.lenE
  have hE := hf.entry
  obtain ⟨A0, c0, rfl, k0, -⟩ := hf.entry.open_
  have hbx := hw bf _ hb
  have q := box5 hbx
  have hbl := hw.lt hb
  clear hf hb
  obtain ⟨es0, hes0⟩ : ∃ es0, es0 = entriesB f but := ⟨_, rfl⟩
  rw [← hes0]
  rw [entriesB, ← hlE] at hes0
  rw [← hlE] at hle
  have hes0h := Lib.hid hes0
  clear hlE hes0
  go_enter Tryz.func96, Tryz.ntmps96
  go_wp2
  clear q hbx hbl
  refine wp_name fun w1 hw1 => ?_
  obtain rfl := hw1.symm
  go_loopw [5, 13] (fun o i wr => ∃ k : Nat, k ≤ f.entry.length ∧ i = .int .i64 k ∧ OwnI wr w.heap.size o (((List.range k).filter fun i => f.entry.getD i false && decide ((i : Int) ≠ but)).map fun (i : Nat) => (i : Int)) ∧ Below w.heap.size w wr) (fun _ i _ => f.entry.length - (intOf i).toNat)
  case atStart => exact ⟨0, Nat.zero_le _, rfl, OwnI.nil _ _, Below.refl _ _⟩
  case round =>
    obtain ⟨k, hk, rfl, hown, hB⟩ := hrel
    by_cases hlt : k < f.entry.length
    · obtain ⟨b, off, c', hve, -, hb, hcell⟩ := hE.bools (by omega)
      cases hve
      have hsee := hw.below hB
      have hcl := hcell wr hsee k hlt
      have hbl := hsee.lt' hb
      have hlen := entriesK_len (es := f.entry) (but := but) (k := k)
      have hst := Lib.hid (entriesK_succ (es := f.entry) (but := but) (k := k))
      clear hcell
      generalize ((List.range k).filter fun i => f.entry.getD i false && decide ((i : Int) ≠ but)).map (fun (i : Nat) => (i : Int)) = es at *
      generalize hg : f.entry.getD k false = g at *
      have hgh := Lib.hid hg
      clear hg
      by_cases hbut : (k : Int) = but
      · have e0 : ∀ g : Bool, es ++ (if (g && decide ((k : Int) ≠ but)) = true then [(k : Int)] else []) = es := by intro g; simp [hbut]
        have hst2 := hst.out
        rw [e0] at hst2
        have hsth := Lib.hid hst2
        subst hbut
        clear hst2 e0 hst
        cases g
        all_goals
          go_wp2
          go_roundw
          case rel => exact ⟨k + 1, by omega, by go_num, by rw [hsth.out]; exact hown, hB⟩
          case measure => simp [intOf]; omega
      · cases g
        · go_wp2
          go_roundw
          case rel => exact ⟨k + 1, by omega, by go_num, by rw [hst.out]; simpa using hown, hB⟩
          case measure => simp [intOf]; omega
        · go_wp2_with (at_builtin; go_loud (refine wpL_appI rfl _ _ rfl w.heap.size _ es [(k : Int)] rfl (hown.al _) ⟨wr.heap.size, 0, none⟩ 1 1 rfl rfl (one_new (by simp)) ?hlen ?hsz ?_); go_loud (case hlen => first | omega | (simp; omega)); go_loud (case hsz => have := hB.size; first | omega | (simp; omega)); intro v2 w2 hown2 hg2 _)
          go_roundw
          case rel => exact ⟨k + 1, by omega, by go_num, by rw [hst.out]; simpa [hbut] using hown2, (hB.alloc hB.size _).grown hg2 (by have := hB.size; simp; omega) (fun j hj => (hown.lt hj).1)⟩
          case measure => simp [intOf]; omega
    · obtain rfl : k = f.entry.length := by omega
      have hes0 := hes0h.out
      rw [← hes0] at hown
      clear hes0
      have hownh := Lib.hid hown
      go_wp2
      go_ret
      exact ⟨⟨_, rfl, hownh.out⟩, hB⟩
end Go.Proofs.YtififjlgjmgikaaGreat
