/- The reference's graph: at, are, nearest, path (seat .Z). The reference's spread (seat .Z). The reference's nearest, Doms, idoms (seat .Z). The reference's Doms, idoms (seat .Z). The reference's idoms (seat .Z). -/
import Derived.Test.YtififjlgjmgikaaGreatDiff
import Derived.Test.YtififjlgjmgikaaGreatDomW
import Derived.Test.YtififjlgjmgikaaGreatPlanA
import Derived.Laws.OwnMore
import Derived.Test.YtififjlgjmgikaaGreatIdomM
namespace Go.Proofs.YtififjlgjmgikaaGreat
set_option linter.all false
open Go.RowKit

theorem box10 {w : World} {b : Nat} {s0 s1 s2 s3 s4 s5 s6 L E R : Value} {T : TypeId} (h : w.heap[b]? = some (.cells #[s0, s1, s2, s3, s4, s5, s6, L, E, R] T (0, 0))) :
    w.cell? ⟨b, 0, none⟩ = some s0 ∧ w.cell? ⟨b, 1, none⟩ = some s1 ∧ w.cell? ⟨b, 2, none⟩ = some s2 ∧ w.cell? ⟨b, 3, none⟩ = some s3 ∧ w.cell? ⟨b, 4, none⟩ = some s4 ∧ w.cell? ⟨b, 5, none⟩ = some s5 ∧ w.cell? ⟨b, 6, none⟩ = some s6 ∧
    w.cell? ⟨b, 7, none⟩ = some L ∧ w.cell? ⟨b, 8, none⟩ = some E ∧ w.cell? ⟨b, 9, none⟩ = some R :=
  ⟨cell_blk h 0, cell_blk h 1, cell_blk h 2, cell_blk h 3, cell_blk h 4, cell_blk h 5, cell_blk h 6, cell_blk h 7, cell_blk h 8, cell_blk h 9⟩
/-- The first block that ends behind a place. -/
def atL (rows : List (Int × Int)) (p : Int) : Int := idxF (fun r : Int × Int => decide (p < r.2)) rows
set_option maxHeartbeats 2000000 in
set_option maxRecDepth 100000 in
theorem r19_at (b g off cap : Nat) (s0 s1 s2 s3 s4 s5 s6 E R : Value) (rows : List (Int × Int)) (p : Int) (w : World)
    (hb : w.heap[b]? = some (.cells #[s0, s1, s2, s3, s4, s5, s6, .slice (some ⟨g, off, none⟩) rows.length cap, E, R] 65 (0, 0))) (hn : rows.length ≤ 20000)
    (hc : ∀ i, i < rows.length → w.cell? ⟨g, off + i * 3 + 1, none⟩ = some (.int .i64 (rows.getD i (0, 0)).2)) (hgl : g < w.heap.size) :
    Calls Tryz.prog 51 #[.pointer (some ⟨b, 0, none⟩), .int .i64 p] w fun e w' => e = .returned (.int .i64 (atL rows p)) ∧ w = w' := by
  have q := (box10 hb).2.2.2.2.2.2.2.1
  have lb := (Array.getElem?_eq_some_iff.1 hb).1
  have hN := Lib.hid (show atL rows p = idxF (fun r : Int × Int => decide (p < r.2)) rows from rfl)
  generalize atL rows p = B at *
  have hch := Lib.hid hc
  clear hb hc
  go_enter Tryz.func51, Tryz.ntmps51
  go_wp2
  go_loop [5] (fun i => ∃ k : Nat, k ≤ rows.length ∧ i = .int .i64 k ∧ Aside (∀ j, j < k → ¬ p < (rows.getD j (0, 0)).2)) (fun i => rows.length - (intOf i).toNat)
  case atStart => exact ⟨0, Nat.zero_le _, rfl, fun j h => by omega⟩
  case round =>
    obtain ⟨k, hk, rfl, hno⟩ := hrel
    have hnoh := Lib.hid hno
    clear hno
    by_cases hlt : k < rows.length
    · have q2 := hch.out k hlt
      have hk0 : (0 : Int) ≤ k := by omega
      have hlt' : (k : Int) < rows.length := by omega
      by_cases he : p < (rows.getD k (0, 0)).2
      · have hbk := Lib.hid (show B = k by
          rw [hN.out]
          exact idxF_some (x := rows.getD k (0, 0)) (by simp [hlt]) (by simpa using he) fun i y hi hy => by
            have := hnoh.out i hi
            rw [List.getD_eq_getElem?_getD, hy] at this
            simpa using this)
        generalize (rows.getD k (0, 0)).2 = y at *
        go_wp2
        go_ret
        exact ⟨ret_num hbk.out.symm, rfl⟩
      · have heh := Lib.hid he
        obtain ⟨y, hy⟩ : ∃ y, (rows.getD k (0, 0)).2 = y := ⟨_, rfl⟩
        rw [hy] at q2 he
        clear hy
        go_wp2
        go_round
        case rel =>
          refine ⟨k + 1, by omega, by go_num, fun j hj => ?_⟩
          by_cases e : j = k
          · subst e; exact heh.out
          · exact hnoh.out j (by omega)
        case measure => simp [intOf]; omega
    · obtain rfl : k = rows.length := by omega
      have hltn : ¬ (rows.length : Int) < rows.length := by omega
      have hbk := Lib.hid (show B = -1 by
        rw [hN.out]
        exact idxF_none fun i y hy => by
          have := hnoh.out i (List.getElem?_eq_some_iff.1 hy).1
          rw [List.getD_eq_getElem?_getD, hy] at this
          simpa using this)
      clear hlt
      go_wp2
      go_ret
      exact ⟨ret_num hbk.out.symm, rfl⟩
/-- The first block that ends behind a place is the place's block. -/
theorem at_of {bs : List Bool} {n p : Nat} (h0 : bs.getD 0 false = true) (hp : p < n) : atL (rowsK bs n) p = ofI bs p := by
  have hr := ofI_range h0 hp
  obtain ⟨i, hi⟩ : ∃ i : Nat, ofI bs p = (i : Int) := ⟨(ofI bs p).toNat, by omega⟩
  have hil : i < cnt bs n := by omega
  obtain ⟨s, t, h1, h2⟩ := rows_spec bs n i hil
  have h3 := (row_of h2 hp).2 hi
  rw [hi]
  refine idxF_some h1 (by simp; omega) fun j y hj hy => ?_
  obtain ⟨s', t', h4, h5⟩ := rows_spec bs n j (by omega)
  rw [h4] at hy
  injection hy with hy
  subst hy
  simp only [decide_eq_false_iff_not]
  intro hlt
  have h6 := cnt_mono bs (show p + 1 ≤ t' by omega)
  have h7 := h5.ct
  unfold ofI at hi
  rw [Int.toNat_natCast] at hi
  omega
/-- The reference's graph, behind a pointer. -/
structure GrB (H : PH) (b : Nat) (L E R : Value) (f : FlowD) : Prop where
  blk : ∃ s0 s1 s2 s3 s4 s5 s6, H b = some (.cells #[s0, s1, s2, s3, s4, s5, s6, L, E, R] 65 (0, 0))
  blocks : SlV rBlock H L f.blocks
  entry : SlV rBool H E f.entry
  reached : SlV rBool H R f.reached
  lenE : f.entry.length = f.blocks.length
  lenR : f.reached.length = f.blocks.length
  le : f.blocks.length ≤ 20000
  next : ∀ b ∈ f.blocks, ∀ y ∈ b.next, 0 ≤ y ∧ y < f.blocks.length
  nlen : ∀ b ∈ f.blocks, b.next.length ≤ 20000
theorem GrB.mono {H H' : PH} (h : PH.le H H') {b : Nat} {L E R : Value} {f : FlowD} (k : GrB H b L E R f) : GrB H' b L E R f := by
  obtain ⟨⟨s0, s1, s2, s3, s4, s5, s6, hb⟩, h1, h2, h3, h4, h5, h6, h7, h8⟩ := k
  exact ⟨⟨s0, s1, s2, s3, s4, s5, s6, h _ _ hb⟩, h1.mono h, h2.mono h, h3.mono h, h4, h5, h6, h7, h8⟩
def areB (f : FlowD) (a b : Int) : Bool := bothB f a b
set_option maxHeartbeats 2000000 in
theorem r19_are (H : PH) (bg : Nat) (L E R : Value) (f : FlowD) (a b : Int) (w : World) (hw : Sees w H) (hg : GrB H bg L E R f) :
    Calls Tryz.prog 54 #[.pointer (some ⟨bg, 0, none⟩), .int .i64 a, .int .i64 b] w fun e w' => e = .returned (.bool (bothB f a b)) ∧ w = w' := by
  obtain ⟨s0, s1, s2, s3, s4, s5, s6, hb⟩ := hg.blk
  have hle := hg.le
  obtain ⟨AL, cL, rfl, -, -⟩ := hg.blocks.open_
  have q := (box10 (hw _ _ hb)).2.2.2.2.2.2.2.1
  have lb := hw.lt hb
  clear hg hb
  go_enter Tryz.func54, Tryz.ntmps54
  go_wp2
  all_goals (go_ret; exact ⟨ret_bool (by rw [Bool.eq_iff_iff]; simp [bothB, withinB]; omega), rfl⟩)
end Go.Proofs.YtififjlgjmgikaaGreat
namespace Go.Proofs.YtififjlgjmgikaaGreat
set_option linter.all false
open Go.RowKit

theorem run_app_none {P : Program} {w : World} (base : Nat) (t ty e : TypeId) (i : TypeInfo) (size : Nat) (ht : P.underlying t = some (.slice e)) (hi : P.info? e = some i)
    (v : Value) (n c : Nat) (xs : List Value) (hown : w.ownsRow base e size v n xs) : (Builtin.append_ #[t, t] ty #[v, .slice none 0 c]).run P w = .ok v w := by
  rcases hown.2 with ⟨rfl, rfl⟩ | ⟨g, cap, cur, rfl, _, _, hnc, _⟩
  · simp [Builtin.append_, run_underlying ht, sizeOf, typeInfo, hi, Builtin.lenOf, Builtin.firstCells]
  · simp [Builtin.append_, run_underlying ht, sizeOf, typeInfo, hi, Builtin.lenOf, Builtin.firstCells, hnc, storeCells]
/-- append of nothing, whatever the nil slice's capacity. -/
theorem wpL_appI_none {ops : Array Oper} {rest : List Oper} {o : Oper} {a : Act} {Q : Exit → Act → World → Prop} {w : World} (hgd : o.guard = none) (s x : Operand)
    (ho : o.op = .call { callee := .builtin .append, args := #[s, x], argTypes := #[28, 28] }) (base : Nat) (v : Value) (xs : List Int) (hs : a.eval s = v) (hown : OwnI w base v xs)
    (c : Nat) (hx : a.eval x = .slice none 0 c) (h : wpList Tryz.prog ops Q rest (a.put o.dst v) w) : wpList Tryz.prog ops Q (o :: rest) a w := by
  obtain ⟨i0, hi, hz0, hz1, hz2⟩ := info_parts infoInt
  refine wpList_plain hgd fun K hK => ?_
  have hrun := run_app_none (P := Tryz.prog) (w := w) base 28 o.type 3 i0 1 Tryz.underlying28 hi v xs.length c (ints xs) hown
  unfold Oper.wp
  simp [execOp, ho, resolve, invoke, builtin, hs, hx, hrun, Result.andThen]
  exact hK _ _ h
theorem SlV.news {H : PH} {ad : Addr} {n cap : Nat} {xs : List Int} (h : SlV rInt H (.slice (some ad) n cap) xs) {w : World} (hw : Sees w H) : n = xs.length ∧ ∀ j y, xs[j]? = some y → w.cell? (ad.add j) = some (.int .i64 y) := by
  obtain ⟨A, cap', e, h1, h2, h3⟩ := h
  cases e
  refine ⟨rfl, fun j y hj => ?_⟩
  obtain ⟨b, off, cs, hA, hc, rfl, -⟩ := h3 j y hj
  cases hA
  have := hc.cell hw (j := 0) rfl
  cases j with
  | zero => simpa [rInt, Addr.add] using this
  | succ j => simpa [rInt, Addr.add] using this
def todoF (but : Int) (xs : List Int) : List Int := xs.filter fun x => decide (x ≠ but)
theorem todoF_snoc (but : Int) (xs : List Int) (x : Int) : todoF but (xs ++ [x]) = todoF but xs ++ if x = but then [] else [x] := by
  unfold todoF
  rw [List.filter_append]
  by_cases h : x = but <;> simp [h]
theorem todoF_app (but : Int) (xs ys : List Int) : todoF but (xs ++ ys) = todoF but xs ++ todoF but ys := by unfold todoF; rw [List.filter_append]
/-- Where an initial path goes on to that does not have a block. -/
def spN (f : FlowD) (but x : Int) : List Int := todoF but (nxB f x)
theorem spread_iff {f : FlowD} (hE : f.entry.length = f.blocks.length) {but b : Int} : Reach (· ∈ todoF but (marksL f.entry)) (fun x y => y ∈ spN f but x) b ↔ RA f (· = but) b := by
  unfold RA
  constructor
  · refine reach_mono (fun x hx => ?_) (fun x y hy => ?_)
    · obtain ⟨h1, h2⟩ := List.mem_filter.1 hx
      obtain ⟨i, rfl, h3, h4⟩ := marksK_mem.1 h1
      exact ⟨⟨⟨by omega, by omega⟩, by simpa using h4⟩, by simpa using h2⟩
    · obtain ⟨h1, h2⟩ := List.mem_filter.1 hy
      exact ⟨h1, by simpa using h2⟩
  · refine reach_mono (fun x hx => ?_) (fun x y hy => ?_)
    · obtain ⟨⟨h1, h2⟩, h3⟩ := hx
      exact List.mem_filter.2 ⟨marksK_mem.2 ⟨x.toNat, by omega, by omega, h2⟩, by simpa using h3⟩
    · exact List.mem_filter.2 ⟨hy.1, by simpa using hy.2⟩
theorem nxB_at (f : FlowD) (i : Nat) : nxB f i = (f.blocks.getD i default).next := by simp [nxB]
theorem GrB.nx {H : PH} {b : Nat} {L E R : Value} {f : FlowD} (h : GrB H b L E R f) (x : Int) : ∀ y ∈ nxB f x, 0 ≤ y ∧ y < f.blocks.length := by
  intro y hy
  unfold nxB at hy
  by_cases hx : x.toNat < f.blocks.length
  · exact h.next _ (by rw [List.getD_eq_getElem?_getD, List.getElem?_eq_getElem hx]; exact List.getElem_mem hx) y hy
  · rw [List.getD_eq_getElem?_getD, List.getElem?_eq_none (by omega)] at hy; cases hy
theorem GrB.nxl {H : PH} {b : Nat} {L E R : Value} {f : FlowD} (h : GrB H b L E R f) (x : Int) : (nxB f x).length ≤ 20000 := by
  unfold nxB
  by_cases hx : x.toNat < f.blocks.length
  · exact h.nlen _ (by rw [List.getD_eq_getElem?_getD, List.getElem?_eq_getElem hx]; exact List.getElem_mem hx)
  · rw [List.getD_eq_getElem?_getD, List.getElem?_eq_none (by omega)]; exact Nat.zero_le _
set_option maxHeartbeats 4000000 in
set_option maxRecDepth 100000 in
theorem r19_spread (H : PH) (bg : Nat) (L E R : Value) (f : FlowD) (but : Int) (w : World) (hw : Sees w H) (hg : GrB H bg L E R f) :
    Calls Tryz.prog 55 #[.pointer (some ⟨bg, 0, none⟩), .int .i64 but] w fun e w' => RowB w.heap.size f.blocks.length w' (fun j => RA f (· = but) j) e ∧ Below w.heap.size w w' := by
  obtain ⟨s0, s1, s2, s3, s4, s5, s6, hb⟩ := hg.blk
  have hle := hg.le
  have hlE := hg.lenE
  have hL := hg.blocks
  have hE := hg.entry
  have hnx := Lib.hid (hg.nx)
  have hnl := Lib.hid (hg.nxl)
  obtain ⟨AL, cL, rfl, -, -⟩ := hL.open_
  obtain ⟨AE, cE, rfl, -, -⟩ := hE.open_
  have hmk := mk_bools f.blocks.length (by omega)
  have hbx := hw _ _ hb
  have hbb := hw.lt hb
  have hn : ∀ j, j < f.blocks.length → (spN f but j).length ≤ 20000 := fun j _ => Nat.le_trans (List.length_filter_le _ _) (hg.nxl j)
  have q0 := (box10 hbx).2.2.2.2.2.2.2.1
  rw [hlE] at hb hbx hE
  clear hg
  go_enter Tryz.func55, Tryz.ntmps55
  go_upto_region 2 with fail
  refine wp_name fun W hW => ?_
  have hBW : Below w.heap.size w W := by rw [hW]; exact (Below.refl _ _).alloc (Nat.le_refl _) _
  have hA : ArrB W w.heap.size (List.replicate f.blocks.length false) := by rw [hW]; exact ArrB.new w f.blocks.length
  have hzW : W.heap.size = w.heap.size + 1 := by rw [hW]; simp
  clear hW hmk q0
  go_wp2_with fail
  have hAl := hA.lt
  go_loopw [6, 7] (fun o i wr => ∃ k : Nat, k ≤ f.blocks.length ∧ i = .int .i64 k ∧ OwnI wr (w.heap.size + 1) o (marksK f.entry k) ∧ Below W.heap.size W wr) (fun _ i _ => f.blocks.length - (intOf i).toNat)
  case atStart => exact ⟨0, Nat.zero_le _, rfl, OwnI.nil _ _, Below.refl _ _⟩
  case round =>
    obtain ⟨k, hk, rfl, hown, hB⟩ := hrel
    have hBw := bstep hBW hB
    have hsee := hw.below hBw
    have hbr := blk_keep hBw hbx
    have q := box10 hbr
    have lb := (Array.getElem?_eq_some_iff.1 hbr).1
    have hsz := hB.size
    by_cases hlt : k < f.blocks.length
    · obtain ⟨b, off, c', hve, -, hbE, hcell⟩ := hE.bools (by omega)
      rw [hlE] at hve
      cases hve
      have hcl := hcell wr hsee k (by omega)
      have hbl := hsee.lt' hbE
      have hlen := marksK_len f.entry k
      have hst := Lib.hid (marksK_succ f.entry k)
      have hlt' : (k : Int) < f.blocks.length := by omega
      clear hcell
      generalize marksK f.entry k = es at *
      generalize f.entry.getD k false = g at *
      cases g
      · go_wp2
        go_roundw
        case rel => exact ⟨k + 1, by omega, by go_num, by rw [hst.out]; simpa using hown, hB⟩
        case measure => simp [intOf]; omega
      · go_wp2_with (at_builtin; go_loud (refine wpL_appI rfl _ _ rfl (w.heap.size + 1) _ es [(k : Int)] rfl (hown.al _) ⟨wr.heap.size, 0, none⟩ 1 1 rfl rfl (one_new (by simp)) ?hlen ?hsz ?_); go_loud (case hlen => first | omega | (simp; omega)); go_loud (case hsz => first | omega | (simp; omega)); intro v2 w2 hown2 hg2 _)
        go_roundw
        case rel => exact ⟨k + 1, by omega, by go_num, by rw [hst.out]; simpa using hown2, (hB.alloc hB.size _).grown hg2 (by simp; omega) (fun j hj => by have := (hown.lt hj).1; omega)⟩
        case measure => simp [intOf]; omega
    · obtain rfl : k = f.blocks.length := by omega
      have hltn : ¬ (f.blocks.length : Int) < f.blocks.length := by omega
      have hownh := Lib.hid hown
      clear hown hlt
      go_wp2
      have hown := hownh.out
      have hA1 : ArrB wr w.heap.size (List.replicate f.blocks.length false) := hA.of_block (hB.block _ hAl)
      have hm0 := marksK_len f.entry f.blocks.length
      have hmm : marksK f.entry f.blocks.length = marksL f.entry := by unfold marksL; rw [hlE]
      have hm1 : ∀ x ∈ marksL f.entry, 0 ≤ x ∧ x < f.blocks.length := fun x hx => by obtain ⟨i, rfl, h3, h4⟩ := marksK_mem.1 hx; omega
      have hsize1 : w.heap.size + 1 ≤ wr.heap.size := by omega
      rw [hmm] at hown hm0
      obtain ⟨wo, rfl⟩ : ∃ wo : World, wo = wr := ⟨_, rfl⟩
      clear hownh hmm q lb hbr hsee hB hsz hA hAl hBW hzW
      have hlEh := Lib.hid hlE
      clear hlE hE
      go_loopg [6] (20001 * f.blocks.length + f.blocks.length) (fun gk o wr => ∃ todo bs, OwnI wr (w.heap.size + 1) o todo ∧ ArrB wr w.heap.size bs ∧ Aside (Search (· ∈ todoF but (marksL f.entry)) (spN f but) f.blocks.length bs (todoF but todo) ∧ (∀ x ∈ todo, 0 ≤ x ∧ x < f.blocks.length) ∧ 20001 * unmarked bs + todo.length ≤ gk ∧ gk ≤ 20001 * f.blocks.length + f.blocks.length) ∧ Below w.heap.size w wr)
      case atStart =>
        refine ⟨marksL f.entry, _, hown, hA1, ⟨Search.init fun x hx => hm1 x (List.mem_filter.1 hx).1, hm1, ?_, Nat.le_refl _⟩, hBw⟩
        simp [unmarked]
        omega
      clear hown hA1 hm0 hBw
      case round =>
        obtain ⟨todo, bs, hown, hA, hS, hB⟩ := hrel
        have hsee := hw.below hB
        have hbr := blk_keep hB hbx
        by_cases hlt : 0 < todo.length
        · obtain ⟨g, cap, rfl, hcap, hg, hgl, hcell⟩ := hown.form hlt
          have hd := dropLast_snoc hlt
          obtain ⟨m, hm⟩ : ∃ m, todo.length = m + 1 := ⟨todo.length - 1, by omega⟩
          have hcl := hcell m (by omega)
          rw [hm, Nat.add_sub_cancel] at hd
          have hcut := hown.cut (k := m) (by omega)
          obtain ⟨hS1, hSi, hS2, hS3⟩ := hS.out
          have hx := hSi (todo.getD m 0) (by simp [List.getD_eq_getElem?_getD, List.getElem?_eq_getElem (show m < todo.length by omega)])
          have hSt : ∀ x ∈ todo.take m, 0 ≤ x ∧ x < f.blocks.length := fun x hx => hSi x (List.mem_of_mem_take hx)
          rw [hd] at hS1
          obtain ⟨p, hp⟩ : ∃ p : Nat, todo.getD m 0 = (p : Int) := ⟨(todo.getD m 0).toNat, by omega⟩
          rw [hp] at hcl hx hS1
          rw [todoF_snoc] at hS1
          have hpn : p < f.blocks.length := by omega
          have hpn' : (p : Int) < f.blocks.length := by omega
          have hp0 : (0 : Int) ≤ p := by omega
          have hmb : m ≤ 400040000 := by have := Nat.mul_le_mul_left 20001 hle; omega
          have hmc : m ≤ cap := by omega
          have hbl := hS1.len
          have hac := hA.cell (j := p) (by omega)
          have hal := hA.lt
          have haf := hA.free p
          have hmlen : (todo.take m).length = m := by simp; omega
          rw [hm] at hown ⊢
          have hSh := Lib.hid hS1
          have hSth := Lib.hid hSt
          have hS2h := Lib.hid hS2
          have hS3h := Lib.hid hS3
          have hmh := Lib.hid hm
          have hmlh := Lib.hid hmlen
          clear hcell hd hS hS1 hSi hS2 hS3 hm hp hlt hmlen hSt hx
          by_cases hbut : (p : Int) = but
          · have hbh := Lib.hid (hSh.out)
            rw [if_pos hbut, List.append_nil] at hbh
            subst hbut
            have hne : ((p : Int) != (p : Int)) = false := by simp
            clear hSh
            go_wp2
            go_roundg (gk - 1)
            case measure => have := hS2h.out; have := hmh.out; omega
            case rel => exact ⟨todo.take m, bs, hcut, hA, ⟨hbh.out, hSth.out, by rw [hmlh.out]; have := hS2h.out; have := hmh.out; omega, by have := hS3h.out; omega⟩, hB⟩
          · have hne : ((p : Int) != but) = true := by simpa using hbut
            have hbh := Lib.hid (hSh.out)
            rw [if_neg hbut] at hbh
            clear hSh hbut
            cases hb : bs.getD p false
            · have hun := Lib.hid (unmarked_set (bs := bs) (j := p) (by omega) hb)
              rw [hb] at hac
              have hgo := Lib.hid (hbh.out.go (fun y hy => hnx.out p y (List.mem_filter.1 hy).1))
              obtain ⟨bL, oL, cL', hLe, -, hbL, hrow, -⟩ := hL.blocks (by omega)
              cases hLe
              obtain ⟨u, hu, huc⟩ := hrow p hpn
              rw [← nxB_at] at hu
              clear hb hrow
              go_upto_region 13 with fail
              refine wp_name fun ws hws => ?_
              have hBs : Below w.heap.size w ws := by rw [hws]; exact setCell_below hB (Nat.le_refl _)
              have hAs : ArrB ws w.heap.size (bs.set p true) := by rw [hws]; exact hA.set p true
              have hos : OwnI ws (w.heap.size + 1) (.slice (some ⟨g, 0, none⟩) m cap) (todo.take m) := by rw [hws]; exact hcut.of_block fun k hk => setCell_other (by cases hk; show g ≠ _; omega)
              clear hws hac haf hal hcut hown hA hB hbr hsee hcl
              have hbr := blk_keep hBs hbx
              have hss := hw.below hBs
              have q7 := (box10 hbr).2.2.2.2.2.2.2.1
              have lb := (Array.getElem?_eq_some_iff.1 hbr).1
              have qn := (huc ws hss).2.2
              have lL := hss.lt' hbL
              have hsz := hBs.size
              have hgl2 := (hos.lt (k := g) rfl)
              have hnl2 := hnl.out p
              have hAsl := hAs.lt
              clear huc
              obtain ⟨Au, cu, rfl, -, -⟩ := hu.open_
              cases Au with
              | none =>
                have hnil : nxB f p = [] := by
                  apply Classical.byContradiction
                  intro hn
                  obtain ⟨_, _, _, he, _⟩ := hu.base (List.length_pos_iff.2 hn)
                  cases he
                have hnilh := Lib.hid hnil
                rw [hnil] at qn
                simp only [List.length_nil] at qn
                clear hnil hu hnl2
                go_wp2_with (at_builtin; refine wpL_appI_none rfl _ _ rfl (w.heap.size + 1) _ (todo.take m) rfl hos cu rfl ?_)
                go_roundg (gk - 1)
                case measure => have := hS2h.out; have := hmh.out; omega
                case rel =>
                  have e := hgo.out
                  unfold spN at e
                  rw [hnilh.out, Int.toNat_natCast] at e
                  simp only [todoF, List.filter_nil, List.append_nil] at e
                  exact ⟨todo.take m, bs.set p true, hos, hAs, ⟨e, hSth.out, by rw [hmlh.out]; have := hS2h.out; have := hmh.out; have := hun.out; omega, by have := hS3h.out; omega⟩, hBs⟩
              | some ad =>
                have hnews := (hu.news hss).2
                have hsp := Lib.hid (show spN f but p = todoF but (nxB f p) from rfl)
                have hnxi := Lib.hid (hnx.out p)
                clear hu
                generalize nxB f p = ns at *
                go_wp2_with (at_builtin; refine wpL_appI rfl _ _ rfl (w.heap.size + 1) _ (todo.take m) ns rfl hos ad _ cu rfl rfl hnews (by rw [hmlh.out]; omega) (by omega) ?_; intro v4 w4 hown4 hg4 _)
                go_roundg (gk - 1)
                case measure => have := hS2h.out; have := hmh.out; omega
                case rel =>
                  have e := hgo.out
                  rw [hsp.out, Int.toNat_natCast, ← todoF_app] at e
                  refine ⟨todo.take m ++ ns, bs.set p true, hown4, hAs.of_block (hg4.block _ hAs.lt (fun hk => ?_)), ⟨e, ?_, by rw [List.length_append, hmlh.out]; have := hS2h.out; have := hmh.out; have := hun.out; omega, by have := hS3h.out; omega⟩, hBs.grown hg4 hBs.size (fun k hk => by have := (hos.lt hk).1; omega)⟩
                  · have := (hos.lt hk.symm).1
                    omega
                  · intro x hx
                    rcases List.mem_append.1 hx with hx | hx
                    · exact hSth.out x hx
                    · exact hnxi.out x hx
            · have hbb2 := Lib.hid hb
              rw [hb] at hac
              clear hb
              go_wp2
              go_roundg (gk - 1)
              case measure => have := hS2h.out; have := hmh.out; omega
              case rel => exact ⟨todo.take m, bs, hcut, hA, ⟨hbh.out.skip (by simpa using hbb2.out), hSth.out, by rw [hmlh.out]; have := hS2h.out; have := hmh.out; omega, by have := hS3h.out; omega⟩, hB⟩
        · obtain ⟨A, cap, rfl, -⟩ := hown.len_form
          have hnil : todo = [] := List.eq_nil_of_length_eq_zero (by omega)
          subst hnil
          have hlt' : ¬ (0 : Int) < ((([] : List Int).length : Nat) : Int) := by simp
          go_wp2
          go_ret
          obtain ⟨hS1, _, _⟩ := hS.out
          refine ⟨⟨_, bs, rfl, Nat.le_refl _, hA, hS1.len, fun j hj => ?_⟩, hB⟩
          rw [← spread_iff hlEh.out]
          exact hS1.done (fun x hx => hm1 x (List.mem_filter.1 hx).1) (fun j hj y hy => hnx.out j y (List.mem_filter.1 hy).1) j hj
end Go.Proofs.YtififjlgjmgikaaGreat
namespace Go.Proofs.YtififjlgjmgikaaGreat
set_option linter.all false
open Go.RowKit

/-- All blocks other than b that dominate b dominate a. -/
noncomputable def nearB (f : FlowD) (a b : Nat) : Bool := (List.range f.blocks.length).all fun x => !(decide (x ≠ b) && domB f x b && !domB f x a)
set_option maxHeartbeats 4000000 in
set_option maxRecDepth 100000 in
theorem r19_nearest (H : PH) (bg : Nat) (L E R u : Value) (f : FlowD) (a b : Nat) (w : World) (hw : Sees w H) (hg : GrB H bg L E R f) (hd : SlV (rSl rBool) H u (domL f)) (ha : a < f.blocks.length) (hb : b < f.blocks.length) :
    Calls Tryz.prog 87 #[.pointer (some ⟨bg, 0, none⟩), u, .int .i64 a, .int .i64 b] w fun e w' => e = .returned (.bool (nearB f a b)) ∧ w = w' := by
  obtain ⟨s0, s1, s2, s3, s4, s5, s6, hbk⟩ := hg.blk
  have hle := hg.le
  obtain ⟨AL, cL, rfl, -, -⟩ := hg.blocks.open_
  have q0 := (box10 (hw _ _ hbk)).2.2.2.2.2.2.2.1
  have lb := hw.lt hbk
  obtain ⟨Ad, cd, rfl, -, -⟩ := hd.open_
  have hll : (domL f).length = f.blocks.length := by simp [domL]
  rw [hll] at hd ⊢
  have hS := Lib.hid (show nearB f a b = (List.range f.blocks.length).all fun x => !(decide (x ≠ b) && domB f x b && !domB f x a) from rfl)
  generalize nearB f a b = B at *
  have hdc := Lib.hid (fun (x y : Nat) (hx : x < f.blocks.length) (hy : y < f.blocks.length) => dom_cells hd hx hy rfl)
  have ha' : (a : Int) < f.blocks.length := by omega
  have hb' : (b : Int) < f.blocks.length := by omega
  have ha0 : (0 : Int) ≤ a := by omega
  have hb0 : (0 : Int) ≤ b := by omega
  clear hg hbk hd hll
  go_enter Tryz.func87, Tryz.ntmps87
  go_wp2
  go_loop [9] (fun i => ∃ k : Nat, k ≤ f.blocks.length ∧ i = .int .i64 k ∧ Aside (∀ x, x < k → (decide (x ≠ b) && domB f x b && !domB f x a) = false)) (fun i => f.blocks.length - (intOf i).toNat)
  case atStart => exact ⟨0, Nat.zero_le _, rfl, fun j h => by omega⟩
  case round =>
    obtain ⟨k, hk, rfl, hno⟩ := hrel
    have hnoh := Lib.hid hno
    clear hno
    by_cases hlt : k < f.blocks.length
    · have hlt' : (k : Int) < f.blocks.length := by omega
      have hk0 : (0 : Int) ≤ k := by omega
      obtain ⟨g1, o1, bb1, bo1, cc1, hA1, -, hc1⟩ := hdc.out k b hlt hb
      obtain ⟨g2, o2, bb2, bo2, cc2, hA2, -, hc2⟩ := hdc.out k a hlt ha
      cases hA1
      cases hA2
      obtain ⟨p1, p2, l1, l2⟩ := hc1 w hw
      obtain ⟨p3, p4, l3, l4⟩ := hc2 w hw
      have e := p1.symm.trans p3
      injection e with e
      cases e
      clear hc1 hc2 p3 l3 l4
      by_cases hkb : k = b
      · have hne : ((k : Int) != (b : Int)) = false := by simp [hkb]
        have hst := Lib.hid (show (decide (k ≠ b) && domB f k b && !domB f k a) = false by simp [hkb])
        have hkbh := Lib.hid hkb
        clear hkb
        go_wp2
        go_round
        case rel =>
          refine ⟨k + 1, by omega, by go_num, fun j hj => ?_⟩
          by_cases e : j = k
          · subst e; exact hst.out
          · exact hnoh.out j (by omega)
        case measure => simp [intOf]; omega
      · have hne : ((k : Int) != (b : Int)) = true := by simp; omega
        have hkbh := Lib.hid hkb
        clear hkb
        obtain ⟨x1, hx1⟩ : ∃ x, domB f k b = x := ⟨_, rfl⟩
        obtain ⟨x2, hx2⟩ : ∃ x, domB f k a = x := ⟨_, rfl⟩
        rw [hx1] at p2
        rw [hx2] at p4
        have hx1h := Lib.hid hx1
        have hx2h := Lib.hid hx2
        clear hx1 hx2
        cases x1 <;> cases x2
        case true.false =>
          have hb2 := Lib.hid (show B = false by
            rw [hS.out]
            refine Bool.eq_false_iff.2 fun h => ?_
            have := List.all_eq_true.1 h k (List.mem_range.2 hlt)
            rw [hx1h.out, hx2h.out] at this
            simp at this
            exact hkbh.out this)
          go_wp2
          go_ret
          exact ⟨ret_bool hb2.out.symm, rfl⟩
        all_goals
          have hst := Lib.hid (show (decide (k ≠ b) && domB f k b && !domB f k a) = false by rw [hx1h.out, hx2h.out]; simp)
          go_wp2
          go_round
        all_goals first
          | (case measure => simp [intOf]; omega)
          | skip
        all_goals
          refine ⟨k + 1, by omega, by go_num, fun j hj => ?_⟩
          by_cases e : j = k
          · subst e; exact hst.out
          · exact hnoh.out j (by omega)
    · obtain rfl : k = f.blocks.length := by omega
      have hltn : ¬ (f.blocks.length : Int) < f.blocks.length := by omega
      have hb2 := Lib.hid (show B = true by
        rw [hS.out, List.all_eq_true]
        intro x hx
        rw [hnoh.out x (List.mem_range.1 hx)]; rfl)
      clear hlt
      go_wp2
      go_ret
      exact ⟨ret_bool hb2.out.symm, rfl⟩
end Go.Proofs.YtififjlgjmgikaaGreat
namespace Go.Proofs.YtififjlgjmgikaaGreat
set_option linter.all false
open Go.RowKit

/-- The marks of what is reached are right. -/
def ReachOk (f : FlowD) : Prop := ∀ i : Nat, i < f.blocks.length → (f.reached.getD i false = true ↔ RA f (fun _ => False) i)
theorem reachOk {c : CodeD} (hf : fineB c = true) : ReachOk (theFlow c) := fun _ hi => reached_iff hf hi
theorem dom_left {f : FlowD} (h : ReachOk f) {a b : Nat} {l : Bool} (ha : a < f.blocks.length) (hb : b < f.blocks.length) (hr : f.reached.getD b false = true) (hl : l = true ↔ RA f (· = (a : Int)) b) : (!l) = domB f a b := by
  unfold domB
  rw [hr, Bool.true_and]
  have hrb := (h b hb).1 hr
  rw [Bool.eq_iff_iff, Bool.and_eq_true, Bool.not_eq_true', Bool.not_eq_true', decide_eq_false_iff_not, around_iff, h a ha]
  constructor
  · intro e
    have hn : ¬ RA f (· = (a : Int)) b := fun k => by have := hl.2 k; rw [e] at this; cases this
    exact ⟨DomP.reached (f := f) (x := (a : Int)) (z := (b : Int)) ⟨hrb, hn⟩, hn⟩
  · rintro ⟨_, hn⟩
    cases l
    · rfl
    · exact absurd (hl.1 rfl) hn
set_option maxHeartbeats 4000000 in
set_option maxRecDepth 100000 in
theorem r19_Doms (H : PH) (bg : Nat) (L E R : Value) (f : FlowD) (w : World) (hw : Sees w H) (hg : GrB H bg L E R f) (hok : ReachOk f) :
    Calls Tryz.prog 81 #[.pointer (some ⟨bg, 0, none⟩)] w fun e w' => SlResB (rSl rBool) H w w' (domL f) e ∧ Below w.heap.size w w' := by
  have hg0 := hg
  obtain ⟨s0, s1, s2, s3, s4, s5, s6, hb⟩ := hg.blk
  have hle := hg.le
  have hlR := hg.lenR
  have hRe := hg.reached
  obtain ⟨AL, cL, rfl, -, -⟩ := hg.blocks.open_
  obtain ⟨AR, cR, rfl, -, -⟩ := hRe.open_
  have hmk := mk_bools f.blocks.length (by omega)
  have hSp := Lib.hid (fun (w1 : World) (hs : Sees w1 H) (a : Int) => r19_spread H bg _ _ _ f a w1 hs hg0)
  have hbx := hw bg _ hb
  have hbgn : H bg ≠ none := by rw [hb]; simp
  have hlRh := Lib.hid hlR
  have hokh := Lib.hid hok
  rw [hlR] at hbx
  clear hg hb hg0 hlR hok
  go_enter Tryz.func81, Tryz.ntmps81
  go_wp2
  refine wp_name fun w0 hw0 => ?_
  obtain rfl := hw0.symm
  go_loopw [3, 4] (fun o i wr => ∃ k : Nat, k ≤ f.blocks.length ∧ i = .int .i64 k ∧ OwnL (rSl rBool) 63 H w wr o ((List.range k).map fun a => (List.range f.blocks.length).map fun b => domB f a b) ∧ Below w.heap.size w wr) (fun _ i _ => f.blocks.length - (intOf i).toNat)
  case atStart => exact ⟨0, Nat.zero_le _, rfl, OwnL.nil _ _ _ _ _, Below.refl _ _⟩
  case round =>
    obtain ⟨k, hk, rfl, hown, hB⟩ := hrel
    have hbr := blk_keep hB hbx
    have hsee := hw.below hB
    have q := box10 hbr
    have hbl := (Array.getElem?_eq_some_iff.1 hbr).1
    by_cases hlt : k < f.blocks.length
    · have hlt' : (k : Int) < f.blocks.length := by omega
      have hSk := hSp.out _ hsee (k : Int)
      go_upto_region 6 with (go_at_call 55; refine hSk.mono ?_; rintro e w1 ⟨⟨gL, bsL, rfl, hgL, hAL, hMk⟩, hB1⟩; dsimp only; have hbx1 := blk_keep hB1 hbr)
      clear q hbl hSk
      have q := box10 hbx1
      have hbl := (Array.getElem?_eq_some_iff.1 hbx1).1
      go_upto_region 7 with fail
      refine wp_name fun W hW => ?_
      have hBn : Below w1.heap.size w1 W := by rw [hW]; exact (Below.refl _ _).alloc (Nat.le_refl _) _
      have hAr : ArrB W w1.heap.size (List.replicate f.blocks.length false) := by rw [hW]; exact ArrB.new w1 f.blocks.length
      have hzW : W.heap.size = w1.heap.size + 1 := by rw [hW]; simp
      have hBW : Below wr.heap.size wr W := bstep hB1 hBn
      have hsW := hsee.below hBW
      have hxW := blk_keep hBn hbx1
      have hAW := hAL.of_block (hBn.block _ hAL.lt)
      have hgLl := hAL.lt
      have hgw := hB1.size
      have hHg : H w1.heap.size = none := (hsee.below hB1).fresh (Nat.le_refl _)
      clear hW q hbl hbx1 hBn hB1 hAL hbr hsee
      go_wp2_with fail
      obtain ⟨wo, rfl⟩ : ∃ wo : World, wo = wr := ⟨_, rfl⟩
      go_loopw [7] (fun i wr => ∃ (b : Nat) (bs : List Bool), b ≤ f.blocks.length ∧ i = .int .i64 b ∧ ArrB wr w1.heap.size bs ∧ Aside (bs.length = f.blocks.length ∧ ∀ j, j < f.blocks.length → bs.getD j false = if j < b then domB f k j else false) ∧ W.grownBy wr (some w1.heap.size)) (fun i _ => f.blocks.length - (intOf i).toNat)
      case atStart => exact ⟨0, _, Nat.zero_le _, rfl, hAr, ⟨by simp, fun j hj => by simp [hj]⟩, grown_refl _ _⟩
      clear hAr
      case round =>
        obtain ⟨b, bs, hb, rfl, hAr, hbs, hg⟩ := hrel
        have hsr := hsW.grown hg hHg
        have hbr := (hg.block bg (by have := hsW.lt' hbgn; omega) (fun e => by injection e with e; rw [e] at hbgn; exact hbgn hHg)).trans hxW
        have q := box10 hbr
        have hbl := (Array.getElem?_eq_some_iff.1 hbr).1
        have hALr := hAW.of_block (hg.block gL hAW.lt (fun e => by injection e with e; omega))
        have hbsh := Lib.hid hbs
        have hbl4 := hbs.1
        clear hbs
        by_cases hlb : b < f.blocks.length
        · have hlb' : (b : Int) < f.blocks.length := by omega
          have hac := hAr.cell (j := b) (by omega)
          have haf := hAr.free b
          have hall := hAr.lt
          obtain ⟨rb, ro, rc, hve, -, hrb, hrcell⟩ := hRe.bools (by have := hlRh.out; omega)
          rw [hlRh.out] at hve
          cases hve
          have hcr := hrcell wr hsr b (by rw [hlRh.out]; exact hlb)
          have hrl := hsr.lt' hrb
          have hcl := hALr.cell (j := b) (by have := hMk.len; omega)
          have hcll := hALr.lt
          have hkey := Lib.hid (hMk.iff_ b hlb)
          clear hrcell
          generalize hlv : bsL.getD b false = lv at *
          clear hlv
          cases hrbv : f.reached.getD b false
          · rw [hrbv] at hcr
            have hd := Lib.hid (show false = domB f k b by unfold domB; rw [hrbv]; simp)
            clear hrbv
            go_wp2
            go_roundw
            case rel => exact ⟨b + 1, bs.set b false, by omega, by go_num, hAr.set b false, row_step hbsh.out hlb hd.out, grown_set hg⟩
            case measure => simp [intOf]; omega
          · rw [hrbv] at hcr
            have hd := Lib.hid (dom_left hokh.out hlt hlb hrbv hkey.out)
            clear hrbv
            go_wp2
            go_roundw
            case rel => exact ⟨b + 1, bs.set b (!lv), by omega, by go_num, hAr.set b (!lv), row_step hbsh.out hlb hd.out, grown_set hg⟩
            case measure => simp [intOf]; omega
        · obtain rfl : b = f.blocks.length := by omega
          have hltn : ¬ (f.blocks.length : Int) < f.blocks.length := by omega
          have hBr : Below wo.heap.size wo wr := hBW.grown hg hBW.size (fun j hj => by injection hj with hj; omega)
          have hrow : bs = (List.range f.blocks.length).map fun b => domB f k b := by
            apply List.ext_getElem?
            intro j
            by_cases hj : j < f.blocks.length
            · have h5 := hbsh.out.2 j hj
              rw [if_pos hj, List.getD_eq_getElem?_getD, List.getElem?_eq_getElem (by rw [hbl4]; exact hj)] at h5
              rw [List.getElem?_eq_getElem (by rw [hbl4]; exact hj), List.getElem?_map, List.getElem?_range hj]
              exact congrArg some h5
            · rw [List.getElem?_eq_none (by rw [hbl4]; omega), List.getElem?_eq_none (by simp; omega)]
          have hrowh := Lib.hid hrow
          have hgr : w1.heap.size < wr.heap.size := hAr.lt
          clear hrow hlb
          go_wp2_with (at_builtin; go_loud (refine wpL_appL (rSl rBool) 117 63 (.slice none 0 0) 24 Tryz.underlying117 infoBl rfl (by decide) (by decide) rfl _ _ rfl _ _ rfl ((hown.below hBr).below ((Below.refl _ _).alloc (Nat.le_refl _) _)) wr.heap.size 1 [.slice (some ⟨w1.heap.size, 0, none⟩) f.blocks.length f.blocks.length] rfl ?hcell ?hone bs ?hR ?hlen ?hbase ?_); (case hcell => exact fun j u hj => by (have hj1 := (List.getElem?_eq_some_iff.1 hj).1; obtain rfl : j = 0 := (by simpa using hj1); cases hj; exact cell_one_new' _ _ _)); (case hone => exact fun u hu => by (simp at hu; subst hu; rfl)); (case hR => exact brow_read hAr (fun j hj => (hown.lt hj).2) (by omega) hB.size hbl4.symm (by unfold maxN; omega)); (case hlen => simp; omega); (case hbase => have := hB.size; simp; omega); intro v2 w2 hown2 hg2 _)
          go_roundw
          case rel =>
            refine ⟨k + 1, by omega, by go_num, ?_, ?_⟩
            · rw [List.range_succ, List.map_append]
              rw [show ([k] : List Nat).map (fun a => (List.range f.blocks.length).map fun b => domB f a b) = [(List.range f.blocks.length).map fun b => domB f k b] from rfl]
              rw [← hrowh.out]
              exact hown2
            · have := hB.size
              exact ((bstep hB hBr).alloc (by omega) _).grown hg2 (by simp; omega) fun j hj => (hown.lt hj).1
          case measure => simp [intOf]; omega
    · obtain rfl : k = f.blocks.length := by omega
      have hltn : ¬ (f.blocks.length : Int) < f.blocks.length := by omega
      go_wp2
      go_ret
      exact ⟨⟨_, rfl, hown.read (by simp [maxN]; omega)⟩, hB⟩
end Go.Proofs.YtififjlgjmgikaaGreat
namespace Go.Proofs.YtififjlgjmgikaaGreat
set_option linter.all false
open Go.RowKit

theorem mk_ints' (n : Nat) (hn : n ≤ 17592186044416) (w : World) : (Instr.makeSlice 28 (.int .i64 n) (.int .i64 n)).run Tryz.prog w =
    .ok (.slice (some ⟨w.heap.size, 0, none⟩) n n) (w.alloc (.cells (Array.replicate n (.int .i64 0)) 3)) := by
  obtain ⟨i0, hi, hz0, hz1, hz2⟩ := info_parts infoInt
  have h := run_make (P := Tryz.prog) w 28 3 i0 (.int .i64 0) Tryz.underlying28 hi hz0 .i64 .i64 n n (by omega) (by omega) (by rw [hz2]; omega) (by omega)
  have e : madeCells (Value.int .i64 0).cells (n * 1) = Array.replicate n (.int .i64 0) := by
    apply Array.ext
    · simp [madeCells]
    · intro j h1 h2
      have h3 : j % 1 = 0 := by omega
      simp [madeCells, Value.cells, h3]
  rw [hz1, Int.toNat_natCast, e] at h
  exact h
/-- A new row of zeroes is the walk's own. -/
theorem OwnI.zeros (w : World) (n : Nat) (hn : n ≤ 1000000) : OwnI (w.alloc (.cells (Array.replicate n (.int .i64 0)) 3)) w.heap.size (.slice (some ⟨w.heap.size, 0, none⟩) n n) (List.replicate n 0) := by
  refine ⟨by simp [ints], .inr ⟨w.heap.size, n, Array.replicate n (.int .i64 0), by simp, Nat.le_refl _, ga_new _ _, by simp, by simp [maxLen]; omega, by simp, by simp [ints]⟩⟩
theorem near_iff {c : CodeD} (hf : fineB c = true) {a b : Nat} (ha : a < (theFlow c).blocks.length) (hb : b < (theFlow c).blocks.length) :
    nearB (theFlow c) a b = true ↔ ∀ x : Int, x ≠ b → DomP (theFlow c) x b → DomP (theFlow c) x a := by
  unfold nearB
  rw [List.all_eq_true]
  constructor
  · intro h x hx hd
    obtain ⟨⟨k, rfl, hk⟩, _⟩ := dom_in hf hd
    have h1 := h k (List.mem_range.2 hk)
    rw [(domB_iff hf hk hb).2 hd, decide_eq_true (show k ≠ b by omega)] at h1
    exact (domB_iff hf hk ha).1 (by simpa using h1)
  · intro h x hx
    have hx := List.mem_range.1 hx
    by_cases e : x = b
    · simp [e]
    · cases hd : domB (theFlow c) x b
      · simp
      · rw [(domB_iff hf hx ha).2 (h x (by omega) ((domB_iff hf hx hb).1 hd))]
        simp
theorem idom_iff {c : CodeD} (hf : fineB c = true) {a b : Nat} (ha : a < (theFlow c).blocks.length) (hb : b < (theFlow c).blocks.length) :
    IdomP (theFlow c) a b ↔ a ≠ b ∧ domB (theFlow c) a b = true ∧ nearB (theFlow c) a b = true := by
  unfold IdomP
  rw [near_iff hf ha hb, domB_iff hf ha hb]
  exact and_congr ⟨fun h => by omega, fun h => by omega⟩ Iff.rfl
/-- Behind m rounds of the inner loop. -/
def IdI (f : FlowD) (b m : Nat) (init v : Int) : Prop := (v = init ∧ ∀ a : Nat, a < m → ¬ IdomP f a b) ∨ ∃ a : Nat, a < m ∧ v = (a : Int) ∧ IdomP f a b
theorem IdI.skip {f : FlowD} {b m : Nat} {init v : Int} (h : IdI f b m init v) (hn : ¬ IdomP f m b) : IdI f b (m + 1) init v := by
  rcases h with ⟨h1, h2⟩ | ⟨a, h1, h2, h3⟩
  · exact .inl ⟨h1, fun a ha => (by
      by_cases e : a = m
      · subst e; exact hn
      · exact h2 a (by omega))⟩
  · exact .inr ⟨a, by omega, h2, h3⟩
theorem IdI.done {c : CodeD} (hf : fineB c = true) {b : Nat} {v : Int} (hb : b < (theFlow c).blocks.length) (h : IdI (theFlow c) b (theFlow c).blocks.length (if (theFlow c).reached.getD b false = true then -1 else -2) v) : v = idomB (theFlow c) b := by
  rcases idom_spec hf hb with ⟨hr, e⟩ | ⟨hr, e, hn⟩ | ⟨hr, m, e, hm, hd⟩
  · rw [e]
    rcases h with ⟨h1, _⟩ | ⟨a, h1, h2, h3⟩
    · rw [h1, hr]; rfl
    · have := (reached_iff hf hb).2 h3.2.1.1
      rw [hr] at this; cases this
  · rw [e]
    rcases h with ⟨h1, _⟩ | ⟨a, h1, h2, h3⟩
    · rw [h1, hr]; rfl
    · exact absurd h3.2.1 (hn _ h3.1)
  · rw [e]
    rcases h with ⟨_, h2⟩ | ⟨a, h1, h2, h3⟩
    · exact absurd hd (h2 m hm)
    · rw [h2]; exact h3.uniq hd
set_option maxHeartbeats 4000000 in
set_option maxRecDepth 100000 in
theorem r19_idoms (H : PH) (bg : Nat) (L E R : Value) (c : CodeD) (w : World) (hw : Sees w H) (hf : fineB c = true) (hg : GrB H bg L E R (theFlow c)) :
    Calls Tryz.prog 45 #[.pointer (some ⟨bg, 0, none⟩)] w fun e w' => OwnRet w.heap.size w' (idomL (theFlow c)) e ∧ Below w.heap.size w w' := by
  have hD := r19_Doms H bg L E R (theFlow c) w hw hg (reachOk hf)
  have hIf := Lib.hid (fun (a b : Nat) (ha : a < (theFlow c).blocks.length) (hb : b < (theFlow c).blocks.length) => idom_iff hf ha hb)
  have hdn := Lib.hid (fun (b : Nat) (v : Int) (hb : b < (theFlow c).blocks.length) (h : IdI (theFlow c) b (theFlow c).blocks.length (if (theFlow c).reached.getD b false = true then -1 else -2) v) => h.done hf hb)
  have hLq := Lib.hid (fun (b : Nat) (hb : b < (theFlow c).blocks.length) => idomL_at (theFlow c) hb)
  have hLl : (idomL (theFlow c)).length = (theFlow c).blocks.length := by simp [idomL]
  clear hf
  generalize theFlow c = f at *
  have hg0 := hg
  obtain ⟨s0, s1, s2, s3, s4, s5, s6, hb⟩ := hg.blk
  have hle := hg.le
  have hlR := hg.lenR
  have hRe := hg.reached
  obtain ⟨AL, cL, rfl, -, -⟩ := hg.blocks.open_
  obtain ⟨AR, cR, rfl, -, -⟩ := hRe.open_
  have hmk := mk_ints' f.blocks.length (by omega)
  have hbx := hw bg _ hb
  have hlRh := Lib.hid hlR
  rw [hlR] at hbx
  have hLlh := Lib.hid hLl
  have hbgl := hw.lt hb
  clear hg hb hlR hLl
  generalize idomL f = RES at *
  go_enter Tryz.func45, Tryz.ntmps45
  have q := box10 hbx
  have hbl := (Array.getElem?_eq_some_iff.1 hbx).1
  go_upto_region 2 with (go_at_call 81; refine hD.mono ?_; rintro e w1 ⟨⟨ud, rfl, hud⟩, hB1⟩; dsimp only; have hx1 := blk_keep hB1 hbx)
  clear q hbl hD
  have hs1 := hw.below hB1
  have hK1 := extH.sees hw hB1
  have hKle := extH.le hw w1
  have q := box10 hx1
  have hbl := (Array.getElem?_eq_some_iff.1 hx1).1
  go_upto_region 3 with fail
  refine wp_name fun W hW => ?_
  have hBn : Below w1.heap.size w1 W := by rw [hW]; exact (Below.refl _ _).alloc (Nat.le_refl _) _
  have hown0 : OwnI W w1.heap.size (.slice (some ⟨w1.heap.size, 0, none⟩) f.blocks.length f.blocks.length) (List.replicate f.blocks.length 0) := by rw [hW]; exact OwnI.zeros _ _ (by omega)
  have hzW : W.heap.size = w1.heap.size + 1 := by rw [hW]; simp
  have hBW : Below w.heap.size w W := bstep hB1 hBn
  have hxW := blk_keep hBn hx1
  have hKW := hK1.below hBn
  have hgw := hB1.size
  clear hW q hbl hx1 hBn hs1 hbx
  obtain ⟨hud0, hudh⟩ := And.intro hud (Lib.hid hud)
  obtain ⟨Ad, cd, rfl, -, -⟩ := hud0.open_
  have hll : (domL f).length = f.blocks.length := by simp [domL]
  rw [hll] at hudh ⊢
  have hdc := Lib.hid (fun (x y : Nat) (hx : x < f.blocks.length) (hy : y < f.blocks.length) => dom_cells hudh.out hx hy rfl)
  have hNr := Lib.hid (fun (a b : Nat) (ha : a < f.blocks.length) (hb : b < f.blocks.length) (w2 : World) (hs : Sees w2 (extH H w w1)) => r19_nearest _ bg _ _ _ _ f a b w2 hs (hg0.mono hKle) hudh.out ha hb)
  have hgb := hg0.blk
  have hKg : extH H w w1 w1.heap.size = none := hK1.fresh (Nat.le_refl _)
  clear hud hud0 hll hK1 hg0 hgb
  go_wp2_with fail
  have hA0 : w.heap.size ≤ w1.heap.size := hgw
  go_loopw [5] (fun i wr => ∃ (k : Nat) (xs : List Int), k ≤ f.blocks.length ∧ i = .int .i64 k ∧ OwnI wr w1.heap.size (.slice (some ⟨w1.heap.size, 0, none⟩) f.blocks.length f.blocks.length) xs ∧ Aside (xs.length = f.blocks.length ∧ ∀ b, b < k → xs.getD b 0 = idomB f b) ∧ W.grownBy wr (some w1.heap.size)) (fun i _ => f.blocks.length - (intOf i).toNat)
  case atStart => exact ⟨0, _, Nat.zero_le _, rfl, hown0, ⟨by simp, fun b hb => by omega⟩, grown_refl _ _⟩
  clear hown0
  case round =>
    obtain ⟨k, xs, hk, rfl, hown, hxs, hg⟩ := hrel
    obtain ⟨hxl, hxv⟩ := hxs
    have hxvh := Lib.hid hxv
    clear hxv
    have hKr := hKW.grown hg hKg
    have hbr := (hg.block bg (Array.getElem?_eq_some_iff.1 hxW).1 (fun e => by injection e with e; omega)).trans hxW
    have q := box10 hbr
    have hbl := (Array.getElem?_eq_some_iff.1 hbr).1
    by_cases hlt : k < f.blocks.length
    · have hlt' : (k : Int) < f.blocks.length := by omega
      have hk0 : (0 : Int) ≤ k := by omega
      have hac := hown.cellk (j := k) (by omega)
      have haf := hown.free k
      have hgl := (hown.lt (k := w1.heap.size) rfl).2
      go_upto_region 7 with fail
      refine wp_name fun wa hwa => ?_
      have howna : OwnI wa w1.heap.size (.slice (some ⟨w1.heap.size, 0, none⟩) f.blocks.length f.blocks.length) (xs.set k (-2)) := by rw [hwa]; exact hown.setN hxl hlt _
      have hga : W.grownBy wa (some w1.heap.size) := by rw [hwa]; exact grown_set hg
      clear hwa hac haf hgl q hbl hbr hKr hown hg
      have hKr := hKW.grown hga hKg
      have hbr := (hga.block bg (Array.getElem?_eq_some_iff.1 hxW).1 (fun e => by injection e with e; omega)).trans hxW
      have q := box10 hbr
      have hbl := (Array.getElem?_eq_some_iff.1 hbr).1
      have hac := howna.cellk (j := k) (by simp; omega)
      have haf := howna.free k
      have hgl := (howna.lt (k := w1.heap.size) rfl).2
      obtain ⟨rb, ro, rc, hve, -, hrb, hrcell⟩ := hRe.bools (by have := hlRh.out; omega)
      rw [hlRh.out] at hve
      cases hve
      have hsr : Sees wa H := fun i o e => hKr i o (hKle i o e)
      have hcr := hrcell wa hsr k (by rw [hlRh.out]; exact hlt)
      have hrl := hsr.lt' hrb
      clear hrcell
      cases hr : f.reached.getD k false
      all_goals
        rw [hr] at hcr
        go_upto_region 9 with fail
        refine wp_name fun wb hwb => ?_
        obtain ⟨init, hinit⟩ : ∃ init : Int, init = (if f.reached.getD k false = true then -1 else -2) := ⟨_, rfl⟩
        have hownb : OwnI wb w1.heap.size (.slice (some ⟨w1.heap.size, 0, none⟩) f.blocks.length f.blocks.length) (xs.set k init) := by
          first
            | (rw [hwb, hinit, hr]; simpa using howna)
            | (rw [hwb, hinit, hr]; have h9 := howna.setN (by simp [hxl]) hlt (-1); simpa [List.set_set] using h9)
        have hgb : W.grownBy wb (some w1.heap.size) := by
          first
            | (rw [hwb]; exact hga)
            | (rw [hwb]; exact grown_set hga)
        have hinith := Lib.hid hinit
        clear hwb howna hga hac haf hgl q hbl hbr hKr hsr hcr hrl hr hinit
        go_wp2_with fail
        obtain ⟨wo, rfl⟩ : ∃ wo : World, wo = wr := ⟨_, rfl⟩
        go_loopw [6] (fun i wr => ∃ (m : Nat) (v : Int), m ≤ f.blocks.length ∧ i = .int .i64 m ∧ OwnI wr w1.heap.size (.slice (some ⟨w1.heap.size, 0, none⟩) f.blocks.length f.blocks.length) (xs.set k v) ∧ Aside (IdI f k m init v) ∧ W.grownBy wr (some w1.heap.size)) (fun i _ => f.blocks.length - (intOf i).toNat)
        case atStart => exact ⟨0, init, Nat.zero_le _, rfl, hownb, .inl ⟨rfl, fun a ha => by omega⟩, hgb⟩
        clear hownb hgb
        case round =>
          obtain ⟨m, v, hm, rfl, hown, hI, hg⟩ := hrel
          have hIh := Lib.hid hI
          clear hI
          have hKr := hKW.grown hg hKg
          have hbr := (hg.block bg (Array.getElem?_eq_some_iff.1 hxW).1 (fun e => by injection e with e; omega)).trans hxW
          have q := box10 hbr
          have hbl := (Array.getElem?_eq_some_iff.1 hbr).1
          by_cases hmt : m < f.blocks.length
          · have hmt' : (m : Int) < f.blocks.length := by omega
            have hm0 : (0 : Int) ≤ m := by omega
            have hif := Lib.hid (hIf.out m k hmt hlt)
            by_cases hmk2 : m = k
            · have hst := Lib.hid (hIh.out.skip (m := m) (fun h => h.1 (by rw [hmk2])))
              have hne : ((m : Int) != (k : Int)) = false := by simp [hmk2]
              have hne2 : (m != k) = false := by simp [hmk2]
              clear hmk2
              go_wp2
              go_roundw
              case rel => exact ⟨m + 1, v, by omega, by go_num, hown, hst.out, hg⟩
              case measure => simp [intOf]; omega
            · have hne : ((m : Int) != (k : Int)) = true := by simp; omega
              have hne2 : (m != k) = true := by simp; omega
              have hmkh := Lib.hid hmk2
              clear hmk2
              obtain ⟨g1, o1, bb1, bo1, cc1, hA1, -, hc1⟩ := hdc.out m k hmt hlt
              cases hA1
              obtain ⟨p1, p2, l1, l2⟩ := hc1 wr hKr
              clear hc1
              cases hdm : domB f m k
              · rw [hdm] at p2
                have hst := Lib.hid (hIh.out.skip (m := m) (fun h => by have := (hif.out.1 h).2.1; rw [hdm] at this; cases this))
                clear hdm
                go_wp2
                go_roundw
                case rel => exact ⟨m + 1, v, by omega, by go_num, hown, hst.out, hg⟩
                case measure => simp [intOf]; omega
              · rw [hdm] at p2
                have hN1 := hNr.out m k hmt hlt wr hKr
                cases hnb : nearB f m k
                · rw [hnb] at hN1
                  have hst := Lib.hid (hIh.out.skip (m := m) (fun h => by have := (hif.out.1 h).2.2; rw [hnb] at this; cases this))
                  clear hdm hnb
                  go_wp2_with (go_at_call 87; refine hN1.mono ?_; rintro e w3 ⟨rfl, rfl⟩)
                  go_roundw
                  case rel => exact ⟨m + 1, v, by omega, by go_num, hown, hst.out, hg⟩
                  case measure => simp [intOf]; omega
                · rw [hnb] at hN1
                  have hst := Lib.hid (show IdI f k (m + 1) init m from .inr ⟨m, by omega, rfl, hif.out.2 ⟨hmkh.out, hdm, hnb⟩⟩)
                  have hac := hown.cellk (j := k) (by simp; omega)
                  have haf := hown.free k
                  have hgl := (hown.lt (k := w1.heap.size) rfl).2
                  clear hdm hnb
                  go_wp2_with (go_at_call 87; refine hN1.mono ?_; rintro e w3 ⟨rfl, rfl⟩)
                  go_roundw
                  case rel => exact ⟨m + 1, m, by omega, by go_num, (by have h9 := hown.setN (by simp [hxl]) hlt (m : Int); simpa [List.set_set] using h9), hst.out, grown_set hg⟩
                  case measure => simp [intOf]; omega
          · obtain rfl : m = f.blocks.length := by omega
            have hltn : ¬ (f.blocks.length : Int) < f.blocks.length := by omega
            have hv := Lib.hid (hdn.out k v hlt (by rw [← hinith.out]; exact hIh.out))
            clear hmt
            go_wp2
            go_roundw
            case rel =>
              refine ⟨k + 1, xs.set k v, by omega, by go_num, hown, ⟨by simp [hxl], fun b hb => ?_⟩, hg⟩
              rw [List.getD_eq_getElem?_getD, List.getElem?_set]
              by_cases e : k = b
              · subst e
                rw [if_pos rfl, if_pos (by omega), Option.getD_some]
                exact hv.out
              · rw [if_neg e, ← List.getD_eq_getElem?_getD]
                exact hxvh.out b (by omega)
            case measure => simp [intOf]; omega
    · obtain rfl : k = f.blocks.length := by omega
      have hltn : ¬ (f.blocks.length : Int) < f.blocks.length := by omega
      have hres := Lib.hid (show xs = RES by
        refine List.ext_getElem (by rw [hxl, hLlh.out]) fun i h1 h2 => ?_
        have h3 := hxvh.out i (by omega)
        rw [← hLq.out i (by omega), List.getD_eq_getElem?_getD, List.getD_eq_getElem?_getD, List.getElem?_eq_getElem h1, List.getElem?_eq_getElem h2] at h3
        exact h3)
      have hBr : Below w.heap.size w wr := hBW.grown hg hBW.size (fun j hj => by injection hj with hj; omega)
      rw [hres.out] at hown
      have hownh := Lib.hid hown
      clear hlt hown
      go_wp2
      go_ret
      exact ⟨⟨_, rfl, hownh.out.lower hA0⟩, hBr⟩
end Go.Proofs.YtififjlgjmgikaaGreat
