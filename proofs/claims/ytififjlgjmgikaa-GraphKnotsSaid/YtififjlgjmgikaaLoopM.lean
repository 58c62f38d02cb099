/- Loops in plain Lean (no program): what the laws ask of them; the way by immediate dominators. -/
import Derived.Test.YtififjlgjmgikaaLoopA
import Derived.Test.YtififjlgjmgikaaIdomM
namespace Go.Proofs.Ytififjlgjmgikaa
set_option linter.all false
open Go.RowKit

theorem filter_lt {α : Type} {p q : α → Bool} : ∀ {l : List α} {y : α}, (∀ x ∈ l, p x = true → q x = true) → y ∈ l → q y = true → p y = false → (l.filter p).length < (l.filter q).length := by
  intro l
  induction l with
  | nil => intro y _ hy; cases hy
  | cons a l ih =>
    intro y h hy hq hp
    have hle : (l.filter p).length ≤ (l.filter q).length := by
      have key : ∀ l : List α, (∀ x ∈ l, p x = true → q x = true) → (l.filter p).length ≤ (l.filter q).length := by
        intro l
        induction l with
        | nil => intro _; simp
        | cons a l ih =>
          intro h
          have h1 := ih fun x hx => h x (List.mem_cons_of_mem _ hx)
          have h2 := h a List.mem_cons_self
          simp only [List.filter_cons]
          cases hpa : p a
          · cases hqa : q a
            · simpa using h1
            · simp; omega
          · rw [h2 hpa]; simpa using h1
      exact key l fun x hx => h x (List.mem_cons_of_mem _ hx)
    rcases List.mem_cons.1 hy with rfl | hy
    · rw [List.filter_cons, List.filter_cons, hq, hp]
      simp
      omega
    · have h1 := ih (fun x hx => h x (List.mem_cons_of_mem _ hx)) hy hq hp
      have h2 := h a List.mem_cons_self
      simp only [List.filter_cons]
      cases hpa : p a
      · cases hqa : q a
        · simpa using h1
        · simp; omega
      · rw [h2 hpa]; simpa using h1
section
variable {c : CodeD} (hf : fineB c = true)
include hf
theorem reached_dom {v : Int} (h0 : 0 ≤ v ∧ v < (theFlow c).blocks.length) : rchB (theFlow c) v = true ↔ RA (theFlow c) (fun _ => False) v := by
  obtain ⟨k, rfl⟩ : ∃ k : Nat, v = (k : Int) := ⟨v.toNat, by omega⟩
  have hk : k < (theFlow c).blocks.length := by omega
  exact reached_iff hf hk
theorem tail_spec {h t : Int} (ht : t ∈ tailsR (theFlow c) h) : (0 ≤ t ∧ t < (theFlow c).blocks.length) ∧ h ∈ nxB (theFlow c) t ∧ DomP (theFlow c) h t := by
  obtain ⟨h1, h2⟩ := headsR_mem.1 ht
  obtain ⟨h3, h4, h5⟩ := edgesR_all _ h1
  simp only at h3 h4 h5
  have hr : RA (theFlow c) (fun _ => False) t := (reached_dom hf h3).1 h4
  have hh := reach_in hf (hr.more h5 (fun k => k))
  obtain ⟨k, rfl, hk⟩ := hh
  obtain ⟨m, rfl⟩ : ∃ m : Nat, t = (m : Int) := ⟨t.toNat, by omega⟩
  refine ⟨h3, h5, (domB_iff hf hk (by omega)).1 ?_⟩
  exact h2
/-- A loop's head dominates its blocks. -/
theorem loop_dom {h : Int} {t0 : Int} (h0 : t0 ∈ tailsR (theFlow c) h) {y : Int} (hy : inLoop (theFlow c) h y) : DomP (theFlow c) h y := by
  have hd := (tail_spec hf h0).2.2.reached
  unfold inLoop at hy
  induction hy with
  | start hs =>
    rcases List.mem_cons.1 hs with rfl | ht
    · exact DomP.refl hd
    · exact (tail_spec hf ht).2.2
  | step hx hxy ih =>
    rename_i x y
    unfold loopNx at hxy
    split at hxy
    · cases hxy
    · rename_i hne
      obtain ⟨h1, h2⟩ := List.mem_filter.1 hxy
      obtain ⟨h3, h4⟩ := ahead_mem.1 h1
      refine ⟨(reached_dom hf h3).1 (by simpa using h2), fun k => ih.2 (k.more h4 hne)⟩
theorem loop_closed {h v w : Int} (hv : 0 ≤ v ∧ v < (theFlow c).blocks.length) (hr : rchB (theFlow c) v = true) (hw : w ∈ nxB (theFlow c) v) (hne : w ≠ h) (hl : inLoop (theFlow c) h w) : inLoop (theFlow c) h v := by
  refine Reach.step hl ?_
  unfold loopNx
  rw [if_neg hne]
  exact List.mem_filter.2 ⟨ahead_mem.2 ⟨hv, hw⟩, by simpa using hr⟩
/-- What holds of the head, and of each block that is followed by one of which it holds, holds of all. -/
theorem loop_leads {h : Int} {P : Int → Prop} (h0 : P h) (hs : ∀ b, inLoop (theFlow c) h b → (∃ z ∈ nxB (theFlow c) b, P z) → P b) {y : Int} (hy : inLoop (theFlow c) h y) : P y := by
  have hy0 := hy
  unfold inLoop at hy
  induction hy with
  | start h1 =>
    rcases List.mem_cons.1 h1 with rfl | ht
    · exact h0
    · exact hs _ hy0 ⟨h, (tail_spec hf ht).2.1, h0⟩
  | step hx hxy ih =>
    rename_i x y
    have hPx := ih hx
    unfold loopNx at hxy
    split at hxy
    · cases hxy
    · obtain ⟨h3, h4⟩ := ahead_mem.1 (List.mem_filter.1 hxy).1
      exact hs _ hy0 ⟨x, h4, hPx⟩
end
/-- The law's 'above'. -/
def aboveK (idom : List Int) (a : Int) : Nat → Int → Bool
  | 0, _ => false
  | m + 1, b => if b < 0 ∨ (idom.length : Int) ≤ b then false else if a = b then true else aboveK idom a m (idom.getD b.toNat 0)
open Classical in
noncomputable def domN (f : FlowD) (b : Int) : Nat := ((List.range f.blocks.length).filter fun (x : Nat) => decide (DomP f x b)).length
theorem above_iff {c : CodeD} (hf : fineB c = true) (a : Nat) : ∀ (k : Nat) (b : Nat), b < (theFlow c).blocks.length → (theFlow c).reached.getD b false = true → domN (theFlow c) b ≤ k → (aboveK (idomL (theFlow c)) a k b = true ↔ DomP (theFlow c) a b) := by
  have hlen : (idomL (theFlow c)).length = (theFlow c).blocks.length := by simp [idomL]
  intro k
  induction k with
  | zero =>
    intro b hb hr hk
    have h1 := DomP.refl ((reached_iff hf hb).1 hr)
    have h2 : 0 < domN (theFlow c) b := by
      unfold domN
      exact List.length_pos_of_mem (List.mem_filter.2 ⟨List.mem_range.2 hb, by simpa using h1⟩)
    omega
  | succ k ih =>
    intro b hb hr hk
    unfold aboveK
    rw [if_neg (by rw [hlen]; omega), Int.toNat_natCast, idomL_at _ hb]
    by_cases hab : (a : Int) = b
    · rw [if_pos hab]
      have : a = b := by omega
      subst this
      simp only [true_iff]
      exact DomP.refl ((reached_iff hf hb).1 hr)
    · rw [if_neg hab]
      rcases idom_spec hf hb with ⟨h1, _⟩ | ⟨_, h2, h3⟩ | ⟨_, m, h2, h3, h4⟩
      · rw [h1] at hr; cases hr
      · rw [h2]
        have hno := h3 a hab
        constructor
        · intro h
          cases k with
          | zero => simp [aboveK] at h
          | succ k => simp [aboveK] at h
        · intro h; exact absurd h hno
      · rw [h2]
        have hmr := (reached_iff hf h3).2 h4.2.1.reached
        have hlt : domN (theFlow c) m < domN (theFlow c) b := by
          unfold domN
          refine filter_lt (y := b) (fun x hx hp => ?_) (List.mem_range.2 hb) (by simpa using DomP.refl ((reached_iff hf hb).1 hr)) ?_
          · simp only [decide_eq_true_eq] at hp ⊢
            exact hp.trans h4.2.1
          · simp only [decide_eq_false_iff_not]
            intro hbm
            exact h4.1 (h4.2.1.antisym hbm)
        rw [ih m h3 hmr (by omega)]
        exact ⟨fun h => h.trans h4.2.1, fun h => h4.2.2 a hab h⟩
theorem domN_le (f : FlowD) (b : Int) : domN f b ≤ f.blocks.length := by
  unfold domN
  refine Nat.le_trans (List.length_filter_le _ _) (by simp)
/-- Which block is met on the way by immediate dominators. -/
theorem above_dom {c : CodeD} (hf : fineB c = true) {a b : Nat} (hb : b < (theFlow c).blocks.length) (hr : (theFlow c).reached.getD b false = true) : aboveK (idomL (theFlow c)) a ((idomL (theFlow c)).length + 1) b = true ↔ DomP (theFlow c) a b :=
  above_iff hf a _ b hb hr (Nat.le_trans (domN_le _ _) (by simp [idomL]))
/-- The law's 'leads': one block, one round, all rounds. -/
def stepG (f : FlowD) (g : List Int) (b : Int) : List Int := if b ∈ g then g else if ∃ z ∈ nxB f b, z ∈ g then g ++ [b] else g
def roundG (f : FlowD) (body g : List Int) : List Int := body.foldl (stepG f) g
def iterG (f : FlowD) (body : List Int) (h : Int) : Nat → List Int
  | 0 => [h]
  | n + 1 => roundG f body (iterG f body h n)
theorem stepG_sub {f : FlowD} {g : List Int} {b x : Int} (h : x ∈ g) : x ∈ stepG f g b := by
  unfold stepG
  split
  · exact h
  · split
    · exact List.mem_append_left _ h
    · exact h
theorem stepG_len (f : FlowD) (g : List Int) (b : Int) : g.length ≤ (stepG f g b).length := by
  unfold stepG
  split
  · exact Nat.le_refl _
  · split
    · simp
    · exact Nat.le_refl _
theorem roundG_sub {f : FlowD} {body : List Int} : ∀ {g : List Int} {x : Int}, x ∈ g → x ∈ roundG f body g := by
  induction body with
  | nil => intro g x h; exact h
  | cons b l ih => intro g x h; exact ih (stepG_sub h)
theorem roundG_len (f : FlowD) (body : List Int) : ∀ (g : List Int), g.length ≤ (roundG f body g).length := by
  induction body with
  | nil => intro g; exact Nat.le_refl _
  | cons b l ih => intro g; exact Nat.le_trans (stepG_len f g b) (ih _)
/-- A round that adds nothing. -/
theorem roundG_same {f : FlowD} {body : List Int} : ∀ {g : List Int}, (roundG f body g).length = g.length → ∀ b ∈ body, b ∈ g ∨ ∀ z ∈ nxB f b, z ∉ g := by
  induction body with
  | nil => intro g _ b hb; cases hb
  | cons a l ih =>
    intro g h b hb
    have h1 := stepG_len f g a
    have h2 := roundG_len f l (stepG f g a)
    have h3 : (roundG f l (stepG f g a)).length = g.length := h
    have h4 : stepG f g a = g ∧ (a ∈ g ∨ ∀ z ∈ nxB f a, z ∉ g) := by
      unfold stepG at h1 h2 h3 ⊢
      by_cases ha : a ∈ g
      · rw [if_pos ha]; exact ⟨rfl, .inl ha⟩
      · rw [if_neg ha] at h1 h2 h3 ⊢
        by_cases hz : ∃ z ∈ nxB f a, z ∈ g
        · rw [if_pos hz, List.length_append] at h2
          rw [if_pos hz] at h3
          simp at h2
          omega
        · rw [if_neg hz]
          exact ⟨rfl, .inr fun z h5 h6 => hz ⟨z, h5, h6⟩⟩
    rcases List.mem_cons.1 hb with rfl | hb
    · exact h4.2
    · rw [h4.1] at h3
      exact ih h3 b hb
theorem stepG_ok {f : FlowD} {body g : List Int} {b : Int} (hb : b ∈ body) (hn : g.Nodup) (hs : ∀ x ∈ g, x ∈ body) : (stepG f g b).Nodup ∧ ∀ x ∈ stepG f g b, x ∈ body := by
  unfold stepG
  split
  · exact ⟨hn, hs⟩
  · rename_i h1
    split
    · refine ⟨List.nodup_append.2 ⟨hn, by simp, fun x hx y hy => ?_⟩, fun x hx => ?_⟩
      · simp at hy; subst hy; rintro rfl; exact h1 hx
      · rcases List.mem_append.1 hx with h | h
        · exact hs x h
        · simp at h; subst h; exact hb
    · exact ⟨hn, hs⟩
theorem roundG_ok {f : FlowD} {body : List Int} : ∀ {l g : List Int}, (∀ b ∈ l, b ∈ body) → g.Nodup → (∀ x ∈ g, x ∈ body) → (roundG f l g).Nodup ∧ ∀ x ∈ roundG f l g, x ∈ body := by
  intro l
  induction l with
  | nil => intro g _ h1 h2; exact ⟨h1, h2⟩
  | cons b l ih =>
    intro g hl h1 h2
    obtain ⟨h3, h4⟩ := stepG_ok (f := f) (hl b List.mem_cons_self) h1 h2
    exact ih (fun x hx => hl x (List.mem_cons_of_mem _ hx)) h3 h4
theorem iterG_ok {f : FlowD} {body : List Int} {h : Int} (hh : h ∈ body) (n : Nat) : (iterG f body h n).Nodup ∧ ∀ x ∈ iterG f body h n, x ∈ body := by
  induction n with
  | zero => exact ⟨by simp [iterG], fun x hx => by simp [iterG] at hx; subst hx; exact hh⟩
  | succ n ih => exact roundG_ok (fun b hb => hb) ih.1 ih.2
theorem iterG_head {f : FlowD} {body : List Int} {h : Int} (n : Nat) : h ∈ iterG f body h n := by
  induction n with
  | zero => simp [iterG]
  | succ n ih => exact roundG_sub ih
theorem nodup_len {xs : List Int} : ∀ {ys : List Int}, xs.Nodup → (∀ x ∈ xs, x ∈ ys) → xs.length ≤ ys.length := by
  induction xs with
  | nil => intro ys _ _; simp
  | cons a l ih =>
    intro ys hx h
    obtain ⟨h1, h2⟩ := List.nodup_cons.1 hx
    have ha := h a List.mem_cons_self
    have h3 := ih (ys := ys.erase a) h2 fun x hxl => (List.mem_erase_of_ne (show x ≠ a from fun e => h1 (by rw [← e]; exact hxl))).2 (h x (List.mem_cons_of_mem _ hxl))
    rw [List.length_erase_of_mem ha] at h3
    have := List.length_pos_of_mem ha
    rw [List.length_cons]
    omega
/-- 'leads' says yes. -/
theorem leads_yes {f : FlowD} {body : List Int} {h : Int} (hh : h ∈ body) (hn : body.Nodup) (hl : ∀ P : Int → Prop, P h → (∀ b ∈ body, (∃ z ∈ nxB f b, P z) → P b) → ∀ y ∈ body, P y) : (iterG f body h body.length).length = body.length := by
  have key : ∀ n, (∀ y ∈ body, y ∈ iterG f body h n) ∨ n + 1 ≤ (iterG f body h n).length := by
    intro n
    induction n with
    | zero => exact .inr (by simp [iterG])
    | succ n ih =>
      rcases ih with h1 | h1
      · exact .inl fun y hy => roundG_sub (h1 y hy)
      · have h2 := roundG_len f body (iterG f body h n)
        by_cases h3 : (roundG f body (iterG f body h n)).length = (iterG f body h n).length
        · refine .inl fun y hy => roundG_sub ?_
          refine hl (· ∈ iterG f body h n) (iterG_head n) (fun b hb hz => ?_) y hy
          rcases roundG_same h3 b hb with h4 | h4
          · exact h4
          · obtain ⟨z, hz1, hz2⟩ := hz
            exact absurd hz2 (h4 z hz1)
        · refine .inr ?_
          show n + 1 + 1 ≤ (roundG f body (iterG f body h n)).length
          omega
  obtain ⟨h1, h2⟩ := iterG_ok (f := f) hh body.length
  have h3 := nodup_len h1 h2
  rcases key body.length with h4 | h4
  · have := nodup_len hn h4
    omega
  · omega
end Go.Proofs.Ytififjlgjmgikaa
