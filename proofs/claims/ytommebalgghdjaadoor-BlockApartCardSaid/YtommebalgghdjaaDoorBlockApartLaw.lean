/-
  Plain laws: lines behind a blank line change nothing ahead of it.
-/
import Derived.Test.YtommebalgghdjaaDoorBlockCodeLaw
namespace Go.Proofs.YtommebalgghdjaaDoor
set_option linter.unusedVariables false

/-- lines that are all blank -/
def AllB (l : List Ln) : Prop := ∀ x ∈ l, blankT x = true
theorem takeW_some {α : Type} {p : α → Bool} {l : List α} (h : ∃ x ∈ l, p x = false) (r : List α) : (l ++ r).takeWhile p = l.takeWhile p := by
  induction l with
  | nil => obtain ⟨x, hx, _⟩ := h; cases hx
  | cons y l ih =>
    rw [List.cons_append, List.takeWhile_cons, List.takeWhile_cons]
    split
    · rename_i hy
      obtain ⟨x, hx, hp⟩ := h
      rcases List.mem_cons.1 hx with rfl | hx
      · rw [hy] at hp; cases hp
      · rw [ih ⟨x, hx, hp⟩]
    · rfl
theorem takeW_stop {α : Type} {p : α → Bool} (l : List α) {e : α} (he : p e = false) (r : List α) : (l ++ e :: r).takeWhile p = l.takeWhile p := by
  induction l with
  | nil => rw [List.nil_append, List.takeWhile_cons, he]; rfl
  | cons y l ih => rw [List.cons_append, List.takeWhile_cons, List.takeWhile_cons, ih]
theorem drop_pre {α : Type} {k : Nat} {l : List α} (h : k ≤ l.length) (r : List α) : (l ++ r).drop k = l.drop k ++ r := List.drop_append_of_le_length h
theorem not_allB {l : List Ln} (h : ¬ AllB l) : ∃ x ∈ l, blankT x = false := by
  apply Classical.byContradiction
  intro hn
  refine h fun x hx => ?_
  cases hb : blankT x with
  | true => rfl
  | false => exact absurd ⟨x, hx, hb⟩ hn
theorem dropW_blank (l : List Ln) (r : List Ln) (hl : ∃ x ∈ l, blankT x = false) : (l ++ r).dropWhile blankT = l.dropWhile blankT ++ r := by
  induction l with
  | nil => obtain ⟨x, hx, _⟩ := hl; cases hx
  | cons y l ih =>
    rw [List.cons_append, List.dropWhile_cons, List.dropWhile_cons]
    split
    · rename_i hy
      obtain ⟨x, hx, hp⟩ := hl
      rcases List.mem_cons.1 hx with rfl | hx
      · rw [hy] at hp; cases hp
      · exact ih ⟨x, hx, hp⟩
    · rfl
theorem dropW_allB {l : List Ln} (h : AllB l) (r : List Ln) : (l ++ r).dropWhile blankT = r.dropWhile blankT := by
  induction l with
  | nil => rfl
  | cons y l ih => rw [List.cons_append, List.dropWhile_cons, if_pos (h y (by simp))]; exact ih fun x hx => h x (by simp [hx])
/-- the lines of so many columns end ahead of a line that is none -/
theorem span_same {cols : Nat} {l : List Ln} (h : ∃ x ∈ l, wideT cols x = false) (r : List Ln) : spanLines cols (l ++ r) = spanLines cols l := by
  unfold spanLines; rw [takeW_some h]
/-- blank lines behind all change nothing -/
theorem span_blanks {cols : Nat} (l : List Ln) {r : List Ln} (hr : AllB r) : spanLines cols (l ++ r) = spanLines cols l := by
  by_cases h : ∃ x ∈ l, wideT cols x = false
  · exact span_same h r
  · have hall : ∀ x ∈ l, wideT cols x = true := fun x hx => by
      cases hb : wideT cols x with
      | true => rfl
      | false => exact absurd ⟨x, hx, hb⟩ h
    have hallr : ∀ x ∈ r, wideT cols x = true := fun x hx => by unfold wideT; rw [hr x hx]; rfl
    unfold spanLines
    rw [takeW_all hall, takeW_all' hall, takeW_all' hallr, List.reverse_append, dropW_allB (fun x hx => hr x (by simpa using hx))]
/-- what is no such line's tail is blank, or such a line ends them -/
theorem span_rest {cols : Nat} {l : List Ln} (h : ∀ x ∈ l, wideT cols x = true) : AllB (l.drop (spanLines cols l).length) := by
  have e : l = spanLines cols l ++ (l.reverse.takeWhile blankT).reverse := by
    unfold spanLines
    rw [takeW_all' h, ← List.reverse_append, List.takeWhile_append_dropWhile, List.reverse_reverse]
  have : l.drop (spanLines cols l).length = (l.reverse.takeWhile blankT).reverse := by
    conv => lhs; arg 2; rw [e]
    exact List.drop_left
  rw [this]
  intro x hx
  exact List.all_eq_true.1 (List.all_takeWhile (p := blankT) (l := l.reverse)) x (by simpa using hx)
theorem span_same' {cols : Nat} {l : List Ln} (h : ¬ AllB (l.drop (spanLines cols l).length)) (r : List Ln) : spanLines cols (l ++ r) = spanLines cols l := by
  refine span_same ?_ r
  apply Classical.byContradiction
  intro hn
  refine h (span_rest fun x hx => ?_)
  cases hb : wideT cols x with
  | true => rfl
  | false => exact absurd ⟨x, hx, hb⟩ hn
theorem AllB.drop {l : List Ln} (h : AllB l) (k : Nat) : AllB (l.drop k) := fun x hx => h x (List.mem_of_mem_drop hx)
theorem blank_item {s : Ln} (h : blankT s = true) : itemT s = none := by
  have h0 : restT s = [] := by
    unfold blankT at h; unfold restT; rw [dropWhile_nil]; simpa using h
  unfold itemT
  simp [h0, digT]
theorem blank_quote {s : Ln} (h : blankT s = true) : quoteT s = none := by
  have h0 : restT s = [] := by
    unfold blankT at h; unfold restT; rw [dropWhile_nil]; simpa using h
  unfold quoteT
  simp [h0]
theorem itemsT_le (rc : Nat → List Ln → List BlockT) (d : Nat) (c : UInt8) (f : Nat) (l : List Ln) : (itemsT rc d c f l).2 ≤ l.length := by
  induction f generalizing l with
  | zero => simp [itemsT]
  | succ f ih =>
    cases l with
    | nil => simp [itemsT]
    | cons s t =>
      unfold itemsT
      split
      · simp
      · rename_i c' num' cols' rest' _
        split
        · simp only
          have h1 := spanLines_len cols' t
          have h2 := takeW_len blankT (t.drop (spanLines cols' t).length)
          have h3 := ih ((t.drop (spanLines cols' t).length).drop ((t.drop (spanLines cols' t).length).takeWhile blankT).length)
          simp only [List.length_drop] at h2 h3
          rw [List.length_cons]
          split
          · omega
          · omega
        · simp
/-- more rounds than lines change nothing -/
theorem itemsT_moreL (rc : Nat → List Ln → List BlockT) (d : Nat) (sign : UInt8) : ∀ (f g : Nat) (l : List Ln), l.length ≤ f → l.length ≤ g → itemsT rc d sign f l = itemsT rc d sign g l
  | 0, 0, _, _, _ => rfl
  | 0, g + 1, [], _, _ => rfl
  | f + 1, 0, [], _, _ => rfl
  | f + 1, g + 1, [], _, _ => rfl
  | f + 1, g + 1, s :: t, hf, hg => by
    simp only [List.length_cons] at hf hg
    unfold itemsT
    split
    · rfl
    · rename_i c num cols rest he
      split
      · simp only
        have hle : ∀ k j : Nat, ((t.drop k).drop j).length ≤ t.length := fun k j => by simp only [List.length_drop]; omega
        rw [itemsT_moreL rc d sign f g _ (by have := hle (spanLines cols t).length ((t.drop (spanLines cols t).length).takeWhile blankT).length; omega) (by have := hle (spanLines cols t).length ((t.drop (spanLines cols t).length).takeWhile blankT).length; omega)]
      · rfl
  | 0, _ + 1, _ :: _, hf, _ => by simp at hf
  | _ + 1, 0, _ :: _, _, hg => by simp at hg
/-- a list that does not go on to the end is the same, whatever follows -/
theorem items_tail (rc : Nat → List Ln → List BlockT) (d : Nat) (sign : UInt8) (R : List Ln) : ∀ (f : Nat) (l : List Ln), l.length ≤ f → ¬ AllB (l.drop (itemsT rc d sign f l).2) →
    itemsT rc d sign (f + R.length) (l ++ R) = itemsT rc d sign f l
  | 0, [], _, h => by exact absurd (fun x hx => by simp at hx) h
  | 0, _ :: _, hf, _ => by simp at hf
  | f + 1, [], _, h => by exact absurd (fun x hx => by simp at hx) h
  | f + 1, s :: t, hf, h => by
    simp only [List.length_cons] at hf
    rw [show f + 1 + R.length = (f + R.length) + 1 by omega, List.cons_append]
    unfold itemsT at h ⊢
    split
    · rfl
    · rename_i c num cols rest he
      rw [he] at h
      simp only at h
      split
      · rename_i hc
        rw [if_pos hc] at h
        simp only at h ⊢
        generalize hr : itemsT rc d sign f ((t.drop (spanLines cols t).length).drop ((t.drop (spanLines cols t).length).takeWhile blankT).length) = r at h ⊢
        -- what is left holds a line that is not blank
        have hs1 : ¬ AllB (t.drop (spanLines cols t).length) := by
          intro hn
          refine h ?_
          split
          · exact hn
          · have := (hn.drop (((t.drop (spanLines cols t).length).takeWhile blankT).length)).drop r.2
            rw [List.drop_drop, List.drop_drop] at this
            rw [show (spanLines cols t).length + 1 + ((t.drop (spanLines cols t).length).takeWhile blankT).length + r.2 = ((spanLines cols t).length + (((t.drop (spanLines cols t).length).takeWhile blankT).length + r.2)) + 1 by omega, List.drop_succ_cons]
            exact this
        have e1 := span_same' hs1 R
        have e2 : (t ++ R).drop (spanLines cols t).length = t.drop (spanLines cols t).length ++ R := drop_pre (spanLines_len _ _) R
        have e3 : (t.drop (spanLines cols t).length ++ R).takeWhile blankT = (t.drop (spanLines cols t).length).takeWhile blankT := takeW_some (not_allB hs1) R
        have e4 : (t.drop (spanLines cols t).length ++ R).drop ((t.drop (spanLines cols t).length).takeWhile blankT).length = (t.drop (spanLines cols t).length).drop ((t.drop (spanLines cols t).length).takeWhile blankT).length ++ R := drop_pre (takeW_len _ _) R
        have hlen : ((t.drop (spanLines cols t).length).drop ((t.drop (spanLines cols t).length).takeWhile blankT).length).length ≤ f := by simp only [List.length_drop]; omega
        have hs2 : ¬ AllB (((t.drop (spanLines cols t).length).drop ((t.drop (spanLines cols t).length).takeWhile blankT).length).drop r.2) := by
          intro hn
          refine h ?_
          split
          · rename_i h0
            rw [h0, List.drop_zero] at hn
            intro x hx
            rw [show (spanLines cols t).length + 1 = (spanLines cols t).length + 1 from rfl, List.drop_succ_cons] at hx
            rw [← List.takeWhile_append_dropWhile (p := blankT) (l := t.drop (spanLines cols t).length)] at hx
            rcases List.mem_append.1 hx with hx | hx
            · exact List.all_eq_true.1 (List.all_takeWhile (p := blankT)) x hx
            · refine hn x ?_
              have : (t.drop (spanLines cols t).length).drop ((t.drop (spanLines cols t).length).takeWhile blankT).length = (t.drop (spanLines cols t).length).dropWhile blankT := by
                conv => lhs; arg 2; rw [← List.takeWhile_append_dropWhile (p := blankT) (l := t.drop (spanLines cols t).length)]
                exact List.drop_left
              rw [this]; exact hx
          · rw [List.drop_drop, List.drop_drop] at hn
            rw [show (spanLines cols t).length + 1 + ((t.drop (spanLines cols t).length).takeWhile blankT).length + r.2 = ((spanLines cols t).length + (((t.drop (spanLines cols t).length).takeWhile blankT).length + r.2)) + 1 by omega, List.drop_succ_cons]
            exact hn
        have ih := items_tail rc d sign R f _ hlen (by rw [hr]; exact hs2)
        rw [e1, e2, e3, e4, ih, hr]
      · rfl
/-- blank lines behind a list change nothing -/
theorem items_blanks (rc : Nat → List Ln → List BlockT) (d : Nat) (sign : UInt8) (R : List Ln) (hR : AllB R) : ∀ (f : Nat) (l : List Ln), l.length ≤ f →
    itemsT rc d sign (f + R.length) (l ++ R) = itemsT rc d sign f l
  | f, [], _ => by
    cases R with
    | nil => simp
    | cons e R =>
      rw [List.nil_append, show f + (e :: R).length = (f + R.length) + 1 by simp; omega, itemsT, blank_item (hR e (by simp))]
      cases f <;> rfl
  | 0, _ :: _, hf => by simp at hf
  | f + 1, s :: t, hf => by
    simp only [List.length_cons] at hf
    rw [show f + 1 + R.length = (f + R.length) + 1 by omega, List.cons_append]
    unfold itemsT
    split
    · rfl
    · rename_i c num cols rest he
      split
      · rename_i hc
        simp only
        have e1 := span_blanks (cols := cols) t hR
        have e2 : (t ++ R).drop (spanLines cols t).length = t.drop (spanLines cols t).length ++ R := drop_pre (spanLines_len _ _) R
        rw [e1, e2]
        by_cases hs1 : AllB (t.drop (spanLines cols t).length)
        · have hz : AllB (t.drop (spanLines cols t).length ++ R) := fun x hx => by
            rcases List.mem_append.1 hx with h | h
            · exact hs1 x h
            · exact hR x h
          rw [takeW_all' hz, takeW_all' hs1, List.drop_of_length_le (Nat.le_refl _), List.drop_of_length_le (Nat.le_refl _)]
          have n1 : ∀ k, itemsT rc d sign k [] = ([], 0) := fun k => by cases k <;> rfl
          rw [n1, n1]
          rfl
        · have e3 : (t.drop (spanLines cols t).length ++ R).takeWhile blankT = (t.drop (spanLines cols t).length).takeWhile blankT := takeW_some (not_allB hs1) R
          have e4 : (t.drop (spanLines cols t).length ++ R).drop ((t.drop (spanLines cols t).length).takeWhile blankT).length = (t.drop (spanLines cols t).length).drop ((t.drop (spanLines cols t).length).takeWhile blankT).length ++ R := drop_pre (takeW_len _ _) R
          have hlen : ((t.drop (spanLines cols t).length).drop ((t.drop (spanLines cols t).length).takeWhile blankT).length).length ≤ f := by simp only [List.length_drop]; omega
          rw [e3, e4, items_blanks rc d sign R hR f _ hlen]
      · rfl
theorem paraGo_stop (d : Nat) (l : List Ln) {e : Ln} (he : blankT e = true) (r : List Ln) : paraGo d (l ++ e :: r) = ((paraGo d l).1, (paraGo d l).2.1, (paraGo d l).2.2 ++ e :: r) := by
  induction l with
  | nil => rw [List.nil_append, paraGo_blank he]; rfl
  | cons x l ih =>
    rw [List.cons_append, paraGo, paraGo]
    split
    · rfl
    · split
      · rfl
      · rw [ih]

/-- a kind of block that does not go on -/
def Shut (b : BlockT) : Prop := b.kind = 1 ∨ b.kind = 2 ∨ b.kind = 7 ∨ b.kind = 8
/-- a list's blocks, but the first, are deeper -/
theorem itemsT_depth (rc : Nat → List Ln → List BlockT) (d : Nat) (hrc : ∀ k ls, ∀ b ∈ rc k ls, (k : Int) ≤ b.depth) (sign : UInt8) : ∀ (f : Nat) (l : List Ln), ∀ b ∈ (itemsT rc d sign f l).1, (d : Int) < b.depth
  | 0, l => by simp [itemsT]
  | f + 1, [] => by simp [itemsT]
  | f + 1, s :: t => by
    unfold itemsT
    split
    · simp
    · split
      · simp only
        intro b hb
        rcases List.mem_cons.1 hb with rfl | hb
        · show (d : Int) < ((d : Int) + 1); omega
        · rcases List.mem_append.1 hb with hb | hb
          · have := hrc _ _ b hb; omega
          · exact itemsT_depth rc d hrc sign f _ b hb
      · simp
theorem nextT_depth (rc : Nat → List Ln → List BlockT) (d : Nat) (hrc : ∀ k ls, ∀ b ∈ rc k ls, (k : Int) ≤ b.depth) (s : Ln) (t : List Ln) : ∀ b ∈ (nextT rc d s t).1, (d : Int) ≤ b.depth := by
  have one : ∀ (x : BlockT), x.depth = d → ∀ b ∈ [x], (d : Int) ≤ b.depth := fun x hx b hb => by
    rw [List.mem_singleton.1 hb, hx]; omega
  unfold nextT
  split
  · simp
  split
  · exact one _ rfl
  split
  · exact one _ rfl
  split
  · exact one _ rfl
  split
  · exact one _ rfl
  split
  · intro b hb
    rcases List.mem_cons.1 hb with rfl | hb
    · show (d : Int) ≤ (d : Int); omega
    · have := hrc _ _ b hb; omega
  split
  · split
    · intro b hb
      rcases List.mem_cons.1 hb with rfl | hb
      · show (d : Int) ≤ (d : Int); omega
      · have := itemsT_depth rc d hrc _ _ _ b hb; omega
    · simp
  split
  · exact one _ rfl
  · exact one _ rfl
theorem loopT_mem {next : Ln → List Ln → List BlockT × List Ln} {P : BlockT → Prop} (h : ∀ s t, ∀ b ∈ (next s t).1, P b) : ∀ (f : Nat) (l : List Ln), ∀ b ∈ loopT next f l, P b
  | 0, l => by simp [loopT]
  | f + 1, [] => by simp [loopT]
  | f + 1, s :: t => by
    unfold loopT
    intro b hb
    rcases List.mem_append.1 hb with hb | hb
    · exact h s t b hb
    · exact loopT_mem h f _ b hb
theorem allT_depth : ∀ (f d : Nat) (l : List Ln), ∀ b ∈ allT f d l, (d : Int) ≤ b.depth
  | 0, _, _ => by simp [allT]
  | f + 1, d, l => by
    unfold allT
    exact loopT_mem (fun s t => nextT_depth (allT f) d (fun k ls => allT_depth f k ls) s t) _ _

/-- one block, and a blank line somewhere behind it -/
theorem next_tail (rc : Nat → List Ln → List BlockT) (d : Nat) (hrc : ∀ k ls, ∀ b ∈ rc k ls, (k : Int) ≤ b.depth) (s : Ln) (t : List Ln) {e : Ln} (he : blankT e = true) (r : List Ln)
    (h : ¬ AllB (nextT rc d s t).2 ∨ (∀ b, (nextT rc d s t).1.getLast? = some b → Shut b ∧ b.depth = d)) :
    nextT rc d s (t ++ e :: r) = ((nextT rc d s t).1, (nextT rc d s t).2 ++ e :: r) := by
  unfold nextT at h ⊢
  split
  · rfl
  rename_i hb
  rw [if_neg hb] at h
  split
  · rename_i hc
    rw [if_pos hc] at h
    simp only at h
    rcases h with h | h
    · have e1 := span_same' h (e :: r)
      rw [List.cons_append] at e1
      rw [e1]
      rw [← List.cons_append, drop_pre (spanLines_len _ _)]
    · have := (h _ (by rfl)).1
      unfold Shut codeB at this
      simp at this
  rename_i hc
  rw [if_neg hc] at h
  split
  · rename_i c n info hf
    rw [hf] at h
    simp only at h
    rcases h with h | h
    · have hcl : ∃ x ∈ t, (!closesT x c n) = false := by
        apply Classical.byContradiction
        intro hn
        refine h ?_
        have : t.takeWhile (fun x => !closesT x c n) = t := takeW_all' fun x hx => by
          cases hb : (!closesT x c n) with
          | true => rfl
          | false => exact absurd ⟨x, hx, hb⟩ hn
        rw [this, List.drop_of_length_le (by omega)]
        intro x hx; cases hx
      have e1 := takeW_some hcl (e :: r)
      rw [e1]
      have hlt : (t.takeWhile fun x => !closesT x c n).length + 1 ≤ t.length := by
        have e2 := List.takeWhile_append_dropWhile (p := fun x => !closesT x c n) (l := t)
        have e3 := congrArg List.length e2
        rw [List.length_append] at e3
        have : (t.dropWhile fun x => !closesT x c n).length ≠ 0 := by
          intro h0
          have h1 := List.eq_nil_of_length_eq_zero h0
          rw [h1, List.append_nil] at e2
          obtain ⟨x, hx, hp⟩ := hcl
          have := List.all_eq_true.1 (List.all_takeWhile (p := fun x => !closesT x c n) (l := t)) x (by rw [e2]; exact hx)
          rw [hp] at this; cases this
        omega
      rw [drop_pre hlt]
    · have := (h _ (by rfl)).1
      unfold Shut codeB at this
      simp at this
  rename_i hf
  rw [hf] at h
  simp only at h
  split
  · rfl
  rename_i hh
  rw [hh] at h
  simp only at h
  split
  · rfl
  rename_i hru
  rw [if_neg hru] at h
  split
  · rename_i hq
    have e1 := takeW_stop (p := fun x => (quoteT x).isSome) (s :: t) (e := e) (by rw [blank_quote he]; rfl) r
    rw [List.cons_append] at e1
    rw [e1, ← List.cons_append, drop_pre (takeW_len _ _)]
  rename_i hq
  rw [if_neg hq] at h
  split
  · rename_i hl
    rw [if_pos hl] at h
    split
    · rename_i c num cols rest hi
      rw [hi] at h
      simp only at h
      rcases h with h | h
      · have e1 := items_tail rc d c (e :: r) (t.length + 1) (s :: t) (by simp) h
        have e2 : (t ++ e :: r).length + 1 = t.length + 1 + (e :: r).length := by rw [List.length_append]; omega
        rw [e2, ← List.cons_append, e1]
        have hle : (itemsT rc d c (t.length + 1) (s :: t)).2 ≤ (s :: t).length := itemsT_le rc d c _ _
        rw [drop_pre hle, List.take_append_of_le_length hle]
      · exfalso
        cases hbs : (itemsT rc d c (t.length + 1) (s :: t)).1.getLast? with
        | none =>
          have h0 := List.getLast?_eq_none_iff.1 hbs
          rw [h0] at h
          have := (h _ (by rfl)).1
          unfold Shut listB at this
          simp at this
        | some b =>
          have h1 := h b (by rw [List.getLast?_cons, hbs]; rfl)
          have h2 := itemsT_depth rc d hrc c _ _ b (List.mem_of_getLast? hbs)
          omega
    · rfl
  rename_i hl
  rw [if_neg hl] at h
  split
  · rename_i hm
    have e1 := takeW_stop (p := fun x => !blankT x) (s :: t) (e := e) (by rw [he]; rfl) r
    rw [List.cons_append] at e1
    rw [e1, ← List.cons_append, drop_pre (takeW_len _ _)]
  · rw [paraGo_stop d t he]
theorem next_some (rc : Nat → List Ln → List BlockT) (d : Nat) {s : Ln} (hs : blankT s = false) (t : List Ln) : ∃ b l, (nextT rc d s t).1 = b :: l ∧ b.depth = d := by
  unfold nextT
  rw [hs, if_neg (by decide)]
  split
  · exact ⟨_, _, rfl, rfl⟩
  split
  · exact ⟨_, _, rfl, rfl⟩
  split
  · exact ⟨_, _, rfl, rfl⟩
  split
  · exact ⟨_, _, rfl, rfl⟩
  split
  · exact ⟨_, _, rfl, rfl⟩
  split
  · rename_i hl
    split
    · exact ⟨_, _, rfl, rfl⟩
    · rename_i hi
      unfold listsT at hl
      rw [hi] at hl; simp at hl
  split
  · exact ⟨_, _, rfl, rfl⟩
  · exact ⟨_, _, rfl, rfl⟩
theorem all_allB (f d : Nat) : ∀ (l : List Ln), AllB l → allT f d l = []
  | [], _ => allT_nil f d
  | s :: t, h => by
    cases f with
    | zero => rfl
    | succ f => rw [allT_step, next_blank (h s (by simp)), all_allB (f + 1) d t fun x hx => h x (by simp [hx])]; rfl
theorem all_some {f d : Nat} : ∀ {l : List Ln}, ¬ AllB l → ∃ b r, allT (f + 1) d l = b :: r ∧ b.depth = d
  | [], h => absurd (fun x hx => by cases hx) h
  | s :: t, h => by
    rw [allT_step]
    cases hs : blankT s with
    | true =>
      rw [next_blank hs, List.nil_append]
      exact all_some fun ht => h fun x hx => by
        rcases List.mem_cons.1 hx with rfl | hx
        · exact hs
        · exact ht x hx
    | false =>
      obtain ⟨b, l, e, hb⟩ := next_some (allT f) d hs t
      rw [e]
      exact ⟨b, _, rfl, hb⟩
/-- two texts with a blank line between -/
theorem apart_law (f d : Nat) {e : Ln} (he : blankT e = true) (r : List Ln) : ∀ (n : Nat) (l : List Ln), l.length ≤ n → (∀ b, (allT (f + 1) d l).getLast? = some b → Shut b ∧ b.depth = d) → allT (f + 1) d (l ++ e :: r) = allT (f + 1) d l ++ allT (f + 1) d (e :: r)
  | _, [], _, _ => by rw [allT_nil]; rfl
  | 0, _ :: _, hn, _ => by simp at hn
  | n + 1, s :: t, hn, h => by
    simp only [List.length_cons] at hn
    have hl := (nextT_len (allT f) d (2 * f) (fun d ls => allT_len f d ls) s t).1
    rw [allT_step] at h
    have ht := next_tail (allT f) d (fun k ls => allT_depth f k ls) s t he r (by
      by_cases hb : AllB (nextT (allT f) d s t).2
      · right
        rw [all_allB _ _ _ hb, List.append_nil] at h
        exact h
      · exact .inl hb)
    rw [List.cons_append, allT_step, ht, allT_step f d s t, List.append_assoc]
    simp only
    rw [apart_law f d he r n _ (by omega) (by
      intro b hb
      refine h b ?_
      rw [List.getLast?_append, hb]
      rfl)]
/-- BlockApart -/
theorem apart_p {a b : List Ln} (h : ∀ x, (parseT a).getLast? = some x → Shut x ∧ x.depth = 0) : parseT (a ++ [] :: b) = parseT a ++ parseT b := by
  have := apart_law 13 0 (e := []) rfl b a.length a (Nat.le_refl _) h
  unfold parseT
  rw [this]
  have e := parse_blank (s := []) rfl b
  unfold parseT at e
  rw [e]

/-! ## blank lines ahead and behind -/
theorem next_blanks (rc : Nat → List Ln → List BlockT) (d : Nat) (s : Ln) (t : List Ln) {R : List Ln} (hR : AllB R) :
    nextT rc d s (t ++ R) = ((nextT rc d s t).1, (nextT rc d s t).2 ++ R) ∨ (∃ i x y q, nextT rc d s t = ([⟨6, d, 0, false, x, i⟩], []) ∧ nextT rc d s (t ++ R) = ([⟨6, d, 0, false, y, i⟩], q) ∧ AllB q) := by
  cases R with
  | nil => left; simp
  | cons e r =>
  have he := hR e (by simp)
  unfold nextT
  split
  · exact .inl rfl
  rename_i hb
  split
  · left
    rename_i hc
    have e1 := span_blanks (cols := 4) (s :: t) hR
    rw [List.cons_append] at e1
    rw [e1, ← List.cons_append, drop_pre (spanLines_len _ _)]
  rename_i hc
  split
  · rename_i c n info hf
    by_cases hcl : ∃ x ∈ t, (!closesT x c n) = false
    · left
      have e1 := takeW_some hcl (e :: r)
      rw [e1]
      have hlt : (t.takeWhile fun x => !closesT x c n).length + 1 ≤ t.length := by
        have e2 := List.takeWhile_append_dropWhile (p := fun x => !closesT x c n) (l := t)
        have e3 := congrArg List.length e2
        rw [List.length_append] at e3
        have : (t.dropWhile fun x => !closesT x c n).length ≠ 0 := by
          intro h0
          have h1 := List.eq_nil_of_length_eq_zero h0
          rw [h1, List.append_nil] at e2
          obtain ⟨x, hx, hp⟩ := hcl
          have := List.all_eq_true.1 (List.all_takeWhile (p := fun x => !closesT x c n) (l := t)) x (by rw [e2]; exact hx)
          rw [hp] at this; cases this
        omega
      rw [drop_pre hlt]
    · right
      have hall : ∀ x ∈ t, (!closesT x c n) = true := fun x hx => by
        cases hb : (!closesT x c n) with
        | true => rfl
        | false => exact absurd ⟨x, hx, hb⟩ hcl
      refine ⟨info, _, _, _, by rw [takeW_all' hall, List.drop_of_length_le (by omega)]; rfl, rfl, ?_⟩
      rw [takeW_all hall, List.length_append, Nat.add_assoc, ← List.drop_drop, List.drop_left]
      exact hR.drop _
  split
  · exact .inl rfl
  split
  · exact .inl rfl
  split
  · left
    have e1 := takeW_stop (p := fun x => (quoteT x).isSome) (s :: t) (e := e) (by rw [blank_quote he]; rfl) r
    rw [List.cons_append] at e1
    rw [e1, ← List.cons_append, drop_pre (takeW_len _ _)]
  split
  · left
    split
    · rename_i c num cols rest hi
      have e1 := items_blanks rc d c (e :: r) hR (t.length + 1) (s :: t) (by simp)
      have e2 : (t ++ e :: r).length + 1 = t.length + 1 + (e :: r).length := by rw [List.length_append]; omega
      rw [e2, ← List.cons_append, e1]
      have hle : (itemsT rc d c (t.length + 1) (s :: t)).2 ≤ (s :: t).length := itemsT_le rc d c _ _
      rw [drop_pre hle, List.take_append_of_le_length hle]
    · rfl
  split
  · left
    have e1 := takeW_stop (p := fun x => !blankT x) (s :: t) (e := e) (by rw [he]; rfl) r
    rw [List.cons_append] at e1
    rw [e1, ← List.cons_append, drop_pre (takeW_len _ _)]
  · left
    rw [paraGo_stop d t he]
theorem blanks_law (f d : Nat) {R : List Ln} (hR : AllB R) : ∀ (n : Nat) (l : List Ln), l.length ≤ n → allT (f + 1) d (l ++ R) = allT (f + 1) d l ∨ (∃ b, (allT (f + 1) d l).getLast? = some b ∧ b.kind = 6 ∧ (allT (f + 1) d (l ++ R)).length = (allT (f + 1) d l).length)
  | _, [], _ => by left; rw [List.nil_append, all_allB _ _ _ hR, allT_nil]
  | 0, _ :: _, hn => by simp at hn
  | n + 1, s :: t, hn => by
    simp only [List.length_cons] at hn
    have hl := (nextT_len (allT f) d (2 * f) (fun d ls => allT_len f d ls) s t).1
    rw [List.cons_append, allT_step, allT_step f d s t]
    rcases next_blanks (allT f) d s t hR with e | ⟨i, x, y, q, e1, e2, h3⟩
    · rw [e]
      simp only
      rcases blanks_law f d hR n (nextT (allT f) d s t).2 (by omega) with ih | ⟨b, h1, h2, h3⟩
      · rw [ih]; exact .inl rfl
      · right
        refine ⟨b, ?_, h2, by rw [List.length_append, List.length_append, h3]⟩
        rw [List.getLast?_append, h1]; rfl
    · right
      rw [e1, e2]
      simp only
      rw [all_allB _ _ _ h3, allT_nil]
      exact ⟨_, rfl, rfl, rfl⟩
theorem blanks_ahead {R : List Ln} (hR : AllB R) (l : List Ln) : parseT (R ++ l) = parseT l := by
  induction R with
  | nil => rfl
  | cons e R ih => rw [List.cons_append, parse_blank (hR e (by simp)), ih fun x hx => hR x (by simp [hx])]
end Go.Proofs.YtommebalgghdjaaDoor
