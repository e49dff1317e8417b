/-
  Plain law: lines that are all quoted are one quote, in which what they are lies one deeper.
-/
import Derived.Test.YtommebalgghdjaaDoorBlockApartLaw
namespace Go.Proofs.YtommebalgghdjaaDoor
set_option linter.unusedVariables false

/-- a block one deeper -/
def sh (b : BlockT) : BlockT := { b with depth := b.depth + 1 }
/-- blocks that are not too deep -/
def Low9 (l : List BlockT) : Prop := ∀ b ∈ l, b.depth ≤ 9
theorem Low9.left {a b : List BlockT} (h : Low9 (a ++ b)) : Low9 a := fun x hx => h x (List.mem_append_left _ hx)
theorem Low9.right {a b : List BlockT} (h : Low9 (a ++ b)) : Low9 b := fun x hx => h x (List.mem_append_right _ hx)
theorem quotesT_sh {d : Nat} (h : d ≤ 9) (s : Ln) : quotesT (d + 1) s = quotesT d s := by
  unfold quotesT; rw [decide_eq_true (show d + 1 < 12 by omega), decide_eq_true (show d < 12 by omega)]
theorem listsT_sh {d : Nat} (h : d ≤ 9) (s : Ln) : listsT (d + 1) s = listsT d s := by
  unfold listsT; rw [decide_eq_true (show d + 1 < 11 by omega), decide_eq_true (show d < 11 by omega)]
theorem endsT_sh {d : Nat} (h : d ≤ 9) (s : Ln) : endsT (d + 1) s = endsT d s := by
  unfold endsT; rw [quotesT_sh h, listsT_sh h]
theorem paraGo_sh {d : Nat} (h : d ≤ 9) (l : List Ln) : paraGo (d + 1) l = paraGo d l := by
  induction l with
  | nil => rfl
  | cons s t ih => rw [paraGo, paraGo, endsT_sh h, ih]
theorem itemsT_sh {rc rc' : Nat → List Ln → List BlockT} {d : Nat} (hrc : ∀ ls, Low9 (rc (d + 2) ls) → rc' (d + 3) ls = (rc (d + 2) ls).map sh) (sign : UInt8) : ∀ (f : Nat) (l : List Ln), Low9 (itemsT rc d sign f l).1 →
    itemsT rc' (d + 1) sign f l = ((itemsT rc d sign f l).1.map sh, (itemsT rc d sign f l).2)
  | 0, _, _ => rfl
  | f + 1, [], _ => rfl
  | f + 1, s :: t, h => by
    unfold itemsT at h ⊢
    split
    · rfl
    · rename_i c num cols rest he
      rw [he] at h
      simp only at h
      split
      · rename_i hc
        rw [if_pos hc] at h
        simp only at h ⊢
        have h1 : Low9 (rc (d + 2) (rest :: (spanLines cols t).map fun s => stripT s (cols : Int))) := fun x hx => h x (by simp [hx])
        have h2 : Low9 (itemsT rc d sign f ((t.drop (spanLines cols t).length).drop ((t.drop (spanLines cols t).length).takeWhile blankT).length)).1 := fun x hx => h x (List.mem_cons_of_mem _ (List.mem_append_right _ hx))
        rw [itemsT_sh hrc sign f _ h2, show d + 1 + 2 = d + 3 by omega, hrc _ h1]
        simp [sh]
      · rfl
theorem nextT_sh {rc rc' : Nat → List Ln → List BlockT} {d : Nat} (hd : d ≤ 9) (h1 : ∀ ls, Low9 (rc (d + 1) ls) → rc' (d + 2) ls = (rc (d + 1) ls).map sh) (h2 : ∀ ls, Low9 (rc (d + 2) ls) → rc' (d + 3) ls = (rc (d + 2) ls).map sh)
    (s : Ln) (t : List Ln) (h : Low9 (nextT rc d s t).1) : nextT rc' (d + 1) s t = ((nextT rc d s t).1.map sh, (nextT rc d s t).2) := by
  unfold nextT at h ⊢
  rw [quotesT_sh hd, listsT_sh hd, paraGo_sh hd]
  split
  · rfl
  rename_i hb
  rw [if_neg hb] at h
  split
  · simp [codeB, sh]
  rename_i hc
  rw [if_neg hc] at h
  split
  · simp [codeB, sh]
  rename_i hf
  rw [hf] at h
  simp only at h
  split
  · simp [sh]
  rename_i hh
  rw [hh] at h
  simp only at h
  split
  · simp [sh]
  rename_i hr
  rw [if_neg hr] at h
  split
  · rename_i hq
    rw [if_pos hq] at h
    simp only at h ⊢
    rw [show d + 1 + 1 = d + 2 by omega, h1 _ (fun x hx => h x (by simp [hx]))]
    simp [sh]
  rename_i hq
  rw [if_neg hq] at h
  split
  · rename_i hl
    rw [if_pos hl] at h
    split
    · rename_i c num cols rest hi
      rw [hi] at h
      simp only at h
      rw [itemsT_sh h2 c _ _ (fun x hx => h x (by simp [hx]))]
      simp [listB, sh]
    · rfl
  rename_i hl
  rw [if_neg hl] at h
  split
  · simp [sh]
  · simp [paraB, sh]
theorem loopT_sh {n n' : Ln → List Ln → List BlockT × List Ln} (h : ∀ s t, Low9 (n s t).1 → n' s t = ((n s t).1.map sh, (n s t).2)) : ∀ (f : Nat) (l : List Ln), Low9 (loopT n f l) → loopT n' f l = (loopT n f l).map sh
  | 0, _, _ => rfl
  | f + 1, [], _ => rfl
  | f + 1, s :: t, hl => by
    unfold loopT at hl ⊢
    rw [h s t hl.left, List.map_append]
    simp only
    rw [loopT_sh h f _ hl.right]
/-- one deeper, all is as it was, one deeper -/
theorem allT_sh : ∀ (f f' d : Nat) (ls : List Ln), 14 ≤ f + d → 13 ≤ f' + d → d ≤ 12 → Low9 (allT f d ls) → allT f' (d + 1) ls = (allT f d ls).map sh
  | 0, f', d, ls, h1, h2, h3, _ => by omega
  | f + 1, 0, d, ls, h1, h2, h3, _ => by omega
  | f + 1, f' + 1, d, ls, h1, h2, h3, h => by
    by_cases hd : d ≤ 9
    · show loopT (nextT (allT f') (d + 1)) ls.length ls = (loopT (nextT (allT f) d) ls.length ls).map sh
      refine loopT_sh (fun s t hl => nextT_sh hd (fun ls h => allT_sh f f' (d + 1) ls (by omega) (by omega) (by omega) h) (fun ls h => allT_sh f f' (d + 2) ls (by omega) (by omega) (by omega) h) s t hl) _ _ h
    · have hb : AllB ls := by
        apply Classical.byContradiction
        intro hn
        obtain ⟨b, r, e, hbd⟩ := all_some (f := f) (d := d) hn
        have := h b (by rw [e]; simp)
        omega
      rw [all_allB _ _ _ hb, all_allB _ _ _ hb]; rfl
def quoted (x : Ln) : Ln := [62, 32] ++ x
theorem quoted_quote (x : Ln) : quoteT (quoted x) = some x := by
  have := quote_law 0 (32 :: x) (by decide)
  rw [show List.replicate 0 (32 : UInt8) ++ 62 :: 32 :: x = quoted x from rfl] at this
  rw [this]
  have : Lib.trimPrefix (32 :: x) [32] = x := by
    unfold Lib.trimPrefix
    rw [if_pos (by first | rfl | simp [List.isPrefixOf])]
    rfl
  rw [this]
theorem quoted_no (x : Ln) : NoBlank (quoted x) := fun b hb => by injection hb with hb; subst hb; decide
theorem quoted_rest (x : Ln) : restT (quoted x) = quoted x := restT_of_no (quoted_no x)
theorem quoted_next (rc : Nat → List Ln → List BlockT) (x : Ln) (t : List Ln) : nextT rc 0 (quoted x) t = (⟨3, 0, 0, false, [], []⟩ :: rc 1 (((quoted x :: t).takeWhile fun x => (quoteT x).isSome).filterMap quoteT), (quoted x :: t).drop ((quoted x :: t).takeWhile fun x => (quoteT x).isSome).length) := by
  have h0 : blankT (quoted x) = false := by unfold blankT quoted; simp
  have h1 : ¬ 4 ≤ colT 0 (quoted x) := by rw [colT_no (quoted_no x)]; decide
  have h2 : fenceT (quoted x) = none := by
    have hr := quoted_rest x
    unfold fenceT
    rw [hr]
    unfold quoted
    simp
  have h3 : headingT (quoted x) = none := by
    have hr := quoted_rest x
    have h0 : rowT 35 (quoted x) = 0 := by unfold rowT quoted; simp
    unfold headingT
    simp only [hr, h0]
    rw [if_neg (by omega)]
  have h4 : ruleT (quoted x) = false := by
    have hr := quoted_rest x
    unfold ruleT
    rw [hr]
    unfold quoted
    simp
  have h5 : quotesT 0 (quoted x) = true := by unfold quotesT; rw [quoted_quote]; rfl
  unfold nextT
  simp only [h0, h1, h2, h3, h4, h5, Bool.false_eq_true, if_false, if_true]
  rfl
theorem quotes_law {l : List Ln} (hn : l ≠ []) (h : Low9 (parseT l)) : parseT (l.map quoted) = ⟨3, 0, 0, false, [], []⟩ :: (parseT l).map sh := by
  have hall : (l.map quoted).takeWhile (fun x => (quoteT x).isSome) = l.map quoted := takeW_all' fun x hx => by
    obtain ⟨y, _, rfl⟩ := List.mem_map.1 hx
    rw [quoted_quote]; rfl
  have hfm : (l.map quoted).filterMap quoteT = l := by
    clear hall h hn
    induction l with
    | nil => rfl
    | cons x l ih => rw [List.map_cons, List.filterMap_cons, quoted_quote, ih]
  cases l with
  | nil => exact absurd rfl hn
  | cons x l =>
    have e := allT_sh 14 13 0 (x :: l) (by decide) (by decide) (by decide) h
    unfold parseT
    rw [List.map_cons] at hall hfm ⊢
    rw [allT_step, quoted_next, hall, hfm, List.drop_length, allT_nil, List.append_nil]
    rw [e]
end Go.Proofs.YtommebalgghdjaaDoor
