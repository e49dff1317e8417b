/-
  Plain law of lists of numbers.
-/
import Derived.Test.YtommebalgghdjaaDoorBlockCodeLaw
namespace Go.Proofs.YtommebalgghdjaaDoor
set_option linter.unusedVariables false

/-- a number's digits -/
def digsT : Nat → Nat → List UInt8
  | 0, _ => []
  | f + 1, v => if v < 10 then [UInt8.ofNat (48 + v)] else digsT f (v / 10) ++ [UInt8.ofNat (48 + v % 10)]
def digs (v : Nat) : List UInt8 := digsT 5 v
def rowX (sign : UInt8) (v : Nat) : Ln := digs v ++ [sign, 32, 120]
def rowOk (sign : UInt8) (v : Nat) : Bool :=
  let s := rowX sign v
  !blankT s && decide (colT 0 s = 0) && (fenceT s).isNone && (headingT s).isNone && !ruleT s && (quoteT s).isNone && decide (itemT s = some (sign, (v : Int), (digs v).length + 2, [120]))
theorem rows_ok : ∀ v, v < 1014 → rowOk 46 v = true ∧ rowOk 41 v = true := by
  have h : ∀ v, v < 1014 → (rowOk 46 v && rowOk 41 v) = true := by decide +kernel
  intro v hv
  have := h v hv
  rwa [Bool.and_eq_true] at this
structure RowOk (sign : UInt8) (v : Nat) : Prop where
  blank : blankT (rowX sign v) = false
  col : colT 0 (rowX sign v) = 0
  fence : fenceT (rowX sign v) = none
  heading : headingT (rowX sign v) = none
  rule : ruleT (rowX sign v) = false
  quote : quoteT (rowX sign v) = none
  item : itemT (rowX sign v) = some (sign, (v : Int), (digs v).length + 2, [120])
theorem rowOk_of {sign : UInt8} {v : Nat} (h : rowOk sign v = true) : RowOk sign v := by
  unfold rowOk at h
  simp only [Bool.and_eq_true, Bool.not_eq_true', decide_eq_true_eq, Option.isNone_iff_eq_none] at h
  obtain ⟨⟨⟨⟨⟨⟨h1, h2⟩, h3⟩, h4⟩, h5⟩, h6⟩, h7⟩ := h
  exact ⟨h1, h2, h3, h4, h5, h6, h7⟩
theorem row_ok {sign : UInt8} {v : Nat} (hs : sign = 46 ∨ sign = 41) (hv : v < 1014) : RowOk sign v := by
  rcases hs with rfl | rfl
  · exact rowOk_of (rows_ok v hv).1
  · exact rowOk_of (rows_ok v hv).2
/-- an item's lines -/
def itemLines (blank : Bool) (sign : UInt8) (v : Nat) : List Ln := rowX sign v :: (if blank then [[]] else [])
def rowsX (blank : Bool) (sign : UInt8) (from_ n : Nat) : List Ln := (List.range' from_ n).flatMap (itemLines blank sign)
theorem rowsX_succ (blank : Bool) (sign : UInt8) (from_ n : Nat) : rowsX blank sign from_ (n + 1) = rowX sign from_ :: ((if blank then [[]] else []) ++ rowsX blank sign (from_ + 1) n) := by
  unfold rowsX
  rw [List.range'_succ, List.flatMap_cons]
  rfl
theorem rowsX_snoc (blank : Bool) (sign : UInt8) (from_ n : Nat) : rowsX blank sign from_ (n + 1) = rowsX blank sign from_ n ++ itemLines blank sign (from_ + n) := by
  unfold rowsX
  rw [List.range'_1_concat, List.flatMap_append]
  simp
/-- the lines behind: none, or such as an item of another sign begins -/
def Stops (sign : UInt8) (R : List Ln) : Prop := R = [] ∨ ∃ s t, R = s :: t ∧ blankT s = false ∧ colT 0 s = 0 ∧ ∃ c v cols rest, itemT s = some (c, v, cols, rest) ∧ c ≠ sign
theorem span_none {cols : Nat} {s : Ln} {t : List Ln} (hc : 0 < cols) (hb : blankT s = false) (h0 : colT 0 s = 0) : spanLines cols (s :: t) = [] := by
  have : wideT cols s = false := by unfold wideT; rw [hb, h0, decide_eq_false (by omega)]; rfl
  unfold spanLines; rw [List.takeWhile_cons, this]; rfl
theorem span_none' {cols : Nat} {s : Ln} {t : List Ln} (hc : 0 < cols) (hb : blankT s = false) (h0 : colT 0 s = 0) : spanLines cols ([] :: s :: t) = [] := by
  have h1 : wideT cols s = false := by unfold wideT; rw [hb, h0, decide_eq_false (by omega)]; rfl
  have h2 : wideT cols [] = true := by unfold wideT blankT; simp
  unfold spanLines; rw [List.takeWhile_cons, h2, if_pos rfl, List.takeWhile_cons, h1]; rfl
theorem span_nil {cols : Nat} : spanLines cols [] = [] := rfl
theorem span_nil' {cols : Nat} : spanLines cols [[]] = [] := by
  have h2 : wideT cols [] = true := by unfold wideT blankT; simp
  unfold spanLines; rw [List.takeWhile_cons, h2]; rfl
def itemBs (rc : Nat → List Ln → List BlockT) (n : Nat) : List BlockT := (List.replicate n (⟨5, 1, 0, false, [], []⟩ :: rc 2 [[120]])).flatten
theorem itemBs_succ (rc : Nat → List Ln → List BlockT) (n : Nat) : itemBs rc (n + 1) = (⟨5, 1, 0, false, [], []⟩ :: rc 2 [[120]]) ++ itemBs rc n := by
  unfold itemBs; rw [List.replicate_succ, List.flatten_cons]
theorem stop_items {rc : Nat → List Ln → List BlockT} {sign : UInt8} {R : List Ln} (h : Stops sign R) (f : Nat) : itemsT rc 0 sign f R = ([], 0) := by
  cases f with
  | zero => rfl
  | succ f =>
    rcases h with rfl | ⟨s, t, rfl, _, _, c, v, cols, rest, hi, hne⟩
    · rfl
    · rw [itemsT, hi]; simp only; rw [if_neg hne]
/-- what is left behind a blank line -/
theorem span_tail {cols : Nat} (hc : 0 < cols) {R : List Ln} (blank : Bool) (h : R = [] ∨ ∃ s t, R = s :: t ∧ blankT s = false ∧ colT 0 s = 0) : spanLines cols ((if blank then [[]] else []) ++ R) = [] := by
  rcases h with rfl | ⟨s, t, rfl, h1, h2⟩
  · cases blank
    · exact span_nil
    · exact span_nil'
  · cases blank
    · exact span_none hc h1 h2
    · exact span_none' hc h1 h2
theorem blank_tail {R : List Ln} (blank : Bool) (h : R = [] ∨ ∃ s t, R = s :: t ∧ blankT s = false ∧ colT 0 s = 0) : (((if blank then [[]] else []) ++ R).takeWhile blankT).length = (if blank then 1 else 0) := by
  have e : blankT ([] : Ln) = true := rfl
  rcases h with rfl | ⟨s, t, rfl, h1, h2⟩
  · cases blank <;> rfl
  · cases blank
    · show ((s :: t).takeWhile blankT).length = 0
      rw [List.takeWhile_cons, h1]; rfl
    · show (([] :: s :: t : List Ln).takeWhile blankT).length = 1
      rw [List.takeWhile_cons, e, if_pos rfl, List.takeWhile_cons, h1]; rfl
theorem tail_head {blank : Bool} {sign : UInt8} {R : List Ln} (hs : sign = 46 ∨ sign = 41) (hR : Stops sign R) (from_ n : Nat) (hv : from_ + n ≤ 1014) : (rowsX blank sign from_ n ++ R) = [] ∨ ∃ s t, (rowsX blank sign from_ n ++ R) = s :: t ∧ blankT s = false ∧ colT 0 s = 0 := by
  cases n with
  | zero =>
    rcases hR with rfl | ⟨s, t, rfl, h1, h2, _⟩
    · exact .inl rfl
    · exact .inr ⟨s, t, rfl, h1, h2⟩
  | succ n =>
    have hk := row_ok hs (v := from_) (by omega)
    rw [rowsX_succ]
    exact .inr ⟨_, _, rfl, hk.blank, hk.col⟩
theorem items_law (rc : Nat → List Ln → List BlockT) (blank : Bool) (sign : UInt8) (hs : sign = 46 ∨ sign = 41) (R : List Ln) (hR : Stops sign R) : ∀ (n f from_ : Nat), n ≤ f → from_ + n ≤ 1014 →
    itemsT rc 0 sign f (rowsX blank sign from_ n ++ R) = (itemBs rc n, if n = 0 then 0 else n + (n - 1) * (if blank then 1 else 0))
  | 0, f, from_, _, _ => stop_items hR f
  | n + 1, 0, from_, hf, _ => by omega
  | n + 1, f + 1, from_, hf, hv => by
    have hk := row_ok hs (v := from_) (by omega)
    have ht := tail_head (blank := blank) hs hR (from_ + 1) n (by omega)
    have ih := items_law rc blank sign hs R hR n f (from_ + 1) (by omega) (by omega)
    rw [rowsX_succ, List.cons_append, List.append_assoc, itemsT, hk.item]
    simp only [if_true]
    rw [span_tail (by omega) blank ht, List.length_nil, List.drop_zero, blank_tail blank ht]
    have e : ((if blank then [[]] else []) ++ (rowsX blank sign (from_ + 1) n ++ R) : List Ln).drop (if blank then 1 else 0) = rowsX blank sign (from_ + 1) n ++ R := by
      cases blank <;> rfl
    rw [e, ih]
    simp only [List.map_nil, Prod.mk.injEq]
    refine ⟨by rw [itemBs_succ]; rfl, ?_⟩
    cases n with
    | zero => simp
    | succ n =>
      cases blank
      · simp; omega
      · simp; omega
theorem rowsX_len (blank : Bool) (sign : UInt8) (from_ n : Nat) : (rowsX blank sign from_ n).length = n + n * (if blank then 1 else 0) := by
  induction n generalizing from_ with
  | zero => simp [rowsX]
  | succ n ih => rw [rowsX_succ, List.length_cons, List.length_append, ih]; cases blank <;> simp <;> omega
theorem xs_parse : allT 13 2 [[120]] = [⟨1, 2, 0, false, [120], []⟩] := by decide +kernel
/-- the first 'count' lines and what is left -/
theorem rows_cut (blank : Bool) (sign : UInt8) (from_ n : Nat) (hn : 0 < n) : ∃ F, rowsX blank sign from_ n = F ++ (if blank then [[]] else []) ∧ F.length = n + (n - 1) * (if blank then 1 else 0) := by
  obtain ⟨k, rfl⟩ : ∃ k, n = k + 1 := ⟨n - 1, by omega⟩
  refine ⟨rowsX blank sign from_ k ++ [rowX sign (from_ + k)], by rw [rowsX_snoc, List.append_assoc]; rfl, ?_⟩
  rw [List.length_append, rowsX_len, List.length_singleton]; cases blank <;> simp <;> omega
theorem all_rows (blank : Bool) (sign : UInt8) (hs : sign = 46 ∨ sign = 41) (from_ n : Nat) (hv : from_ + n ≤ 1014) : (rowsX false sign from_ n).all (fun x => !blankT x) = true := by
  induction n generalizing from_ with
  | zero => rfl
  | succ n ih =>
    rw [rowsX_succ]
    have hk := row_ok hs (v := from_) (by omega)
    simp [hk.blank, ih (from_ + 1) (by omega)]
def bodyBs (n : Nat) : List BlockT := (List.replicate n ([⟨5, 1, 0, false, [], []⟩, ⟨1, 2, 0, false, [120], []⟩] : List BlockT)).flatten
theorem lists_one (blank : Bool) (sign : UInt8) (hs : sign = 46 ∨ sign = 41) (from_ n : Nat) (hn : 0 < n) (hv : from_ + n ≤ 1014) (R : List Ln) (hR : Stops sign R) :
    parseT (rowsX blank sign from_ n ++ R) = (listB 0 from_ (!blank || n == 1) sign :: bodyBs n) ++ parseT R := by
  have hk := row_ok hs (v := from_) (by omega)
  have hbs : itemBs (allT 13) n = bodyBs n := by unfold itemBs bodyBs; rw [xs_parse]
  obtain ⟨F, hF, hFl⟩ := rows_cut blank sign from_ n hn
  have hit := fun f hf => items_law (allT 13) blank sign hs R hR n f from_ hf hv
  rw [if_neg (by omega), hbs] at hit
  have hlen := rowsX_len blank sign from_ n
  obtain ⟨s, t, hst, hseq⟩ : ∃ s t, rowsX blank sign from_ n ++ R = s :: t ∧ s = rowX sign from_ := by
    obtain ⟨k, rfl⟩ : ∃ k, n = k + 1 := ⟨n - 1, by omega⟩
    rw [rowsX_succ]
    exact ⟨_, _, rfl, rfl⟩
  have hlt : n ≤ t.length + 1 := by
    have := congrArg List.length hst
    rw [List.length_append, List.length_cons] at this
    omega
  have hit := hit (t.length + 1) hlt
  have hcut : (s :: t).drop F.length = (if blank then [[]] else []) ++ R := by
    rw [← hst, hF, List.append_assoc, List.drop_left]
  have htake : (s :: t).take F.length = F := by
    rw [← hst, hF, List.append_assoc, List.take_left]
  have hall : F.all (fun x => !blankT x) = (!blank || n == 1) := by
    cases blank with
    | false =>
      have := all_rows false sign hs from_ n hv
      rw [hF, if_neg (by decide), List.append_nil] at this
      rw [this]; rfl
    | true =>
      by_cases h1 : n = 1
      · subst h1
        have : F = [rowX sign from_] := by
          have := hF
          rw [rowsX_succ] at this
          simp only [if_true, rowsX, List.range'_zero, List.flatMap_nil, List.append_nil] at this
          have h2 := congrArg (List.take 1) this
          rw [List.take_append_of_le_length (l₁ := F) (by rw [hFl]; simp), List.take_of_length_le (l := F) (by rw [hFl]; simp)] at h2
          exact h2.symm
        rw [this]
        simp [hk.blank]
      · have e1 : (n == 1) = false := by simp [h1]
        rw [e1]
        obtain ⟨k, rfl⟩ : ∃ k, n = k + 2 := ⟨n - 2, by omega⟩
        have hm : ([] : Ln) ∈ F := by
          have := hF
          rw [rowsX_succ, if_pos rfl, rowsX_snoc, ← List.append_assoc] at this
          have h3 : (rowX sign from_ :: ([[]] ++ rowsX true sign (from_ + 1) k) ++ itemLines true sign (from_ + 1 + k)) = (rowX sign from_ :: ([] :: rowsX true sign (from_ + 1) k) ++ [rowX sign (from_ + 1 + k)]) ++ [[]] := by
            unfold itemLines; simp
          rw [show rowX sign from_ :: ([[]] ++ rowsX true sign (from_ + 1) k ++ itemLines true sign (from_ + 1 + k)) = (rowX sign from_ :: ([[]] ++ rowsX true sign (from_ + 1) k) ++ itemLines true sign (from_ + 1 + k)) from rfl, h3] at this
          have h4 := List.append_cancel_right this
          rw [← h4]; simp
        simp only [Bool.not_true, Bool.false_or]
        rw [List.all_eq_false]
        exact ⟨[], hm, by decide⟩
  have hnext : nextT (allT 13) 0 s t = (listB 0 from_ (!blank || n == 1) sign :: bodyBs n, (if blank then [[]] else []) ++ R) := by
    have hq : quotesT 0 s = false := by unfold quotesT; rw [hseq, hk.quote]; rfl
    have hl : listsT 0 s = true := by unfold listsT; rw [hseq, hk.item]; rfl
    rw [hst] at hit
    unfold nextT
    rw [hl, hq]
    subst hseq
    rw [hk.blank, hk.col, hk.fence, hk.heading, hk.rule, hk.item]
    simp only [Bool.false_eq_true, if_false, if_true]
    rw [hit]
    simp only
    rw [← hFl, hcut, htake, hall]
    simp
  unfold parseT
  rw [hst, allT_step, hnext]
  cases blank with
  | false => rfl
  | true =>
    show _ ++ parseT ([] :: R) = _
    rw [parse_blank (by rfl)]
    rfl
/-- the law: of one sign -/
theorem lists_law (blank : Bool) (from_ n : Nat) (hn : 0 < n) (hv : from_ + n ≤ 1014) : parseT (rowsX blank 46 from_ n) = listB 0 from_ (!blank || n == 1) 46 :: bodyBs n := by
  have := lists_one blank 46 (.inl rfl) from_ n hn hv [] (.inl rfl)
  rw [List.append_nil] at this
  rw [this]
  show _ ++ [] = _
  rw [List.append_nil]
theorem lists_last (blank : Bool) (from_ : Nat) (hv : from_ + 1 ≤ 1014) : parseT (itemLines blank 41 from_) = listB 0 from_ true 41 :: bodyBs 1 := by
  have := lists_one blank 41 (.inr rfl) from_ 1 (by omega) hv [] (.inl rfl)
  rw [List.append_nil] at this
  have e : rowsX blank 41 from_ 1 = itemLines blank 41 from_ := by rw [rowsX_snoc]; rfl
  rw [e] at this
  rw [this]
  show (listB 0 from_ (!blank || (1 : Nat) == 1) 41 :: bodyBs 1) ++ [] = _
  rw [List.append_nil]
  cases blank <;> rfl
/-- the last of another sign -/
theorem lists_other (blank : Bool) (from_ n : Nat) (hn : 0 < n) (hv : from_ + n + 1 ≤ 1014) : parseT (rowsX blank 46 from_ n ++ itemLines blank 41 (from_ + n)) = (listB 0 from_ (!blank || n == 1) 46 :: bodyBs n) ++ (listB 0 (from_ + n : Nat) true 41 :: bodyBs 1) := by
  have hk := row_ok (sign := 41) (.inr rfl) (v := from_ + n) (by omega)
  rw [lists_one blank 46 (.inl rfl) from_ n hn (by omega) (itemLines blank 41 (from_ + n)) (.inr ⟨_, _, rfl, hk.blank, hk.col, 41, _, _, _, hk.item, by decide⟩), lists_last blank (from_ + n) (by omega)]
end Go.Proofs.YtommebalgghdjaaDoor
