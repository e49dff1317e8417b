/-
  A table of contents is a forest of signs: the plain law.
-/
import Derived.Test.YtfdfpimilmhhoaaHtml
namespace Go.Proofs.Ytfdfpimilmhhoaa
open Go.RowKit
set_option linter.unusedVariables false

def fName (l : List UInt8) : List UInt8 := l.takeWhile (fun b => b != 32 && b != 62)
/-- what a sign does to those that are open (the last one ahead) -/
def fStep (t : List UInt8) (st : List (List UInt8)) : Option (List (List UInt8)) :=
  if t[1]? = some 47 then (match st with
    | [] => none
    | x :: r => if x = fName (t.drop 2) then some r else none)
  else if t[t.length - 2]? = some 47 then some st
  else some (fName (t.drop 1) :: st)
inductive Forest : List UInt8 → List (List UInt8) → List (List UInt8) → Prop
  | done : Forest [] [] []
  | text {b : UInt8} {r : List UInt8} {st ts : List (List UInt8)} (hb : b ≠ 60) (h : Forest r st ts) : Forest (b :: r) st ts
  | sign {body r : List UInt8} {st st' ts : List (List UInt8)} (hb : ∀ b ∈ body, b ≠ 62) (hs : fStep (60 :: (body ++ [62])) st = some st') (h : Forest r st' ts) : Forest (60 :: (body ++ 62 :: r)) st ((60 :: (body ++ [62])) :: ts)

theorem Forest.texts {x r : List UInt8} {st ts : List (List UInt8)} (hx : ∀ b ∈ x, b ≠ 60) (h : Forest r st ts) : Forest (x ++ r) st ts := by
  induction x with
  | nil => exact h
  | cons b x ih => exact .text (hx b (by simp)) (ih fun c hc => hx c (by simp [hc]))

theorem esc_plain (l : List UInt8) : ∀ b ∈ esc l, b ≠ 60 ∧ b ≠ 62 := by
  intro b hb
  obtain ⟨c, _, hc⟩ := List.mem_flatMap.1 hb
  unfold escB at hc
  split at hc
  · simp at hc; rcases hc with rfl | rfl | rfl | rfl | rfl <;> decide
  split at hc
  · simp at hc; rcases hc with rfl | rfl | rfl | rfl <;> decide
  split at hc
  · simp at hc; rcases hc with rfl | rfl | rfl | rfl <;> decide
  split at hc
  · simp at hc; rcases hc with rfl | rfl | rfl | rfl | rfl | rfl <;> decide
  split at hc
  · simp at hc
  · rename_i h1 h2 h3 h4 h5
    simp at hc
    subst hc
    exact ⟨h2, h3⟩

def tNav : List UInt8 := [60, 110, 97, 118, 62]
def tUl : List UInt8 := [60, 117, 108, 62]
def tLi : List UInt8 := [60, 108, 105, 62]
def tA (a : List UInt8) : List UInt8 := 60 :: ([97, 32, 104, 114, 101, 102, 61, 34, 35, 115, 45] ++ a ++ [34] ++ [62])
def eNav : List UInt8 := [60, 47, 110, 97, 118, 62]
def eUl : List UInt8 := [60, 47, 117, 108, 62]
def eLi : List UInt8 := [60, 47, 108, 105, 62]
def eA : List UInt8 := [60, 47, 97, 62]
def nNav : List UInt8 := [110, 97, 118]
def nUl : List UInt8 := [117, 108]
def nLi : List UInt8 := [108, 105]
def nA : List UInt8 := [97]
/-- how many of the signs link -/
def isA (t : List UInt8) : Bool := decide (2 < t.length) && t.take 3 == [60, 97, 32]
def linksN (ts : List (List UInt8)) : Nat := (ts.filter isA).length

section
variable {r : List UInt8} {st ts : List (List UInt8)}
theorem Forest.nav (h : Forest r (nNav :: st) ts) : Forest (tNav ++ r) st (tNav :: ts) := Forest.sign (body := [110, 97, 118]) (by decide) rfl h
theorem Forest.ul (h : Forest r (nUl :: st) ts) : Forest (tUl ++ r) st (tUl :: ts) := Forest.sign (body := [117, 108]) (by decide) rfl h
theorem Forest.li (h : Forest r (nLi :: st) ts) : Forest (tLi ++ r) st (tLi :: ts) := Forest.sign (body := [108, 105]) (by decide) rfl h
theorem Forest.eul (h : Forest r st ts) : Forest (eUl ++ r) (nUl :: st) (eUl :: ts) := Forest.sign (body := [47, 117, 108]) (by decide) rfl h
theorem Forest.eli (h : Forest r st ts) : Forest (eLi ++ r) (nLi :: st) (eLi :: ts) := Forest.sign (body := [47, 108, 105]) (by decide) rfl h
theorem Forest.enav (h : Forest r st ts) : Forest (eNav ++ r) (nNav :: st) (eNav :: ts) := Forest.sign (body := [47, 110, 97, 118]) (by decide) rfl h
theorem Forest.ea (h : Forest r st ts) : Forest (eA ++ r) (nA :: st) (eA :: ts) := Forest.sign (body := [47, 97]) (by decide) rfl h
theorem Forest.lf (h : Forest r st ts) : Forest (10 :: r) st ts := .text (by decide) h
theorem Forest.a {a : List UInt8} (ha : ∀ b ∈ a, b ≠ 62) (h : Forest r (nA :: st) ts) : Forest (tA a ++ r) st (tA a :: ts) := by
  have hs : fStep (tA a) st = some (nA :: st) := by
    have h1 : (tA a)[1]? = some 97 := rfl
    have h2 : (tA a)[(tA a).length - 2]? = some 34 := by
      have : tA a = (60 :: ([97, 32, 104, 114, 101, 102, 61, 34, 35, 115, 45] ++ a)) ++ [34, 62] := by simp [tA]
      rw [this, List.length_append, show ([34, 62] : List UInt8).length = 2 from rfl, Nat.add_sub_cancel, List.getElem?_append_right (Nat.le_refl _), Nat.sub_self]
      rfl
    unfold fStep
    rw [h1, h2]
    rw [if_neg (by decide), if_neg (by decide)]
    rfl
  have hb : ∀ b ∈ ([97, 32, 104, 114, 101, 102, 61, 34, 35, 115, 45] ++ a ++ [34] : List UInt8), b ≠ 62 := by
    intro b hb
    simp only [List.mem_append] at hb
    rcases hb with (hb | hb) | hb
    · revert b; decide
    · exact ha b hb
    · revert b; decide
  have := Forest.sign hb hs h
  have e1 : tA a ++ r = 60 :: (([97, 32, 104, 114, 101, 102, 61, 34, 35, 115, 45] ++ a ++ [34]) ++ 62 :: r) := by simp [tA]
  rw [e1]
  exact this
end

def stkN : Nat → List (List UInt8)
  | 0 => [nUl, nNav]
  | d + 1 => nUl :: nLi :: stkN d
theorem isA_a (a : List UInt8) : isA (tA a) = true := by simp [isA, tA]
theorem linksN_cons (t : List UInt8) (ts : List (List UInt8)) : linksN (t :: ts) = linksN ts + if isA t then 1 else 0 := by
  unfold linksN
  rw [List.filter_cons]
  split <;> simp

theorem forest_ends (d e : Nat) {r : List UInt8} {ts : List (List UInt8)} (h : Forest r (stkN d) ts) :
    ∃ ts', Forest ((List.replicate e navEnd).flatten ++ r) (stkN (d + e)) ts' ∧ linksN ts' = linksN ts ∧ (ts ≠ [] → ts'.getLast? = ts.getLast? ∧ ts' ≠ []) := by
  induction e with
  | zero => exact ⟨ts, by simpa using h, rfl, fun h => ⟨rfl, h⟩⟩
  | succ e ih =>
    obtain ⟨ts', h1, h2, h3⟩ := ih
    refine ⟨eUl :: eLi :: ts', ?_, ?_, fun hne => ?_⟩
    · have : (List.replicate (e + 1) navEnd).flatten ++ r = eUl ++ (10 :: (eLi ++ (10 :: ((List.replicate e navEnd).flatten ++ r)))) := by
        rw [List.replicate_succ]; simp [navEnd, eUl, eLi]
      rw [this]
      exact Forest.eul (Forest.lf (Forest.eli (Forest.lf h1)))
    · rw [linksN_cons, linksN_cons, h2]; rfl
    · obtain ⟨h4, h5⟩ := h3 hne
      refine ⟨?_, by simp⟩
      rw [List.getLast?_cons, List.getLast?_cons]
      rcases hx : ts'.getLast? with _ | x
      · exact absurd (List.getLast?_eq_none_iff.1 hx) h5
      · rw [← h4, hx]; rfl

theorem forest_entry (x : Sec) (numbers : Bool) {r : List UInt8} {st ts : List (List UInt8)} (ha : ∀ b ∈ L x.anchor, b ≠ 62) (h : Forest r (nLi :: st) ts) :
    Forest (entryT x numbers ++ r) st (tLi :: tA (L x.anchor) :: eA :: ts) := by
  have e : entryT x numbers ++ r = tLi ++ (tA (L x.anchor) ++ (((if numbers then esc (L x.number) ++ [32] else []) ++ esc (L x.text)) ++ (eA ++ r))) := by
    simp [entryT, tLi, tA, eA]
  rw [e]
  refine Forest.li (Forest.a ha (Forest.texts ?_ (Forest.ea h)))
  intro b hb
  rw [List.mem_append] at hb
  rcases hb with hb | hb
  · split at hb
    · rw [List.mem_append] at hb
      rcases hb with hb | hb
      · exact (esc_plain _ b hb).1
      · simp at hb; subst hb; decide
    · cases hb
  · exact (esc_plain _ b hb).1

theorem forest_item (numbers : Bool) (l : List Sec) (deep : List Nat) (i : Nat) (hi : i < l.length) (hup : deep.getD (i + 1) 0 ≤ deep.getD i 0 + 1) (hlast : i + 1 = l.length → deep.getD (i + 1) 0 = 0) (ha : ∀ x ∈ l, ∀ b ∈ L x.anchor, b ≠ 62)
    {r : List UInt8} {ts : List (List UInt8)} (hne : ts ≠ []) (h : Forest r (stkN (deep.getD (i + 1) 0)) ts) :
    ∃ ts', Forest (navItem numbers l deep i ++ r) (stkN (deep.getD i 0)) ts' ∧ linksN ts' = linksN ts + 1 ∧ ts'.getLast? = ts.getLast? ∧ ts' ≠ [] := by
  have hx : l[i]? = some l[i] := List.getElem?_eq_getElem hi
  have hax := ha l[i] (List.getElem_mem hi)
  have last2 : ∀ us : List (List UInt8), us ≠ [] → ∀ u : List UInt8, (u :: us).getLast? = us.getLast? := fun us hu u => by
    rw [List.getLast?_cons]
    rcases hq : us.getLast? with _ | q
    · exact absurd (List.getLast?_eq_none_iff.1 hq) hu
    · rfl
  unfold navItem
  rw [hx]
  by_cases hd : i + 1 < l.length ∧ deep.getD i 0 < deep.getD (i + 1) 0
  · simp only [if_pos hd]
    have he : deep.getD (i + 1) 0 = deep.getD i 0 + 1 := by omega
    rw [he] at h
    refine ⟨tLi :: tA (L l[i].anchor) :: eA :: tUl :: ts, ?_, ?_, ?_, by simp⟩
    · rw [List.append_assoc]
      refine forest_entry _ _ hax ?_
      exact Forest.lf (Forest.ul (Forest.lf h))
    · rw [linksN_cons, linksN_cons, linksN_cons, linksN_cons, isA_a]; rfl
    · rw [last2 _ (by simp), last2 _ (by simp), last2 _ (by simp), last2 _ hne]
  · simp only [if_neg hd]
    have hle : deep.getD (i + 1) 0 ≤ deep.getD i 0 := by
      rcases Nat.lt_or_ge (i + 1) l.length with h1 | h1
      · rcases Nat.lt_or_ge (deep.getD i 0) (deep.getD (i + 1) 0) with h2 | h2
        · exact absurd ⟨h1, h2⟩ hd
        · exact h2
      · rw [hlast (by omega)]; omega
    obtain ⟨ts', h1, h2, h3⟩ := forest_ends (deep.getD (i + 1) 0) (deep.getD i 0 - deep.getD (i + 1) 0) h
    rw [show deep.getD (i + 1) 0 + (deep.getD i 0 - deep.getD (i + 1) 0) = deep.getD i 0 by omega] at h1
    obtain ⟨h4, h5⟩ := h3 hne
    refine ⟨tLi :: tA (L l[i].anchor) :: eA :: eLi :: ts', ?_, ?_, ?_, by simp⟩
    · rw [List.append_assoc]
      refine forest_entry _ _ hax ?_
      rw [List.append_assoc]
      exact Forest.eli (Forest.lf h1)
    · rw [linksN_cons, linksN_cons, linksN_cons, linksN_cons, isA_a, h2]; rfl
    · rw [last2 _ (by simp), last2 _ (by simp), last2 _ (by simp), last2 _ h5, h4]

theorem dpF_get (zs : List Int) : ∀ (st : List Int) (i : Nat) (x : Int), zs[i]? = some x → (dpDepths st zs)[i]? = some (popTo x (dpStack st (zs.take i))).length := by
  induction zs with
  | nil => intro st i x hx; simp at hx
  | cons z zs ih =>
    intro st i x hx
    rcases i with _ | i
    · simp at hx; subst hx; simp [dpDepths, dpStack]
    · have := ih (z :: popTo z st) i x (by simpa using hx)
      simpa [dpDepths, dpStack] using this
theorem dpF_up (zs : List Int) (i : Nat) : (dpDepths [] zs ++ [0]).getD (i + 1) 0 ≤ (dpDepths [] zs ++ [0]).getD i 0 + 1 := by
  rcases Nat.lt_or_ge (i + 1) zs.length with h | h
  · have ha : zs[i]? = some zs[i] := List.getElem?_eq_getElem (by omega)
    have hb : zs[i + 1]? = some zs[i + 1] := List.getElem?_eq_getElem h
    have h1 := dpF_get zs [] i _ ha
    have h2 := dpF_get zs [] (i + 1) _ hb
    rw [List.take_add_one, ha, Option.toList_some, dpStack_snoc] at h2
    have h3 := popTo_length zs[i + 1] (zs[i] :: popTo zs[i] (dpStack [] (zs.take i)))
    rw [List.getD_eq_getElem?_getD, List.getD_eq_getElem?_getD, List.getElem?_append_left (by rw [dpDepths_length]; omega), List.getElem?_append_left (by rw [dpDepths_length]; omega), h1, h2]
    simp only [Option.getD_some, List.length_cons] at h3 ⊢
    exact h3
  · have : (dpDepths [] zs ++ [0]).getD (i + 1) 0 = 0 := by
      rw [List.getD_eq_getElem?_getD, List.getElem?_append_right (by rw [dpDepths_length]; omega), dpDepths_length]
      rcases hq : ([0] : List Nat)[i + 1 - zs.length]? with _ | q
      · rfl
      · have := List.mem_of_getElem? hq; simp at this; subst this; rfl
    omega

theorem forest_items (numbers : Bool) (l : List Sec) (deep : List Nat) (hup : ∀ i, deep.getD (i + 1) 0 ≤ deep.getD i 0 + 1) (hlast : deep.getD l.length 0 = 0) (ha : ∀ x ∈ l, ∀ b ∈ L x.anchor, b ≠ 62)
    {r : List UInt8} {ts : List (List UInt8)} (hne : ts ≠ []) (h : Forest r (stkN 0) ts) :
    ∀ m k, k + m = l.length → ∃ ts', Forest ((List.range' k m).flatMap (navItem numbers l deep) ++ r) (stkN (deep.getD k 0)) ts' ∧ linksN ts' = linksN ts + m ∧ ts'.getLast? = ts.getLast? ∧ ts' ≠ [] := by
  intro m
  induction m with
  | zero => intro k hk; exact ⟨ts, by rw [show k = l.length by omega, hlast]; simpa using h, rfl, rfl, hne⟩
  | succ m ih =>
    intro k hk
    obtain ⟨ts1, h1, h2, h3, h4⟩ := ih (k + 1) (by omega)
    obtain ⟨ts2, g1, g2, g3, g4⟩ := forest_item numbers l deep k (by omega) (hup k) (fun e => by rw [e, hlast]) ha h4 h1
    refine ⟨ts2, ?_, by omega, g3.trans h3, g4⟩
    rw [List.range'_succ, List.flatMap_cons, List.append_assoc]
    exact g1

/-- the table of sections that link to small letters alone is a forest: as many links as sections -/
theorem forest_html (l : List Sec) (numbers : Bool) (hl : l ≠ []) (ha : ∀ x ∈ l, ∀ b ∈ L x.anchor, b ≠ 62) :
    ∃ ts, Forest (htmlT l numbers) [] (tNav :: ts) ∧ linksN (tNav :: ts) = l.length ∧ (tNav :: ts).getLast? = some eNav := by
  have h0 : Forest ([60, 47, 117, 108, 62, 10, 60, 47, 110, 97, 118, 62, 10] : List UInt8) (stkN 0) [eUl, eNav] :=
    Forest.eul (st := [nNav]) (Forest.lf (Forest.enav (Forest.lf Forest.done)))
  obtain ⟨ts, h1, h2, h3, h4⟩ := forest_items numbers l (dpDepths [] (l.map Sec.level) ++ [0]) (dpF_up _) (by
    rw [List.getD_eq_getElem?_getD, List.getElem?_append_right (by rw [dpDepths_length]; simp), dpDepths_length]; simp) ha (by simp) h0 l.length 0 (by omega)
  have hd0 : (dpDepths [] (l.map Sec.level) ++ [0]).getD 0 0 = 0 := by
    cases l with
    | nil => rfl
    | cons x l => simp [dpDepths, popTo]
  rw [hd0] at h1
  refine ⟨tUl :: ts, ?_, ?_, ?_⟩
  · unfold htmlT navTo
    rw [if_neg hl, List.range_eq_range', List.append_assoc]
    exact Forest.nav (Forest.lf (Forest.ul (Forest.lf h1)))
  · rw [linksN_cons, linksN_cons, h2]; simp [isA, tNav, tUl, linksN, eUl, eNav]
  · have last2 : ∀ us : List (List UInt8), us ≠ [] → ∀ u : List UInt8, (u :: us).getLast? = us.getLast? := fun us hu u => by
      rw [List.getLast?_cons]
      rcases hq : us.getLast? with _ | q
      · exact absurd (List.getLast?_eq_none_iff.1 hq) hu
      · rfl
    rw [last2 _ (by simp), last2 _ h4, h3]; rfl
end Go.Proofs.Ytfdfpimilmhhoaa
