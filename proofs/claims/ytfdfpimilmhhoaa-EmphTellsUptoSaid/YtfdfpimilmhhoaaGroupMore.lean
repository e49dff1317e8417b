/-
  emph: plain laws on Group: no sign is lost, depths are nested, rows that are not closed stay words, rows around one piece are nested.
-/
import Derived.Test.YtfdfpimilmhhoaaGroupLaws
namespace Go.Proofs.Ytfdfpimilmhhoaa
open Go.RowKit

theorem gRun_ind {Inv : List Pc → Prop} (hs : ∀ ps i, i < ps.length → Inv ps → Inv (gStep ps i).1) : ∀ (f : Nat) (ps : List Pc) (i : Nat), Inv ps → Inv (gRun f ps i)
  | 0, _, _, h => h
  | f + 1, ps, i, h => by
    rw [gRun]
    split
    · rename_i hi
      exact gRun_ind hs f _ _ (hs ps i hi h)
    · exact h

/-! ## depths -/
/-- each is no deeper than it may be: as deep as the one ahead, one deeper if that is no Words -/
def WN (k : Int) : Int → List Inl → Prop
  | _, [] => True
  | d, x :: l => k ≤ x.depth ∧ x.depth ≤ d ∧ WN k (x.depth + if x.kind = 1 then 0 else 1) l
theorem WN.mono {k k' d d' : Int} {l : List Inl} (h : WN k d l) (hk : k' ≤ k) (hd : d ≤ d') : WN k' d' l := by
  induction l generalizing d d' with
  | nil => trivial
  | cons x l ih => obtain ⟨h1, h2, h3⟩ := h; exact ⟨by omega, by omega, ih h3 (by omega)⟩
theorem WN.app {k d : Int} {a b : List Inl} (ha : WN k d a) (hb : WN k k b) (hd : k ≤ d) : WN k d (a ++ b) := by
  induction a generalizing d with
  | nil => exact hb.mono (by omega) hd
  | cons x a ih => obtain ⟨h1, h2, h3⟩ := ha; exact ⟨h1, h2, ih h3 (by split <;> omega)⟩
theorem WN.flat {α : Type} {k : Int} {f : α → List Inl} {l : List α} (h : ∀ p ∈ l, WN k k (f p)) : WN k k (l.flatMap f) := by
  induction l with
  | nil => trivial
  | cons x l ih => rw [List.flatMap_cons]; exact (h x (by simp)).app (ih fun p hp => h p (by simp [hp])) (by omega)
theorem WN.bound {k d : Int} {l : List Inl} (h : WN k d l) : ∀ x ∈ l, k ≤ x.depth ∧ x.depth ≤ d + l.length := by
  induction l generalizing d with
  | nil => simp
  | cons x l ih =>
    obtain ⟨h1, h2, h3⟩ := h
    intro y hy
    rcases List.mem_cons.1 hy with rfl | hy
    · simp only [List.length_cons]; omega
    · have := ih h3 y hy
      simp only [List.length_cons]
      split at this <;> omega
theorem wrap_in {x : Int} (h : -9223372036854775808 ≤ x) (h' : x ≤ 9223372036854775807) : wrap64 x = x := IntWalk.wrap64_in _ ⟨h, h'⟩
theorem WN.deep {k d : Int} {l : List Inl} (h : WN k d l) (hb : ∀ x ∈ l, -9223372036854775808 ≤ x.depth ∧ x.depth < 9223372036854775807) : WN (k + 1) (d + 1) (deepT l) := by
  induction l generalizing d with
  | nil => trivial
  | cons x l ih =>
    obtain ⟨h1, h2, h3⟩ := h
    have hx := hb x (by simp)
    have e : wrap64 (x.depth + 1) = x.depth + 1 := wrap_in (by omega) (by omega)
    refine ⟨?_, ?_, ?_⟩
    · show k + 1 ≤ wrap64 (x.depth + 1); rw [e]; omega
    · show wrap64 (x.depth + 1) ≤ d + 1; rw [e]; omega
    · show WN (k + 1) (wrap64 (x.depth + 1) + if x.kind = 1 then 0 else 1) (deepT l)
      rw [e]
      have := ih h3 (fun y hy => hb y (by simp [hy]))
      exact this.mono (by omega) (by omega)
theorem WN.put {k d : Int} {x y : Inl} (hk : y.kind = x.kind) (hd : y.depth = x.depth) {a b : List Inl} (h : WN k d (a ++ x :: b)) : WN k d (a ++ y :: b) := by
  induction a generalizing d with
  | nil => obtain ⟨h1, h2, h3⟩ := h; exact ⟨by omega, by omega, by rw [hk, hd]; exact h3⟩
  | cons z a ih => obtain ⟨h1, h2, h3⟩ := h; exact ⟨h1, h2, ih h3⟩
theorem WN.less {k d : Int} {x : Inl} (hx : x.kind = 1) {a b : List Inl} (h : WN k d (a ++ x :: b)) : WN k d (a ++ b) := by
  induction a generalizing d with
  | nil => obtain ⟨h1, h2, h3⟩ := h; rw [if_pos hx] at h3; exact h3.mono (by omega) (by omega)
  | cons z a ih => obtain ⟨h1, h2, h3⟩ := h; exact ⟨h1, h2, ih h3⟩
theorem WN.mergeStep {k d : Int} {out : List Inl} {x : Inl} {r : List Inl} (h : WN k d (out ++ x :: r)) : WN k d (mergeStep out x ++ r) := by
  by_cases h0 : x.kind = 1 ∧ x.text.size = 0
  · rw [mergeStep_skip h0]; exact h.less h0.1
  · by_cases hl : lastNot out x
    · rw [mergeStep_new h0 hl]
      have : (cleanI x).kind = x.kind ∧ (cleanI x).depth = x.depth := by unfold cleanI; split <;> exact ⟨rfl, rfl⟩
      simpa using h.put this.1 this.2
    · obtain ⟨t, hl⟩ := Classical.not_forall.1 hl
      simp only [Classical.not_imp, Classical.not_not] at hl
      obtain ⟨ht, hj⟩ := hl
      obtain ⟨o, rfl⟩ := List.getLast?_eq_some_iff.1 ht
      rw [mergeStep_join h0 hj]
      have h1 := h.less hj.1
      rw [List.append_assoc] at h1 ⊢
      exact WN.put (x := t) (y := { t with text := t.text ++ x.text }) rfl rfl h1
theorem WN.merge {k d : Int} {l : List Inl} (h : WN k d l) : WN k d (mergeT l) := by
  suffices hs : ∀ (l out : List Inl), WN k d (out ++ l) → WN k d (l.foldl _root_.Go.Proofs.Ytfdfpimilmhhoaa.mergeStep out) from hs l [] h
  intro l
  induction l with
  | nil => intro out h; simpa using h
  | cons x l ih => intro out h; exact ih _ h.mergeStep

/-! ## signs -/
def wtI (x : Inl) : Nat := if x.kind = 1 then x.text.size else if x.kind = 3 then 2 else if x.kind = 4 then 4 else 0
def wtT (l : List Inl) : Nat := (l.map wtI).sum
theorem wtT_append (a b : List Inl) : wtT (a ++ b) = wtT a + wtT b := by simp [wtT]
theorem wtT_cons (x : Inl) (b : List Inl) : wtT (x :: b) = wtI x + wtT b := by simp [wtT]
theorem wtT_deep (l : List Inl) : wtT (deepT l) = wtT l := by
  simp only [wtT, deepT, List.map_map]; rfl
theorem wtT_step (out : List Inl) (x : Inl) : wtT (mergeStep out x) = wtT out + wtI x := by
  by_cases h0 : x.kind = 1 ∧ x.text.size = 0
  · rw [mergeStep_skip h0]; unfold wtI; rw [if_pos h0.1, h0.2]; rfl
  · by_cases hl : lastNot out x
    · rw [mergeStep_new h0 hl, wtT_append]
      have : wtI (cleanI x) = wtI x := by unfold cleanI; split <;> rfl
      simp [wtT, this]
    · obtain ⟨t, hl⟩ := Classical.not_forall.1 hl
      simp only [Classical.not_imp, Classical.not_not] at hl
      obtain ⟨ht, hj⟩ := hl
      obtain ⟨o, rfl⟩ := List.getLast?_eq_some_iff.1 ht
      rw [mergeStep_join h0 hj, wtT_append, wtT_append]
      simp [wtT, wtI, hj.1, hj.2.1, ByteArray.size_append]
      omega
theorem wtT_merge (l : List Inl) : wtT (mergeT l) = wtT l := by
  suffices h : ∀ (l out : List Inl), wtT (l.foldl mergeStep out) = wtT out + wtT l from by have := h l []; simpa [wtT, mergeT] using this
  intro l
  induction l with
  | nil => intro out; simp [wtT]
  | cons x l ih => intro out; rw [List.foldl_cons, ih, wtT_step, wtT_cons]; omega
/-- words and pairs alone -/
def Kin (l : List Inl) : Prop := ∀ x ∈ l, x.kind = 1 ∨ x.kind = 3 ∨ x.kind = 4
theorem Kin.merge {l : List Inl} (h : Kin l) : Kin (mergeT l) := by
  suffices hs : ∀ (l out : List Inl), Kin out → Kin l → Kin (l.foldl mergeStep out) from hs l [] (by simp [Kin]) h
  intro l
  induction l with
  | nil => intro out h _; exact h
  | cons x l ih =>
    intro out ho hl
    refine ih _ ?_ (fun y hy => hl y (by simp [hy]))
    have hx := hl x (by simp)
    unfold mergeStep
    split
    · exact ho
    · have hc : Kin (out ++ [cleanI x]) := by
        intro y hy
        rcases List.mem_append.1 hy with hy | hy
        · exact ho y hy
        · simp at hy; subst hy; unfold cleanI; split <;> exact hx
      split
      · rename_i t ht
        split
        · obtain ⟨o, rfl⟩ := List.getLast?_eq_some_iff.1 ht
          intro y hy
          rw [List.dropLast_concat] at hy
          rcases List.mem_append.1 hy with hy | hy
          · exact ho y (by simp [hy])
          · simp at hy; subst hy; exact ho t (by simp)
        · exact hc
      · exact hc

theorem pcNodes_row {p : Pc} (hs : p.sign ≠ 0) : pcNodes p = if 0 < p.left then [⟨1, 0, pcText p.sign p.left, ⟨#[]⟩, ⟨#[]⟩⟩] else [] := if_neg hs
theorem wt_row {p : Pc} (hs : p.sign ≠ 0) : wtT (pcNodes p) = p.left.toNat := by
  rw [pcNodes_row hs]
  split
  · simp [wtT, wtI, pcText]
  · simp [wtT]; omega
def PcN (p : Pc) : Prop := WN 0 0 (pcNodes p) ∧ Kin (pcNodes p)
theorem pcN_row {p : Pc} (hs : p.sign ≠ 0) : PcN p := by
  unfold PcN
  rw [pcNodes_row hs]
  split
  · exact ⟨⟨by simp, by simp, trivial⟩, by simp [Kin]⟩
  · exact ⟨trivial, by simp [Kin]⟩
def wts (ps : List Pc) : Nat := wtT (ps.flatMap pcNodes)
theorem wts_append (a b : List Pc) : wts (a ++ b) = wts a + wts b := by simp only [wts, List.flatMap_append, wtT_append]
theorem wts_cons (p : Pc) (a : List Pc) : wts (p :: a) = wtT (pcNodes p) + wts a := by simp only [wts, List.flatMap_cons, wtT_append]
theorem between_wt (ps : List Pc) : wtT (ps.flatMap (fun p => deepT (pcNodes p))) = wts ps := by
  induction ps with
  | nil => rfl
  | cons p ps ih => rw [List.flatMap_cons, wtT_append, wtT_deep, wts_cons, ih]

/-- what a round keeps: signs, and how all lies -/
def KInv (K T n : Nat) (ps : List Pc) : Prop := GInv K T ps ∧ (∀ p ∈ ps, PcN p) ∧ wts ps = n
theorem gStep_keeps {K T n : Nat} (hK : K ≤ 1048576) {ps : List Pc} {i : Nat} (hi : i < ps.length) (h : KInv K T n ps) : KInv K T n (gStep ps i).1 := by
  obtain ⟨hg, hn, hw⟩ := h
  refine ⟨gStep_inv hg hi, ?_⟩
  obtain ⟨hok, hlen, hnod, htxt⟩ := hg
  have hb : ps[i]? = some ps[i] := List.getElem?_eq_getElem hi
  generalize ps[i] = b at hb
  unfold gStep
  rw [hb]
  simp only
  by_cases hs : skips b
  · rw [if_pos hs]; exact ⟨hn, hw⟩
  · rw [if_neg hs]
    have hbm := List.mem_of_getElem? hb
    by_cases ho : openAt ps b i < 0
    · rw [if_pos ho]
      refine ⟨fun p hp => ?_, ?_⟩
      · rcases List.mem_or_eq_of_mem_set hp with hp | rfl
        · exact hn p hp
        · exact hn b hbm
      · simp only
        rw [← hw, List.set_eq_take_append_cons_drop, if_pos hi, wts_append, wts_cons]
        conv => rhs; rw [split_at hb, wts_append, wts_cons]
        rfl
    · rw [if_neg ho]
      obtain ⟨a, ha, hp⟩ := openAt_some (by omega : 0 ≤ openAt ps b i)
      have hlt := (openAt_lt ps b i).1
      rw [ha]
      simp only
      generalize hf : (openAt ps b i).toNat = f at *
      have hfi : f < i := by omega
      have hal := pairT_left hp
      have ham := List.mem_of_getElem? ha
      obtain ⟨b1, b2, b3⟩ := hok b hbm
      have hbs : b.sign ≠ 0 := fun e => hs (Or.inl e)
      have hbl : 1 ≤ b.left := by
        unfold skips at hs
        simp only [not_or] at hs
        omega
      have hsg : a.sign ≠ 0 := by
        unfold pairT at hp
        split at hp
        · cases hp
        · rename_i hh
          simp only [not_or, Decidable.not_not] at hh
          rw [hh.1]; exact hbs
      obtain ⟨n1, n2, n3, _⟩ := gN_le hal hbl
      have hsp : ps = ps.take f ++ a :: ((ps.take i).drop (f + 1) ++ b :: ps.drop (i + 1)) := by
        conv => lhs; rw [split_at hb, take_split ha hfi]
        simp
      have hmid : ∀ p ∈ (ps.take i).drop (f + 1), p ∈ ps := fun p hp => List.mem_of_mem_take (List.mem_of_mem_drop hp)
      have hsg2 : (lessPc a (gN a b)).sign ≠ 0 := hsg
      have hbs2 : (lessPc b (gN a b)).sign ≠ 0 := hbs
      have hkind : gKind a b = 3 ∨ gKind a b = 4 := by unfold gKind; split <;> simp
      have hk1 : gKind a b ≠ 1 := by rcases hkind with h | h <;> rw [h] <;> decide
      have hmade : pcNodes (madePc (gMade ps f i a b)) = gMade ps f i a b := rfl
      refine ⟨fun p hpm => ?_, ?_⟩
      · simp only [List.mem_append, List.mem_cons, List.not_mem_nil, or_false] at hpm
        rcases hpm with (hpm | rfl | rfl) | rfl | hpm
        · exact hn p (List.mem_of_mem_take hpm)
        · exact pcN_row hsg2
        · unfold PcN
          rw [hmade]
          constructor
          · refine ⟨Int.le_refl _, Int.le_refl _, ?_⟩
            rw [if_neg hk1]
            refine WN.mono (k := 1) (d := 1) (WN.flat fun p hp => ?_) (by omega) (Int.le_refl _)
            have hp2 := (hn p (hmid p hp)).1
            refine hp2.deep fun x hx => ?_
            have := hp2.bound x hx
            have hnp : (pcNodes p).length ≤ nods ps := by
              obtain ⟨s, t, hst⟩ := List.append_of_mem (hmid p hp)
              rw [hst, nods_append, nods_cons]; omega
            omega
          · intro x hx
            rcases List.mem_cons.1 hx with rfl | hx
            · exact hkind.elim (fun h => .inr (.inl h)) (fun h => .inr (.inr h))
            · obtain ⟨p, hp, hx⟩ := List.mem_flatMap.1 hx
              obtain ⟨y, hy, rfl⟩ := List.mem_map.1 hx
              exact (hn p (hmid p hp)).2 y hy
        · exact pcN_row hbs2
        · exact hn p (List.mem_of_mem_drop hpm)
      · have h1 : wts ps = wts (ps.take f) + a.left.toNat + wts ((ps.take i).drop (f + 1)) + b.left.toNat + wts (ps.drop (i + 1)) := by
          conv => lhs; rw [hsp]
          simp only [wts_append, wts_cons, wt_row hsg, wt_row hbs]; omega
        have e1 : wts ([] : List Pc) = 0 := rfl
        have e4 : ∀ p n, (lessPc p n).left = p.left - n := fun p n => rfl
        have e5 : wtT (gMade ps f i a b) = 2 * (gN a b).toNat + wts ((ps.take i).drop (f + 1)) := by
          rw [gMade, wtT_cons, between_wt]
          congr 1
          unfold wtI gKind gN
          split <;> simp
        simp only [wts_append, wts_cons, wt_row hsg2, wt_row hbs2, hmade, e1, e4, e5]
        omega

theorem lefts_wts {ps : List Pc} (h : ∀ p ∈ ps, p.sign ≠ 0) : wts ps = lefts ps := by
  induction ps with
  | nil => rfl
  | cons p ps ih => rw [wts_cons, lefts_cons, wt_row (h p (by simp)), ih fun q hq => h q (by simp [hq])]
theorem sign_era {its : List Pc} (h : ∀ p ∈ its, p.sign ≠ 0) : ∀ p ∈ its.map era, p.sign ≠ 0 := by
  intro p hp
  obtain ⟨q, hq, rfl⟩ := List.mem_map.1 hp
  exact h q hq
/-- no sign is lost, and the depths are nested -/
theorem group_keeps {its : List Pc} {T : Nat} (hg : GInv 1048576 T (its.map era)) (hs : ∀ p ∈ its, p.sign ≠ 0) :
    WN 0 0 (groupT its) ∧ Kin (groupT its) ∧ wtT (groupT its) = lefts its := by
  have h0 : KInv 1048576 T (lefts its) (its.map era) := by
    refine ⟨hg, fun p hp => pcN_row (sign_era hs p hp), ?_⟩
    rw [lefts_wts (sign_era hs)]
    unfold lefts; rw [List.map_map]; rfl
  obtain ⟨h1, h2, h3⟩ := gRun_ind (Inv := KInv 1048576 T (lefts its)) (fun ps i hi h => gStep_keeps (Nat.le_refl _) hi h) (gMeas its 0 + 1) _ 0 h0
  unfold groupT
  refine ⟨(WN.flat fun p hp => (h2 p hp).1).merge, Kin.merge (fun x hx => ?_), ?_⟩
  · obtain ⟨p, hp, hx⟩ := List.mem_flatMap.1 hx
    exact (h2 p hp).2 x hx
  · rw [wtT_merge]; exact h3

/-! ## rows that nobody closes, or opens -/
theorem openAt_none {ps : List Pc} {b : Pc} (h : ∀ p ∈ ps, p.opn = false) : ∀ k, openAt ps b k = -1
  | 0 => rfl
  | k + 1 => by
    unfold openAt
    cases hk : ps[k]? with
    | none => rfl
    | some a =>
      have : pairT a b = false := by unfold pairT; rw [if_pos (.inr (.inl (h a (List.mem_of_getElem? hk))))]
      simp only [this]
      exact openAt_none h k
theorem gStep_none {ps : List Pc} {i : Nat} {R : List Inl} (hi : i < ps.length) (h : ((∀ p ∈ ps, p.cls = false) ∨ ∀ p ∈ ps, p.opn = false) ∧ ps.flatMap pcNodes = R) :
    ((∀ p ∈ (gStep ps i).1, p.cls = false) ∨ ∀ p ∈ (gStep ps i).1, p.opn = false) ∧ (gStep ps i).1.flatMap pcNodes = R := by
  have hb : ps[i]? = some ps[i] := List.getElem?_eq_getElem hi
  generalize ps[i] = b at hb
  have hbm := List.mem_of_getElem? hb
  unfold gStep
  rw [hb]
  simp only
  by_cases hs : skips b
  · rw [if_pos hs]; exact h
  · rw [if_neg hs]
    rcases h with ⟨h | h, hR⟩
    · exact absurd (.inr (.inl (h b hbm))) hs
    · rw [openAt_none h, if_pos (by decide)]
      refine ⟨.inr fun p hp => ?_, ?_⟩
      · rcases List.mem_or_eq_of_mem_set hp with hp | rfl
        · exact h p hp
        · exact h b hbm
      · rw [← hR, List.set_eq_take_append_cons_drop, if_pos hi, List.flatMap_append, List.flatMap_cons]
        conv => rhs; rw [split_at hb, List.flatMap_append, List.flatMap_cons]
        rfl
theorem group_none {its : List Pc} (h : (∀ p ∈ its, p.cls = false) ∨ ∀ p ∈ its, p.opn = false) : groupT its = mergeT (its.flatMap pcNodes) := by
  have he : (its.map era).flatMap pcNodes = its.flatMap pcNodes := by rw [List.flatMap_map]; rfl
  have h0 : ((∀ p ∈ its.map era, p.cls = false) ∨ ∀ p ∈ its.map era, p.opn = false) ∧ (its.map era).flatMap pcNodes = its.flatMap pcNodes := by
    refine ⟨?_, he⟩
    rcases h with h | h
    · refine .inl fun p hp => ?_
      obtain ⟨q, hq, rfl⟩ := List.mem_map.1 hp
      exact h q hq
    · refine .inr fun p hp => ?_
      obtain ⟨q, hq, rfl⟩ := List.mem_map.1 hp
      exact h q hq
  have := gRun_ind (Inv := fun ps => ((∀ p ∈ ps, p.cls = false) ∨ ∀ p ∈ ps, p.opn = false) ∧ ps.flatMap pcNodes = its.flatMap pcNodes) (fun ps i hi h => gStep_none hi h) (gMeas its 0 + 1) _ 0 h0
  unfold groupT
  rw [this.2]
def wordI (l : List UInt8) : Inl := ⟨1, 0, S l, ⟨#[]⟩, ⟨#[]⟩⟩
theorem merge_words {l : List Inl} (h : ∀ x ∈ l, x = wordI (L x.text)) : mergeT l = if textT l = [] then [] else [wordI (textT l)] := by
  suffices hs : ∀ (r : List Inl), (∀ x ∈ r.reverse, x = wordI (L x.text)) → mergeT r.reverse = if textT r.reverse = [] then [] else [wordI (textT r.reverse)] by
    have := hs l.reverse; simpa using this (by simpa using h)
  intro r
  induction r with
  | nil => intro _; rfl
  | cons x r ih =>
    intro h
    rw [List.reverse_cons] at h ⊢
    have hx := h x (by simp)
    generalize L x.text = t at hx
    subst hx
    rw [merge_snoc, ih fun y hy => h y (by simp [hy])]
    have e : textT (r.reverse ++ [wordI t]) = textT r.reverse ++ t := by simp [textT, textB, wordI]
    rw [e]
    generalize textT r.reverse = u
    by_cases ht : t = []
    · subst ht
      rw [mergeStep_skip ⟨rfl, rfl⟩, List.append_nil]
    · have h0 : ¬ ((wordI t).kind = 1 ∧ (wordI t).text.size = 0) := fun hh => ht (List.eq_nil_of_length_eq_zero (by simpa [wordI] using hh.2))
      have hut : ∀ u : List UInt8, ¬ (u ++ t = []) := fun u hh => ht (List.append_eq_nil_iff.1 hh).2
      by_cases hu : u = []
      · subst hu
        rw [if_pos rfl, if_neg (hut _), mergeStep_new h0 (by intro y hy; cases hy)]; rfl
      · rw [if_neg hu, if_neg (hut _)]
        have := mergeStep_join (out := []) (t := wordI u) (x := wordI t) h0 ⟨rfl, rfl, rfl⟩
        rw [List.nil_append] at this
        rw [this, List.nil_append]
        simp only [wordI, S_append, L_S]

/-! ## a piece between two rows -/
def rowPc (s : UInt8) (n : Int) (o c : Bool) : Pc := ⟨s, n, o, c, none, 0, 0, [], n, false⟩
def leftPc (s : UInt8) (n : Int) (o c : Bool) (left : Int) (shut : Bool) : Pc := ⟨s, n, o, c, none, 0, 0, [], left, shut⟩
/-- the nodes in which what is between lies at the end, from within to without -/
def kinds : Nat → Int → Int → List Int → List Int
  | 0, _, _, ks => ks
  | f + 1, a, b, ks => if 1 ≤ a ∧ 1 ≤ b then (if 1 < a ∧ 1 < b then kinds f (a - 2) (b - 2) (4 :: ks) else kinds f (a - 1) (b - 1) (3 :: ks)) else ks
def chain (i : Nat) (wd : ByteArray) : List Int → List Inl
  | [] => [⟨1, i, wd, ⟨#[]⟩, ⟨#[]⟩⟩]
  | k :: ks => ⟨k, i, ⟨#[]⟩, ⟨#[]⟩, ⟨#[]⟩⟩ :: chain (i + 1) wd ks
theorem chain_deep (wd : ByteArray) (ks : List Int) : ∀ i : Nat, i + ks.length ≤ 1048576 → deepT (chain i wd ks) = chain (i + 1) wd ks := by
  induction ks with
  | nil =>
    intro i hi
    have e : wrap64 ((i : Int) + 1) = ((i + 1 : Nat) : Int) := (wrap_in (by omega) (by simp at hi; omega)).trans (by omega)
    simp only [chain, deepT, List.map_cons, List.map_nil, e]
  | cons k ks ih =>
    intro i hi
    have e : wrap64 ((i : Int) + 1) = ((i + 1 : Nat) : Int) := (wrap_in (by omega) (by simp at hi; omega)).trans (by omega)
    have := ih (i + 1) (by simp at hi; omega)
    simp only [chain, deepT, List.map_cons, e] at *
    rw [this]
end Go.Proofs.Ytfdfpimilmhhoaa
