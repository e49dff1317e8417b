/-
  bowdlerref14.Group as plain Lean, and that it answers what emph.Group answers.
-/
import Derived.Test.YtfdfpimilmhhoaaRefPc
namespace Go.Proofs.Ytfdfpimilmhhoaa
open Go.RowKit
set_option linter.unusedVariables false

def rMade (ps : List Pc) (f i : Nat) (a b : Pc) : List Inl := ⟨gKind a b, 0, ⟨#[]⟩, ⟨#[]⟩, ⟨#[]⟩⟩ :: deepT (((ps.take i).drop (f + 1)).flatMap rNodes)
/-- one round -/
def rStep (ps : List Pc) (i : Nat) : List Pc × Nat :=
  match ps[i]? with
  | none => (ps, i)
  | some b =>
    if skips b then (ps, i + 1)
    else if openAt ps b i < 0 then (ps.set i { b with shut := true }, i + 1)
    else match ps[(openAt ps b i).toNat]? with
      | none => (ps, i)
      | some a => (ps.take (openAt ps b i).toNat ++ [lessPc a (gN a b), madePc (rMade ps (openAt ps b i).toNat i a b)] ++ lessPc b (gN a b) :: ps.drop (i + 1), (openAt ps b i).toNat + 2)
def rRun : Nat → List Pc → Nat → List Pc
  | 0, ps, _ => ps
  | f + 1, ps, i => if i < ps.length then rRun f (rStep ps i).1 (rStep ps i).2 else ps
def rGroup (its : List Pc) : List Inl := mergeT ((rRun (gMeas its 0 + 1) (its.map era) 0).flatMap rNodes)

/-! ## texts without bytes -/
def isE (x : Inl) : Bool := x.kind == 1 && x.text.size == 0
def dropE (l : List Inl) : List Inl := l.filter (fun x => !isE x)
theorem dropE_app (a b : List Inl) : dropE (a ++ b) = dropE a ++ dropE b := by simp [dropE]
theorem dropE_deep (l : List Inl) : dropE (deepT l) = deepT (dropE l) := by
  unfold dropE deepT
  rw [List.filter_map]
  rfl
theorem dropE_flat (ps : List Pc) (f : Pc → List Inl) : dropE (ps.flatMap f) = ps.flatMap (fun p => dropE (f p)) := by
  induction ps with
  | nil => rfl
  | cons p ps ih => rw [List.flatMap_cons, dropE_app, ih, List.flatMap_cons]
theorem fold_dropE (l : List Inl) : ∀ out, (dropE l).foldl mergeStep out = l.foldl mergeStep out := by
  induction l with
  | nil => intro out; rfl
  | cons x l ih =>
    intro out
    unfold dropE
    rw [List.filter_cons]
    by_cases hx : isE x = true
    · rw [if_neg (by simp [hx]), List.foldl_cons]
      have h : mergeStep out x = out := by
        unfold mergeStep
        unfold isE at hx
        rw [Bool.and_eq_true, beq_iff_eq, beq_iff_eq] at hx
        rw [if_pos hx]
      rw [h]
      exact ih out
    · rw [if_pos (by simp [hx]), List.foldl_cons, List.foldl_cons]
      exact ih _
theorem merge_dropE (l : List Inl) : mergeT (dropE l) = mergeT l := fold_dropE l []

/-- a piece, its nodes without empty texts, without addresses -/
def clP (p : Pc) : Pc := { p with l := dropE p.l, A := none, ln := 0, cp := 0 }
theorem cl_f {p q : Pc} (h : clP p = clP q) : p.sign = q.sign ∧ p.left = q.left ∧ p.cls = q.cls ∧ p.shut = q.shut ∧ dropE p.l = dropE q.l := by
  unfold clP at h
  simp only [Pc.mk.injEq] at h
  obtain ⟨h1, h2, h3, h4, _, _, _, h5, h6, h7⟩ := h
  exact ⟨h1, h6, h4, h7, h5⟩
theorem openAt_cl (ps : List Pc) (b : Pc) : ∀ k, openAt (ps.map clP) (clP b) k = openAt ps b k
  | 0 => rfl
  | k + 1 => by
    unfold openAt
    rw [List.getElem?_map]
    cases ps[k]? with
    | none => rfl
    | some a =>
      simp only [Option.map_some]
      rw [openAt_cl ps b k]
      rfl
theorem nodes_cl {p q : Pc} (h : clP p = clP q) : dropE (rNodes p) = dropE (pcNodes q) := by
  have h1 : p.sign = q.sign := (cl_f h).1
  have h2 : p.left = q.left := (cl_f h).2.1
  have h3 : dropE p.l = dropE q.l := (cl_f h).2.2.2.2
  unfold rNodes pcNodes nodesT
  by_cases hs : p.sign = 0
  · rw [if_pos hs, if_pos (by rw [← h1]; exact hs)]
    exact h3
  · rw [if_neg hs, if_neg (by rw [← h1]; exact hs), ← h1, ← h2]
    by_cases hl : 0 < p.left
    · rw [if_pos hl]
    · rw [if_neg hl]
      have : p.left.toNat = 0 := by omega
      unfold dropE isE pcText
      rw [this]
      rfl
theorem flat_cl : ∀ {ps qs : List Pc}, ps.map clP = qs.map clP → dropE (ps.flatMap rNodes) = dropE (qs.flatMap pcNodes)
  | [], [], _ => rfl
  | [], q :: qs, h => by simp at h
  | p :: ps, [], h => by simp at h
  | p :: ps, q :: qs, h => by
    simp only [List.map_cons, List.cons.injEq] at h
    rw [List.flatMap_cons, List.flatMap_cons, dropE_app, dropE_app, nodes_cl h.1, flat_cl h.2]
theorem flat_deep (ps : List Pc) : ps.flatMap (fun p => deepT (pcNodes p)) = deepT (ps.flatMap pcNodes) := by
  induction ps with
  | nil => rfl
  | cons p ps ih => rw [List.flatMap_cons, List.flatMap_cons, ih]; simp [deepT]
theorem made_cl {ps qs : List Pc} (h : ps.map clP = qs.map clP) (f i : Nat) {a b a' b' : Pc} (ha : clP a = clP a') (hb : clP b = clP b') : dropE (rMade ps f i a b) = dropE (gMade qs f i a' b') := by
  have e1 : a.left = a'.left := (cl_f ha).2.1
  have e2 : b.left = b'.left := (cl_f hb).2.1
  have ek : gKind a b = gKind a' b' := by unfold gKind two; rw [e1, e2]
  have h2 : ((ps.take i).drop (f + 1)).map clP = ((qs.take i).drop (f + 1)).map clP := by rw [List.map_drop, List.map_take, h, ← List.map_take, ← List.map_drop]
  have h3 := flat_cl h2
  unfold rMade gMade
  rw [flat_deep, ek]
  have e : ∀ (x : Inl) (l : List Inl), dropE (x :: l) = dropE [x] ++ dropE l := fun x l => by rw [← dropE_app]; rfl
  rw [e, e _ (deepT _), dropE_deep, dropE_deep, h3]
theorem map_at {ps qs : List Pc} (h : ps.map clP = qs.map clP) (i : Nat) : (ps[i]?).map clP = (qs[i]?).map clP := by rw [← List.getElem?_map, ← List.getElem?_map, h]
theorem step_cl {ps qs : List Pc} (h : ps.map clP = qs.map clP) (i : Nat) : (rStep ps i).1.map clP = (gStep qs i).1.map clP ∧ (rStep ps i).2 = (gStep qs i).2 := by
  have hi := map_at h i
  unfold rStep gStep
  cases hb : ps[i]? with
  | none =>
    rw [hb] at hi
    cases hb' : qs[i]? with
    | none => exact ⟨h, rfl⟩
    | some b' => rw [hb'] at hi; cases hi
  | some b =>
    rw [hb] at hi
    cases hb' : qs[i]? with
    | none => rw [hb'] at hi; cases hi
    | some b' =>
      rw [hb'] at hi
      simp only [Option.map_some, Option.some.injEq] at hi
      have hsk : skips b ↔ skips b' := by
        have e1 : b.sign = b'.sign := (cl_f hi).1
        have e2 : b.cls = b'.cls := (cl_f hi).2.2.1
        have e3 : b.shut = b'.shut := (cl_f hi).2.2.2.1
        have e4 : b.left = b'.left := (cl_f hi).2.1
        unfold skips
        rw [e1, e2, e3, e4]
      have hop : openAt ps b i = openAt qs b' i := by rw [← openAt_cl ps b i, ← openAt_cl qs b' i, h, hi]
      simp only
      by_cases hs : skips b
      · rw [if_pos hs, if_pos (hsk.1 hs)]; exact ⟨h, rfl⟩
      · rw [if_neg hs, if_neg (fun e => hs (hsk.2 e)), hop]
        by_cases ho : openAt qs b' i < 0
        · rw [if_pos ho, if_pos ho]
          refine ⟨?_, rfl⟩
          simp only [List.map_set, h]
          congr 1
          have : clP { b with shut := true } = { clP b with shut := true } := rfl
          rw [this, hi]; rfl
        · rw [if_neg ho, if_neg ho]
          have ha := map_at h (openAt qs b' i).toNat
          cases hpa : ps[(openAt qs b' i).toNat]? with
          | none =>
            rw [hpa] at ha
            cases hqa : qs[(openAt qs b' i).toNat]? with
            | none => exact ⟨h, rfl⟩
            | some a' => rw [hqa] at ha; cases ha
          | some a =>
            rw [hpa] at ha
            cases hqa : qs[(openAt qs b' i).toNat]? with
            | none => rw [hqa] at ha; cases ha
            | some a' =>
              rw [hqa] at ha
              simp only [Option.map_some, Option.some.injEq] at ha
              have e1 : a.left = a'.left := (cl_f ha).2.1
              have e2 : b.left = b'.left := (cl_f hi).2.1
              have en : gN a b = gN a' b' := by unfold gN two; rw [e1, e2]
              have less : ∀ (p q : Pc) (n : Int), clP p = clP q → clP (lessPc p n) = clP (lessPc q n) := fun p q n e => by
                have h1 : ∀ p : Pc, clP (lessPc p n) = lessPc (clP p) n := fun _ => rfl
                rw [h1, h1, e]
              have hm : clP (madePc (rMade ps (openAt qs b' i).toNat i a b)) = clP (madePc (gMade qs (openAt qs b' i).toNat i a' b')) := by
                have h1 : ∀ l, clP (madePc l) = madePc (dropE l) := fun _ => rfl
                rw [h1, h1, made_cl h _ _ ha hi]
              refine ⟨?_, rfl⟩
              simp only [List.map_append, List.map_cons, List.map_nil, List.map_take, List.map_drop, h, en, less _ _ _ ha, less _ _ _ hi, hm]
theorem run_cl : ∀ (f : Nat) {ps qs : List Pc} (i : Nat), ps.map clP = qs.map clP → (rRun f ps i).map clP = (gRun f qs i).map clP
  | 0, ps, qs, i, h => h
  | f + 1, ps, qs, i, h => by
    have hl : ps.length = qs.length := by have := congrArg List.length h; simpa using this
    unfold rRun gRun
    rw [hl]
    by_cases hi : i < qs.length
    · rw [if_pos hi, if_pos hi, (step_cl h i).2]
      exact run_cl f _ (step_cl h i).1
    · rw [if_neg hi, if_neg hi]; exact h
/-- both answer the same -/
theorem rGroup_eq (its : List Pc) : rGroup its = groupT its := by
  unfold rGroup groupT
  rw [← merge_dropE, flat_cl (run_cl _ 0 rfl), merge_dropE]

/-! ## without addresses, and the bounds -/
theorem rMade_era (ps : List Pc) (f i : Nat) (a b : Pc) : rMade (ps.map era) f i (era a) (era b) = rMade ps f i a b := by
  unfold rMade
  rw [← List.map_take, ← List.map_drop, List.flatMap_map]
  rfl
theorem rStep_era (ps : List Pc) (i : Nat) : rStep (ps.map era) i = ((rStep ps i).1.map era, (rStep ps i).2) := by
  unfold rStep
  rw [List.getElem?_map]
  cases ps[i]? with
  | none => rfl
  | some b =>
    simp only [Option.map_some]
    by_cases hs : skips b
    · rw [if_pos hs, if_pos (show skips (era b) from hs)]
    · rw [if_neg hs, if_neg (show ¬ skips (era b) from hs), openAt_era]
      by_cases ho : openAt ps b i < 0
      · rw [if_pos ho, if_pos ho]; simp only [era_set]; rfl
      · rw [if_neg ho, if_neg ho, List.getElem?_map]
        cases ps[(openAt ps b i).toNat]? with
        | none => rfl
        | some a =>
          simp only [Option.map_some, rMade_era, List.map_append, List.map_cons, List.map_nil, List.map_take, List.map_drop]
          rfl
theorem lefts_cl {ps qs : List Pc} (h : ps.map clP = qs.map clP) : lefts ps = lefts qs := by
  have e : ∀ l : List Pc, lefts l = ((l.map clP).map (fun p : Pc => p.left.toNat)).sum := fun l => by unfold lefts; rw [List.map_map]; rfl
  rw [e, e, h]
theorem rStep_meas {ps : List Pc} {i : Nat} (hi : i < ps.length) (h0 : ∀ p ∈ ps, 0 ≤ p.left) : gMeas (rStep ps i).1 (rStep ps i).2 < gMeas ps i := by
  obtain ⟨h1, h2⟩ := step_cl (ps := ps) (qs := ps) rfl i
  have h3 := lefts_cl h1
  have h4 : (rStep ps i).1.length = (gStep ps i).1.length := by have := congrArg List.length h1; simpa using this
  have h5 := gStep_meas hi h0
  unfold gMeas at h5 ⊢
  rw [h2, h3, h4]
  exact h5
def rnods (ps : List Pc) : Nat := (ps.flatMap rNodes).length
def rtxts (ps : List Pc) : Nat := txtLen (ps.flatMap rNodes)
theorem rnods_app (a b : List Pc) : rnods (a ++ b) = rnods a + rnods b := by simp [rnods]
theorem rnods_cons (p : Pc) (a : List Pc) : rnods (p :: a) = (rNodes p).length + rnods a := by simp [rnods]
theorem rtxts_app (a b : List Pc) : rtxts (a ++ b) = rtxts a + rtxts b := by simp only [rtxts, List.flatMap_append, txtLen_append]
theorem rtxts_cons (p : Pc) (a : List Pc) : rtxts (p :: a) = txtLen (rNodes p) + rtxts a := by simp only [rtxts, List.flatMap_cons, txtLen_append]
theorem rrow {p : Pc} (hs : p.sign ≠ 0) {n : Int} (hn : 0 ≤ n) : (rNodes (lessPc p n)).length = (rNodes p).length ∧ txtLen (rNodes (lessPc p n)) ≤ txtLen (rNodes p) := by
  have e1 : rNodes p = [⟨1, 0, pcText p.sign p.left, ⟨#[]⟩, ⟨#[]⟩⟩] := if_neg hs
  have e2 : rNodes (lessPc p n) = [⟨1, 0, pcText p.sign (p.left - n), ⟨#[]⟩, ⟨#[]⟩⟩] := if_neg hs
  rw [e1, e2]
  refine ⟨rfl, ?_⟩
  simp [txtLen, pcText]
  omega
def RInv (K T : Nat) (ps : List Pc) : Prop := (∀ p ∈ ps, PcOk K p) ∧ ps.length + lefts ps ≤ K ∧ rnods ps + lefts ps ≤ K ∧ rtxts ps ≤ T
theorem rStep_inv {K T : Nat} {ps : List Pc} {i : Nat} (h : RInv K T ps) (hi : i < ps.length) : RInv K T (rStep ps i).1 := by
  obtain ⟨hok, hlen, hnod, htxt⟩ := h
  have hb : ps[i]? = some ps[i] := List.getElem?_eq_getElem hi
  generalize ps[i] = b at hb
  unfold rStep
  rw [hb]
  simp only
  by_cases hs : skips b
  · rw [if_pos hs]; exact ⟨hok, hlen, hnod, htxt⟩
  · rw [if_neg hs]
    have hbm := List.mem_of_getElem? hb
    by_cases ho : openAt ps b i < 0
    · rw [if_pos ho]
      have hset : rnods (ps.set i { b with shut := true }) = rnods ps ∧ rtxts (ps.set i { b with shut := true }) = rtxts ps := by
        have e : ps.set i { b with shut := true } = ps.take i ++ { b with shut := true } :: ps.drop (i + 1) := by rw [List.set_eq_take_append_cons_drop, if_pos hi]
        constructor
        · rw [e, rnods_app, rnods_cons]; conv => rhs; rw [split_at hb, rnods_app, rnods_cons]
          rfl
        · rw [e, rtxts_app, rtxts_cons]; conv => rhs; rw [split_at hb, rtxts_app, rtxts_cons]
          rfl
      have hls := lefts_set hb (show ({ b with shut := true } : Pc).left = b.left from rfl)
      refine ⟨fun p hp => ?_, ?_, ?_, ?_⟩
      · rcases List.mem_or_eq_of_mem_set hp with hp | rfl
        · exact hok p hp
        · exact hok b hbm
      · simp only [List.length_set]; rw [hls]; exact hlen
      · simp only; rw [hls, hset.1]; exact hnod
      · simp only; rw [hset.2]; exact htxt
    · rw [if_neg ho]
      obtain ⟨a, ha, hp⟩ := openAt_some (by omega : 0 ≤ openAt ps b i)
      have hlt := (openAt_lt ps b i).1
      rw [ha]
      simp only
      generalize hf : (openAt ps b i).toNat = f at *
      have hfi : f < i := by omega
      have hal := pairT_left hp
      have ham := List.mem_of_getElem? ha
      obtain ⟨b1, b2, b3⟩ := hok b hbm
      obtain ⟨a1, a2, a3⟩ := hok a ham
      have hbs : b.sign ≠ 0 := fun e => hs (Or.inl e)
      have hbl : 1 ≤ b.left := by
        unfold skips at hs
        simp only [not_or] at hs
        omega
      have hsg : a.sign ≠ 0 := by
        unfold pairT at hp
        split at hp
        · cases hp
        · rename_i hh
          simp only [not_or, Decidable.not_not] at hh
          rw [hh.1]; exact hbs
      obtain ⟨n1, n2, n3, _⟩ := gN_le hal hbl
      have hsp : ps = ps.take f ++ a :: ((ps.take i).drop (f + 1) ++ b :: ps.drop (i + 1)) := by
        conv => lhs; rw [split_at hb, take_split ha hfi]
        simp
      have h1 : lefts ps = lefts (ps.take f) + a.left.toNat + lefts ((ps.take i).drop (f + 1)) + b.left.toNat + lefts (ps.drop (i + 1)) := by
        conv => lhs; rw [hsp]
        simp only [lefts_append, lefts_cons]; omega
      have h2 : rnods ps = rnods (ps.take f) + (rNodes a).length + rnods ((ps.take i).drop (f + 1)) + (rNodes b).length + rnods (ps.drop (i + 1)) := by
        conv => lhs; rw [hsp]
        simp only [rnods_app, rnods_cons]; omega
      have h3 : rtxts ps = rtxts (ps.take f) + txtLen (rNodes a) + rtxts ((ps.take i).drop (f + 1)) + txtLen (rNodes b) + rtxts (ps.drop (i + 1)) := by
        conv => lhs; rw [hsp]
        simp only [rtxts_app, rtxts_cons]; omega
      have hr1 := rrow hsg (n := gN a b) (by omega)
      have hr2 := rrow hbs (n := gN a b) (by omega)
      have hmn : (rNodes (madePc (rMade ps f i a b))).length = 1 + rnods ((ps.take i).drop (f + 1)) := by
        show (rMade ps f i a b).length = _
        unfold rMade
        rw [List.length_cons, deepT_len]; unfold rnods; omega
      have hmt : txtLen (rNodes (madePc (rMade ps f i a b))) = rtxts ((ps.take i).drop (f + 1)) := by
        show txtLen (rMade ps f i a b) = _
        unfold rMade
        have : ∀ (x : Inl) (l : List Inl), txtLen (x :: l) = x.text.size + txtLen l := fun x l => by simp [txtLen]
        rw [this, deepT_txt]
        show 0 + _ = _
        rw [Nat.zero_add]; rfl
      have hlm : ∀ l, (madePc l).left.toNat = 0 := fun l => rfl
      have hll : ∀ p n, (lessPc p n).left = p.left - n := fun p n => rfl
      have hl0 : lefts ([] : List Pc) = 0 := rfl
      have hn0 : rnods ([] : List Pc) = 0 := rfl
      have ht0 : rtxts ([] : List Pc) = 0 := rfl
      have hll2 : ps.length = f + 1 + (i - (f + 1)) + 1 + (ps.length - (i + 1)) := by omega
      refine ⟨fun p hp => ?_, ?_, ?_, ?_⟩
      · simp only [List.mem_append, List.mem_cons, List.not_mem_nil, or_false] at hp
        rcases hp with (hp | rfl | rfl) | rfl | hp
        · exact hok p (List.mem_of_mem_take hp)
        · refine ⟨by rw [hll]; omega, by rw [hll]; omega, ?_⟩
          rcases a3 with h | h
          · exact .inl (by rw [hll]; omega)
          · exact .inr h
        · exact ⟨by show (0 : Int) ≤ 0; omega, by show (0 : Int) ≤ K; omega, .inl (by show (0 : Int) < 1; omega)⟩
        · refine ⟨by rw [hll]; omega, by rw [hll]; omega, ?_⟩
          rcases b3 with h | h
          · exact .inl (by rw [hll]; omega)
          · exact .inr h
        · exact hok p (List.mem_of_mem_drop hp)
      · simp only [lefts_append, lefts_cons, List.length_append, List.length_cons, List.length_nil, List.length_take, List.length_drop, hlm, hll, hl0]
        omega
      · simp only [lefts_append, lefts_cons, rnods_app, rnods_cons, hlm, hll, hl0, hn0, hmn, hr1.1, hr2.1]
        omega
      · simp only [rtxts_app, rtxts_cons, hmt, ht0]
        have := hr1.2
        have := hr2.2
        omega
theorem RInv_era {K T : Nat} {ps : List Pc} (h : RInv K T ps) : RInv K T (ps.map era) := by
  obtain ⟨h1, h2, h3, h4⟩ := h
  have e1 : lefts (ps.map era) = lefts ps := by unfold lefts; rw [List.map_map]; rfl
  have e2 : (ps.map era).flatMap rNodes = ps.flatMap rNodes := by rw [List.flatMap_map]; rfl
  refine ⟨fun p hp => ?_, by rw [e1, List.length_map]; exact h2, by unfold rnods; rw [e2, e1]; exact h3, by unfold rtxts; rw [e2]; exact h4⟩
  obtain ⟨q, hq, rfl⟩ := List.mem_map.1 hp
  exact h1 q hq
end Go.Proofs.Ytfdfpimilmhhoaa
