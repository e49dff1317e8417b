/-
  emph.Group: what does not grow; addresses do not count.
-/
import Derived.Test.YtfdfpimilmhhoaaGroupSpec
namespace Go.Proofs.Ytfdfpimilmhhoaa
open Go.RowKit

theorem openAt_era (ps : List Pc) (b : Pc) : ∀ k, openAt (ps.map era) (era b) k = openAt ps b k
  | 0 => rfl
  | k + 1 => by
    unfold openAt
    rw [List.getElem?_map]
    cases ps[k]? with
    | none => rfl
    | some a => simp only [Option.map_some]; rw [openAt_era ps b k]; rfl
theorem era_set (ps : List Pc) (i : Nat) (b : Pc) : (ps.set i b).map era = (ps.map era).set i (era b) := by rw [List.map_set]
theorem gMade_era (ps : List Pc) (f i : Nat) (a b : Pc) : gMade (ps.map era) f i (era a) (era b) = gMade ps f i a b := by
  unfold gMade
  rw [← List.map_take, ← List.map_drop, List.flatMap_map]
  rfl
theorem gStep_era (ps : List Pc) (i : Nat) : gStep (ps.map era) i = ((gStep ps i).1.map era, (gStep ps i).2) := by
  unfold gStep
  rw [List.getElem?_map]
  cases ps[i]? with
  | none => rfl
  | some b =>
    simp only [Option.map_some]
    by_cases hs : skips b
    · rw [if_pos hs, if_pos (show skips (era b) from hs)]
    · rw [if_neg hs, if_neg (show ¬ skips (era b) from hs), openAt_era]
      by_cases ho : openAt ps b i < 0
      · rw [if_pos ho, if_pos ho]; simp only [era_set]; rfl
      · rw [if_neg ho, if_neg ho, List.getElem?_map]
        cases ps[(openAt ps b i).toNat]? with
        | none => rfl
        | some a =>
          simp only [Option.map_some, gMade_era, List.map_append, List.map_cons, List.map_nil, List.map_take, List.map_drop]
          rfl

def nods (ps : List Pc) : Nat := (ps.flatMap pcNodes).length
def txts (ps : List Pc) : Nat := txtLen (ps.flatMap pcNodes)
theorem nods_append (a b : List Pc) : nods (a ++ b) = nods a + nods b := by simp [nods]
theorem nods_cons (p : Pc) (a : List Pc) : nods (p :: a) = (pcNodes p).length + nods a := by simp [nods]
theorem txts_append (a b : List Pc) : txts (a ++ b) = txts a + txts b := by simp only [txts, List.flatMap_append, txtLen_append]
theorem txts_cons (p : Pc) (a : List Pc) : txts (p :: a) = txtLen (pcNodes p) + txts a := by simp only [txts, List.flatMap_cons, txtLen_append]
theorem deepT_len (l : List Inl) : (deepT l).length = l.length := by simp [deepT]
theorem deepT_txt (l : List Inl) : txtLen (deepT l) = txtLen l := by simp [deepT, txtLen, Function.comp_def]
theorem between_len (ps : List Pc) : (ps.flatMap (fun p => deepT (pcNodes p))).length = nods ps := by
  induction ps with
  | nil => rfl
  | cons p ps ih => rw [List.flatMap_cons, List.length_append, deepT_len, nods_cons, ih]
theorem between_txt (ps : List Pc) : txtLen (ps.flatMap (fun p => deepT (pcNodes p))) = txts ps := by
  induction ps with
  | nil => rfl
  | cons p ps ih => rw [List.flatMap_cons, txtLen_append, deepT_txt, txts_cons, ih]
theorem row_nodes {p : Pc} (hs : p.sign ≠ 0) {n : Int} (hn : 0 ≤ n) : (pcNodes (lessPc p n)).length ≤ (pcNodes p).length ∧ txtLen (pcNodes (lessPc p n)) ≤ txtLen (pcNodes p) := by
  have e1 : pcNodes p = if 0 < p.left then [⟨1, 0, pcText p.sign p.left, ⟨#[]⟩, ⟨#[]⟩⟩] else [] := if_neg hs
  have e2 : pcNodes (lessPc p n) = if 0 < p.left - n then [⟨1, 0, pcText p.sign (p.left - n), ⟨#[]⟩, ⟨#[]⟩⟩] else [] := if_neg hs
  rw [e1, e2]
  by_cases h : 0 < p.left - n
  · rw [if_pos h, if_pos (by omega)]
    refine ⟨Nat.le_refl _, ?_⟩
    simp [txtLen, pcText]; omega
  · rw [if_neg h]; simp [txtLen]

/-- what each piece keeps -/
def PcOk (K : Nat) (p : Pc) : Prop := 0 ≤ p.left ∧ p.left ≤ K ∧ PcFit p
/-- what all together keep: K bounds pieces, nodes and signs; T the texts -/
def GInv (K T : Nat) (ps : List Pc) : Prop := (∀ p ∈ ps, PcOk K p) ∧ ps.length + lefts ps ≤ K ∧ nods ps + lefts ps ≤ K ∧ txts ps ≤ T

theorem gStep_inv {K T : Nat} {ps : List Pc} {i : Nat} (h : GInv K T ps) (hi : i < ps.length) : GInv K T (gStep ps i).1 := by
  obtain ⟨hok, hlen, hnod, htxt⟩ := h
  have hb : ps[i]? = some ps[i] := List.getElem?_eq_getElem hi
  generalize ps[i] = b at hb
  unfold gStep
  rw [hb]
  simp only
  by_cases hs : skips b
  · rw [if_pos hs]; exact ⟨hok, hlen, hnod, htxt⟩
  · rw [if_neg hs]
    have hbm := List.mem_of_getElem? hb
    by_cases ho : openAt ps b i < 0
    · rw [if_pos ho]
      have hset : nods (ps.set i { b with shut := true }) = nods ps ∧ txts (ps.set i { b with shut := true }) = txts ps := by
        have e : ps.set i { b with shut := true } = ps.take i ++ { b with shut := true } :: ps.drop (i + 1) := by rw [List.set_eq_take_append_cons_drop, if_pos hi]
        constructor
        · rw [e, nods_append, nods_cons]; conv => rhs; rw [split_at hb, nods_append, nods_cons]
          rfl
        · rw [e, txts_append, txts_cons]; conv => rhs; rw [split_at hb, txts_append, txts_cons]
          rfl
      have hls := lefts_set hb (show ({ b with shut := true } : Pc).left = b.left from rfl)
      refine ⟨fun p hp => ?_, ?_, ?_, ?_⟩
      · rcases List.mem_or_eq_of_mem_set hp with hp | rfl
        · exact hok p hp
        · exact hok b hbm
      · simp only [List.length_set]; rw [hls]; exact hlen
      · simp only; rw [hls, hset.1]; exact hnod
      · simp only; rw [hset.2]; exact htxt
    · rw [if_neg ho]
      obtain ⟨a, ha, hp⟩ := openAt_some (by omega : 0 ≤ openAt ps b i)
      have hlt := (openAt_lt ps b i).1
      rw [ha]
      simp only
      generalize hf : (openAt ps b i).toNat = f at *
      have hfi : f < i := by omega
      have hal := pairT_left hp
      have ham := List.mem_of_getElem? ha
      obtain ⟨b1, b2, b3⟩ := hok b hbm
      obtain ⟨a1, a2, a3⟩ := hok a ham
      have hbs : b.sign ≠ 0 := fun e => hs (Or.inl e)
      have hbl : 1 ≤ b.left := by
        unfold skips at hs
        simp only [not_or] at hs
        omega
      have hsg : a.sign ≠ 0 := by
        unfold pairT at hp
        split at hp
        · cases hp
        · rename_i hh
          simp only [not_or, Decidable.not_not] at hh
          rw [hh.1]; exact hbs
      obtain ⟨n1, n2, n3, _⟩ := gN_le hal hbl
      have hsp : ps = ps.take f ++ a :: ((ps.take i).drop (f + 1) ++ b :: ps.drop (i + 1)) := by
        conv => lhs; rw [split_at hb, take_split ha hfi]
        simp
      have h1 : lefts ps = lefts (ps.take f) + a.left.toNat + lefts ((ps.take i).drop (f + 1)) + b.left.toNat + lefts (ps.drop (i + 1)) := by
        conv => lhs; rw [hsp]
        simp only [lefts_append, lefts_cons]; omega
      have h2 : nods ps = nods (ps.take f) + (pcNodes a).length + nods ((ps.take i).drop (f + 1)) + (pcNodes b).length + nods (ps.drop (i + 1)) := by
        conv => lhs; rw [hsp]
        simp only [nods_append, nods_cons]; omega
      have h3 : txts ps = txts (ps.take f) + txtLen (pcNodes a) + txts ((ps.take i).drop (f + 1)) + txtLen (pcNodes b) + txts (ps.drop (i + 1)) := by
        conv => lhs; rw [hsp]
        simp only [txts_append, txts_cons]; omega
      have ra := row_nodes hsg (n := gN a b) (by omega)
      have rb := row_nodes hbs (n := gN a b) (by omega)
      have hm : (pcNodes (madePc (gMade ps f i a b))).length = 1 + nods ((ps.take i).drop (f + 1)) := by
        show (gMade ps f i a b).length = _
        rw [gMade, List.length_cons, between_len]; omega
      have hmt : txtLen (pcNodes (madePc (gMade ps f i a b))) = txts ((ps.take i).drop (f + 1)) := by
        show txtLen (gMade ps f i a b) = _
        rw [gMade]
        have := between_txt ((ps.take i).drop (f + 1))
        simp only [txtLen, List.map_cons, List.sum_cons] at this ⊢
        rw [this]; simp
      have e0 : lefts ([] : List Pc) = 0 := rfl
      have e1 : nods ([] : List Pc) = 0 := rfl
      have e2 : txts ([] : List Pc) = 0 := rfl
      have e3 : ∀ l, (madePc l).left.toNat = 0 := fun l => rfl
      have e4 : ∀ p n, (lessPc p n).left = p.left - n := fun p n => rfl
      refine ⟨fun p hpm => ?_, ?_, ?_, ?_⟩
      · simp only [List.mem_append, List.mem_cons, List.not_mem_nil, or_false] at hpm
        rcases hpm with (hpm | rfl | rfl) | rfl | hpm
        · exact hok p (List.mem_of_mem_take hpm)
        · refine ⟨by rw [e4]; omega, by rw [e4]; omega, ?_⟩
          rcases a3 with h | h
          · omega
          · exact Or.inr h
        · exact ⟨Int.le_refl 0, Int.natCast_nonneg K, Or.inl (by show (0 : Int) < 1; decide)⟩
        · refine ⟨by rw [e4]; omega, by rw [e4]; omega, ?_⟩
          rcases b3 with h | h
          · omega
          · exact Or.inr h
        · exact hok p (List.mem_of_mem_drop hpm)
      · simp only [lefts_append, lefts_cons, List.length_append, List.length_cons, List.length_nil, List.length_take, List.length_drop, e3, e4]
        omega
      · simp only [lefts_append, lefts_cons, nods_append, nods_cons, e3, e4, hm]
        omega
      · simp only [txts_append, txts_cons, hmt]
        omega
end Go.Proofs.Ytfdfpimilmhhoaa
