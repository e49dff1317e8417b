/-
  What is veiled is never longer, and has no more lines.
-/
import Derived.Test.YteeoohnkfdffnaaGreatDoorVeilTwiceLaw
namespace Go.Proofs.YteeoohnkfdffnaaGreatDoor
set_option linter.unusedVariables false

def costL (ls : List ByteArray) : Nat := (ls.map fun x => x.size + 1).sum
def costP (p : PartT) : Nat := (if p.div then (openB p.label).size + 1 + (if p.opn then 0 else 4) else 0) + costL p.lines
def costsP (ps : List PartT) : Nat := (ps.map costP).sum
def numP (p : PartT) : Nat := (if p.div then 1 + (if p.opn then 0 else 1) else 0) + p.lines.length
def numsP (ps : List PartT) : Nat := (ps.map numP).sum
theorem costL_app (a b : List ByteArray) : costL (a ++ b) = costL a + costL b := by simp [costL]
theorem costL_rep (x : ByteArray) (k : Nat) : costL (List.replicate k x) = k * (x.size + 1) := by
  induction k with
  | zero => simp [costL]
  | succ k ih =>
    rw [List.replicate_succ, show x :: List.replicate k x = [x] ++ List.replicate k x from rfl, costL_app, ih]
    simp [costL, Nat.succ_mul]; omega
theorem costL_join (ls : List ByteArray) : (joinT (ls.map L)).length = costL ls := by
  rw [joinT_len]
  unfold costL
  rw [List.map_map]
  rfl
theorem notOpn_app (a b : List PartT) : notOpn (a ++ b) = notOpn a + notOpn b := by unfold notOpn; rw [List.countP_append]
theorem wr_cost (ps : List PartT) : costL (wrFold ps).out + 4 * notOpn (wrFold ps).inn = costsP ps ∧ (wrFold ps).out.length + notOpn (wrFold ps).inn = numsP ps := by
  induction ps using snoc_ind with
  | h0 => exact ⟨rfl, rfl⟩
  | h1 a x ih =>
    obtain ⟨ih1, ih2⟩ := ih
    rw [wrFold_snoc]
    obtain ⟨st, hst⟩ : ∃ st, wrFold a = st := ⟨_, rfl⟩
    rw [hst] at ih1 ih2 ⊢
    have hsp : notOpn st.inn = notOpn (st.inn.take x.depth.toNat) + notOpn (st.inn.drop x.depth.toNat) := by
      rw [← notOpn_app, List.take_append_drop]
    have h3 : shutB.size = 3 := rfl
    have e1 : costsP (a ++ [x]) = costsP a + costP x := by simp [costsP]
    have e2 : numsP (a ++ [x]) = numsP a + numP x := by simp [numsP]
    rw [e1, e2]
    unfold wrStep
    simp only
    rw [costL_app, costL_app, costL_app, costL_rep, notOpn_app, h3]
    simp only [List.length_append, List.length_replicate]
    unfold costP numP
    cases hd : x.div
    · simp only [Bool.false_eq_true, if_false]
      have : notOpn [] = 0 := rfl
      have : costL [] = 0 := rfl
      simp only [List.length_nil]
      omega
    · simp only [if_true]
      have k1 : costL [openB x.label] = (openB x.label).size + 1 := by simp [costL]
      have k2 : notOpn [x] = if x.opn then 0 else 1 := by
        unfold notOpn
        cases ho : x.opn <;> simp [ho]
      rw [k1, k2]
      simp only [List.length_singleton]
      cases x.opn <;> simp <;> omega
theorem lines6_cost (ps : List PartT) : costL (lines6 ps) = costsP ps ∧ (lines6 ps).length = numsP ps := by
  obtain ⟨h1, h2⟩ := wr_cost ps
  have h3 : shutB.size = 3 := rfl
  unfold lines6
  rw [costL_app, costL_rep, h3, List.length_append, List.length_replicate]
  omega
theorem tailB_len (lb : List UInt8) (k : Nat) : (tailB lb k).length = lb.length + 3 + k := by simp [tailB]; omega
theorem lineP_len (v : List ByteArray → Bool) (l : ByteArray) (u : List ByteArray) : (lineP v l u).size ≤ l.size := by
  unfold lineP
  cases hh : headedT (L l) with
  | none => simp only; rw [size_S]; exact rwL_len _ _
  | some p =>
    obtain ⟨a, lb⟩ := p
    obtain ⟨k, e, hl, hs⟩ := headed_some hh
    simp only
    split
    · rw [size_S]; exact rwL_len _ _
    · obtain ⟨i, j, y, e2, hi, h1, h6⟩ := signs_shape hs
      subst e2
      rw [headT_shape i j y lb h1, size_S]
      have := congrArg List.length e
      rw [length_L] at this
      rw [this]
      simp only [List.length_append, List.length_replicate, List.length_cons, List.length_nil, tailB_len]
      omega
theorem costL_veil (v : List ByteArray → Bool) (u : List ByteArray) (ls : List ByteArray) : costL (ls.map fun l => lineP v l u) ≤ costL ls := by
  induction ls with
  | nil => exact Nat.le_refl _
  | cons x t ih =>
    have h := lineP_len v x u
    have e1 : costL (x :: t) = x.size + 1 + costL t := by simp [costL]
    have e2 : costL ((x :: t).map fun l => lineP v l u) = (lineP v x u).size + 1 + costL (t.map fun l => lineP v l u) := by simp [costL]
    rw [e1, e2]; omega
theorem foldG_cost (v : List ByteArray → Bool) (ps : List PartT) : costsP (foldG v ps).out ≤ costsP ps ∧ numsP (foldG v ps).out ≤ numsP ps := by
  induction ps using snoc_ind with
  | h0 => exact ⟨Nat.le_refl _, Nat.le_refl _⟩
  | h1 a x ih =>
    rw [foldG_snoc]
    have e1 : costsP (a ++ [x]) = costsP a + costP x := by simp [costsP]
    have e2 : numsP (a ++ [x]) = numsP a + numP x := by simp [numsP]
    rw [e1, e2]
    unfold stepG
    split
    · omega
    · simp only
      have e3 : ∀ o y, costsP (o ++ [y]) = costsP o + costP y := fun o y => by simp [costsP]
      have e4 : ∀ o y, numsP (o ++ [y]) = numsP o + numP y := fun o y => by simp [numsP]
      rw [e3, e4]
      have c1 : costP (veilG v (openU (foldG v a) x) x) ≤ costP x := by
        unfold costP
        have := costL_veil v (openU (foldG v a) x) x.lines
        show (if x.div then (openB x.label).size + 1 + (if x.opn then 0 else 4) else 0) + costL (x.lines.map fun l => lineP v l (openU (foldG v a) x)) ≤ _
        omega
      have c2 : numP (veilG v (openU (foldG v a) x) x) = numP x := by
        unfold numP
        show (if x.div then 1 + (if x.opn then 0 else 1) else 0) + (x.lines.map fun l => lineP v l (openU (foldG v a) x)).length = _
        rw [List.length_map]
      omega
theorem back_cost : ∀ {ls ws : List ByteArray}, BackAll ls ws → costL ws ≤ costL ls
  | [], [], _ => Nat.le_refl _
  | l :: ls, w :: ws, h => by
    obtain ⟨h1, h2⟩ := h
    have h3 := back_cost h2
    have e1 : costL (l :: ls) = l.size + 1 + costL ls := by simp [costL]
    have e2 : costL (w :: ws) = w.size + 1 + costL ws := by simp [costL]
    have : w.size ≤ l.size := by
      rcases h1 with rfl | h1
      · exact Nat.le_refl _
      · have := congrArg List.length h1
        rw [length_L] at this
        rw [this]
        have := trimR_le (L l)
        rw [length_L] at this
        exact this
    rw [e1, e2]; omega
theorem map_L_S7 (xs : List (List UInt8)) : (xs.map S).map L = xs := by
  rw [List.map_map, show L ∘ S = id from rfl, List.map_id]
theorem less_law (v : List ByteArray → Bool) (text : ByteArray) :
    (docP v text).size ≤ (S (repT text)).size + 1 ∧ (docP v text = ⟨#[]⟩ ∨ (L (docP v text)).getLast? = some 10) ∧ (linesB (docP v text)).length ≤ (linesB (S (repT text))).length := by
  have hok := lines6_ok (foldG_ok v _ (parts_ok text))
  obtain ⟨c1, c2⟩ := lines6_cost (foldG v (partsOf text)).out
  obtain ⟨d1, d2⟩ := foldG_cost v (partsOf text)
  obtain ⟨e1, e2⟩ := lines6_cost (partsOf text)
  have hb : BackAll (linesB (S (repT text))) (lines6 (partsOf text)) := (back_law (fun s hs => (lines_ok _ (good_repT text) s hs).2)).2
  have f1 := back_cost hb
  have f2 := hb.len
  have hd : docP v text = S (joinT ((lines6 (foldG v (partsOf text)).out).map L)) := by unfold docP; rw [docP_write]
  refine ⟨?_, ?_, ?_⟩
  · rw [hd, size_S, size_S, costL_join]
    have hj := join_lines (repT text)
    have hc : costL (linesB (S (repT text))) ≤ (repT text).length + 1 := by
      rw [← costL_join]
      unfold linesB
      rw [L_S, map_L_S7]
      rcases hj with h | h <;> rw [h]
      · omega
      · simp
    omega
  · rw [hd]
    generalize lines6 (foldG v (partsOf text)).out = ls
    rcases List.eq_nil_or_concat ls with rfl | ⟨t, x, rfl⟩
    · left; rfl
    · right
      rw [List.concat_eq_append, List.map_append, joinT_app, L_S]
      simp [joinT]
  · rw [hd, linesB_join7 (fun x hx => (hok x hx).2), c2]
    omega
end Go.Proofs.YteeoohnkfdffnaaGreatDoor
