/-
  How large the lines of a text and the parts of a frame may be.
-/
import Derived.Test.YteeoohnkfdffnaaGreatDoorVeilMem
namespace Go.Proofs.YteeoohnkfdffnaaGreatDoor
set_option linter.unusedVariables false

theorem mem_join7 : ∀ (l : List (List UInt8)) (z : List UInt8), z ∈ l → z.length ≤ (joinT l).length
  | [], z, h => by cases h
  | x :: t, z, h => by
    have e : (joinT (x :: t)).length = x.length + 1 + (joinT t).length := by simp [joinT]; omega
    rcases List.mem_cons.1 h with h | h
    · rw [h]; omega
    · have := mem_join7 t z h; omega
theorem join_count7 : ∀ l : List (List UInt8), l.length ≤ (joinT l).length
  | [] => Nat.le_refl _
  | x :: t => by
    have e : (joinT (x :: t)).length = x.length + 1 + (joinT t).length := by simp [joinT]; omega
    have := join_count7 t
    simp only [List.length_cons]
    omega
theorem linesB_mem7 (s : ByteArray) : ∀ x ∈ linesB s, x.size ≤ s.size := by
  intro x hx
  obtain ⟨y, hy, rfl⟩ := List.mem_map.1 hx
  obtain ⟨ini, last, he, -, -, h⟩ := linesT_cases (L s)
  have hs : (L s).length = s.size := length_L s
  have hl : (L s).length = (joinT ini).length + last.length := by rw [he]; simp
  have hi : ∀ z ∈ ini, z.length ≤ (joinT ini).length := fun z hz => mem_join7 ini z hz
  have : y.length ≤ (L s).length := by
    rcases h with ⟨h0, h⟩ | ⟨h0, h⟩
    · rw [h] at hy; have := hi y hy; omega
    · rw [h] at hy
      rcases List.mem_append.1 hy with hy | hy
      · have := hi y hy; omega
      · rw [List.mem_singleton.1 hy]; omega
  rw [hs] at this
  rw [size_S]
  exact this
theorem linesB_len7 (s : ByteArray) : (linesB s).length ≤ s.size + 1 := by
  unfold linesB
  rw [List.length_map]
  obtain ⟨ini, last, he, -, -, h⟩ := linesT_cases (L s)
  have hs : (L s).length = s.size := length_L s
  have hl : (L s).length = (joinT ini).length + last.length := by rw [he]; simp
  have hc := join_count7 ini
  rcases h with ⟨h0, h⟩ | ⟨h0, h⟩
  · rw [h]; omega
  · rw [h, List.length_append, List.length_singleton]; omega
/-- a part's label and lines no longer than B -/
def SzOk (B : Nat) (p : PartT) : Prop := p.label.size ≤ B ∧ ∀ x ∈ p.lines, x.size ≤ B
theorem opens_le7 (l : List UInt8) : (opensT l).1.length ≤ l.length := by
  unfold opensT
  split
  · have h1 := trimR_le l
    have h2 := trimSuf_le ((Lib.trimRightB l 32).drop 4) [125]
    rw [List.length_drop] at h2
    simp only
    omega
  · simp
theorem frStep_sz (B : Nat) (st : FrS) (s : ByteArray) (h : ∀ p ∈ st.out, SzOk B p) (hs : s.size ≤ B) : ∀ p ∈ (frStep st s).out, SzOk B p := by
  have ho := opens_le7 (L s)
  rw [length_L] at ho
  intro p hp
  unfold frStep at hp
  split at hp
  · rcases List.mem_append.1 hp with hp | hp
    · exact h p hp
    · rw [List.mem_singleton.1 hp]
      exact ⟨by simp only [size_S]; omega, fun x hx => by cases hx⟩
  · split at hp
    · simp only at hp
      unfold shutAt at hp
      split at hp
      · rename_i q hq
        rcases List.mem_or_eq_of_mem_set hp with hp | rfl
        · exact h p hp
        · exact h q (List.mem_of_getElem? hq)
      · exact h p hp
    · split at hp
      · simp only at hp
        unfold addLast at hp
        split at hp
        · rename_i q hq
          rcases List.mem_append.1 hp with hp | hp
          · exact h p (List.dropLast_subset _ hp)
          · rw [List.mem_singleton.1 hp]
            have hq2 := h q (List.mem_of_getLast? hq)
            refine ⟨hq2.1, fun x hx => ?_⟩
            rcases List.mem_append.1 hx with hx | hx
            · exact hq2.2 x hx
            · rw [List.mem_singleton.1 hx]; exact hs
        · exact h p hp
      · rcases List.mem_append.1 hp with hp | hp
        · exact h p hp
        · rw [List.mem_singleton.1 hp]
          exact ⟨Nat.zero_le _, fun x hx => by rw [List.mem_singleton.1 hx]; exact hs⟩
theorem frT_sz (B : Nat) (ls : List ByteArray) (hs : ∀ x ∈ ls, x.size ≤ B) : ∀ p ∈ (frT ls).out, SzOk B p := by
  have : ∀ (l : List ByteArray) (st : FrS), (∀ x ∈ l, x.size ≤ B) → (∀ p ∈ st.out, SzOk B p) → ∀ p ∈ (l.foldl frStep st).out, SzOk B p := by
    intro l
    induction l with
    | nil => intro st _ h; exact h
    | cons x t ih => intro st hx h; exact ih _ (fun y hy => hx y (by simp [hy])) (frStep_sz B st x h (hx x (by simp)))
  exact this ls _ hs (fun p hp => by cases hp)
theorem veFold_sz (s : SeerT) (B : Nat) (ps : List PartT) (h : ∀ p ∈ ps, SzOk B p) : ∀ p ∈ (veFold s ps).out, SzOk (B + 4) p := by
  have : ∀ (l : List PartT) (st : VeS), (∀ p ∈ l, SzOk B p) → (∀ p ∈ st.out, SzOk (B + 4) p) → ∀ p ∈ (l.foldl (veStep s) st).out, SzOk (B + 4) p := by
    intro l
    induction l with
    | nil => intro st _ h; exact h
    | cons x t ih =>
      intro st hx hst
      refine ih _ (fun y hy => hx y (by simp [hy])) (fun p hp => ?_)
      unfold veStep at hp
      split at hp
      · exact hst p hp
      · rcases List.mem_append.1 hp with hp | hp
        · exact hst p hp
        · rw [List.mem_singleton.1 hp]
          have hX := hx x (by simp)
          refine ⟨by simp only [veilP]; have := hX.1; omega, fun y hy => ?_⟩
          simp only [veilP] at hy
          obtain ⟨l, hl, rfl⟩ := List.mem_map.1 hy
          have := hX.2 l hl
          have := lineT_size s l (openU st x)
          omega
  exact this ps _ h (fun p hp => by cases hp)
theorem lineN3_le (out : List PartT) (h : ∀ p ∈ out, PartOk p) : lineN out ≤ 3 * outN out := by
  induction out with
  | nil => exact Nat.zero_le _
  | cons p t ih =>
    have h1 := ih (fun q hq => h q (by simp [hq]))
    obtain ⟨a, b, _⟩ := h p (by simp)
    have h2 : p.lines.length + 2 ≤ 3 * partN p := by
      unfold partN
      cases hd : p.div
      · have := List.length_pos_iff.2 (b hd); simp; omega
      · rw [a hd]; simp; split <;> omega
    simp only [lineN, outN, List.map_cons, List.sum_cons] at h1 ⊢
    omega
theorem lines6_len7 (l : List PartT) : (lines6 l).length ≤ lineN l := by
  have h1 := wrFold_len l l.length
  rw [List.take_length] at h1
  have h2 := notOpn_le (wrFold l).inn
  unfold lines6
  rw [List.length_append, List.length_replicate]
  omega
/-- what is written is short, too -/
theorem lines6_size7 {B : Nat} {l : List PartT} (h : ∀ p ∈ l, SzOk B p) : ∀ x ∈ lines6 l, x.size ≤ B + 5 := by
  have hs : shutB.size = 3 := rfl
  have key : ∀ k, ∀ x ∈ (wrFold (l.take k)).out, x.size ≤ B + 5 := by
    intro k
    induction k with
    | zero => simp [wrFold, wrInit]
    | succ k ih =>
      rcases hk : l[k]? with _ | y
      · have : l.length ≤ k := by rw [List.getElem?_eq_none_iff] at hk; exact hk
        rw [List.take_of_length_le (by omega)] at ih ⊢
        exact ih
      · rw [List.take_add_one, hk, Option.toList_some, wrFold_snoc]
        obtain ⟨g1, g2⟩ := h y (List.mem_of_getElem? hk)
        intro x hx
        unfold wrStep at hx
        simp only [List.mem_append] at hx
        rcases hx with ((hx | hx) | hx) | hx
        · exact ih x hx
        · rw [(List.mem_replicate.1 hx).2, hs]; omega
        · split at hx
          · rw [List.mem_singleton.1 hx]
            unfold openB
            rw [ByteArray.size_append, ByteArray.size_append]
            have : (⟨#[58, 58, 58, 123]⟩ : ByteArray).size = 4 := rfl
            have : (⟨#[125]⟩ : ByteArray).size = 1 := rfl
            omega
          · cases hx
        · have := g2 x hx; omega
  intro x hx
  unfold lines6 at hx
  rcases List.mem_append.1 hx with hx | hx
  · have := key l.length x
    rw [List.take_length] at this
    exact this hx
  · rw [(List.mem_replicate.1 hx).2, hs]; omega
theorem join_le7 (B : Nat) : ∀ l : List ByteArray, (∀ x ∈ l, x.size ≤ B) → (joinT (l.map L)).length ≤ l.length * (B + 1)
  | [], _ => by simp [joinT]
  | x :: t, h => by
    have h1 := join_le7 B t (fun y hy => h y (by simp [hy]))
    have h2 := h x (by simp)
    have e : (joinT ((x :: t).map L)).length = x.size + 1 + (joinT (t.map L)).length := by simp [joinT]; omega
    rw [e, List.length_cons, Nat.succ_mul]
    omega
theorem veFold_lineN (s : SeerT) (ps : List PartT) : lineN (veFold s ps).out ≤ lineN ps := by
  have : ∀ (l : List PartT) (st : VeS), lineN (l.foldl (veStep s) st).out ≤ lineN st.out + lineN l := by
    intro l
    induction l with
    | nil => intro st; simp [lineN]
    | cons x t ih =>
      intro st
      have h1 := ih (veStep s st x)
      have h2 : lineN (veStep s st x).out ≤ lineN st.out + (x.lines.length + 2) := by
        unfold veStep
        split
        · omega
        · simp [lineN, veilP]
      simp only [List.foldl_cons]
      have h3 : lineN (x :: t) = x.lines.length + 2 + lineN t := by simp [lineN]
      omega
  have := this ps ⟨[], [], -1⟩
  simpa [lineN, veFold] using this
end Go.Proofs.YteeoohnkfdffnaaGreatDoor
