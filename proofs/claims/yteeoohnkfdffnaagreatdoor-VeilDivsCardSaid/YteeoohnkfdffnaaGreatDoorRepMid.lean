/-
  Repair: what stays, and a middle without line ends.
-/
import Derived.Test.YteeoohnkfdffnaaGreatDoorRepair
namespace Go.Proofs.YteeoohnkfdffnaaGreatDoor
set_option linter.unusedVariables false

def Stays (b : UInt8) : Prop := b ≠ 0 ∧ b.toNat < 128 ∧ b ≠ 13

theorem encode_one {b : UInt8} (h : b.toNat < 128) : Lib.encodeRune (b.toNat : Int) = [b] := by
  unfold Lib.encodeRune
  rw [Lib.encodeRuneZ_one (by omega) (by omega)]
  simp
theorem runeP_stays (s : ByteArray) (pos : Nat) (h : pos < s.size) (hb : Stays ((L s)[pos]'(by simpa using h))) (h13 : ¬ (0 < pos ∧ (L s)[pos - 1]? = some 13)) :
    runeP s pos = [(L s)[pos]'(by simpa using h)] ∧ (Utf8.decode s pos).2 = 1 := by
  obtain ⟨⟨hd, _⟩, _⟩ := decode_span s pos h
  obtain ⟨h0, h1, h2⟩ := hb
  have hd := hd h1
  generalize ((L s)[pos]'(by simpa using h)) = b at *
  unfold runeP
  rw [hd]
  refine ⟨?_, rfl⟩
  have n0 : b.toNat ≠ 0 := fun e => h0 (UInt8.toNat_inj.1 (by simpa using e))
  have n13 : b.toNat ≠ 13 := fun e => h2 (UInt8.toNat_inj.1 (by simpa using e))
  rw [if_neg (by simp only [not_or]; exact ⟨n0, by omega⟩), if_neg n13]
  rw [if_neg (fun e => h13 e.2), encode_one h1]

theorem textF_stays (s : ByteArray) : ∀ (j f pos : Nat), pos + j ≤ s.size → s.size ≤ f + pos → (∀ i b, pos ≤ i → i < pos + j → (L s)[i]? = some b → Stays b) → ¬ (0 < pos ∧ (L s)[pos - 1]? = some 13) →
    textF s f pos = ((L s).drop pos).take j ++ textF s (f - j) (pos + j)
  | 0, f, pos, _, _, _, _ => by simp
  | j + 1, f, pos, h1, h2, h3, h4 => by
    have hp : pos < s.size := by omega
    have hpl : pos < (L s).length := by simpa using hp
    obtain ⟨f, rfl⟩ : ∃ g, f = g + 1 := ⟨f - 1, by omega⟩
    have hb := h3 pos _ (Nat.le_refl _) (by omega) (List.getElem?_eq_getElem hpl)
    obtain ⟨e1, e2⟩ := runeP_stays s pos hp hb h4
    rw [textF, if_pos hp, e1, e2, textF_stays s j f (pos + 1) (by omega) (by omega) (fun i b hi hj hb => h3 i b (by omega) (by omega) hb) (fun e => by
      have := e.2
      rw [Nat.add_sub_cancel, List.getElem?_eq_getElem hpl] at this
      injection this with this
      rw [this] at hb
      exact hb.2.2 rfl)]
    rw [List.drop_eq_getElem_cons hpl, List.take_succ_cons, show pos + 1 + j = pos + (j + 1) by omega, show f + 1 - (j + 1) = f - j by omega]
    rfl

theorem repT_stays (l : List UInt8) (h : ∀ b ∈ l, Stays b) : repT (S l) = l := by
  unfold repT
  have hs : (S l).size = l.length := by simp [S]
  rw [textF_stays (S l) l.length (S l).size 0 (by omega) (by omega) (fun i b _ _ hb => h b (by rw [L_S] at hb; exact List.mem_of_getElem? hb)) (by omega)]
  rw [L_S, List.drop_zero, List.take_length, hs, Nat.sub_self]
  simp [textF]

theorem encode_no10 {r : Nat} (h : r ≠ 10) (h0 : 128 ≤ r ∨ r < 128) : (10 : UInt8) ∉ Lib.encodeRune (r : Int) := by
  unfold Lib.encodeRune
  intro hm
  obtain ⟨x, hx, e⟩ := List.mem_map.1 hm
  by_cases hr : r < 128
  · rw [Lib.encodeRuneZ_one (by omega) (by omega)] at hx
    rw [List.mem_singleton] at hx
    subst hx
    have := congrArg UInt8.toNat e
    simp at this
    omega
  · have hb := Lib.encodeRuneZ_byte (r : Int) x hx
    have hx128 : 128 ≤ x := by
      unfold Lib.encodeRuneZ at hx
      rw [if_neg (by omega)] at hx
      split at hx
      · simp at hx; omega
      · split at hx
        · simp at hx; omega
        · split at hx
          · simp at hx; omega
          · simp at hx; omega
    have := congrArg UInt8.toNat e
    simp at this
    omega

theorem textF_mid (s : ByteArray) (q : Nat) (hq : q ≤ s.size) (hq2 : ∀ b, (L s)[q]? = some b → b.toNat < 128) : ∀ (f pos : Nat), pos ≤ q → s.size ≤ f + pos → (∀ i b, pos ≤ i → i < q → (L s)[i]? = some b → b ≠ 10 ∧ b ≠ 13) →
    ∃ m f', textF s f pos = m ++ textF s f' q ∧ (10 : UInt8) ∉ m ∧ s.size ≤ f' + q
  | 0, pos, h1, h2, _ => ⟨[], 0, by simp [textF], by simp, by omega⟩
  | f + 1, pos, h1, h2, h3 => by
    by_cases hpq : pos = q
    · subst hpq; exact ⟨[], f + 1, rfl, by simp, h2⟩
    have hp : pos < s.size := by omega
    have hpl : pos < (L s).length := by simpa using hp
    obtain ⟨⟨dlo, dhi⟩, dw, dle, dmid⟩ := decode_span s pos hp
    have hnext : pos + (Utf8.decode s pos).2 ≤ q := by
      by_cases hlt : pos + (Utf8.decode s pos).2 ≤ q
      · exact hlt
      · have hqs : q < s.size := by omega
        have := dmid q hqs (by omega) (by omega)
        have := hq2 _ (List.getElem?_eq_getElem (by simpa using hqs))
        omega
    obtain ⟨b10, b13⟩ := h3 pos _ (Nat.le_refl _) (by omega) (List.getElem?_eq_getElem hpl)
    have hr : (10 : UInt8) ∉ runeP s pos := by
      unfold runeP
      split
      · decide
      · split
        · rename_i h0 h13
          exfalso
          by_cases hlow : ((L s)[pos]'hpl).toNat < 128
          · rw [dlo hlow] at h13
            exact b13 (UInt8.toNat_inj.1 h13)
          · have := dhi (by omega); omega
        · split
          · decide
          · refine encode_no10 (fun e => ?_) (by omega)
            by_cases hlow : ((L s)[pos]'hpl).toNat < 128
            · rw [dlo hlow] at e
              exact b10 (UInt8.toNat_inj.1 e)
            · have := dhi (by omega); omega
    obtain ⟨m, f', e1, e2, e3⟩ := textF_mid s q hq hq2 f (pos + (Utf8.decode s pos).2) hnext (by omega) (fun i b hi hj hb => h3 i b (by omega) hj hb)
    refine ⟨runeP s pos ++ m, f', ?_, ?_, e3⟩
    · rw [textF, if_pos hp, e1, List.append_assoc]
    · rw [List.mem_append]; exact fun h => h.elim hr e2

/-- bytes that stay, then a row without LF and CR, then bytes that stay -/
theorem repT_mid (A M C : List UInt8) (hA : ∀ b ∈ A, Stays b) (hM : ∀ b ∈ M, b ≠ 10 ∧ b ≠ 13) (hC : ∀ b ∈ C, Stays b) : ∃ m, repT (S (A ++ M ++ C)) = A ++ m ++ C ∧ (10 : UInt8) ∉ m := by
  have hs : (S (A ++ M ++ C)).size = A.length + M.length + C.length := by simp [S]; omega
  have hL : L (S (A ++ M ++ C)) = A ++ M ++ C := L_S _
  generalize S (A ++ M ++ C) = s at *
  unfold repT
  have h1 := textF_stays s A.length s.size 0 (by omega) (by omega) (fun i b _ hi hb => by
    rw [hL, List.append_assoc, List.getElem?_append_left (by omega)] at hb
    exact hA b (List.mem_of_getElem? hb)) (by omega)
  obtain ⟨m, f', h2, h3, h4⟩ := textF_mid s (A.length + M.length) (by omega) (fun b hb => by
    rw [hL, List.getElem?_append_right (by simp)] at hb
    exact (hC b (List.mem_of_getElem? hb)).2.1) (s.size - A.length) A.length (by omega) (by omega) (fun i b hi hj hb => by
    rw [hL, List.getElem?_append_left (by simp; omega), List.getElem?_append_right (by omega)] at hb
    exact hM b (List.mem_of_getElem? hb))
  have h5 := textF_stays s C.length f' (A.length + M.length) (by omega) (by omega) (fun i b hi _ hb => by
    rw [hL, List.getElem?_append_right (by simp; omega)] at hb
    exact hC b (List.mem_of_getElem? hb)) (fun e => by
    obtain ⟨e1, e2⟩ := e
    rw [hL] at e2
    by_cases hm : M.length = 0
    · rw [List.getElem?_append_left (by simp; omega), List.getElem?_append_left (by omega)] at e2
      exact (hA 13 (List.mem_of_getElem? e2)).2.2 rfl
    · rw [List.getElem?_append_left (by simp; omega), List.getElem?_append_right (by omega)] at e2
      exact (hM 13 (List.mem_of_getElem? e2)).2 rfl)
  refine ⟨m, ?_, h3⟩
  rw [h1, Nat.zero_add, h2, h5, hL]
  have e3 : List.take A.length (List.drop 0 (A ++ M ++ C)) = A := by simp
  have e4 : List.take C.length (List.drop (A.length + M.length) (A ++ M ++ C)) = C := by
    rw [List.drop_append_of_le_length (by simp), List.drop_eq_nil_of_le (by simp)]; simp
  have e5 : textF s (f' - C.length) (A.length + M.length + C.length) = [] := by
    cases f' - C.length with
    | zero => rfl
    | succ g => rw [textF, if_neg (by omega)]
  rw [e3, e4, e5]
  simp
end Go.Proofs.YteeoohnkfdffnaaGreatDoor
