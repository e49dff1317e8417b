/-
  A line's words, over lists of bytes: splitting at blanks; what is parsed, so that it can be reckoned.
-/
import Derived.Test.YtofloedgclodnaaDoorPolParse
namespace Go.Proofs.YtofloedgclodnaaDoor

def split32 : List UInt8 → List (List UInt8)
  | [] => [[]]
  | b :: r => if b = 32 then [] :: split32 r else match split32 r with
    | x :: xs => (b :: x) :: xs
    | [] => [[b]]
theorem split32_ne (l : List UInt8) : split32 l ≠ [] := by
  cases l with
  | nil => simp [split32]
  | cons b r =>
    unfold split32
    split
    · simp
    · split <;> simp
theorem split32_none {l : List UInt8} (h : 32 ∉ l) : split32 l = [l] := by
  induction l with
  | nil => rfl
  | cons b r ih =>
    have h1 : b ≠ 32 := fun e => h (by rw [e]; simp)
    rw [split32, if_neg h1, ih (fun hh => h (by simp [hh]))]
theorem split32_app {a : List UInt8} (r : List UInt8) (h : 32 ∉ a) : split32 (a ++ 32 :: r) = a :: split32 r := by
  induction a with
  | nil => simp [split32]
  | cons b a ih =>
    have h1 : b ≠ 32 := fun e => h (by rw [e]; simp)
    rw [List.cons_append, split32, if_neg h1, ih (fun hh => h (by simp [hh]))]
theorem find32 (l : List UInt8) : 32 ∉ l ∨ ∃ a r, l = a ++ 32 :: r ∧ 32 ∉ a := by
  induction l with
  | nil => exact .inl (by simp)
  | cons b l ih =>
    by_cases hb : b = 32
    · exact .inr ⟨[], l, by rw [hb]; rfl, by simp⟩
    · rcases ih with h | ⟨a, r, rfl, h⟩
      · exact .inl (by simp only [List.mem_cons, not_or]; exact ⟨fun e => hb e.symm, h⟩)
      · exact .inr ⟨b :: a, r, rfl, by simp only [List.mem_cons, not_or]; exact ⟨fun e => hb e.symm, h⟩⟩
theorem index32 (l : List UInt8) : (32 ∉ l ∧ Lib.index l [32] = -1) ∨ ∃ a r, l = a ++ 32 :: r ∧ 32 ∉ a ∧ Lib.index l [32] = a.length := by
  induction l with
  | nil => exact .inl ⟨by simp, rfl⟩
  | cons b l ih =>
    by_cases hb : b = 32
    · subst hb
      exact .inr ⟨[], l, rfl, by simp, by simp [Lib.index]⟩
    · have e : Lib.index (b :: l) [32] = if Lib.index l [32] == -1 then -1 else Lib.index l [32] + 1 := by
        rw [Lib.index, if_neg]
        simp only [List.isPrefixOf, Bool.and_eq_true, beq_iff_eq, and_true]
        exact fun e => hb e.symm
      rcases ih with ⟨h1, h2⟩ | ⟨a, r, rfl, h1, h2⟩
      · exact .inl ⟨by simp only [List.mem_cons, not_or]; exact ⟨fun e => hb e.symm, h1⟩, by rw [e, h2]; rfl⟩
      · refine .inr ⟨b :: a, r, rfl, by simp only [List.mem_cons, not_or]; exact ⟨fun e => hb e.symm, h1⟩, ?_⟩
        rw [e, h2, if_neg (by simp)]
        simp
theorem split32_kit : ∀ (k : Nat) (s : ByteArray), Lib.countB s ⟨#[32]⟩ = k → (Lib.splitB ⟨#[32]⟩ 0 k s).map L = split32 (L s) := by
  intro k
  induction k with
  | zero =>
    intro s hk
    rw [Lib.splitB_zero]
    rcases index32 (L s) with ⟨h1, _⟩ | ⟨a, r, h1, h2, h3⟩
    · rw [split32_none h1]; rfl
    · have := Lib.countB_hit s ⟨#[32]⟩ a.length (Nat.le_refl _) h3
      omega
  | succ k ih =>
    intro s hk
    rcases index32 (L s) with ⟨h1, h2⟩ | ⟨a, r, h1, h2, h3⟩
    · have := Lib.countB_miss s ⟨#[32]⟩ h2
      omega
    · have hc := Lib.countB_hit s ⟨#[32]⟩ a.length (Nat.le_refl _) h3
      rw [Lib.splitB_hit ⟨#[32]⟩ 0 k s a.length h3, List.map_cons, ih _ (by omega), L_extract, L_extract]
      have hl : (L s).length = s.size := length_L s
      rw [← hl, List.take_length, h1, split32_app r h2]
      have e1 : List.drop 0 (List.take (a.length + 0) (a ++ 32 :: r)) = a := by simp
      have e2 : List.drop (a.length + (⟨#[32]⟩ : ByteArray).size) (a ++ 32 :: r) = r := by
        show List.drop (a.length + 1) (a ++ 32 :: r) = r
        rw [List.drop_append, List.drop_eq_nil_of_le (by omega)]; simp
      rw [e1, e2]

theorem wordsB_eq (l : ByteArray) : wordsB l = (split32 (L l)).map S := by
  rw [← split32_kit _ l rfl, map_S_L]; rfl

/-- parseF over words that can be reckoned -/
def parseC : List ByteArray → List ByteArray → List (Int × Int) → Option (List ByteArray × List (Int × Int))
  | [], xs, ps => if xs.length = 0 then none else some (xs, ps)
  | l :: t, xs, ps => if skipB l then parseC t xs ps else if (addT xs ps ((split32 (L l)).map S)).1 then parseC t (addT xs ps ((split32 (L l)).map S)).2.1 (addT xs ps ((split32 (L l)).map S)).2.2 else none
theorem parseF_eq : ∀ (ls xs : List ByteArray) (ps : List (Int × Int)), parseF ls xs ps = parseC ls xs ps
  | [], _, _ => rfl
  | l :: t, xs, ps => by rw [parseF, parseC, wordsB_eq, parseF_eq t, parseF_eq t]
theorem parseT_eq (s : ByteArray) : parseT s = parseC (linesB (S (repT s))) [] [] := parseF_eq _ _ _
end Go.Proofs.YtofloedgclodnaaDoor
