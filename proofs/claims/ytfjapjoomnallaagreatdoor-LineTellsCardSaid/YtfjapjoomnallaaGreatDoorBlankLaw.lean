/-
  line: blanks at a line's beginning: what Expand, Indent and Strip compute, and laws on it.
-/
import Derived.Test.YtfjapjoomnallaaGreatDoorLineLaw
namespace Go.Proofs.YtfjapjoomnallaaGreatDoor

/-- the column behind the blanks that a line begins with -/
def colT : Nat → List UInt8 → Nat
  | c, [] => c
  | c, b :: r => if b = 32 then colT (c + 1) r else if b = 9 then colT (c + (4 - c % 4)) r else c
def restT (l : List UInt8) : List UInt8 := l.dropWhile (fun b => b == 32 || b == 9)
def expandT (l : List UInt8) : List UInt8 := List.replicate (colT 0 l) 32 ++ restT l
def stripT (l : List UInt8) (n : Int) : List UInt8 := (expandT l).drop (min (max n 0).toNat (colT 0 l))
/-- no blank stands ahead -/
def NoBlank (r : List UInt8) : Prop := ∀ b, r.head? = some b → b ≠ 32 ∧ b ≠ 9

theorem restT_no (l : List UInt8) : NoBlank (restT l) := by
  induction l with
  | nil => intro b h; cases h
  | cons x l ih =>
    unfold restT
    rw [List.dropWhile_cons]
    split
    · exact ih
    · rename_i h
      intro b hb
      simp at hb h
      subst hb
      exact h
theorem colT_le (l : List UInt8) : ∀ c, c ≤ colT c l ∧ colT c l ≤ c + 4 * l.length := by
  induction l with
  | nil => intro c; simp [colT]
  | cons b l ih =>
    intro c
    unfold colT
    split
    · have := ih (c + 1); simp only [List.length_cons]; omega
    · split
      · have := ih (c + (4 - c % 4)); simp only [List.length_cons]; omega
      · simp only [List.length_cons]; omega
theorem restT_le (l : List UInt8) : (restT l).length ≤ l.length := (List.dropWhile_sublist _).length_le
theorem expandT_le (l : List UInt8) : (expandT l).length ≤ 5 * l.length := by
  have h1 := (colT_le l 0).2
  have h2 := restT_le l
  simp only [expandT, List.length_append, List.length_replicate]
  omega
theorem colT_rep (n : Nat) (r : List UInt8) : ∀ c, colT c (List.replicate n 32 ++ r) = colT (c + n) r := by
  induction n with
  | zero => intro c; rfl
  | succ n ih =>
    intro c
    rw [List.replicate_succ, List.cons_append, colT, if_pos rfl, ih (c + 1)]
    congr 1; omega
theorem colT_no {r : List UInt8} (h : NoBlank r) (c : Nat) : colT c r = c := by
  cases r with
  | nil => rfl
  | cons b r =>
    have := h b rfl
    rw [colT, if_neg this.1, if_neg this.2]
theorem restT_rep (n : Nat) (r : List UInt8) : restT (List.replicate n 32 ++ r) = restT r := by
  induction n with
  | zero => rfl
  | succ n ih => rw [List.replicate_succ, List.cons_append]; unfold restT at *; rw [List.dropWhile_cons, if_pos (by simp), ih]
theorem restT_of_no {r : List UInt8} (h : NoBlank r) : restT r = r := by
  cases r with
  | nil => rfl
  | cons b r =>
    have := h b rfl
    unfold restT
    rw [List.dropWhile_cons, if_neg (by simp [this.1, this.2])]
theorem col_blanks {n : Nat} {r : List UInt8} (h : NoBlank r) : colT 0 (List.replicate n 32 ++ r) = n ∧ restT (List.replicate n 32 ++ r) = r := by
  rw [colT_rep, colT_no h, restT_rep, restT_of_no h]
  exact ⟨by omega, rfl⟩
theorem expand_expand (l : List UInt8) : expandT (expandT l) = expandT l := by
  obtain ⟨h1, h2⟩ := col_blanks (n := colT 0 l) (restT_no l)
  conv => lhs; rw [expandT]
  rw [show colT 0 (expandT l) = colT 0 l from h1, show restT (expandT l) = restT l from h2]; rfl
theorem stripT_eq (l : List UInt8) (n : Int) : stripT l n = List.replicate (colT 0 l - min (max n 0).toNat (colT 0 l)) 32 ++ restT l := by
  unfold stripT expandT
  rw [List.drop_append, List.drop_replicate, List.length_replicate]
  rw [show min (max n 0).toNat (colT 0 l) - colT 0 l = 0 by omega, List.drop_zero]
theorem strip_col (l : List UInt8) (n : Int) : colT 0 (stripT l n) = colT 0 l - (max n 0).toNat ∧ restT (stripT l n) = restT l := by
  rw [stripT_eq]
  obtain ⟨h1, h2⟩ := col_blanks (n := colT 0 l - min (max n 0).toNat (colT 0 l)) (restT_no l)
  exact ⟨by rw [h1]; omega, h2⟩
theorem strip_strip (l : List UInt8) (a b : Int) (ha : 0 ≤ a) (hb : 0 ≤ b) : stripT (stripT l a) b = stripT l (a + b) := by
  obtain ⟨h1, h2⟩ := strip_col l a
  rw [stripT_eq (stripT l a) b, stripT_eq l (a + b), h1, h2]
  congr 2
  omega
theorem strip_zero (l : List UInt8) : stripT l 0 = expandT l := by
  unfold stripT; simp
theorem trimLeft_expand (l : List UInt8) : Lib.trimLeftB (expandT l) 32 = restT l := by
  unfold Lib.trimLeftB expandT
  have key : ∀ n, List.dropWhile (fun x => x == 32) (List.replicate n 32 ++ restT l) = restT l := by
    intro n
    induction n with
    | zero =>
      have h := restT_no l
      cases hr : restT l with
      | nil => rfl
      | cons b r =>
        rw [hr] at h
        rw [List.replicate_zero, List.nil_append, List.dropWhile_cons, if_neg (by simpa using (h b rfl).1)]
    | succ n ih => rw [List.replicate_succ, List.cons_append, List.dropWhile_cons, if_pos (by simp), ih]
  exact key _
theorem tab_col (n : Nat) {s : List UInt8} (h : NoBlank s) : colT 0 (List.replicate n 32 ++ 9 :: s) = n / 4 * 4 + 4 ∧ restT (List.replicate n 32 ++ 9 :: s) = s := by
  rw [colT_rep, restT_rep]
  refine ⟨?_, ?_⟩
  · rw [colT, if_neg (by decide), if_pos rfl, colT_no h]; omega
  · unfold restT; rw [List.dropWhile_cons, if_pos (by simp)]; exact restT_of_no h
end Go.Proofs.YtfjapjoomnallaaGreatDoor
