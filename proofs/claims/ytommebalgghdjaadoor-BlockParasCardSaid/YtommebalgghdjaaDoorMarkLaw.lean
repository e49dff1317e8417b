/-
  mark: what its functions compute, as plain Lean over lists of bytes, and laws on it.
-/
import Derived.Test.YtommebalgghdjaaDoorBlankLaw
import Derived.Lib.SlTrimSet
import Derived.Lib.TrimByte
namespace Go.Proofs.YtommebalgghdjaaDoor
set_option linter.unusedVariables false

def isB (b : UInt8) : Bool := b == 32 || b == 9
def rowT (c : UInt8) (l : List UInt8) : Nat := (l.takeWhile (· == c)).length
def restR (n : Nat) (r : List UInt8) : List UInt8 :=
  let t := Lib.trimRightB r 35
  if t = [] ∨ (t.getLast?.any isB) = true then Lib.trimRightS t [32, 9] else r
def headingT (l : List UInt8) : Option (Nat × List UInt8) :=
  let n := rowT 35 (restT l)
  let rest := (restT l).drop n
  if colT 0 l ≤ 3 ∧ 1 ≤ n ∧ n ≤ 6 ∧ (rest = [] ∨ rest.head?.any isB = true) then some (n, restR n (Lib.trimS rest [32, 9])) else none
def ruleT (l : List UInt8) : Bool :=
  decide (colT 0 l ≤ 3) && match restT l with
    | [] => false
    | c :: r => [45, 42, 95].contains c && decide (3 ≤ (c :: r).count c) && decide (Lib.trimS (c :: r) [32, 9, c] = [])
def closesT (l : List UInt8) (c : UInt8) (n : Int) : Bool :=
  decide (colT 0 l ≤ 3) && decide (max n 1 ≤ (rowT c (restT l) : Int)) && ((restT l).drop (rowT c (restT l))).all isB
def fenceT (l : List UInt8) : Option (UInt8 × Nat × List UInt8) :=
  if colT 0 l ≤ 3 then match restT l with
    | [] => none
    | c :: r => if c = 96 ∨ c = 126 then
        let n := rowT c (c :: r)
        let info := Lib.trimS ((c :: r).drop n) [32, 9]
        if 3 ≤ n ∧ ¬ (c = 96 ∧ 96 ∈ info) then some (c, n, info) else none
      else none
  else none
def quoteT (l : List UInt8) : Option (List UInt8) :=
  if colT 0 l ≤ 3 then match restT l with
    | 62 :: r => some (Lib.trimPrefix r [32])
    | _ => none
  else none
def isD (b : UInt8) : Bool := decide (48 ≤ b.toNat) && decide (b.toNat ≤ 57)
def digT (l : List UInt8) : List UInt8 := (l.take 9).takeWhile isD
def valT (l : List UInt8) : Nat := l.foldl (fun v b => v * 10 + (b.toNat - 48)) 0
def gapT (rest : List UInt8) : Nat := if 4 < rowT 32 rest ∨ rowT 32 rest = rest.length then 1 else rowT 32 rest
def itemT (l : List UInt8) : Option (UInt8 × Int × Nat × List UInt8) :=
  let x := restT l
  let n := (digT x).length
  if colT 0 l ≤ 3 ∧ ¬ ruleT l = true then
    match x.drop n with
    | [] => none
    | c :: rest =>
      if (if n = 0 then [45, 43, 42].contains c else (c == 46 || c == 41)) = true ∧ (rest = [] ∨ rest.head? = some 32) then
        some (c, (if n = 0 then -1 else (valT (digT x) : Int)), colT 0 l + n + 1 + gapT rest, rest.drop (min (gapT rest) rest.length))
      else none
  else none
def underT (l : List UInt8) : Nat :=
  let x := Lib.trimRightS (restT l) [32, 9]
  if ¬ colT 0 l ≤ 3 ∨ x = [] then 0 else if Lib.trimB x 61 = [] then 1 else if Lib.trimB x 45 = [] then 2 else 0
def htmlT (l : List UInt8) : Bool :=
  decide (colT 0 l ≤ 3) && match restT l with
    | 60 :: b :: _ => (decide (97 ≤ (b ||| 32).toNat) && decide ((b ||| 32).toNat ≤ 122) && decide (65 ≤ b.toNat)) || [47, 33, 63].contains b
    | _ => false

/-! ## trims -/
theorem dropWhile_nil {p : UInt8 → Bool} (l : List UInt8) : l.dropWhile p = [] ↔ ∀ x ∈ l, p x = true := by
  induction l with
  | nil => simp
  | cons x l ih =>
    rw [List.dropWhile_cons]
    split
    · rename_i h; rw [ih]; simp [h]
    · rename_i h; simp [h]
theorem strip2_nil (p : UInt8 → Bool) (l : List UInt8) : ((l.reverse.dropWhile p).reverse).dropWhile p = [] ↔ ∀ x ∈ l, p x = true := by
  rw [dropWhile_nil]
  constructor
  · intro h x hx
    by_cases hm : x ∈ (List.dropWhile p l.reverse).reverse
    · exact h x hm
    · have hs := List.takeWhile_append_dropWhile (p := p) (l := l.reverse)
      have : x ∈ l.reverse := by simpa using hx
      rw [← hs] at this
      rcases List.mem_append.1 this with h2 | h2
      · exact List.all_eq_true.1 (List.all_takeWhile (p := p) (l := l.reverse)) x h2
      · exact absurd (by simpa using h2) hm
  · intro h
    have h1 : List.dropWhile p l.reverse = [] := (dropWhile_nil _).2 fun x hx => h x (by simpa using hx)
    rw [h1]
    intro x hx
    cases hx
theorem trimS_nil (l cs : List UInt8) : Lib.trimS l cs = [] ↔ ∀ x ∈ l, cs.contains x = true := strip2_nil (fun b => cs.contains b) l
theorem trimB_nil (l : List UInt8) (c : UInt8) : Lib.trimB l c = [] ↔ ∀ x ∈ l, x = c := by
  have := strip2_nil (fun b => b == c) l
  unfold Lib.trimB Lib.trimLeftB Lib.trimRightB
  rw [this]
  simp
/-- nothing of the kind at the end: it stays -/
theorem dropRight_app {p : UInt8 → Bool} (l r : List UInt8) (hr : ∀ x ∈ r, p x = true) (hl : ∀ b, l.getLast? = some b → p b = false) : ((l ++ r).reverse.dropWhile p).reverse = l := by
  rw [List.reverse_append]
  have h1 : ∀ (a b : List UInt8), (∀ x ∈ a, p x = true) → List.dropWhile p (a ++ b) = List.dropWhile p b := by
    intro a b ha
    induction a with
    | nil => rfl
    | cons x a ih =>
      rw [List.cons_append, List.dropWhile_cons, if_pos (ha x (by simp))]
      exact ih fun y hy => ha y (by simp [hy])
  rw [h1 _ _ (fun x hx => hr x (by simpa using hx))]
  cases hl2 : l.reverse with
  | nil =>
    have : l = [] := by simpa using hl2
    rw [this]; rfl
  | cons b t =>
    have : l = t.reverse ++ [b] := by
      have := congrArg List.reverse hl2
      simpa using this
    have hb := hl b (by rw [this]; simp)
    rw [List.dropWhile_cons, hb, ← hl2]
    simp
theorem trimRightS_app (l r cs : List UInt8) (hr : ∀ x ∈ r, cs.contains x = true) (hl : ∀ b, l.getLast? = some b → cs.contains b = false) : Lib.trimRightS (l ++ r) cs = l :=
  dropRight_app (p := fun b => cs.contains b) l r hr hl
theorem trimRightB_app (l r : List UInt8) (c : UInt8) (hr : ∀ x ∈ r, x = c) (hl : ∀ b, l.getLast? = some b → b ≠ c) : Lib.trimRightB (l ++ r) c = l :=
  dropRight_app (p := fun b => b == c) l r (fun x hx => by simpa using hr x hx) (fun b hb => by simpa using hl b hb)
theorem dropWhile_app {p : UInt8 → Bool} (r l : List UInt8) (hr : ∀ x ∈ r, p x = true) (hl : ∀ b, l.head? = some b → p b = false) : List.dropWhile p (r ++ l) = l := by
  induction r with
  | nil =>
    cases l with
    | nil => rfl
    | cons b l => rw [List.nil_append, List.dropWhile_cons, hl b rfl]; rfl
  | cons x r ih =>
    rw [List.cons_append, List.dropWhile_cons, if_pos (hr x (by simp))]
    exact ih fun y hy => hr y (by simp [hy])
theorem trimS_mid (a l r cs : List UInt8) (ha : ∀ x ∈ a, cs.contains x = true) (hr : ∀ x ∈ r, cs.contains x = true) (h1 : ∀ b, l.head? = some b → cs.contains b = false) (h2 : ∀ b, l.getLast? = some b → cs.contains b = false) : Lib.trimS (a ++ l ++ r) cs = l := by
  unfold Lib.trimS
  cases l with
  | nil =>
    have : Lib.trimRightS (a ++ [] ++ r) cs = [] := by
      have := trimRightS_app [] (a ++ r) cs (by intro x hx; rcases List.mem_append.1 hx with h | h; exact ha x h; exact hr x h) (by simp)
      simpa using this
    rw [this]; rfl
  | cons b l =>
    rw [trimRightS_app (a ++ b :: l) r cs hr (by
      intro y hy
      rw [List.getLast?_append] at hy
      have e : (b :: l).getLast?.or a.getLast? = (b :: l).getLast? := by
        cases h : (b :: l).getLast? with
        | none => simp at h
        | some y => rfl
      rw [e] at hy
      exact h2 y hy)]
    exact dropWhile_app (p := fun b => cs.contains b) a (b :: l) ha h1
theorem rowT_rep (c : UInt8) (n : Nat) (r : List UInt8) (h : ∀ b, r.head? = some b → b ≠ c) : rowT c (List.replicate n c ++ r) = n ∧ (List.replicate n c ++ r).drop n = r := by
  refine ⟨?_, by rw [List.drop_append, List.drop_eq_nil_of_le (by simp)]; simp⟩
  unfold rowT
  induction n with
  | zero =>
    cases r with
    | nil => rfl
    | cons b r => rw [List.replicate_zero, List.nil_append, List.takeWhile_cons, if_neg (by simpa using h b rfl)]; rfl
  | succ n ih => rw [List.replicate_succ, List.cons_append, List.takeWhile_cons, if_pos (by simp), List.length_cons, ih]
theorem rowT_le (c : UInt8) (l : List UInt8) : rowT c l ≤ l.length := (List.takeWhile_sublist _).length_le
theorem strip_all (l : List UInt8) : stripT l (colT 0 l : Int) = restT l := by
  rw [stripT_eq]
  rw [show colT 0 l - min (max (colT 0 l : Int) 0).toNat (colT 0 l) = 0 by omega]
  rfl
end Go.Proofs.YtommebalgghdjaaDoor
