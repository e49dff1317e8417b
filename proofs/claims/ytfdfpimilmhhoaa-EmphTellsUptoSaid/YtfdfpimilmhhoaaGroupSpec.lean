/-
  emph.Group: what it computes, as plain Lean: pieces that are paired.
-/
import Derived.Test.YtfdfpimilmhhoaaOpener
import Derived.Test.YtfdfpimilmhhoaaMerge
namespace Go.Proofs.Ytfdfpimilmhhoaa
open Go.RowKit

/-- a piece without its addresses -/
def era (p : Pc) : Pc := { p with A := none, ln := 0, cp := 0 }
def pcNodes (p : Pc) : List Inl := nodesT p.sign p.left p.l
def madePc (l : List Inl) : Pc := ⟨0, 0, false, false, none, 0, 0, l, 0, false⟩
def lessPc (p : Pc) (n : Int) : Pc := { p with left := p.left - n }
def two (a b : Pc) : Bool := decide (1 < a.left) && decide (1 < b.left)
def gKind (a b : Pc) : Int := if two a b then 4 else 3
def gN (a b : Pc) : Int := if two a b then 2 else 1
def gMade (ps : List Pc) (f i : Nat) (a b : Pc) : List Inl := ⟨gKind a b, 0, ⟨#[]⟩, ⟨#[]⟩, ⟨#[]⟩⟩ :: ((ps.take i).drop (f + 1)).flatMap (fun p => deepT (pcNodes p))
def skips (b : Pc) : Prop := b.sign = 0 ∨ b.cls = false ∨ b.shut = true ∨ b.left = 0
instance (b : Pc) : Decidable (skips b) := by unfold skips; exact inferInstance
/-- one round -/
def gStep (ps : List Pc) (i : Nat) : List Pc × Nat :=
  match ps[i]? with
  | none => (ps, i)
  | some b =>
    if skips b then (ps, i + 1)
    else if openAt ps b i < 0 then (ps.set i { b with shut := true }, i + 1)
    else match ps[(openAt ps b i).toNat]? with
      | none => (ps, i)
      | some a => (ps.take (openAt ps b i).toNat ++ [lessPc a (gN a b), madePc (gMade ps (openAt ps b i).toNat i a b)] ++ lessPc b (gN a b) :: ps.drop (i + 1), (openAt ps b i).toNat + 2)
def gRun : Nat → List Pc → Nat → List Pc
  | 0, ps, _ => ps
  | f + 1, ps, i => if i < ps.length then gRun f (gStep ps i).1 (gStep ps i).2 else ps

def lefts (ps : List Pc) : Nat := (ps.map (fun p => p.left.toNat)).sum
def gMeas (ps : List Pc) (i : Nat) : Nat := lefts ps + (ps.length - i)
def gStart (sign : UInt8) (n : Int) (opn cls : Bool) (l : List Inl) : Pc := ⟨sign, n, opn, cls, none, 0, 0, l, max n 0, false⟩

theorem lefts_append (a b : List Pc) : lefts (a ++ b) = lefts a + lefts b := by simp [lefts]
theorem lefts_cons (p : Pc) (a : List Pc) : lefts (p :: a) = p.left.toNat + lefts a := by simp [lefts]

theorem openAt_some {ps : List Pc} {b : Pc} : ∀ {k : Nat}, 0 ≤ openAt ps b k → ∃ a, ps[(openAt ps b k).toNat]? = some a ∧ pairT a b = true
  | 0, h => by simp [openAt] at h
  | k + 1, h => by
    unfold openAt at h ⊢
    split
    · rename_i a ha
      rw [ha] at h
      simp only at h
      split
      · rename_i hp
        exact ⟨a, by simpa using ha, hp⟩
      · rename_i hp
        rw [if_neg hp] at h
        exact openAt_some h
    · rename_i hn
      rw [hn] at h
      simp at h
theorem pairT_left {a b : Pc} (h : pairT a b = true) : 1 ≤ a.left := by
  unfold pairT at h
  split at h
  · cases h
  · rename_i hh; simp only [not_or] at hh; omega
theorem gN_le {a b : Pc} (ha : 1 ≤ a.left) (hb : 1 ≤ b.left) : 1 ≤ gN a b ∧ gN a b ≤ a.left ∧ gN a b ≤ b.left ∧ gN a b ≤ 2 := by
  unfold gN two
  split
  · rename_i h; simp at h; omega
  · omega

theorem split_at {ps : List Pc} {i : Nat} {b : Pc} (h : ps[i]? = some b) : ps = ps.take i ++ b :: ps.drop (i + 1) := by
  obtain ⟨hi, rfl⟩ := List.getElem?_eq_some_iff.1 h
  rw [← List.drop_eq_getElem_cons hi, List.take_append_drop]
theorem take_split {ps : List Pc} {f i : Nat} {a : Pc} (h : ps[f]? = some a) (hf : f < i) : ps.take i = ps.take f ++ a :: (ps.take i).drop (f + 1) := by
  have h' : (ps.take i)[f]? = some a := by rw [List.getElem?_take, if_pos hf, h]
  have := split_at h'
  rwa [List.take_take, Nat.min_eq_left (by omega)] at this

theorem lefts_set {ps : List Pc} {i : Nat} {b b' : Pc} (h : ps[i]? = some b) (hl : b'.left = b.left) : lefts (ps.set i b') = lefts ps := by
  have hs := split_at h
  have hi := (List.getElem?_eq_some_iff.1 h).1
  rw [List.set_eq_take_append_cons_drop, if_pos hi, lefts_append, lefts_cons, hl]
  conv => rhs; rw [hs, lefts_append, lefts_cons]

/-- the measure goes down -/
theorem gStep_meas {ps : List Pc} {i : Nat} (hi : i < ps.length) (h0 : ∀ p ∈ ps, 0 ≤ p.left) : gMeas (gStep ps i).1 (gStep ps i).2 < gMeas ps i := by
  have hb : ps[i]? = some ps[i] := List.getElem?_eq_getElem hi
  generalize ps[i] = b at hb
  unfold gStep
  rw [hb]
  simp only
  by_cases hs : skips b
  · rw [if_pos hs]; simp only [gMeas]; omega
  · rw [if_neg hs]
    by_cases ho : openAt ps b i < 0
    · rw [if_pos ho]; simp only [gMeas, lefts_set hb (show ({ b with shut := true } : Pc).left = b.left from rfl), List.length_set]; omega
    · rw [if_neg ho]
      obtain ⟨a, ha, hp⟩ := openAt_some (by omega : 0 ≤ openAt ps b i)
      have hlt := (openAt_lt ps b i).1
      rw [ha]
      simp only
      generalize hf : (openAt ps b i).toNat = f at *
      have hfi : f < i := by omega
      have hal := pairT_left hp
      have hbl : 1 ≤ b.left := by
        have := h0 b (List.mem_of_getElem? hb)
        unfold skips at hs
        simp only [not_or] at hs
        omega
      obtain ⟨n1, n2, n3, _⟩ := gN_le hal hbl
      have h1 : lefts ps = lefts (ps.take f) + a.left.toNat + lefts ((ps.take i).drop (f + 1)) + b.left.toNat + lefts (ps.drop (i + 1)) := by
        conv => lhs; rw [split_at hb, take_split ha hfi]
        simp only [lefts_append, lefts_cons]; omega
      simp only [gMeas, lefts_append, lefts_cons, List.length_append, List.length_cons, List.length_nil, List.length_take, List.length_drop]
      have h2 : lefts ([] : List Pc) = 0 := rfl
      have h3 : ∀ l, (madePc l).left.toNat = 0 := fun l => rfl
      have h4 : ∀ p n, (lessPc p n).left = p.left - n := fun p n => rfl
      simp only [h3, h4]
      omega
end Go.Proofs.Ytfdfpimilmhhoaa
