/-
  What a labelled heading's line is taken apart into: the plain law.
-/
import Derived.Test.YteeoohnkfdffnaaGreatDoorFrameParse
import Derived.Test.YteeoohnkfdffnaaGreatDoorFrameSpans
import Derived.Test.YteeoohnkfdffnaaGreatDoorGC
namespace Go.Proofs.YteeoohnkfdffnaaGreatDoor
open Go.Lib

theorem lastIndex_at (h lb : List UInt8) (hn : ∀ j, occAt lb [123, 61] j = false) : Lib.lastIndex (h ++ [123, 61] ++ lb) [123, 61] = (h.length : Int) := by
  have hl : (h ++ [123, 61] ++ lb).length = h.length + 2 + lb.length := by simp; omega
  have hat : occAt (h ++ [123, 61] ++ lb) [123, 61] h.length = true := by
    unfold occAt
    rw [List.append_assoc, List.drop_left]
    simp
  have hbe : ∀ j, h.length < j → occAt (h ++ [123, 61] ++ lb) [123, 61] j = false := by
    intro j hj
    obtain ⟨m, rfl⟩ : ∃ m, j = h.length + (m + 1) := ⟨j - h.length - 1, by omega⟩
    cases m with
    | zero =>
      unfold occAt
      rw [List.append_assoc, show h.length + (0 + 1) = h.length + 1 from rfl, ← List.drop_drop, List.drop_left]
      rfl
    | succ m =>
      have := hn m
      unfold occAt at this ⊢
      rw [show h ++ [123, 61] ++ lb = (h ++ [123, 61]) ++ lb from rfl, show h.length + (m + 1 + 1) = (h ++ [123, 61]).length + m by simp; omega, ← List.drop_drop, List.drop_left]
      exact this
  unfold Lib.lastIndex
  rw [if_pos (by rw [hl]; simp; omega), hl]
  rcases lastOcc_spec (h ++ [123, 61] ++ lb) [123, 61] (h.length + 2 + lb.length - ([123, 61] : List UInt8).length + 1) with ⟨_, h2⟩ | ⟨i, hi, e, ho, hb⟩
  · rw [h2 h.length (by simp; omega)] at hat
    cases hat
  · rw [e]
    rcases Nat.lt_trichotomy i h.length with h1 | h1 | h1
    · rw [hb h.length h1 (by simp; omega)] at hat
      cases hat
    · rw [h1]
    · rw [hbe i h1] at ho
      cases ho
theorem occ_none {lb : List UInt8} (h : 123 ∉ lb) : ∀ j, occAt lb [123, 61] j = false := by
  intro j
  cases ho : occAt lb [123, 61] j
  · rfl
  · obtain ⟨r, hr⟩ := List.isPrefixOf_iff_prefix.1 ho
    exact absurd (List.drop_subset j lb (by rw [← hr]; simp)) h
theorem occ_snoc {lb : List UInt8} (h : 123 ∉ lb) (b : UInt8) : ∀ j, occAt (lb ++ [b]) [123, 61] j = false := by
  intro j
  cases ho : occAt (lb ++ [b]) [123, 61] j
  · rfl
  · obtain ⟨r, hr⟩ := List.isPrefixOf_iff_prefix.1 ho
    by_cases hj : j + 1 < (lb ++ [b]).length
    · have h1 : (lb ++ [b])[j]? = some 123 := by
        have := congrArg (fun l => l[0]?) hr
        simp only [List.getElem?_drop] at this
        simpa using this.symm
      rw [List.getElem?_append_left (by simp at hj; exact hj)] at h1
      exact absurd (List.mem_of_getElem? h1) h
    · have := congrArg List.length hr
      simp at this hj
      omega

theorem trimR_snoc (x : List UInt8) (c : UInt8) (hc : c ≠ 32) (k : Nat) : Lib.trimRightB (x ++ [c] ++ List.replicate k 32) 32 = x ++ [c] := by
  unfold Lib.trimRightB
  rw [List.reverse_append, List.reverse_replicate]
  have : ∀ k, (List.replicate k (32 : UInt8) ++ (x ++ [c]).reverse).dropWhile (fun y => y == 32) = (x ++ [c]).reverse := by
    intro k
    induction k with
    | zero => simp [hc]
    | succ k ih => rw [List.replicate_succ, List.cons_append, List.dropWhile_cons, if_pos (by decide), ih]
  rw [this, List.reverse_reverse]
theorem suffix_no (x : List UInt8) (c d : UInt8) (h : c ≠ d) : Lib.hasSuffix (x ++ [c]) [d] = false := by
  unfold Lib.hasSuffix
  cases hs : [d].isSuffixOf (x ++ [c])
  · rfl
  · obtain ⟨t, ht⟩ := List.isSuffixOf_iff_suffix.1 hs
    exact absurd (List.append_inj_right' ht rfl) (by simpa using fun e : d = c => h e.symm)
theorem suffix_yes (x : List UInt8) (c : UInt8) : Lib.hasSuffix (x ++ [c]) [c] = true ∧ Lib.trimSuffix (x ++ [c]) [c] = x := by
  have h : Lib.hasSuffix (x ++ [c]) [c] = true := by
    unfold Lib.hasSuffix
    exact List.isSuffixOf_iff_suffix.2 ⟨x, rfl⟩
  refine ⟨h, ?_⟩
  unfold Lib.trimSuffix
  rw [if_pos h]
  simp

theorem headed_mk (h lb : List UInt8) (k : Nat) (hn : ∀ j, occAt lb [123, 61] j = false) :
    headedT (h ++ [123, 61] ++ lb ++ [125] ++ List.replicate k 32) = if labelT lb then if signsOk h then some (h, lb) else none else none := by
  unfold headedT
  rw [trimR_snoc _ _ (by decide), (suffix_yes _ _).1, (suffix_yes _ _).2, if_pos rfl, lastIndex_at h lb hn, if_pos (by omega), Int.toNat_natCast]
  have e1 : (h ++ [123, 61] ++ lb).drop (h.length + 2) = lb := by
    rw [show h.length + 2 = (h ++ [123, 61]).length by simp, List.drop_left]
  have e2 : (h ++ [123, 61] ++ lb).take h.length = h := by
    rw [List.append_assoc, List.take_left]
  rw [e1, e2]
theorem headed_no (x : List UInt8) : headedT (x ++ [120]) = none := by
  unfold headedT
  have := trimR_snoc x 120 (by decide) 0
  rw [List.replicate_zero, List.append_nil] at this
  rw [this, suffix_no _ _ _ (by decide)]
  rfl

def headL (n blanks : Nat) (text : List UInt8) : List UInt8 := List.replicate blanks 32 ++ List.replicate n 35 ++ [32] ++ text

theorem drop_rep (k : Nat) (c d : UInt8) (r : List UInt8) (h : d ≠ c) : (List.replicate k c ++ d :: r).dropWhile (fun y => y == c) = d :: r := by
  induction k with
  | zero => simp [h]
  | succ k ih => rw [List.replicate_succ, List.cons_append, List.dropWhile_cons, if_pos (by simp), ih]
theorem signs_head (n blanks : Nat) (text : List UInt8) (hn : 1 ≤ n) : signsOk (headL n blanks text) = (decide (n ≤ 6) && decide (blanks ≤ 3)) := by
  obtain ⟨m, rfl⟩ : ∃ m, n = m + 1 := ⟨n - 1, by omega⟩
  have e1 : Lib.trimLeftB (headL (m + 1) blanks text) 32 = List.replicate (m + 1) 35 ++ 32 :: text := by
    unfold Lib.trimLeftB headL
    rw [List.append_assoc, List.append_assoc, List.replicate_succ, List.cons_append]
    rw [drop_rep _ _ _ _ (by decide)]
    simp
  have e2 : Lib.trimLeftB (List.replicate (m + 1) 35 ++ 32 :: text) 35 = 32 :: text := by
    unfold Lib.trimLeftB
    rw [drop_rep _ _ _ _ (by decide)]
  unfold signsOk
  rw [e1, e2]
  have h1 : (headL (m + 1) blanks text).length - (List.replicate (m + 1) (35 : UInt8) ++ 32 :: text).length = blanks := by
    unfold headL; simp
  have h2 : (List.replicate (m + 1) (35 : UInt8) ++ 32 :: text).length - ((32 : UInt8) :: text).length = m + 1 := by simp
  rw [h1, h2, show Lib.hasPrefix (32 :: text) [32] = true by unfold Lib.hasPrefix; simp]
  have ha : decide (6 < m + 1) = !decide (m + 1 ≤ 6) := by rw [← decide_not]; exact decide_eq_decide.2 (by omega)
  have hb : decide (3 < blanks) = !decide (blanks ≤ 3) := by rw [← decide_not]; exact decide_eq_decide.2 (by omega)
  rw [ha, hb, decide_eq_false (by omega : ¬ m + 1 < 1)]
  cases decide (m + 1 ≤ 6) <;> cases decide (blanks ≤ 3) <;> rfl

/-- small letters alone -/
def lowT (l : List UInt8) : Bool := l.all fun b => decide (97 ≤ b.toNat) && decide (b.toNat ≤ 122)
theorem low_mem {l : List UInt8} (h : lowT l = true) {b : UInt8} (hb : b ∈ l) : 97 ≤ b.toNat ∧ b.toNat ≤ 122 := by
  have := List.all_eq_true.1 h b hb
  simpa using this
theorem low_not {l : List UInt8} (h : lowT l = true) (c : UInt8) (hc : c.toNat < 97 ∨ 122 < c.toNat) : c ∉ l := fun hm => by
  have := low_mem h hm
  omega
theorem low_okay {l : List UInt8} (h : lowT l = true) : l.all (fun b => !(L badC).contains b) = true := by
  rw [List.all_eq_true]
  intro b hb
  have h1 := low_mem h hb
  cases hc : (L badC).contains b
  · rfl
  · have hm : b ∈ L badC := List.contains_iff_mem.1 hc
    have : ∀ x ∈ L badC, x.toNat < 97 ∨ 122 < x.toNat := by decide
    have := this b hm
    omega
theorem label_low {l : List UInt8} (h : lowT l = true) (h0 : 1 ≤ l.length) (h1 : l.length ≤ 40) : labelT l = true := by
  unfold labelT
  rw [low_okay h, decide_eq_true h1]
  cases l with
  | nil => simp at h0
  | cons => rfl
theorem label_low_snoc {l : List UInt8} (h : lowT l = true) (b : UInt8) : labelT (l ++ [b]) = (decide (l.length < 40) && !(L badC).contains b) := by
  unfold labelT
  rw [List.all_append, low_okay h]
  simp only [List.length_append, List.length_singleton, Bool.true_and, List.all_cons, List.all_nil, Bool.and_true]
  rw [show (l ++ [b]).isEmpty = false by cases l <;> rfl]
  simp only [Bool.not_false, Bool.true_and]
  congr 1
end Go.Proofs.YteeoohnkfdffnaaGreatDoor
