/- Joined texts: RefSpanLaw, RefSpan, RefSpans, RefUnspan, RefHeaded. -/
import Derived.Test.YtgdnphmannbpgaaGreatDoorGE
import Derived.Test.YtgdnphmannbpgaaGreatDoorGL
import Derived.BigQuiet
import Derived.Test.YtgdnphmannbpgaaGreatDoorGG
import Derived.Deep.CutBlock
import Derived.Deep.DeepCutAuto
/-
  The plain laws of bowdlerref1.span and Headed: what they find as they go is what spanT and headedT say.
-/
namespace Go.Proofs.YtgdnphmannbpgaaGreatDoor
open Go.RowKit
set_option linter.unusedVariables false

theorem span_pre {l : List UInt8} (h : l.take 2 ≠ [123, 124]) : spanT l = none := by
  unfold spanT
  rw [if_neg]
  intro hp
  obtain ⟨r, hr⟩ := List.isPrefixOf_iff_prefix.1 hp
  exact h (by rw [← hr]; rfl)
theorem pre_two {l : List UInt8} (h : l.take 2 = [123, 124]) : Lib.hasPrefix l [123, 124] = true := by
  unfold Lib.hasPrefix
  exact List.isPrefixOf_iff_prefix.2 ⟨l.drop 2, by rw [← h]; exact List.take_append_drop 2 l⟩
theorem cut_none_ {s p : List UInt8} (h : Lib.index s p = -1) : (Lib.cut s p).2.2 = false := by
  unfold Lib.cut
  rw [h]
  rfl
theorem cut_some_ {s p : List UInt8} {i : Nat} (h : Lib.index s p = (i : Int)) : Lib.cut s p = (s.take i, s.drop (i + p.length), true) := by
  unfold Lib.cut
  rw [h, if_pos (by omega), Int.toNat_natCast]
theorem span_no58 {l : List UInt8} (h : ∀ j, 2 ≤ j → j < l.length → l[j]? ≠ some 58) : spanT l = none := by
  have hi : Lib.index (l.drop 2) [58] = -1 := Lib.index_none fun j _ => by
    cases ho : Lib.occAt (l.drop 2) [58] j
    · rfl
    · have h1 := Lib.occAt_head rfl ho
      rw [List.getElem?_drop] at h1
      exact absurd h1 (h _ (by omega) (List.getElem?_eq_some_iff.1 h1).1)
  unfold spanT
  split
  · rw [cut_none_ hi]; rfl
  · rfl
theorem cut58_at {l : List UInt8} {c : Nat} (h : ∀ j, 2 ≤ j → j < c → l[j]? ≠ some 58) (h2 : 2 ≤ c) (hc : l[c]? = some 58) :
    Lib.cut (l.drop 2) [58] = ((l.drop 2).take (c - 2), l.drop (c + 1), true) := by
  have hl := (List.getElem?_eq_some_iff.1 hc).1
  have hi : Lib.index (l.drop 2) [58] = ((c - 2 : Nat) : Int) := by
    refine Lib.index_first (by rw [List.length_drop]; omega) ?_ ?_
    · unfold Lib.occAt
      rw [List.drop_drop, show 2 + (c - 2) = c by omega, drop_one hc]
      simp
    · intro j hj
      cases ho : Lib.occAt (l.drop 2) [58] j
      · rfl
      · have h1 := Lib.occAt_head rfl ho
        rw [List.getElem?_drop] at h1
        exact absurd h1 (h _ (by omega) (by omega))
  rw [cut_some_ hi, List.drop_drop]
  congr 2
  show l.drop (2 + (c - 2 + 1)) = _
  congr 1
  omega
theorem cutE_at {l : List UInt8} {c e : Nat} (h : ∀ j, c ≤ j → j < e → ¬ (l[j]? = some 124 ∧ l[j + 1]? = some 125)) (hce : c ≤ e) (h1 : l[e]? = some 124) (h2 : l[e + 1]? = some 125) :
    (Lib.cut (l.drop c) [124, 125]).2.2 = true ∧ (Lib.cut (l.drop c) [124, 125]).1 = (l.drop c).take (e - c) := by
  have hl := (List.getElem?_eq_some_iff.1 h1).1
  have hi : Lib.index (l.drop c) [124, 125] = ((e - c : Nat) : Int) := by
    refine Lib.index_first (by rw [List.length_drop]; omega) ?_ ?_
    · unfold Lib.occAt
      rw [List.drop_drop, show c + (e - c) = e by omega, drop_one h1, drop_one h2]
      simp
    · intro j hj
      cases ho : Lib.occAt (l.drop c) [124, 125] j
      · rfl
      · have g1 := Lib.occAt_head rfl ho
        have g2 := Lib.occAt_second rfl ho
        rw [List.getElem?_drop] at g1 g2
        exact absurd ⟨g1, g2⟩ (h _ (by omega) (by omega))
  rw [cut_some_ hi]
  exact ⟨rfl, rfl⟩
theorem cutE_none {l : List UInt8} {c e : Nat} (h : ∀ j, c ≤ j → j < e → ¬ (l[j]? = some 124 ∧ l[j + 1]? = some 125)) (he : l.length ≤ e + 1) : (Lib.cut (l.drop c) [124, 125]).2.2 = false := by
  refine cut_none_ (Lib.index_none fun j _ => ?_)
  cases ho : Lib.occAt (l.drop c) [124, 125] j
  · rfl
  · have g1 := Lib.occAt_head rfl ho
    have g2 := Lib.occAt_second rfl ho
    rw [List.getElem?_drop] at g1 g2
    have hl := (List.getElem?_eq_some_iff.1 g2).1
    exact absurd ⟨g1, g2⟩ (h _ (by omega) (by omega))
theorem span_lab {l : List UInt8} {c : Nat} (h : ∀ j, 2 ≤ j → j < c → l[j]? ≠ some 58) (h2 : 2 ≤ c) (hc : l[c]? = some 58) (hb : labelT ((l.drop 2).take (c - 2)) = false) : spanT l = none := by
  unfold spanT
  split
  · rw [cut58_at h h2 hc]
    simp [hb]
  · rfl
theorem span_open {l : List UInt8} {c e : Nat} (h : ∀ j, 2 ≤ j → j < c → l[j]? ≠ some 58) (h2 : 2 ≤ c) (hc : l[c]? = some 58)
    (hn : ∀ j, c + 1 ≤ j → j < e → ¬ (l[j]? = some 124 ∧ l[j + 1]? = some 125)) (he : l.length ≤ e + 1) : spanT l = none := by
  unfold spanT
  split
  · rw [cut58_at h h2 hc]
    simp only [cutE_none hn he]
    simp
  · rfl
theorem span_yes {l : List UInt8} {c e : Nat} (hp : l.take 2 = [123, 124]) (h : ∀ j, 2 ≤ j → j < c → l[j]? ≠ some 58) (h2 : 2 ≤ c) (hc : l[c]? = some 58) (hb : labelT ((l.drop 2).take (c - 2)) = true)
    (hn : ∀ j, c + 1 ≤ j → j < e → ¬ (l[j]? = some 124 ∧ l[j + 1]? = some 125)) (hce : c + 1 ≤ e) (g1 : l[e]? = some 124) (g2 : l[e + 1]? = some 125) :
    spanT l = some ((l.drop 2).take (c - 2), (l.drop (c + 1)).take (e - (c + 1))) := by
  unfold spanT
  rw [if_pos (pre_two hp), cut58_at h h2 hc]
  obtain ⟨e1, e2⟩ := cutE_at hn hce g1 g2
  simp only [hb, e1, e2]
  simp

/-! ## headings -/
theorem trim_tail (a lb : List UInt8) (k : Nat) : Lib.trimRightB (a ++ tailB lb k) 32 = a ++ [123, 61] ++ lb ++ [125] := by
  have := trimR_snoc (a ++ [123, 61] ++ lb) 125 (by decide) k
  rw [← this]
  simp [tailB]
structure HeadP (l : List UInt8) (i n : Nat) : Prop where
  b : ∀ x, x < i → (Lib.trimRightB l 32)[x]? = some 32
  s : ∀ x, i ≤ x → x < n → (Lib.trimRightB l 32)[x]? = some 35
theorem headed_parts {l a lb : List UInt8} (h : headedT l = some (a, lb)) : ∃ i n, i ≤ 3 ∧ i < n ∧ n ≤ i + 6 ∧ n < a.length ∧ HeadP l i n ∧ (Lib.trimRightB l 32)[n]? = some 32 ∧ Lib.trimRightB l 32 = a ++ [123, 61] ++ lb ++ [125] ∧ labelT lb = true ∧ signsT a = n := by
  obtain ⟨k, e, hlb, hs⟩ := headed_some h
  obtain ⟨i, j, y, ea, h1, h2, h3⟩ := signs_shape hs
  have ht : Lib.trimRightB l 32 = a ++ [123, 61] ++ lb ++ [125] := by rw [e, trim_tail]
  have hal : a.length = i + j + (y.length + 1) := by rw [ea]; simp; omega
  refine ⟨i, i + j, h1, by omega, by omega, by omega, ⟨fun x hx => ?_, fun x hx hx2 => ?_⟩, ?_, ht, hlb, by rw [ea, signsT_shape i j y h2]⟩
  · rw [ht, List.append_assoc, List.append_assoc, List.getElem?_append_left (by omega), ea, List.append_assoc, List.getElem?_append_left (by simp; omega), List.getElem?_replicate, if_pos hx]
  · rw [ht, List.append_assoc, List.append_assoc, List.getElem?_append_left (by omega), ea, List.append_assoc, List.getElem?_append_right (by simp; omega), List.getElem?_append_left (by simp; omega), List.getElem?_replicate, if_pos (by simp; omega)]
  · rw [ht, List.append_assoc, List.append_assoc, List.getElem?_append_left (by omega), ea, List.getElem?_append_right (by simp)]
    simp
theorem head_uni {l : List UInt8} {i n i' n' : Nat} (h : HeadP l i n) (hi : (Lib.trimRightB l 32)[i]? ≠ some 32) (hin : i ≤ n) (hn : (Lib.trimRightB l 32)[n]? ≠ some 35) (h' : HeadP l i' n') (hin' : i' < n') (hn' : (Lib.trimRightB l 32)[n']? = some 32) : i' = i ∧ n' = n := by
  have e1 : i' = i := by
    rcases Nat.lt_trichotomy i' i with hlt | he | hgt
    · have a1 := h.b i' hlt
      have a2 := h'.s i' (Nat.le_refl _) hin'
      rw [a1] at a2; cases a2
    · exact he
    · exact absurd (h'.b i hgt) hi
  subst e1
  refine ⟨rfl, ?_⟩
  rcases Nat.lt_trichotomy n' n with hlt | he | hgt
  · have := h.s n' (by omega) hlt
    rw [hn'] at this; cases this
  · exact he
  · exact absurd (h'.s n hin hgt) hn
/-- the first test fails -/
theorem headed_bad {l : List UInt8} {i n : Nat} (h : HeadP l i n) (hi : (Lib.trimRightB l 32)[i]? ≠ some 32) (hin : i ≤ n) (hn : (Lib.trimRightB l 32)[n]? ≠ some 35)
    (hb : 3 < i ∨ n = i ∨ i + 6 < n ∨ (Lib.trimRightB l 32).length ≤ n ∨ (Lib.trimRightB l 32)[n]? ≠ some 32 ∨ (Lib.trimRightB l 32)[(Lib.trimRightB l 32).length - 1]? ≠ some 125) : headedT l = none := by
  cases ho : headedT l with
  | none => rfl
  | some v =>
    exfalso
    obtain ⟨a, lb⟩ := v
    obtain ⟨i', n', g1, g2, g3, g4, g5, g6, g7, g8, _⟩ := headed_parts ho
    obtain ⟨rfl, rfl⟩ := head_uni h hi hin hn g5 g2 g6
    have hl : (Lib.trimRightB l 32).length = a.length + 2 + lb.length + 1 := by rw [g7]; simp; omega
    have hlast : (Lib.trimRightB l 32)[(Lib.trimRightB l 32).length - 1]? = some 125 := by
      rw [← List.getLast?_eq_getElem?, g7, List.getLast?_concat]
    rcases hb with hb | hb | hb | hb | hb | hb
    · omega
    · omega
    · omega
    · omega
    · exact hb g6
    · exact hb hlast
/-- where the label's sign would stand -/
theorem headed_at {l a lb : List UInt8} (ho : headedT l = some (a, lb)) {k : Nat} (hk : ∀ x, k < x → x + 2 ≤ (Lib.trimRightB l 32).length → (Lib.trimRightB l 32)[x]? ≠ some 123) : a.length ≤ k := by
  obtain ⟨i', n', g1, g2, g3, g4, g5, g6, g7, g8, _⟩ := headed_parts ho
  have hl : (Lib.trimRightB l 32).length = a.length + 2 + lb.length + 1 := by rw [g7]; simp; omega
  rcases Nat.lt_or_ge k a.length with hlt | hge
  · exfalso
    refine hk a.length hlt (by omega) ?_
    rw [g7, List.append_assoc, List.append_assoc, List.getElem?_append_right (by omega)]
    simp
  · exact hge
theorem headed_far {l : List UInt8} {i n : Nat} (h : HeadP l i n) (hi : (Lib.trimRightB l 32)[i]? ≠ some 32) (hin : i ≤ n) (hn : (Lib.trimRightB l 32)[n]? ≠ some 35)
    (hk : ∀ x, n < x → x + 2 ≤ (Lib.trimRightB l 32).length → (Lib.trimRightB l 32)[x]? ≠ some 123) : headedT l = none := by
  cases ho : headedT l with
  | none => rfl
  | some v =>
    exfalso
    obtain ⟨a, lb⟩ := v
    have h1 := headed_at ho hk
    obtain ⟨i', n', g1, g2, g3, g4, g5, g6, g7, g8, _⟩ := headed_parts ho
    obtain ⟨rfl, rfl⟩ := head_uni h hi hin hn g5 g2 g6
    omega
theorem headed_eq {l a lb : List UInt8} (ho : headedT l = some (a, lb)) {k : Nat} (hk : ∀ x, k < x → x + 2 ≤ (Lib.trimRightB l 32).length → (Lib.trimRightB l 32)[x]? ≠ some 123) (h1 : (Lib.trimRightB l 32)[k]? = some 123) : k = a.length := by
  have h2 := headed_at ho hk
  obtain ⟨i', n', g1, g2, g3, g4, g5, g6, g7, g8, _⟩ := headed_parts ho
  rcases Nat.lt_or_ge a.length k with hlt | hge
  · exfalso
    rw [g7, List.append_assoc, List.append_assoc, List.getElem?_append_right (by omega)] at h1
    obtain ⟨m, hm⟩ : ∃ m, k - a.length = m + 1 := ⟨k - a.length - 1, by omega⟩
    rw [hm] at h1
    have h3 : (61 :: (lb ++ [125]) : List UInt8)[m]? = some 123 := by simpa using h1
    have := List.mem_of_getElem? h3
    rw [List.mem_cons, List.mem_append, List.mem_singleton] at this
    rcases this with h | h | h
    · cases h
    · exact label_no g8 123 (by simp) h
    · cases h
  · omega
theorem headed_no61 {l : List UInt8} {k : Nat} (hk : ∀ x, k < x → x + 2 ≤ (Lib.trimRightB l 32).length → (Lib.trimRightB l 32)[x]? ≠ some 123) (h1 : (Lib.trimRightB l 32)[k]? = some 123) (h2 : (Lib.trimRightB l 32)[k + 1]? ≠ some 61) : headedT l = none := by
  cases ho : headedT l with
  | none => rfl
  | some v =>
    exfalso
    obtain ⟨a, lb⟩ := v
    have h3 := headed_eq ho hk h1
    obtain ⟨i', n', g1, g2, g3, g4, g5, g6, g7, g8, _⟩ := headed_parts ho
    refine h2 ?_
    rw [h3, g7, List.append_assoc, List.append_assoc, List.getElem?_append_right (by omega)]
    simp
theorem headed_nolab {l : List UInt8} {k : Nat} (hk : ∀ x, k < x → x + 2 ≤ (Lib.trimRightB l 32).length → (Lib.trimRightB l 32)[x]? ≠ some 123) (h1 : (Lib.trimRightB l 32)[k]? = some 123)
    (h2 : labelT (((Lib.trimRightB l 32).take ((Lib.trimRightB l 32).length - 1)).drop (k + 2)) = false) : headedT l = none := by
  cases ho : headedT l with
  | none => rfl
  | some v =>
    exfalso
    obtain ⟨a, lb⟩ := v
    have h3 := headed_eq ho hk h1
    obtain ⟨i', n', g1, g2, g3, g4, g5, g6, g7, g8, _⟩ := headed_parts ho
    have hl : (a ++ [123, 61] ++ lb ++ [125]).length - 1 = (a ++ [123, 61] ++ lb).length := by simp
    rw [g7, hl, List.take_left, h3, show a.length + 2 = (a ++ [123, 61]).length by simp, List.drop_left, g8] at h2
    cases h2
theorem headed_yes {l : List UInt8} {i n k : Nat} (h : HeadP l i n) (hi3 : i ≤ 3) (hin : i < n) (hn6 : n ≤ i + 6) (hn : (Lib.trimRightB l 32)[n]? = some 32) (hnk : n < k)
    (h0 : (Lib.trimRightB l 32)[(Lib.trimRightB l 32).length - 1]? = some 125) (h1 : (Lib.trimRightB l 32)[k]? = some 123) (h2 : (Lib.trimRightB l 32)[k + 1]? = some 61) (hkl : k + 2 ≤ (Lib.trimRightB l 32).length - 1)
    (h3 : labelT (((Lib.trimRightB l 32).take ((Lib.trimRightB l 32).length - 1)).drop (k + 2)) = true) :
    headedT l = some ((Lib.trimRightB l 32).take k, ((Lib.trimRightB l 32).take ((Lib.trimRightB l 32).length - 1)).drop (k + 2)) ∧ signsT ((Lib.trimRightB l 32).take k) = n := by
  obtain ⟨q, hq⟩ := trimR_split l
  obtain ⟨b, s⟩ := h
  generalize Lib.trimRightB l 32 = T at *
  have hT : T = T.take (T.length - 1) ++ [125] := by
    have hlt := (List.getElem?_eq_some_iff.1 h0).1
    exact last_split (m := T.length - 1) (by omega) h0
  have hM : T.take (T.length - 1) = T.take k ++ [123, 61] ++ (T.take (T.length - 1)).drop (k + 2) := by
    have e1 : (T.take (T.length - 1)).take (k + 2) = T.take k ++ [123, 61] := by
      rw [List.take_take, Nat.min_eq_left (by omega), List.take_add_one, List.take_add_one, h1, h2]
      simp
    rw [← e1, List.take_append_drop]
  have hA : ∃ y, T.take k = List.replicate i 32 ++ List.replicate (n - i) 35 ++ 32 :: y := by
    refine ⟨(T.take k).drop (n + 1), ?_⟩
    have hkT : k ≤ T.length := by omega
    apply List.ext_getElem?
    intro x
    rcases Nat.lt_or_ge x k with hx | hx
    · rw [List.getElem?_take, if_pos hx]
      rcases Nat.lt_or_ge x i with h4 | h4
      · rw [b x h4, List.append_assoc, List.getElem?_append_left (by simp; omega), List.getElem?_replicate, if_pos h4]
      · rcases Nat.lt_or_ge x n with h5 | h5
        · rw [s x h4 h5, List.append_assoc, List.getElem?_append_right (by simp; omega), List.getElem?_append_left (by simp; omega), List.getElem?_replicate, if_pos (by simp; omega)]
        · rw [List.getElem?_append_right (by simp; omega)]
          obtain ⟨m, rfl⟩ : ∃ m, x = n + m := ⟨x - n, by omega⟩
          have : n + m - (List.replicate i (32 : UInt8) ++ List.replicate (n - i) 35).length = m := by simp; omega
          rw [this]
          cases m with
          | zero => rw [Nat.add_zero, hn]; rfl
          | succ m =>
            rw [List.getElem?_cons_succ, List.getElem?_drop, List.getElem?_take, if_pos (by omega)]
            congr 1
            omega
    · rw [List.getElem?_eq_none (by rw [List.length_take]; omega), List.getElem?_eq_none (by simp; omega)]
  obtain ⟨y, hy⟩ := hA
  have hs : signsOk (T.take k) = true := by
    have := signs_head (n - i) i y (by omega)
    unfold headL at this
    rw [hy]
    have e : List.replicate i (32 : UInt8) ++ List.replicate (n - i) 35 ++ 32 :: y = List.replicate i 32 ++ List.replicate (n - i) 35 ++ [32] ++ y := by simp
    rw [e, this, decide_eq_true (by omega), decide_eq_true (by omega)]
    rfl
  refine ⟨?_, by rw [hy, signsT_shape i (n - i) y (by omega)]; omega⟩
  have hl : l = T.take k ++ tailB ((T.take (T.length - 1)).drop (k + 2)) q := by
    rw [hq]
    conv => lhs; rw [hT, hM]
    simp [tailB]
  have := headed_of (a := T.take k) q h3
  rw [← hl, hs, if_pos rfl] at this
  exact this
end Go.Proofs.YtgdnphmannbpgaaGreatDoor
/-
  bowdlerref1.span.
-/
namespace Go.Proofs.YtgdnphmannbpgaaGreatDoor
open Go.RowKit
set_option linter.unusedVariables false

/-- what span answers -/
def refSpanV : Option (List UInt8 × List UInt8) → Value
  | none => .tuple #[.string ⟨#[]⟩, .string ⟨#[]⟩, .int .i64 0]
  | some (a, t) => .tuple #[.string (S a), .string (S t), .int .i64 ((a.length + t.length + 5 : Nat) : Int)]
theorem sub_S (s : ByteArray) (i j : Nat) : s.extract i j = S (((L s).take j).drop i) := by rw [← L_extract, S_L]
theorem mid_eq (l : List UInt8) (i j : Nat) : (l.take j).drop i = (l.drop i).take (j - i) := by rw [List.drop_take]

set_option maxHeartbeats 4000000 in
set_option maxRecDepth 100000 in
theorem refSpan_any (s : ByteArray) (w : World) (hs : s.size ≤ 1099511627776) :
    Calls Tryz.prog 76 #[.string s] w fun e w' => e = .returned (refSpanV (spanT (L s))) ∧ Below w.heap.size w w' := by
  have hls : (L s).length = s.size := length_L s
  by_cases h2 : s.size < 2
  · have HR : Hid (spanT (L s) = none) := Lib.hid (span_pre (fun e => by
      have := congrArg List.length e
      rw [List.length_take, hls] at this
      simp at this; omega))
    clear hls
    go_enter Tryz.func76, Tryz.ntmps76
    go_wp2_with fail
    go_ret3
    rw [HR.out]
    exact ⟨rfl, Below.refl _ _⟩
  by_cases h4 : s.extract 0 2 = ⟨#[123, 124]⟩
  case neg =>
    have HR : Hid (spanT (L s) = none) := Lib.hid (span_pre (fun e => h4 (L_inj (by rw [L_extract, List.drop_zero, e]; rfl))))
    obtain ⟨t1, t2, t3⟩ := bytes_ne h4
    have hlit : (⟨#[123, 124]⟩ : ByteArray).toList = [123, 124] := by decide +kernel
    rw [hlit] at t2 t3
    clear h4 hlit hls
    go_enter Tryz.func76, Tryz.ntmps76
    go_wp2_with fail
    go_ret3
    rw [HR.out]
    exact ⟨rfl, Below.refl _ _⟩
  have HPRE : Hid ((L s).take 2 = [123, 124]) := Lib.hid (by
    have := congrArg L h4
    rw [L_extract, List.drop_zero] at this
    exact this)
  have t1 : (s.extract 0 2 == ⟨#[123, 124]⟩) = true := by rw [h4]; exact (bytes_same _ _).2 rfl
  have t2 : ((s.extract 0 2).toList == [123, 124]) = true := by rw [h4]; decide +kernel
  have t3 : (s.extract 0 2).toList = [123, 124] := by simpa using t2
  have HLS := Lib.hid hls
  clear h4 hls
  go_enter Tryz.func76, Tryz.ntmps76
  go_wp2_with fail
  go_loop [5] (fun s5 => ∃ c : Nat, 2 ≤ c ∧ c ≤ s.size ∧ s5 = .int .i64 (c : Int) ∧ Hid (∀ j, 2 ≤ j → j < c → (L s)[j]? ≠ some 58)) (fun s5 => s.size - (intOf s5).toNat)
  case atStart => exact ⟨2, Nat.le_refl _, by omega, rfl, Lib.hid (fun j h1 h3 => by omega)⟩
  case round =>
    obtain ⟨c, hc2, hcs, rfl, HN⟩ := hrel
    by_cases hlt : c < s.size
    case neg =>
      have hce : c = s.size := by omega
      have HR : Hid (spanT (L s) = none) := Lib.hid (span_no58 (fun j h1 h3 => HN.out j h1 (by rw [HLS.out] at h3; omega)))
      go_wp2_with fail
      go_ret3
      rw [HR.out]
      exact ⟨rfl, Below.refl _ _⟩
    have HB : Hid ((L s)[c]? = some (s[c]'hlt)) := Lib.hid (by rw [List.getElem?_eq_getElem (by rw [length_L]; exact hlt)]; rfl)
    by_cases hb : s[c]'hlt = 58
    case neg =>
      have q1 : (((s[c]'hlt).toNat : Int) == 58) = false := byte_ne (n := 58) (by decide) hb
      have q2 : (((s[c]'hlt).toNat : Int) != 58) = true := byte_bne (n := 58) (by decide) hb
      have HN2 : Hid (∀ j, 2 ≤ j → j < c + 1 → (L s)[j]? ≠ some 58) := Lib.hid (fun j h1 h3 e => by
        rcases Nat.lt_or_ge j c with hj | hj
        · exact HN.out j h1 hj e
        · have : j = c := by omega
          subst this
          rw [HB.out] at e
          exact hb (Option.some.inj e))
      clear hb
      go_wp2_with fail
      go_round
      case rel => exact ⟨c + 1, by omega, by omega, by go_num, HN2⟩
      case measure => simp [intOf]; omega
    have q1 : (((s[c]'hlt).toNat : Int) == 58) = true := by rw [hb]; rfl
    have q2 : (((s[c]'hlt).toNat : Int) != 58) = false := by rw [hb]; rfl
    have HC : Hid ((L s)[c]? = some 58) := Lib.hid (by rw [HB.out, hb])
    clear hb HB
    obtain ⟨nm, hnm⟩ : ∃ nm, s.extract 2 c = nm := ⟨_, rfl⟩
    have HNM : Hid (L nm = ((L s).drop 2).take (c - 2)) := Lib.hid (by rw [← hnm, L_extract, mid_eq])
    have hnms : nm.size ≤ 1099511627776 := by rw [← hnm]; simp; omega
    have hsl : ∀ W : World, (Instr.slice 9 (.string s) (some (.int .i64 2)) (some (.int .i64 (c : Int))) none).run Tryz.prog W = .ok (.string nm) W := fun W => by
      rw [run_slice_string W 9 s .i64 .i64 2 (c : Int) Tryz.underlying9 (by omega) (by omega) (by omega), ← hnm]; rfl
    have HCL := Lib.hid (fun w => refLabel_any nm w hnms)
    have y0 : decide ((s.size : Int) ≤ (c : Int)) = false := decide_eq_false (by omega)
    cases hl : labelT (L nm) with
    | false =>
      have HR : Hid (spanT (L s) = none) := Lib.hid (span_lab HN.out hc2 HC.out (by rw [← HNM.out, hl]))
      go_wp2_with (go_at_call 75; refine (HCL.out _).mono ?_; rintro e w1 ⟨rfl, hw⟩; subst w1; rw [hl])
      go_ret3
      rw [HR.out]
      exact ⟨rfl, Below.refl _ _⟩
    | true =>
      have HLB : Hid (labelT (((L s).drop 2).take (c - 2)) = true) := Lib.hid (by rw [← HNM.out, hl])
      obtain ⟨c1, hc1⟩ : ∃ c1, c + 1 = c1 := ⟨_, rfl⟩
      have hki : (c : Int) + 1 = (c1 : Int) := by omega
      have hc1s : c1 ≤ s.size := by omega
      have HC1 := Lib.hid hc1
      clear hnm hc1
      go_wp2_with (go_at_call 75; refine (HCL.out _).mono ?_; rintro e w1 ⟨rfl, hw⟩; subst w1; rw [hl])
      go_loop [6] (fun s6 => ∃ e : Nat, c1 ≤ e ∧ e ≤ s.size ∧ s6 = .int .i64 (e : Int) ∧ Hid (∀ j, c1 ≤ j → j < e → ¬ ((L s)[j]? = some 124 ∧ (L s)[j + 1]? = some 125))) (fun s6 => s.size - (intOf s6).toNat)
      case atStart => exact ⟨c1, Nat.le_refl _, hc1s, rfl, Lib.hid (fun j h1 h3 => by omega)⟩
      case round =>
        obtain ⟨e, hce, hes, rfl, HM⟩ := hrel
        obtain ⟨e1, he1⟩ : ∃ e1, e + 1 = e1 := ⟨_, rfl⟩
        have hei : (e : Int) + 1 = (e1 : Int) := by omega
        by_cases hlt2 : e1 < s.size
        case neg =>
          have HR : Hid (spanT (L s) = none) := Lib.hid (span_open HN.out hc2 HC.out (e := e) (by rw [HC1.out]; exact HM.out) (by rw [HLS.out]; omega))
          have d1 : ¬ (e1 : Int) < (s.size : Int) := by omega
          go_wp2_with fail
          go_ret3
          rw [HR.out]
          exact ⟨rfl, Below.refl _ _⟩
        have hlt3 : e < s.size := by omega
        have HB0 : Hid ((L s)[e]? = some (s[e]'hlt3)) := Lib.hid (by rw [List.getElem?_eq_getElem (by rw [length_L]; exact hlt3)]; rfl)
        have HB1 : Hid ((L s)[e + 1]? = some (s[e1]'hlt2)) := Lib.hid (by rw [he1, List.getElem?_eq_getElem (by rw [length_L]; exact hlt2)]; rfl)
        have hwr : IntKind.i64.wrap ((e : Int) + 1) = (e1 : Int) := (IntWalk.i64_in _ (by omega)).trans (by omega)
        have hstep : ¬ (s[e]'hlt3 = 124 ∧ s[e1]'hlt2 = 125) → ∀ j, c1 ≤ j → j < e + 1 → ¬ ((L s)[j]? = some 124 ∧ (L s)[j + 1]? = some 125) := fun hn j h1 h3 hh => by
          rcases Nat.lt_or_ge j e with hj | hj
          · exact HM.out j h1 hj hh
          · have : j = e := by omega
            subst this
            rw [HB0.out, HB1.out] at hh
            exact hn ⟨Option.some.inj hh.1, Option.some.inj hh.2⟩
        by_cases hb0 : s[e]'hlt3 = 124
        case neg =>
          have HM2 := Lib.hid (hstep (fun h => hb0 h.1))
          have q3 : (((s[e]'hlt3).toNat : Int) == 124) = false := byte_ne (n := 124) (by decide) hb0
          clear hb0 hstep HB0 HB1
          go_wp2_with fail
          go_round
          case rel => exact ⟨e + 1, by omega, by omega, by go_num, HM2⟩
          case measure => simp [intOf]; omega
        have q3 : (((s[e]'hlt3).toNat : Int) == 124) = true := by rw [hb0]; rfl
        by_cases hb1 : s[e1]'hlt2 = 125
        case neg =>
          have HM2 := Lib.hid (hstep (fun h => hb1 h.2))
          have q4 : (((s[e1]'hlt2).toNat : Int) == 125) = false := byte_ne (n := 125) (by decide) hb1
          clear hb0 hb1 hstep HB0 HB1
          go_wp2_with fail
          go_round
          case rel => exact ⟨e + 1, by omega, by omega, by go_num, HM2⟩
          case measure => simp [intOf]; omega
        have q4 : (((s[e1]'hlt2).toNat : Int) == 125) = true := by rw [hb1]; rfl
        have HY := Lib.hid (span_yes HPRE.out HN.out hc2 HC.out HLB.out (e := e) (by rw [HC1.out]; exact HM.out) (by rw [HC1.out]; exact hce) (by rw [HB0.out, hb0]) (by rw [HB1.out, hb1]))
        clear hb0 hb1 hstep HB0 HB1
        have hsl2 : ∀ W : World, (Instr.slice 9 (.string s) (some (.int .i64 (c1 : Int))) (some (.int .i64 (e : Int))) none).run Tryz.prog W = .ok (.string (s.extract c1 e)) W := fun W => by
          rw [run_slice_string W 9 s .i64 .i64 (c1 : Int) (e : Int) Tryz.underlying9 (by omega) (by omega) (by omega)]; rfl
        have y1 : (c1 : Int) ≤ (e : Int) := by omega
        have y2 : (e : Int) ≤ (s.size : Int) := by omega
        have y3 : (2 : Int) ≤ (c : Int) := by omega
        have y4 : (c : Int) ≤ (s.size : Int) := by omega
        go_upto_region 12 with fail
        go_quiet (fail)
        go_wp2_with fail
        go_ret3
        refine ⟨?_, below_drewN' (Below.refl _ _) _⟩
        rw [HY.out, refSpanV]
        have e1' : S (((L s).drop 2).take (c - 2)) = nm := by rw [← HNM.out, S_L]
        have e2' : S (((L s).drop (c + 1)).take (e - (c + 1))) = s.extract c1 e := by rw [HC1.out, sub_S, mid_eq]
        have e3' : ((((L s).drop 2).take (c - 2)).length + (((L s).drop (c + 1)).take (e - (c + 1))).length + 5 : Nat) = e + 2 := by
          have h5 := HC1.out
          have h6 := HLS.out
          rw [List.length_take, List.length_take, List.length_drop, List.length_drop, h6]
          omega
        rw [e1', e2', e3']
        first | rfl | go_num
end Go.Proofs.YtgdnphmannbpgaaGreatDoor
/-
  bowdlerref1.Spans.
-/
namespace Go.Proofs.YtgdnphmannbpgaaGreatDoor
open Go.RowKit
set_option linter.unusedVariables false

theorem Tryz.infoRefPiece : (Tryz.prog.info? 91).map (fun i => (i.zero, i.size, i.bytes)) = some (some (.agg #[.bool false, .string ⟨#[]⟩, .string ⟨#[]⟩]), 3, 40) := by kernel_rfl
theorem Tryz.elRefPieces : Elem Tryz.prog 89 91 3 40 := Elem.mk' Tryz.underlying89 Tryz.infoRefPiece rfl (by decide)
theorem spB_end (f : Nat) (acc : List UInt8) : spB f acc [] = txtP acc := by cases f <;> rfl
theorem spB_none {f : Nat} {acc : List UInt8} {b : UInt8} {r : List UInt8} (h : spanQ (b :: r) = none) : spB (f + 1) acc (b :: r) = spB f (acc ++ [b]) r := by rw [spB, h]
theorem spB_some {f : Nat} {acc : List UInt8} {b : UInt8} {r a t z : List UInt8} (h : spanQ (b :: r) = some (a, t, z)) : spB (f + 1) acc (b :: r) = txtP acc ++ ⟨true, S a, S t⟩ :: spB f [] z := by rw [spB, h]
theorem txt_none {acc : ByteArray} (h : acc.size = 0) : txtP (L acc) = [] := by rw [bytes_none h]; rfl
theorem txt_some {acc : ByteArray} (h : acc.size ≠ 0) : txtP (L acc) = [⟨false, ⟨#[]⟩, acc⟩] := by
  unfold txtP
  rw [S_L, if_neg]
  intro he
  rw [List.isEmpty_iff] at he
  have := congrArg List.length he
  rw [length_L] at this
  exact h this

set_option maxHeartbeats 4000000 in
set_option maxRecDepth 100000 in
theorem refSpans_any (s : ByteArray) (w : World) (hs : s.size ≤ 1048576) :
    Calls Tryz.prog 43 #[.string s] w fun e w' => ∃ A n c, e = .returned (.slice A n c) ∧ Own w' w.heap.size 91 3 A n c (pieceCells (spansT s)) ∧ Below w.heap.size w w' := by
  have hS := spansT_eq s
  generalize spansT s = X at *
  have HS := Lib.hid hS
  clear hS
  go_enter Tryz.func43, Tryz.ntmps43
  go_wp2_with fail
  go_loopw [3, 4, 5] (fun s3 s4 s5 wr => ∃ (i f : Nat) (A1 : Option Addr) (n1 c1 : Nat) (acc : ByteArray) (out : List PieceT), i ≤ s.size ∧ s.size ≤ f + i ∧ s3 = .slice A1 n1 c1 ∧ s4 = .string acc ∧ s5 = .int .i64 (i : Int) ∧ acc.size ≤ i ∧ n1 ≤ 2 * i ∧
    Hid (X = out ++ spB f (L acc) ((L s).drop i)) ∧ Own wr w.heap.size 91 3 A1 n1 c1 (pieceCells out) ∧ Below w.heap.size w wr) (fun _ _ s5 _ => s.size - (intOf s5).toNat)
  case atStart => exact ⟨0, s.size, none, 0, 0, ⟨#[]⟩, [], by omega, by omega, rfl, rfl, rfl, by decide, by omega, Lib.hid (by rw [HS.out]; rfl), Own.nil _ _ _ _, Below.refl _ _⟩
  case round =>
    obtain ⟨i, f, A1, n1, c1, acc, out, hi, hf, rfl, rfl, rfl, hacc, hn1, HX, hown, hb⟩ := hrel
    have hbs := hb.size
    by_cases hlt : i < s.size
    · obtain ⟨f, rfl⟩ : ∃ f', f = f' + 1 := ⟨f - 1, by omega⟩
      have hg : (L s)[i]? = some (s[i]'hlt) := by rw [List.getElem?_eq_getElem (by rw [length_L]; exact hlt)]; rfl
      have hd := drop_one hg
      have hLe : L (s.extract i s.size) = (L s).drop i := by rw [L_extract, ← length_L, List.take_length]
      have hsp := fun w => refSpan_any (s.extract i s.size) w (by rw [ByteArray.size_extract]; omega)
      rw [hLe, spanT_eq] at hsp
      have x1 : (0 : Int) ≤ (i : Int) := by omega
      have x2 : (i : Int) ≤ (s.size : Int) := by omega
      cases hq : spanQ ((L s).drop i) with
      | none =>
        rw [hq] at hsp
        have HSP := Lib.hid hsp
        rw [hd] at hq
        have HX2 : Hid (X = out ++ spB f (L acc ++ [s[i]'hlt]) ((L s).drop (i + 1))) := Lib.hid (by rw [HX.out, hd, spB_none hq])
        obtain ⟨i1, hi1⟩ : ∃ i1, i + 1 = i1 := ⟨_, rfl⟩
        have hki : (i : Int) + 1 = (i1 : Int) := by omega
        have hii : i ≤ i1 := by omega
        have his : i1 ≤ s.size := by omega
        obtain ⟨cb, hcb⟩ : ∃ cb, s.extract i i1 = cb := ⟨_, rfl⟩
        have hcbL : L cb = [s[i]'hlt] := by
          rw [← hcb, L_extract, List.drop_take, show i1 - i = 1 by omega, hd]; rfl
        have hcbs : cb.size = 1 := by have := congrArg List.length hcbL; simpa using this
        have hsl : ∀ W : World, (Instr.slice 9 (.string s) (some (.int .i64 (i : Int))) (some (.int .i64 (i1 : Int))) none).run Tryz.prog W = .ok (.string cb) W := fun W => by
          rw [run_slice_string W 9 s .i64 .i64 (i : Int) (i1 : Int) Tryz.underlying9 (by omega) (by omega) (by omega), ← hcb]; rfl
        have p1 : ¬ 9223372036854775807 < acc.size + cb.size := by omega
        have hz : (acc ++ cb).size ≤ i1 := by rw [ByteArray.size_append]; omega
        have HX3 : Hid (X = out ++ spB f (L (acc ++ cb)) ((L s).drop i1)) := Lib.hid (by rw [HX2.out, L_append, hcbL, hi1])
        have HI1 := Lib.hid hi1
        have HCBS := Lib.hid hcbs
        clear hsp hq hd hLe hg HX HX2 hcbL hi1 hcbs
        go_wp2_with (go_at_call 76; refine (HSP.out _).mono ?_; rintro e w1 ⟨rfl, b1⟩; rw [Option.map_none, refSpanV]; have hown1 := hown.below b1 (Nat.le_refl _); have hb1 := hb.trans (b1.mono hbs))
        go_roundw
        case rel => exact ⟨i1, f, A1, n1, c1, _, out, his, by have := HI1.out; omega, rfl, rfl, by go_num, hz, by omega, HX3, hown1, hb1⟩
        case measure => have := HI1.out; simp [intOf]; omega
      | some V =>
        obtain ⟨a, t, z⟩ := V
        rw [hq] at hsp
        have hql := spanQ_len hq
        obtain ⟨hqe, _, _, _⟩ := spanQ_some hq
        obtain ⟨N, hN⟩ : ∃ N, a.length + t.length + 5 = N := ⟨_, rfl⟩
        have hz : (L s).drop (i + N) = z := by
          rw [← List.drop_drop, hqe, ← hN]
          have e : (123 :: 124 :: (a ++ 58 :: (t ++ 124 :: 125 :: z)) : List UInt8) = (123 :: 124 :: (a ++ 58 :: (t ++ [124, 125]))) ++ z := by simp
          rw [e, show a.length + t.length + 5 = (123 :: 124 :: (a ++ 58 :: (t ++ [124, 125])) : List UInt8).length by simp; omega, List.drop_left]
        have hNs : i + N ≤ s.size := by
          rw [List.length_drop, length_L] at hql
          omega
        have hN0 : 0 < N := by omega
        have hbN : N ≤ 1048576 := by omega
        simp only [Option.map_some, refSpanV, hN] at hsp
        have HSP := Lib.hid hsp
        rw [hd] at hq
        have HX2 : Hid (X = out ++ (txtP (L acc) ++ ⟨true, S a, S t⟩ :: spB f [] ((L s).drop (i + N)))) := Lib.hid (by rw [HX.out, hd, spB_some hq, hz])
        have q0 : ((N : Int) == 0) = false := beq_eq_false_iff_ne.2 (by omega)
        clear hsp hq hd hLe hg HX hqe hql hN hz
        by_cases h0 : acc.size = 0
        · have HT := Lib.hid (txt_none h0)
          obtain rfl := bytes_none h0
          go_wp2_with (first
            | (go_at_call 76; refine (HSP.out _).mono ?_; rintro e w1 ⟨rfl, b1⟩; have hown1 := hown.below b1 (Nat.le_refl _); have hb1 := hb.trans (b1.mono hbs); have hbs1 := hb1.size)
            | (at_builtin; refine wpList_app1 Tryz.elRefPieces rfl (.tmp 39) (.tmp 43) rfl rfl (by exact hown1.alloc _) rfl (Blk.new' _ _ _ _ (by simp)) rfl (by simp [Value.oneCell']) (by simp only [maxLen]; omega) (by omega) (by simp; omega) ?_
               intro A3 c3 w5 hown5 ho5 hm5
               have hlow3 := ho5.of_alloc.below (K := w.heap.size) (fun a ha => (hown1.lt ha).1) hbs1))
          go_roundw
          case rel =>
            refine ⟨i + N, f, A3, n1 + 1, c3, ⟨#[]⟩, out ++ [⟨true, S a, S t⟩], by omega, by omega, rfl, rfl, by go_num, Nat.zero_le _, by omega, Lib.hid ?_, ?_, hb1.trans hlow3⟩
            · rw [HX2.out, HT.out]; simp [L]
            · simpa [pieceCells, PieceT.cells] using hown5
          case measure => simp [intOf]; omega
        · obtain ⟨p1, p2, p3⟩ := bytes_some h0
          have HT := Lib.hid (txt_some h0)
          go_wp2_with (first
            | (go_at_call 76; refine (HSP.out _).mono ?_; rintro e w1 ⟨rfl, b1⟩; have hown1 := hown.below b1 (Nat.le_refl _); have hb1 := hb.trans (b1.mono hbs); have hbs1 := hb1.size)
            | (at_builtin; refine wpList_app1 Tryz.elRefPieces rfl (.tmp 34) (.tmp 37) rfl rfl (by exact hown1.alloc _) rfl (Blk.new' _ _ _ _ (by simp)) rfl (by simp [Value.oneCell']) (by simp only [maxLen]; omega) (by omega) (by simp; omega) ?_
               intro A2 c2 w3 hown4 ho4 hm4
               have hlow2 := ho4.of_alloc.below (K := w.heap.size) (fun a ha => (hown1.lt ha).1) hbs1
               have hz3 := hlow2.size)
            | (at_builtin; refine wpList_app1 Tryz.elRefPieces rfl (.tmp 39) (.tmp 43) rfl rfl (by exact hown4.alloc _) rfl (Blk.new' _ _ _ _ (by simp)) rfl (by simp [Value.oneCell']) (by simp only [maxLen]; omega) (by omega) (by simp; omega) ?_
               intro A3 c3 w5 hown5 ho5 hm5
               have hlow3 := ho5.of_alloc.below (K := w.heap.size) (fun a ha => (hown4.lt ha).1) (by omega)))
          go_roundw
          case rel =>
            refine ⟨i + N, f, A3, n1 + 1 + 1, c3, ⟨#[]⟩, out ++ [⟨false, ⟨#[]⟩, acc⟩, ⟨true, S a, S t⟩], by omega, by omega, rfl, rfl, by go_num, Nat.zero_le _, by omega, Lib.hid ?_, ?_, (hb1.trans hlow2).trans hlow3⟩
            · rw [HX2.out, HT.out]; simp [L]
            · simpa [pieceCells, PieceT.cells] using hown5
          case measure => simp [intOf]; omega
    · have his : i = s.size := by omega
      have HX2 : Hid (X = out ++ txtP (L acc)) := Lib.hid (by rw [HX.out, List.drop_eq_nil_of_le (by rw [length_L]; omega), spB_end])
      clear HX
      by_cases h0 : acc.size = 0
      · have HT := Lib.hid (txt_none h0)
        obtain rfl := bytes_none h0
        go_wp2_with fail
        go_ret
        exact ⟨A1, n1, c1, rfl, by rw [HX2.out, HT.out, List.append_nil]; exact hown, hb⟩
      · obtain ⟨p1, p2, p3⟩ := bytes_some h0
        have HT := Lib.hid (txt_some h0)
        go_wp2_with (at_builtin; refine wpList_app1 Tryz.elRefPieces rfl (.tmp 50) (.tmp 53) rfl rfl (by exact hown.alloc _) rfl (Blk.new' _ _ _ _ (by simp)) rfl (by simp [Value.oneCell']) (by simp only [maxLen]; omega) (by omega) (by simp; omega) ?_
                     intro A3 c3 w5 hown5 ho5 hm5
                     have hlow3 := ho5.of_alloc.below (K := w.heap.size) (fun a ha => (hown.lt ha).1) hbs)
        go_ret
        refine ⟨A3, n1 + 1, c3, rfl, ?_, hb.trans hlow3⟩
        rw [HX2.out, HT.out]
        simpa [pieceCells, PieceT.cells] using hown5
end Go.Proofs.YtgdnphmannbpgaaGreatDoor
/-
  bowdlerref1.Unspan.
-/
namespace Go.Proofs.YtgdnphmannbpgaaGreatDoor
open Go.RowKit
set_option linter.unusedVariables false

set_option maxHeartbeats 4000000 in
set_option maxRecDepth 100000 in
theorem refUnspan_any (A : Option Addr) (n c : Nat) (l : List PieceT) (w : World) (hr : Reads w w.heap.size 3 A n (pieceCells l)) (hn : n ≤ 1073741824) (ht : (piecesB l).length ≤ 140737488355328) :
    Calls Tryz.prog 44 #[.slice A n c] w fun e w' => e = .returned (.string (S (piecesB l))) ∧ Below w.heap.size w w' := by
  have hlen : l.length = n := by have := hr.1; rw [pieces_length] at this; omega
  have HL := Lib.hid hlen
  clear hlen
  go_enter Tryz.func44, Tryz.ntmps44
  go_wp2_with fail
  go_loopw [3, 4] (fun s3 s4 wr => ∃ (k : Nat) (acc : ByteArray), k ≤ n ∧ s4 = .int .i64 k ∧ s3 = .string acc ∧ Hid (L acc = piecesB (l.take k)) ∧ Below w.heap.size w wr)
    (fun _ s4 _ => n - (intOf s4).toNat)
  case atStart => exact ⟨0, ⟨#[]⟩, Nat.zero_le _, rfl, rfl, Lib.hid rfl, Below.refl _ _⟩
  case round =>
    obtain ⟨k, acc, hk, rfl, rfl, HA, hb⟩ := hrel
    by_cases hlt : k < n
    · obtain ⟨x, hx⟩ : ∃ x, l[k]? = some x := ⟨_, List.getElem?_eq_getElem (by rw [HL.out]; omega)⟩
      obtain ⟨ad, rfl, _, g0, g1, g2⟩ := (hr.below hb).piece hx hlt
      have HK : Hid (piecesB (l.take (k + 1)) = piecesB (l.take k) ++ pieceB x) := Lib.hid (by
        rw [List.take_add_one, hx, Option.toList_some, piecesB_snoc])
      have hle : acc.size + (pieceB x).length ≤ 140737488355328 := by
        have := piecesB_take l (k + 1)
        rw [HK.out, List.length_append, ← HA.out, length_L] at this
        omega
      clear hx
      cases hsp : x.span
      · rw [hsp] at g0
        have hX : pieceB x = L x.text := by unfold pieceB; rw [hsp]; rfl
        rw [hX, length_L] at hle
        have HN : Hid (L (acc ++ x.text) = piecesB (l.take (k + 1))) := Lib.hid (by rw [HK.out, L_append, HA.out, hX])
        have p1 : ¬ 9223372036854775807 < acc.size + x.text.size := by omega
        clear hX hsp
        go_wp2_with fail
        go_roundw
        case rel => exact ⟨k + 1, _, by omega, by go_num, rfl, HN, hb⟩
        case measure => simp [intOf]; omega
      · rw [hsp] at g0
        have hX : pieceB x = [123, 124] ++ L x.label ++ [58] ++ L x.text ++ [124, 125] := by unfold pieceB; rw [hsp]; rfl
        have hsz2 : acc.size + (x.label.size + x.text.size + 5) ≤ 140737488355328 := by
          rw [hX] at hle
          simp only [List.length_append, length_L, List.length_cons, List.length_nil] at hle
          omega
        have HN : Hid (L (acc ++ ⟨#[123, 124]⟩ ++ x.label ++ ⟨#[58]⟩ ++ x.text ++ ⟨#[124, 125]⟩) = piecesB (l.take (k + 1))) := Lib.hid (by
          rw [HK.out, hX, ← HA.out]
          simp only [L_append, List.append_assoc]
          rfl)
        have e2 : (⟨#[123, 124]⟩ : ByteArray).size = 2 := rfl
        have e1 : (⟨#[58]⟩ : ByteArray).size = 1 := rfl
        have e3 : (⟨#[124, 125]⟩ : ByteArray).size = 2 := rfl
        have p1 : ¬ 9223372036854775807 < acc.size + 2 := by omega
        have p2 : ¬ 9223372036854775807 < (acc ++ ⟨#[123, 124]⟩).size + x.label.size := by rw [ByteArray.size_append, e2]; omega
        have p3 : ¬ 9223372036854775807 < (acc ++ ⟨#[123, 124]⟩ ++ x.label).size + 1 := by rw [ByteArray.size_append, ByteArray.size_append, e2]; omega
        have p4 : ¬ 9223372036854775807 < (acc ++ ⟨#[123, 124]⟩ ++ x.label ++ ⟨#[58]⟩).size + x.text.size := by rw [ByteArray.size_append, ByteArray.size_append, ByteArray.size_append, e2, e1]; omega
        have p5 : ¬ 9223372036854775807 < (acc ++ ⟨#[123, 124]⟩ ++ x.label ++ ⟨#[58]⟩ ++ x.text).size + 2 := by rw [ByteArray.size_append, ByteArray.size_append, ByteArray.size_append, ByteArray.size_append, e2, e1]; omega
        have r2 : ¬ 9223372036854775807 < acc.size + 2 + x.label.size := by omega
        have r3 : ¬ 9223372036854775807 < acc.size + 2 + x.label.size + 1 := by omega
        have r4 : ¬ 9223372036854775807 < acc.size + 2 + x.label.size + 1 + x.text.size := by omega
        have r5 : ¬ 9223372036854775807 < acc.size + 2 + x.label.size + 1 + x.text.size + 2 := by omega
        clear hX hsp hle e1 e2 e3
        go_upto_region 6 with fail
        go_quiet (fail)
        go_wp2_with fail
        go_roundw
        case rel => exact ⟨k + 1, _, by omega, by go_num, rfl, HN, below_drewN' hb _⟩
        case measure => simp [intOf]; omega
    · have hkn : k = n := by omega
      subst hkn
      have HE : Hid (acc = S (piecesB l)) := Lib.hid (by
        have := HA.out
        rw [List.take_of_length_le (by rw [HL.out]; omega)] at this
        rw [← this, S_L])
      go_wp2_with fail
      go_ret
      rw [HE.out]
      exact ⟨rfl, hb⟩
end Go.Proofs.YtgdnphmannbpgaaGreatDoor
/-
  bowdlerref1.Headed.
-/
namespace Go.Proofs.YtgdnphmannbpgaaGreatDoor
open Go.RowKit
set_option linter.unusedVariables false

/-- what Headed answers -/
def refHeadV (l : List UInt8) : Value :=
  match headedT l with
  | none => .tuple #[.string ⟨#[]⟩, .string ⟨#[]⟩, .int .i64 0, .bool false]
  | some (a, lb) => .tuple #[.string (S a), .string (S lb), .int .i64 (signsT a : Int), .bool true]
theorem results_four {fn : Func} {t u v x : Tmp} (h : fn.results = #[.tmp t, .tmp u, .tmp v, .tmp x]) (tmps : Array Value) (P : Program) (w : World) :
    (results fn tmps).run P w = .ok (.tuple #[tmps.getD t undef, tmps.getD u undef, tmps.getD v undef, tmps.getD x undef]) w := by
  simp [results, h]
theorem head_none {l : List UInt8} (h : headedT l = none) : refHeadV l = .tuple #[.string ⟨#[]⟩, .string ⟨#[]⟩, .int .i64 0, .bool false] := by unfold refHeadV; rw [h]

set_option maxHeartbeats 8000000 in
set_option maxRecDepth 100000 in
theorem refHeaded_any (s : ByteArray) (w : World) (hs : s.size ≤ 1099511627776) :
    Calls Tryz.prog 41 #[.string s] w fun e w' => e = .returned (refHeadV (L s)) ∧ Below w.heap.size w w' := by
  have HC := Lib.hid (refRest_any s w hs)
  obtain ⟨t, ht⟩ : ∃ t, S (Lib.trimRightB (L s) 32) = t := ⟨_, rfl⟩
  have htL : Lib.trimRightB (L s) 32 = L t := by rw [← ht, L_S]
  have hts : t.size ≤ 1099511627776 := by
    have := trimR_le (L s)
    rw [htL, length_L, length_L] at this
    omega
  rw [ht] at HC
  have hget : ∀ x (h : x < t.size), (L t)[x]? = some (t[x]'h) := fun x h => by rw [List.getElem?_eq_getElem (by rw [length_L]; exact h)]; rfl
  have hlen : (L t).length = t.size := length_L t
  have HT := Lib.hid htL
  have HG := Lib.hid hget
  have HL := Lib.hid hlen
  clear ht htL hget hlen
  go_enter Tryz.func41, Tryz.ntmps41
  go_upto_block 0 with (go_at_call 74; refine HC.out.mono ?_; rintro e w1 ⟨rfl, hw⟩; subst w1)
  go_cut [7] (fun s7 wx => ∃ i : Nat, i ≤ t.size ∧ s7 = .int .i64 (i : Int) ∧ Hid (∀ x, x < i → (L t)[x]? = some 32) ∧ Hid ((L t)[i]? ≠ some 32) ∧ wx = w)
  case first =>
    go_wp2_with fail
    go_loop [7] (fun s7 => ∃ i : Nat, i ≤ t.size ∧ s7 = .int .i64 (i : Int) ∧ Hid (∀ x, x < i → (L t)[x]? = some 32)) (fun s7 => t.size - (intOf s7).toNat)
    case atStart => exact ⟨0, Nat.zero_le _, rfl, Lib.hid (fun x h => by omega)⟩
    case round =>
      obtain ⟨i, hi, rfl, HI⟩ := hrel
      by_cases hlt : i < t.size
      · by_cases hb : t[i]'hlt = 32
        · have q1 : (((t[i]'hlt).toNat : Int) == 32) = true := by rw [hb]; rfl
          have HI2 : Hid (∀ x, x < i + 1 → (L t)[x]? = some 32) := Lib.hid (fun x h => by
            rcases Nat.lt_or_ge x i with hx | hx
            · exact HI.out x hx
            · have : x = i := by omega
              subst this
              rw [HG.out x hlt, hb])
          clear hb
          go_wp2_with fail
          go_round
          case rel => exact ⟨i + 1, by omega, by go_num, HI2⟩
          case measure => simp [intOf]; omega
        · have q1 : (((t[i]'hlt).toNat : Int) == 32) = false := byte_ne (n := 32) (by decide) hb
          have HE : Hid ((L t)[i]? ≠ some 32) := Lib.hid (fun e => by rw [HG.out i hlt] at e; exact hb (Option.some.inj e))
          clear hb
          go_wp2_with fail
          go_meet
          exact ⟨i, hi, rfl, HI, HE, rfl⟩
      · have HE : Hid ((L t)[i]? ≠ some 32) := Lib.hid (fun e => by rw [List.getElem?_eq_none (by rw [HL.out]; omega)] at e; cases e)
        go_wp2_with fail
        go_meet
        exact ⟨i, hi, rfl, HI, HE, rfl⟩
  case rest =>
  obtain ⟨i, hi, rfl, HI, HIE, hwW⟩ := hcut
  rw [hwW]
  clear hwW
  apply_assumption
  go_upto_block 2 with fail
  go_cut [8] (fun s8 wx => ∃ n : Nat, i ≤ n ∧ n ≤ t.size ∧ s8 = .int .i64 (n : Int) ∧ Hid (∀ x, i ≤ x → x < n → (L t)[x]? = some 35) ∧ Hid ((L t)[n]? ≠ some 35) ∧ wx = w)
  case first =>
    go_wp2_with fail
    go_loop [8] (fun s8 => ∃ n : Nat, i ≤ n ∧ n ≤ t.size ∧ s8 = .int .i64 (n : Int) ∧ Hid (∀ x, i ≤ x → x < n → (L t)[x]? = some 35)) (fun s8 => t.size - (intOf s8).toNat)
    case atStart => exact ⟨i, Nat.le_refl _, hi, rfl, Lib.hid (fun x h1 h2 => by omega)⟩
    case round =>
      obtain ⟨n, hin, hn, rfl, HN⟩ := hrel
      by_cases hlt : n < t.size
      · by_cases hb : t[n]'hlt = 35
        · have q1 : (((t[n]'hlt).toNat : Int) == 35) = true := by rw [hb]; rfl
          have HN2 : Hid (∀ x, i ≤ x → x < n + 1 → (L t)[x]? = some 35) := Lib.hid (fun x h1 h => by
            rcases Nat.lt_or_ge x n with hx | hx
            · exact HN.out x h1 hx
            · have : x = n := by omega
              subst this
              rw [HG.out x hlt, hb])
          clear hb
          go_wp2_with fail
          go_round
          case rel => exact ⟨n + 1, by omega, by omega, by go_num, HN2⟩
          case measure => simp [intOf]; omega
        · have q1 : (((t[n]'hlt).toNat : Int) == 35) = false := byte_ne (n := 35) (by decide) hb
          have HE : Hid ((L t)[n]? ≠ some 35) := Lib.hid (fun e => by rw [HG.out n hlt] at e; exact hb (Option.some.inj e))
          clear hb
          go_wp2_with fail
          go_meet
          exact ⟨n, hin, hn, rfl, HN, HE, rfl⟩
      · have HE : Hid ((L t)[n]? ≠ some 35) := Lib.hid (fun e => by rw [List.getElem?_eq_none (by rw [HL.out]; omega)] at e; cases e)
        go_wp2_with fail
        go_meet
        exact ⟨n, hin, hn, rfl, HN, HE, rfl⟩
  case rest =>
  obtain ⟨n, hin, hn, rfl, HN, HNE, hwW⟩ := hcut
  rw [hwW]
  clear hwW
  apply_assumption
  have HP : Hid (HeadP (L s) i n) := Lib.hid ⟨fun x h => by rw [HT.out]; exact HI.out x h, fun x h1 h2 => by rw [HT.out]; exact HN.out x h1 h2⟩
  have HIE2 : Hid ((Lib.trimRightB (L s) 32)[i]? ≠ some 32) := Lib.hid (by rw [HT.out]; exact HIE.out)
  have HNE2 : Hid ((Lib.trimRightB (L s) 32)[n]? ≠ some 35) := Lib.hid (by rw [HT.out]; exact HNE.out)
  have hbad : (3 < i ∨ n = i ∨ i + 6 < n ∨ (Lib.trimRightB (L s) 32).length ≤ n ∨ (Lib.trimRightB (L s) 32)[n]? ≠ some 32 ∨ (Lib.trimRightB (L s) 32)[(Lib.trimRightB (L s) 32).length - 1]? ≠ some 125) → refHeadV (L s) = .tuple #[.string ⟨#[]⟩, .string ⟨#[]⟩, .int .i64 0, .bool false] := fun h => head_none (headed_bad HP.out HIE2.out hin HNE2.out h)
  have HBAD := Lib.hid hbad
  clear hbad
  have g1 : decide ((3 : Int) < (i : Int)) = decide (3 < i) := decide_eq_decide.2 (by omega)
  have g2 : IntKind.i64.wrap ((n : Int) - (i : Int)) = (n : Int) - (i : Int) := IntWalk.i64_in _ (by omega)
  by_cases c1 : 3 < i
  · have HR := Lib.hid (HBAD.out (.inl c1))
    have d1 : (3 : Int) < (i : Int) := by omega
    go_wp2_with fail
    (try simp only [Exit.inBlock, Exit.then]); refine bodyPost_ret (results_four rfl _ _ _) rfl ?_
    rw [HR.out]
    exact ⟨rfl, Below.refl _ _⟩
  have d1 : ¬ (3 : Int) < (i : Int) := by omega
  by_cases c2 : n = i
  · have HR := Lib.hid (HBAD.out (.inr (.inl c2)))
    have d2 : ((n : Int) == (i : Int)) = true := by rw [c2]; simp
    clear c1
    have HC2 := Lib.hid c2
    clear c2
    go_wp2_with fail
    (try simp only [Exit.inBlock, Exit.then]); refine bodyPost_ret (results_four rfl _ _ _) rfl ?_
    rw [HR.out]
    exact ⟨rfl, Below.refl _ _⟩
  have d2 : ((n : Int) == (i : Int)) = false := beq_eq_false_iff_ne.2 (by omega)
  by_cases c3 : i + 6 < n
  · have HR := Lib.hid (HBAD.out (.inr (.inr (.inl c3))))
    have d3 : (6 : Int) < (n : Int) - (i : Int) := by omega
    go_wp2_with fail
    (try simp only [Exit.inBlock, Exit.then]); refine bodyPost_ret (results_four rfl _ _ _) rfl ?_
    rw [HR.out]
    exact ⟨rfl, Below.refl _ _⟩
  have d3 : ¬ (6 : Int) < (n : Int) - (i : Int) := by omega
  by_cases c4 : t.size ≤ n
  · have HR := Lib.hid (HBAD.out (.inr (.inr (.inr (.inl (by rw [HT.out, HL.out]; exact c4))))))
    have d4 : (t.size : Int) ≤ (n : Int) := by omega
    go_wp2_with fail
    (try simp only [Exit.inBlock, Exit.then]); refine bodyPost_ret (results_four rfl _ _ _) rfl ?_
    rw [HR.out]
    exact ⟨rfl, Below.refl _ _⟩
  have d4 : ¬ (t.size : Int) ≤ (n : Int) := by omega
  have hlt : n < t.size := by omega
  by_cases c5 : t[n]'hlt = 32
  case neg =>
    have HR := Lib.hid (HBAD.out (.inr (.inr (.inr (.inr (.inl (by rw [HT.out, HG.out n hlt]; exact fun e => c5 (Option.some.inj e))))))))
    have d5 : (((t[n]'hlt).toNat : Int) == 32) = false := byte_ne (n := 32) (by decide) c5
    have d5' : (((t[n]'hlt).toNat : Int) != 32) = true := byte_bne (n := 32) (by decide) c5
    clear c5
    go_wp2_with fail
    (try simp only [Exit.inBlock, Exit.then]); refine bodyPost_ret (results_four rfl _ _ _) rfl ?_
    rw [HR.out]
    exact ⟨rfl, Below.refl _ _⟩
  have d5 : (((t[n]'hlt).toNat : Int) == 32) = true := by rw [c5]; rfl
  have d5' : (((t[n]'hlt).toNat : Int) != 32) = false := by rw [c5]; rfl
  have HN32 : Hid ((Lib.trimRightB (L s) 32)[n]? = some 32) := Lib.hid (by rw [HT.out, HG.out n hlt, c5])
  clear c5
  obtain ⟨m, hm⟩ : ∃ m, t.size - 1 = m := ⟨_, rfl⟩
  have hmi : (t.size : Int) - 1 = (m : Int) := by omega
  have hmt : m < t.size := by omega
  have hnm : n ≤ m := by omega
  have x7 : IntKind.i64.wrap ((t.size : Int) - 1) = (m : Int) := (IntWalk.i64_in _ (by omega)).trans (by omega)
  have HLast : Hid ((Lib.trimRightB (L s) 32)[(Lib.trimRightB (L s) 32).length - 1]? = some (t[m]'hmt)) := Lib.hid (by rw [HT.out, HL.out, hm, HG.out m hmt])
  by_cases c6 : t[m]'hmt = 125
  case neg =>
    have HR := Lib.hid (HBAD.out (.inr (.inr (.inr (.inr (.inr (by rw [HLast.out]; exact fun e => c6 (Option.some.inj e))))))))
    have d6 : (((t[m]'hmt).toNat : Int) == 125) = false := byte_ne (n := 125) (by decide) c6
    have d6' : (((t[m]'hmt).toNat : Int) != 125) = true := byte_bne (n := 125) (by decide) c6
    clear c6 hm
    go_wp2_with fail
    (try simp only [Exit.inBlock, Exit.then]); refine bodyPost_ret (results_four rfl _ _ _) rfl ?_
    rw [HR.out]
    exact ⟨rfl, Below.refl _ _⟩
  have d6 : (((t[m]'hmt).toNat : Int) == 125) = true := by rw [c6]; rfl
  have d6' : (((t[m]'hmt).toNat : Int) != 125) = false := by rw [c6]; rfl
  have HL125 : Hid ((Lib.trimRightB (L s) 32)[(Lib.trimRightB (L s) 32).length - 1]? = some 125) := Lib.hid (by rw [HLast.out, c6])
  have HMT : Hid (t.size = m + 1) := Lib.hid (by omega)
  have hnm2 : n + 1 ≤ m := by
    rcases Nat.lt_or_ge n m with h | h
    · exact h
    · exfalso
      have : n = m := by omega
      subst this
      have h1 := HN32.out
      rw [HT.out, HG.out n hlt, c6] at h1
      cases h1
  clear c6 hm HLast HBAD
  have x8 : IntKind.i64.wrap ((t.size : Int) - 2) = (m : Int) - 1 := (IntWalk.i64_in _ (by omega)).trans (by omega)
  go_upto_block 4 with fail
  go_cut [9] (fun s9 wx => ∃ k : Nat, n ≤ k ∧ k + 1 ≤ m ∧ s9 = .int .i64 (k : Int) ∧ Hid (∀ x, k < x → x < m → (L t)[x]? ≠ some 123) ∧ Hid (n < k → (L t)[k]? = some 123) ∧ wx = w)
  case first =>
    go_wp2_with fail
    go_loop [9] (fun s9 => ∃ k : Nat, n ≤ k ∧ k + 1 ≤ m ∧ s9 = .int .i64 (k : Int) ∧ Hid (∀ x, k < x → x < m → (L t)[x]? ≠ some 123)) (fun s9 => (intOf s9).toNat)
    case atStart => exact ⟨m - 1, by omega, by omega, by first | go_num | (simp; omega), Lib.hid (fun x h1 h2 => by omega)⟩
    case round =>
      obtain ⟨k, hnk, hkm, rfl, HK⟩ := hrel
      by_cases hgt : n < k
      · have hkt : k < t.size := by omega
        by_cases hb : t[k]'hkt = 123
        · have q1 : (((t[k]'hkt).toNat : Int) == 123) = true := by rw [hb]; rfl
          have q1' : (((t[k]'hkt).toNat : Int) != 123) = false := by rw [hb]; rfl
          have HE : Hid (n < k → (L t)[k]? = some 123) := Lib.hid (fun _ => by rw [HG.out k hkt, hb])
          clear hb
          go_wp2_with fail
          go_meet
          exact ⟨k, hnk, hkm, rfl, HK, HE, rfl⟩
        · have q1 : (((t[k]'hkt).toNat : Int) == 123) = false := byte_ne (n := 123) (by decide) hb
          have q1' : (((t[k]'hkt).toNat : Int) != 123) = true := byte_bne (n := 123) (by decide) hb
          have HK2 : Hid (∀ x, k - 1 < x → x < m → (L t)[x]? ≠ some 123) := Lib.hid (fun x h1 h2 e => by
            rcases Nat.lt_or_ge k x with hx | hx
            · exact HK.out x hx h2 e
            · have : x = k := by omega
              subst this
              rw [HG.out x hkt] at e
              exact hb (Option.some.inj e))
          clear hb
          obtain ⟨j, rfl⟩ : ∃ j, k = j + 1 := ⟨k - 1, by omega⟩
          have x9 : IntKind.i64.wrap (((j + 1 : Nat) : Int) - 1) = (j : Int) := (IntWalk.i64_in _ (by omega)).trans (by omega)
          have x10 : IntKind.i64.wrap ((j : Int) + 1 - 1) = (j : Int) := (IntWalk.i64_in _ (by omega)).trans (by omega)
          go_wp2_with fail
          go_round
          case rel => exact ⟨j, by omega, by omega, by first | rfl | go_num, HK2⟩
          case measure => simp [intOf]; try omega
      · have HE : Hid (n < k → (L t)[k]? = some 123) := Lib.hid (fun h => absurd h hgt)
        go_wp2_with fail
        go_meet
        exact ⟨k, hnk, hkm, rfl, HK, HE, rfl⟩
  case rest =>
  obtain ⟨k, hnk, hkm, rfl, HK, HKE, hwW⟩ := hcut
  rw [hwW]
  clear hwW
  apply_assumption
  have hkt : k < t.size := by omega
  have HK2 : Hid (∀ x, k < x → x + 2 ≤ (Lib.trimRightB (L s) 32).length → (Lib.trimRightB (L s) 32)[x]? ≠ some 123) := Lib.hid (fun x h1 h2 => by
    rw [HT.out, HL.out, HMT.out] at h2
    rw [HT.out]
    exact HK.out x h1 (by omega))
  by_cases hgt : n < k
  case neg =>
    have hkn : k = n := by omega
    have HR : Hid (refHeadV (L s) = .tuple #[.string ⟨#[]⟩, .string ⟨#[]⟩, .int .i64 0, .bool false]) := Lib.hid (head_none (headed_far HP.out HIE2.out hin HNE2.out (by rw [← hkn]; exact HK2.out)))
    have d7 : (k : Int) ≤ (n : Int) := by omega
    clear hkn
    go_wp2_with fail
    (try simp only [Exit.inBlock, Exit.then]); refine bodyPost_ret (results_four rfl _ _ _) rfl ?_
    rw [HR.out]
    exact ⟨rfl, Below.refl _ _⟩
  have HK123 : Hid ((Lib.trimRightB (L s) 32)[k]? = some 123) := Lib.hid (by rw [HT.out]; exact HKE.out hgt)
  have d7 : ¬ (k : Int) ≤ (n : Int) := by omega
  obtain ⟨k1, hk1⟩ : ∃ k1, k + 1 = k1 := ⟨_, rfl⟩
  obtain ⟨k2, hk2⟩ : ∃ k2, k + 2 = k2 := ⟨_, rfl⟩
  have hk1t : k1 < t.size := by omega
  have y1 : IntKind.i64.wrap ((k : Int) + 1) = (k1 : Int) := (IntWalk.i64_in _ (by omega)).trans (by omega)
  have y2 : IntKind.i64.wrap ((k : Int) + 2) = (k2 : Int) := (IntWalk.i64_in _ (by omega)).trans (by omega)
  have y1i : (k : Int) + 1 = (k1 : Int) := by omega
  have y2i : (k : Int) + 2 = (k2 : Int) := by omega
  have HK1 := Lib.hid hk1
  have HK2E := Lib.hid hk2
  by_cases c7 : t[k1]'hk1t = 61
  case neg =>
    have HR : Hid (refHeadV (L s) = .tuple #[.string ⟨#[]⟩, .string ⟨#[]⟩, .int .i64 0, .bool false]) := Lib.hid (head_none (headed_no61 HK2.out HK123.out (by rw [HT.out, hk1, HG.out k1 hk1t]; exact fun e => c7 (Option.some.inj e))))
    have d8 : (((t[k1]'hk1t).toNat : Int) == 61) = false := byte_ne (n := 61) (by decide) c7
    have d8' : (((t[k1]'hk1t).toNat : Int) != 61) = true := byte_bne (n := 61) (by decide) c7
    clear c7 hk1 hk2
    go_wp2_with fail
    (try simp only [Exit.inBlock, Exit.then]); refine bodyPost_ret (results_four rfl _ _ _) rfl ?_
    rw [HR.out]
    exact ⟨rfl, Below.refl _ _⟩
  have d8 : (((t[k1]'hk1t).toNat : Int) == 61) = true := by rw [c7]; rfl
  have d8' : (((t[k1]'hk1t).toNat : Int) != 61) = false := by rw [c7]; rfl
  have HK61 : Hid ((Lib.trimRightB (L s) 32)[k + 1]? = some 61) := Lib.hid (by rw [HT.out, hk1, HG.out k1 hk1t, c7])
  have hk2m : k2 ≤ m := by
    rcases Nat.lt_or_ge m k2 with h | h
    · exfalso
      have h1 : k1 = m := by omega
      subst h1
      have h2 := HL125.out
      rw [HT.out, HL.out, HMT.out, Nat.add_sub_cancel, HG.out k1 hk1t, c7] at h2
      cases h2
    · exact h
  clear c7
  obtain ⟨lb, hlb⟩ : ∃ lb, t.extract k2 m = lb := ⟨_, rfl⟩
  have HLB : Hid (L lb = ((Lib.trimRightB (L s) 32).take ((Lib.trimRightB (L s) 32).length - 1)).drop (k + 2)) := Lib.hid (by rw [← hlb, L_extract, HT.out, HL.out, HMT.out, Nat.add_sub_cancel, hk2])
  have hlbs : lb.size ≤ 1099511627776 := by rw [← hlb]; simp; omega
  have hsl : ∀ W : World, (Instr.slice 9 (.string t) (some (.int .i64 (k2 : Int))) (some (.int .i64 (m : Int))) none).run Tryz.prog W = .ok (.string lb) W := fun W => by
    rw [run_slice_string W 9 t .i64 .i64 (k2 : Int) (m : Int) Tryz.underlying9 (by omega) (by omega) (by omega), ← hlb]; rfl
  have HCL := Lib.hid (fun w => refLabel_any lb w hlbs)
  have y3 : k2 ≤ m := hk2m
  have y4 : m ≤ t.size := by omega
  have y5 : (k2 : Int) ≤ (m : Int) := by omega
  have y6 : (m : Int) ≤ (t.size : Int) := by omega
  clear hk1 hk2 hlb
  cases hl : labelT (L lb) with
  | false =>
    have HR : Hid (refHeadV (L s) = .tuple #[.string ⟨#[]⟩, .string ⟨#[]⟩, .int .i64 0, .bool false]) := Lib.hid (head_none (headed_nolab HK2.out HK123.out (by rw [← HLB.out]; exact hl)))
    go_wp2_with (go_at_call 75; refine (HCL.out _).mono ?_; rintro e w1 ⟨rfl, hw⟩; subst w1; rw [hl])
    (try simp only [Exit.inBlock, Exit.then]); refine bodyPost_ret (results_four rfl _ _ _) rfl ?_
    rw [HR.out]
    exact ⟨rfl, Below.refl _ _⟩
  | true =>
    have HY := Lib.hid (headed_yes HP.out (by omega) (by omega) (by omega) HN32.out hgt HL125.out HK123.out HK61.out (by rw [HT.out, HL.out, HMT.out]; have := HK2E.out; omega) (by rw [← HLB.out]; exact hl))
    have hsl2 : ∀ W : World, (Instr.slice 9 (.string t) none (some (.int .i64 (k : Int))) none).run Tryz.prog W = .ok (.string (t.extract 0 k)) W := fun W => by
      first
        | (rw [run_slice_string_h W 9 t Tryz.underlying9 .i64 (k : Int) (by omega) (by omega)]; rfl)
        | go_simp
    have y7 : (0 : Int) ≤ (k : Int) := by omega
    have y8 : (k : Int) ≤ (t.size : Int) := by omega
    go_upto_region 15 with (go_at_call 75; refine (HCL.out _).mono ?_; rintro e w1 ⟨rfl, hw⟩; subst w1; rw [hl])
    go_quiet (fail)
    go_wp2_with fail
    (try simp only [Exit.inBlock, Exit.then]); refine bodyPost_ret (results_four rfl _ _ _) rfl ?_
    refine ⟨?_, below_drewN' (Below.refl _ _) _⟩
    obtain ⟨HY1, HY2⟩ := HY.out
    unfold refHeadV
    rw [HY1]
    simp only
    rw [HY2, ← HLB.out, S_L]
    have e1 : S ((Lib.trimRightB (L s) 32).take k) = t.extract 0 k := by rw [HT.out, sub_S, List.drop_zero]
    rw [e1]
    first | rfl | go_num
end Go.Proofs.YtgdnphmannbpgaaGreatDoor
