/-
  What a frame makes of divisions in one another.
-/
import Derived.Test.YtofloedgclodnaaDoorFrameAlive
namespace Go.Proofs.YtofloedgclodnaaDoor

def opB : ByteArray := ⟨#[58, 58, 58, 123, 108, 125]⟩
def shB : ByteArray := ⟨#[58, 58, 58]⟩
def nestP (m : Nat) (i : Nat) : PartT := ⟨(i : Int), true, ⟨#[108]⟩, decide (i < m), []⟩
def nestOut (n m : Nat) (x : ByteArray) : List PartT := (List.range n).map (nestP m) ++ [⟨(n : Int), false, ⟨#[]⟩, false, [x]⟩]

theorem op_open : opensT (L opB) = ([108], true) := by decide +kernel
theorem sh_open : (opensT (L shB)).2 = false ∧ shutsT (L shB) = true := by decide +kernel

theorem nest_opens : ∀ k, (List.replicate k opB).foldl frStep ⟨[], [], false⟩ = ⟨(List.range k).map (nestP k), List.range k, false⟩
  | 0 => rfl
  | k + 1 => by
    rw [List.replicate_succ', List.foldl_append, nest_opens k]
    simp only [List.foldl_cons, List.foldl_nil]
    unfold frStep
    rw [op_open]
    simp only [if_true, List.length_map, List.length_range]
    have e : (List.range k).map (nestP k) = (List.range k).map (nestP (k + 1)) := List.map_congr_left fun i hi => by
      have : i < k := by simpa using hi
      unfold nestP
      rw [decide_eq_true this, decide_eq_true (by omega : i < k + 1)]
    rw [e, List.range_succ, List.map_append]
    simp [nestP]
    rfl

theorem text_no {l : List UInt8} (h : 58 ∉ l) : (opensT l).2 = false ∧ shutsT l = false := by
  have ht : 58 ∉ Lib.trimRightB l 32 := fun hm => h (by
    unfold Lib.trimRightB at hm
    rw [List.mem_reverse] at hm
    have := (List.dropWhile_sublist (fun x => x == (32 : UInt8)) (l := l.reverse)).subset hm
    simpa using this)
  constructor
  · unfold opensT
    have : Lib.hasPrefix (Lib.trimRightB l 32) openL = false := by
      cases hp : Lib.hasPrefix (Lib.trimRightB l 32) openL
      · rfl
      · obtain ⟨r, hr⟩ := List.isPrefixOf_iff_prefix.1 hp
        exact absurd (by rw [← hr]; simp [openL]) ht
    rw [this]; rfl
  · unfold shutsT
    exact decide_eq_false (fun e => ht (by rw [e]; simp))

theorem nest_shut (n m : Nat) (hm : m + 1 ≤ n) (x : ByteArray) (r : Bool) : frStep ⟨nestOut n (m + 1) x, List.range (m + 1), r⟩ shB = ⟨nestOut n m x, List.range m, false⟩ := by
  unfold frStep
  rw [sh_open.1, sh_open.2]
  simp only [Bool.false_eq_true, if_false, List.length_range, Bool.true_and]
  rw [if_pos (by simp)]
  have hl : (List.range (m + 1)).getLast?.getD 0 = m := by simp [List.range_succ]
  have hd : (List.range (m + 1)).dropLast = List.range m := by simp [List.range_succ]
  rw [hl, hd]
  congr 1
  unfold shutAt
  have hget : (nestOut n (m + 1) x)[m]? = some (nestP (m + 1) m) := by
    unfold nestOut
    rw [List.getElem?_append_left (by simp; omega), List.getElem?_map, List.getElem?_range (by omega)]
    rfl
  rw [hget]
  simp only
  apply List.ext_getElem?
  intro i
  rw [List.getElem?_set]
  unfold nestOut
  by_cases him : m = i
  · subst him
    rw [if_pos rfl, if_pos (by simp; omega), List.getElem?_append_left (by simp; omega), List.getElem?_map, List.getElem?_range (by omega)]
    simp [nestP]
  · rw [if_neg him]
    by_cases hin : i < n
    · rw [List.getElem?_append_left (by simpa using hin), List.getElem?_append_left (by simpa using hin)]
      simp only [List.getElem?_map, List.getElem?_range hin, Option.map_some]
      unfold nestP
      congr 2
      by_cases h : i < m
      · rw [decide_eq_true h, decide_eq_true (by omega)]
      · rw [decide_eq_false h, decide_eq_false (by omega)]
    · rw [List.getElem?_append_right (by simp; omega), List.getElem?_append_right (by simp; omega)]
      simp

theorem nest_shuts (n : Nat) (x : ByteArray) : ∀ (c m : Nat) (r : Bool), m ≤ n → c ≤ m → ((List.replicate c shB).foldl frStep ⟨nestOut n m x, List.range m, r⟩).out = nestOut n (m - c) x
  | 0, m, r, _, _ => rfl
  | c + 1, m, r, h1, h2 => by
    obtain ⟨m, rfl⟩ : ∃ k, m = k + 1 := ⟨m - 1, by omega⟩
    rw [List.replicate_succ, List.foldl_cons, nest_shut n m h1 x r, nest_shuts n x c m false (by omega) (by omega)]
    congr 1; omega

theorem nest_law (n c : Nat) (x : ByteArray) (hc : c ≤ n) (hx : 58 ∉ L x) : (frT (List.replicate n opB ++ [x] ++ List.replicate c shB)).out = nestOut n (n - c) x := by
  unfold frT
  rw [List.foldl_append, List.foldl_append, nest_opens n]
  obtain ⟨h1, h2⟩ := text_no hx
  have e : [x].foldl frStep ⟨(List.range n).map (nestP n), List.range n, false⟩ = ⟨nestOut n n x, List.range n, true⟩ := by
    simp only [List.foldl_cons, List.foldl_nil]
    unfold frStep
    rw [h1, h2]
    simp [nestOut]
  rw [e]
  exact nest_shuts n x c n true (Nat.le_refl _) hc
end Go.Proofs.YtofloedgclodnaaDoor
