/-
  The depths of a frame's parts: each at most one deeper than an opener ahead of it, none deeper than a text.
-/
import Derived.Test.YteeoohnkfdffnaaGreatDoorVeilSpec
namespace Go.Proofs.YteeoohnkfdffnaaGreatDoor
set_option linter.unusedVariables false

def ddL (out : List PartT) : List (Int × Bool) := out.map fun p => (p.depth, p.div)
def NextU (d : List (Int × Bool)) : Prop := (∀ x, d[0]? = some x → x.1 = 0) ∧ ∀ i a b, d[i]? = some a → d[i + 1]? = some b → b.1 ≤ a.1 + if a.2 then 1 else 0
theorem ddL_set (out : List PartT) (i : Nat) (p q : PartT) (h : out[i]? = some p) (h1 : q.depth = p.depth) (h2 : q.div = p.div) : ddL (out.set i q) = ddL out := by
  unfold ddL
  rw [List.map_set, h1, h2]
  obtain ⟨hi, rfl⟩ := List.getElem?_eq_some_iff.1 h
  apply List.ext_getElem?
  intro j
  rw [List.getElem?_set]
  split
  · rename_i e
    subst e
    simp [hi]
  · rfl
theorem nextU_push {d : List (Int × Bool)} (h : NextU d) (x : Int × Bool) (h0 : d = [] → x.1 = 0) (hl : ∀ a, d.getLast? = some a → x.1 ≤ a.1 + if a.2 then 1 else 0) : NextU (d ++ [x]) := by
  refine ⟨fun y hy => ?_, fun i a b ha hb => ?_⟩
  · cases d with
    | nil => simp at hy; subst hy; exact h0 rfl
    | cons z t => exact h.1 y (by simpa using hy)
  · by_cases hi : i + 1 < d.length
    · rw [List.getElem?_append_left (by omega)] at ha
      rw [List.getElem?_append_left hi] at hb
      exact h.2 i a b ha hb
    · have hj : i + 1 = d.length := by
        have := (List.getElem?_eq_some_iff.1 hb).1
        simp at this
        omega
      rw [List.getElem?_append_left (by omega)] at ha
      rw [hj, List.getElem?_append_right (Nat.le_refl _)] at hb
      simp at hb
      subst hb
      refine hl a ?_
      rw [List.getLast?_eq_getElem?, ← ha]
      congr 1
      omega
theorem frStep_dd (st : FrS) (s : ByteArray) : ddL (frStep st s).out = ddL st.out ∨ ∃ b, ddL (frStep st s).out = ddL st.out ++ [((st.ins.length : Int), b)] := by
  unfold frStep
  split
  · exact .inr ⟨true, by simp [ddL]⟩
  · split
    · left
      simp only
      unfold shutAt
      split
      · rename_i p hp
        exact ddL_set _ _ _ _ hp rfl rfl
      · rfl
    · split
      · left
        simp only
        unfold addLast
        split
        · rename_i p hp
          obtain ⟨l, e⟩ := List.getLast?_eq_some_iff.1 hp
          rw [e]
          simp [ddL]
        · rfl
      · exact .inr ⟨false, by simp [ddL]⟩
theorem nextU_step {st : FrS} {k : Nat} (hd : DepOk st k) (h : NextU (ddL st.out)) (s : ByteArray) : NextU (ddL (frStep st s).out) := by
  rcases frStep_dd st s with e | ⟨b, e⟩
  · rw [e]; exact h
  · rw [e]
    refine nextU_push h _ (fun h0 => ?_) (fun a ha => ?_)
    · have h1 : st.out = [] := by simpa [ddL] using h0
      have h2 : st.ins = [] := by
        cases hi : st.ins with
        | nil => rfl
        | cons i t =>
          obtain ⟨p, hp, _⟩ := hd.opn i (by rw [hi]; simp)
          rw [h1] at hp
          simp at hp
      simp [h2]
    · unfold ddL at ha
      rw [List.getLast?_map, Option.map_eq_some_iff] at ha
      obtain ⟨p, hp, rfl⟩ := ha
      obtain ⟨h1, h2, h3⟩ := hd.last p hp
      simp only
      cases hdv : p.div
      · simp only [Bool.false_eq_true, if_false]
        cases hr : st.run
        · have := h3 hr hdv; omega
        · have := (h2 hr).2; omega
      · simp only [if_true]; omega
theorem nextU_frT (ls : List ByteArray) : NextU (ddL (frT ls).out) := by
  have : ∀ (l : List ByteArray) (st : FrS) (k : Nat), DepOk st k → NextU (ddL st.out) → NextU (ddL (l.foldl frStep st).out) := by
    intro l
    induction l with
    | nil => intro st k _ h; exact h
    | cons x t ih => intro st k hd h; exact ih _ _ (hd.step x) (nextU_step hd h x)
  exact this ls _ 0 (depOk_frT []) ⟨fun x hx => by simp [ddL] at hx, fun i a b ha => by simp [ddL] at ha⟩
def prevOf (out : List PartT) : Nat → Option PartT
  | 0 => none
  | k + 1 => out[k]?
theorem fits_at (ls : List ByteArray) {k : Nat} {p : PartT} (hp : (frT ls).out[k]? = some p) : fitsT (prevOf (frT ls).out k) p.depth := by
  have hN := nextU_frT ls
  have hpd : (ddL (frT ls).out)[k]? = some (p.depth, p.div) := by simp [ddL, hp]
  cases k with
  | zero => exact hN.1 _ hpd
  | succ j =>
    have hk := (List.getElem?_eq_some_iff.1 hp).1
    obtain ⟨q, hq⟩ : ∃ q, (frT ls).out[j]? = some q := ⟨_, List.getElem?_eq_getElem (by omega)⟩
    have : prevOf (frT ls).out (j + 1) = some q := hq
    rw [this]
    exact hN.2 j (q.depth, q.div) _ (by simp [ddL, hq]) hpd
/-- where a part may open: the labels above reach so far -/
theorem veDep_at (s : SeerT) (ls : List ByteArray) (k : Nat) (hk : k ≤ (frT ls).out.length) : VeDep (veFold s ((frT ls).out.take k)) (prevOf (frT ls).out k) := by
  induction k with
  | zero => exact ⟨fun h => by simp [veFold] at h, fun _ => rfl⟩
  | succ k ih =>
    obtain ⟨p, hp⟩ : ∃ p, (frT ls).out[k]? = some p := ⟨_, List.getElem?_eq_getElem (by omega)⟩
    rw [veFold_take s hp]
    have : prevOf (frT ls).out (k + 1) = some p := hp
    rw [this]
    exact veDep_step s (ih (by omega)) ((depOk_frT ls).each p (List.mem_of_getElem? hp)).2.2 (fits_at ls hp)
/-- the room for the next part's depth -/
theorem veRoom (s : SeerT) (ls : List ByteArray) {k : Nat} {p : PartT} (hp : (frT ls).out[k]? = some p) (hs : skipT (veFold s ((frT ls).out.take k)) p = false) :
    0 ≤ p.depth ∧ p.depth.toNat ≤ (veFold s ((frT ls).out.take k)).under.length := by
  have hk := (List.getElem?_eq_some_iff.1 hp).1
  have h0 := ((depOk_frT ls).each p (List.mem_of_getElem? hp)).2.2
  exact ⟨h0, veDep_room (veDep_at s ls k (by omega)) h0 (fits_at ls hp) hs⟩
end Go.Proofs.YteeoohnkfdffnaaGreatDoor
