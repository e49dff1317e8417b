/-
  The lattice that New makes: what lies above a join is what lies above both; the bottom lies below all. So labels are seen together just if each is seen.
-/
import Derived.Test.YteeoohnkfdffnaaGreatDoorVeilNew
namespace Go.Proofs.YteeoohnkfdffnaaGreatDoor
open Go.RowKit
set_option linter.unusedVariables false

theorem at0_set (l : List Nat) (i j x : Nat) (hi : i < l.length) : at0 (l.set i x) j = if i = j then x else at0 l j := by
  unfold at0
  rw [List.getD_eq_getElem?_getD, List.getD_eq_getElem?_getD, List.getElem?_set]
  by_cases h : i = j
  · subst h; simp [hi]
  · simp [h]
theorem at0_rep (n i : Nat) : at0 (List.replicate n 0) i = 0 := by
  unfold at0
  rw [List.getD_eq_getElem?_getD]
  cases h : (List.replicate n 0)[i]? with
  | none => rfl
  | some x => have := List.eq_of_mem_replicate (List.mem_of_getElem? h); rw [this]; rfl
/-- who lies below: the other way round -/
theorem downB_bit (up : List Nat) (a : Nat) (d : List Nat) (b : Nat) (hb : b ≤ d.length) (i j : Nat) :
    (at0 (downB up a d b) i).testBit j = ((at0 d i).testBit j || (decide (j = a) && decide (i < b) && (at0 up a).testBit i)) := by
  induction b generalizing i j with
  | zero => simp [downB]
  | succ b ih =>
    have ih := ih (by omega)
    unfold downB
    split
    · rename_i hu
      rw [at0_set _ _ _ _ (by rw [downB_len]; omega)]
      split
      · rename_i e
        subst e
        rw [Nat.testBit_or, ih, Nat.testBit_two_pow]
        by_cases hj : j = a
        · subst hj; simp [hu]
        · simp [hj, Ne.symm hj]
      · rename_i e
        rw [ih]
        have : decide (i < b + 1) = decide (i < b) := by
          by_cases h : i < b
          · simp [h]; omega
          · have : ¬ i < b + 1 := by omega
            simp [h, this]
        rw [this]
    · rename_i hu
      rw [ih]
      by_cases e : i = b
      · subst e; simp [hu]
      · have : decide (i < b + 1) = decide (i < b) := by
          by_cases h : i < b
          · simp [h]; omega
          · have : ¬ i < b + 1 := by omega
            simp [h, this]
        rw [this]
theorem downA_bit (n : Nat) (up : List Nat) (a : Nat) (i j : Nat) (hi : i < n) :
    (at0 (downA n up a) i).testBit j = (decide (j < a) && (at0 up j).testBit i) := by
  induction a generalizing i j with
  | zero => simp [downA, at0_rep]
  | succ a ih =>
    rw [downA, downB_bit _ _ _ _ (by rw [downA_len]; exact Nat.le_refl _), ih i j hi]
    by_cases hj : j = a
    · subst hj; simp [hi]
    · have : decide (j < a + 1) = decide (j < a) := by
        by_cases h : j < a
        · simp [h]; omega
        · have : ¬ j < a + 1 := by omega
          simp [h, this]
      simp [hj, this]
structure LatGood (t : LatT) : Prop where
  join : ∀ a b, a < t.n → b < t.n → at0 t.up (rowAt t.join a b) = at0 t.up a &&& at0 t.up b
  bot : ∀ x, x < t.n → (at0 t.up (bottomT t)).testBit x = true
theorem newT_good {n : Nat} {ps : List (Int × Int)} {t : LatT} (hn : 1 ≤ n) (h : newT n ps = some t) (ok : LatOk t) : LatGood t := by
  obtain ⟨h1, h2, h3, h4, _⟩ := newT_some h
  have hul : t.up.length = n := by rw [h2, upsT_len]
  refine ⟨fun a b ha hb => ?_, fun x hx => ?_⟩
  · rw [h1] at ha hb
    obtain ⟨row, e1, e2, e3, e4⟩ := tab_entry hul h3 ha hb
    exact (foundC_lt e4).2.2
  · have hdl : (downA n t.up n).length = n := downA_len n t.up n
    have hlt : ∀ k, k ≤ n → foldAt t.meet k < n := by
      have := foldAt_lt (t := t.meet) ok.pos (fun a b ha hb => by obtain ⟨_, _, _, k⟩ := ok.meets a b ha hb; exact k)
      rw [h1] at this; exact this
    have key : ∀ k, k ≤ n → (∀ x j, x < k → (at0 (downA n t.up n) (foldAt t.meet k)).testBit j = true → (at0 (downA n t.up n) x).testBit j = true) ∧ (0 < k → (at0 (downA n t.up n) (foldAt t.meet k)).testBit (foldAt t.meet k) = true) := by
      intro k
      induction k with
      | zero => intro _; exact ⟨fun x j hx => by omega, fun h => by omega⟩
      | succ k ih =>
        intro hk
        obtain ⟨ih1, _⟩ := ih (by omega)
        obtain ⟨row, e1, e2, e3, e4⟩ := tab_entry hdl h4 (hlt k (by omega)) (show k < n by omega)
        obtain ⟨_, g2, g3⟩ := foundC_lt e4
        have hc : foldAt t.meet (k + 1) = rowAt t.meet (foldAt t.meet k) k := rfl
        rw [← hc] at g2 g3
        refine ⟨fun x j hx hj => ?_, fun _ => by rw [g3]; exact g2⟩
        rw [g3, Nat.testBit_and, Bool.and_eq_true] at hj
        rcases Nat.lt_or_ge x k with hxk | hxk
        · exact ih1 x j hxk hj.1
        · have : x = k := by omega
          subst this
          exact hj.2
    obtain ⟨k1, k2⟩ := key n (Nat.le_refl _)
    have hb := k1 x _ (by omega) (k2 hn)
    rw [downA_bit n t.up n _ _ (by omega)] at hb
    simp only [Bool.and_eq_true] at hb
    unfold bottomT
    rw [h1]
    exact hb.2
/-- is one label seen? -/
def seesL (s : SeerT) (x : ByteArray) : Bool := (at0 s.lat.up (labAt s x)).testBit s.at_
theorem seesF_bit {s : SeerT} (ok : SeerOk s) (g : LatGood s.lat) (ls : List ByteArray) (a : Nat) (ha : a < s.lat.n) :
    seesF s a ls < s.lat.n ∧ (at0 s.lat.up (seesF s a ls)).testBit s.at_ = ((at0 s.lat.up a).testBit s.at_ && ls.all (seesL s)) := by
  induction ls generalizing a with
  | nil => exact ⟨ha, by simp [seesF]⟩
  | cons x xs ih =>
    have hl := labAt_lt ok x
    obtain ⟨_, _, _, hj⟩ := ok.lat.joins a _ ha hl
    obtain ⟨i1, i2⟩ := ih _ hj
    refine ⟨i1, ?_⟩
    rw [seesF, i2, g.join _ _ ha hl, Nat.testBit_and, List.all_cons, Bool.and_assoc]
    rfl
/-- labels are seen together just if each is seen by itself -/
theorem sees_all {s : SeerT} (ok : SeerOk s) (g : LatGood s.lat) (ls : List ByteArray) : seesT s ls = ls.all (seesL s) := by
  have hb : bottomT s.lat < s.lat.n := foldAt_lt ok.lat.pos (fun a b ha hb => by obtain ⟨_, _, _, k⟩ := ok.lat.meets a b ha hb; exact k) _ (Nat.le_refl _)
  unfold seesT
  rw [(seesF_bit ok g ls _ hb).2, g.bot _ ok.at_, Bool.true_and]
theorem sees_one {s : SeerT} (ok : SeerOk s) (g : LatGood s.lat) (x : ByteArray) : seesT s [x] = seesL s x := by
  rw [sees_all ok g]; simp
theorem newV_good {xs : List ByteArray} {ps : List (Int × Int)} {x : ByteArray} {s : SeerT} {k : Int} (h : newV xs ps x = (k, some s)) : LatGood s.lat := by
  have h1 := newV_ok h
  obtain ⟨ok, hn, _, ht, _⟩ := h1
  have hp := ok.lat.pos
  have := (newT_some ht).1
  exact newT_good (by omega) ht ok.lat
end Go.Proofs.YteeoohnkfdffnaaGreatDoor
