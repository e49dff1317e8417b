/-
  A line of a part turned in its row; how long a veiled line may be.
-/
import Derived.Test.YteeoohnkfdffnaaGreatDoorVeilDep
import Derived.Test.YteeoohnkfdffnaaGreatDoorWrite7
namespace Go.Proofs.YteeoohnkfdffnaaGreatDoor
open Go.RowKit
set_option linter.unusedVariables false

theorem lineT_size (s : SeerT) (l : ByteArray) (u : List ByteArray) : (lineT s l u).size ≤ l.size + 4 := by
  have hb : ∀ u', (bodyT s l u').size ≤ l.size := fun u' => by
    unfold bodyT
    rw [size_S]
    exact Nat.le_trans (hide_len s u' _) (spans_len l).2
  unfold lineT
  split
  · have := hb u; omega
  · rename_i a lb h
    have hl := headed_le h
    rw [length_L] at hl
    split
    · have := hb (u ++ [S lb]); omega
    · unfold headT
      have e1 : ((S a).extract 0 (signsT (L (S a)))).size ≤ a.length := by
        rw [ByteArray.size_extract, size_S]; omega
      simp only [ByteArray.size_append, size_S]
      have : (⟨#[32, 123, 61]⟩ : ByteArray).size = 3 := rfl
      have : (⟨#[125]⟩ : ByteArray).size = 1 := rfl
      omega
theorem set_flat {α β : Type} (f : α → List β) (l : List α) (k : Nat) (x x' : α) (hx : l[k]? = some x) (h : f x' = f x) : (l.set k x').flatMap f = l.flatMap f := by
  induction l generalizing k with
  | nil => simp at hx
  | cons y t ih =>
    cases k with
    | zero => simp at hx; subst hx; simp [h]
    | succ k => simp at hx; simp [ih k hx]
/-- a line of a part is turned -/
theorem Parts.reline {w : World} {base n c : Nat} {A : Option Addr} {ps : List PartR} (h : Parts w base A n c ps) {k : Nat} {p : PartR} (hp : ps[k]? = some p) {j : Nat} {l : ByteArray} (hj : p.t.lines[j]? = some l) (v : ByteArray) :
    ∃ g, p.la = some ⟨g, 0, none⟩ ∧ base ≤ g ∧ g < w.heap.size ∧ w.cell? ⟨g, j, none⟩ = some (.string l) ∧ w.frozen? ⟨g, j, none⟩ = false ∧
      Parts (w.setCell ⟨g, j, none⟩ (.string v)) base A n c (ps.set k ⟨{ p.t with lines := p.t.lines.set j v }, p.la, p.lc⟩) := by
  have hmem := List.mem_of_getElem? hp
  have hrow := h.2.1 p hmem
  have hjl := (List.getElem?_eq_some_iff.1 hj).1
  obtain ⟨g, hg, hg1, hg2⟩ := hrow.some_ (by omega)
  have hrow2 := hrow
  rw [hg] at hrow2
  have hst := hrow2.stored j (.string v)
  have hO := only_setCell w g j (.string v)
  refine ⟨g, hg, hg1, hg2, hrow2.cell (by simp [hj]), hrow2.frozen j, ?_, ?_, ?_⟩
  · have he : partCells (ps.set k ⟨{ p.t with lines := p.t.lines.set j v }, p.la, p.lc⟩) = partCells ps := set_flat _ _ _ _ _ hp (by simp [PartR.cells])
    rw [he]
    exact h.1.only hO (by rw [← hg]; exact (h.sep p hmem).symm)
  · intro q hq
    obtain ⟨i, hi⟩ := List.mem_iff_getElem?.1 hq
    rw [List.getElem?_set] at hi
    split at hi
    · rename_i hik
      split at hi
      · simp only [Option.some.injEq] at hi
        subst hi
        simp only [List.length_set]
        rw [hg]
        have : txCells (p.t.lines.set j v) = (txCells p.t.lines).set j (.string v) := by simp [txCells, List.map_set]
        rw [this]
        exact hst
      · cases hi
    · rename_i hik
      refine (h.2.1 q (List.mem_of_getElem? hi)).only hO ?_
      rw [← hg]
      have hpw := h.2.2
      rw [List.pairwise_iff_getElem] at hpw
      obtain ⟨hil, rfl⟩ := List.getElem?_eq_some_iff.1 hi
      obtain ⟨hkl, rfl⟩ := List.getElem?_eq_some_iff.1 hp
      rcases Nat.lt_or_gt_of_ne hik with hh | hh
      · exact (hpw k i hkl hil hh).symm
      · exact hpw i k hil hkl hh
  · have h2 := h.2.2
    have hsame : (ps.set k ⟨{ p.t with lines := p.t.lines.set j v }, p.la, p.lc⟩).map (·.la) = ps.map (·.la) := by
      rw [List.map_set]
      obtain ⟨hkl, e⟩ := List.getElem?_eq_some_iff.1 hp
      apply List.ext_getElem?
      intro i
      rw [List.getElem?_set]
      split
      · rename_i e2
        subst e2
        simp [hkl, e]
      · rfl
    have h3 : (ps.map (·.la)).Pairwise Sep := List.pairwise_map.2 h2
    rw [← hsame] at h3
    exact List.pairwise_map.1 h3
end Go.Proofs.YteeoohnkfdffnaaGreatDoor
