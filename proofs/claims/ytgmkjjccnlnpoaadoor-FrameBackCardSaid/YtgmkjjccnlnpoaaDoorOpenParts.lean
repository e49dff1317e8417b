/-
  Opening a slice of parts.
-/
import Derived.Test.YtgmkjjccnlnpoaaDoorOpenTexts
import Derived.Test.YtgmkjjccnlnpoaaDoorRight
import Derived.OpenShut
namespace Go.Proofs.YtgmkjjccnlnpoaaDoor
open Go.RowKit Go.ChangeShapes Go.WideShapes Go.Deep

/-- what a slice of parts that came in gives -/
def IsParts (W : World) (a : Option Addr) (len cap : Nat) (l : List PartR) : Prop :=
  PartsIn W W.heap.size a len l ∧ len ≤ cap ∧ cap ≤ maxLen ∧ ∀ p ∈ l, PartSz p.t ∧ p.t.lines.length ≤ 9223372036854775807

theorem open_parts {H : Type} {enc : TypeId × Value → H} {W : World} {sp : Nat → Bool} {held : Bool} {a : Option Addr} {len cap : Nat} {d : DataW H} {p : List MemPlace}
    (h : DataW.Trod enc Tryd.prog W 0 sp held 35 (.slice a len cap) d p) : ∃ l : List PartR, IsParts W a len cap l := by
  obtain ⟨fuel, hf⟩ := h
  rcases open_slice_fields Tryd.underlying35 Tryd.underlying42 (by kernel_rfl) (by kernel_rfl) hf with ⟨hcs, hx⟩ | ⟨b, len', cap', m, D, Pl, hcs, _, hl, hm, hmm, hx, hi⟩
  · simp [Value.cells] at hcs
    obtain ⟨rfl, rfl, rfl⟩ := hcs
    exact ⟨[], ⟨Reads.none_, by simp⟩, Nat.le_refl _, Nat.zero_le _, by simp⟩
  · simp [Value.cells] at hcs
    obtain ⟨rfl, rfl, rfl⟩ := hcs
    have hlm : len ≤ m := by rw [hmm]; split <;> omega
    have hall : ∀ i, i < len → ∃ x : PartR, (Reads W W.heap.size 1 x.la x.t.lines.length (txCells x.t.lines) ∧ PartSz x.t ∧ x.t.lines.length ≤ 9223372036854775807) ∧ ∀ j, j < 5 → W.cell? (b.add (i * 5 + j)) = x.cells[j]? := by
      intro i him
      obtain ⟨ys, n, hD, _, hys, hf⟩ := hi i (by omega)
      obtain ⟨v0, y0, c0, g0, t0⟩ := hf 0 _ rfl
      obtain ⟨v1, y1, c1, g1, t1⟩ := hf 1 _ rfl
      obtain ⟨v2, y2, c2, g2, t2⟩ := hf 2 _ rfl
      obtain ⟨v3, y3, c3, g3, t3⟩ := hf 3 _ rfl
      obtain ⟨v4, y4, c4, g4, t4⟩ := hf 4 _ rfl
      obtain ⟨x0, e0, rfl, f0⟩ := DataW.trod_int Tryd.underlying3 t0
      obtain ⟨x1, e1, rfl⟩ := DataW.trod_bool Tryd.underlying4 t1
      obtain ⟨x2, e2, rfl, f2⟩ := DataW.trod_string Tryd.underlying9 t2
      obtain ⟨x3, e3, rfl⟩ := DataW.trod_bool Tryd.underlying4 t3
      have hv4 : ∃ la ln lc, v4 = .slice la ln lc := by
        rcases open_strings Tryd.underlying23 Tryd.underlying9 (by kernel_rfl) t4 with ⟨hcs, _⟩ | ⟨b', len', cap', ss, hcs, _⟩
        · exact ⟨none, 0, 0, by simpa using hcs⟩
        · exact ⟨some b', len', cap', by simpa using hcs⟩
      obtain ⟨la, ln, lc, rfl⟩ := hv4
      obtain ⟨ls, hr, hlc, hcm, hsz⟩ := open_texts (d := y4.1) (p := y4.2) ⟨_, t4⟩
      simp only [List.cons.injEq, and_true] at e0 e1 e2 e3
      subst e0; subst e1; subst e2; subst e3
      have hln : ls.length = ln := by have := hr.1; simpa using this
      have hmax : maxLen = 9223372036854775807 := rfl
      refine ⟨⟨⟨x0, x1, x2, x3, ls⟩, la, lc⟩, ⟨by simp only; rw [hln]; exact hr, ⟨by simp only; omega, fun x hx => by have := hsz x hx; omega⟩, by simp only; omega⟩, fun j hj => ?_⟩
      match j, hj with
      | 0, _ => exact c0
      | 1, _ => exact c1
      | 2, _ => exact c2
      | 3, _ => exact c3
      | 4, _ => exact c4.trans (by show some _ = some (Value.slice la ls.length lc); rw [hln])
    obtain ⟨l, hll, hl'⟩ := choose_list hall
    refine ⟨l, ⟨⟨by rw [parts_length]; omega, fun h0 => ⟨b, rfl, ?_, fun j u hu => ?_⟩⟩, fun x hx => ?_⟩, hl, hm, fun x hx => ?_⟩
    · obtain ⟨x, hx0⟩ : ∃ x, l[0]? = some x := ⟨_, List.getElem?_eq_getElem (by omega)⟩
      have := (hl' 0 x hx0).2 0 (by omega)
      have := World.block_lt_of_cell? W _ (this.trans (show x.cells[0]? = some (.int .i64 x.t.depth) from rfl))
      simpa [Addr.add] using this
    · have hj : j < l.length * 5 := by rw [← parts_length]; exact (List.getElem?_eq_some_iff.1 hu).1
      obtain ⟨x, hx0⟩ : ∃ x, l[j / 5]? = some x := ⟨_, List.getElem?_eq_getElem (by omega)⟩
      have h1 := (hl' (j / 5) x hx0).2 (j % 5) (by omega)
      have h2 := flat_get PartR.cells 5 part_len l (j / 5) (j % 5) (by omega) hx0
      have h3 : j / 5 * 5 + j % 5 = j := by omega
      rw [h3] at h1 h2
      rw [h1, ← h2]
      exact hu
    · obtain ⟨i, hi⟩ := List.getElem?_of_mem hx
      exact (hl' i x hi).1.1
    · obtain ⟨i, hi⟩ := List.getElem?_of_mem hx
      exact (hl' i x hi).1.2
end Go.Proofs.YtgmkjjccnlnpoaaDoor
