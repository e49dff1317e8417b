/-
  Opening a slice of sections.
-/
import Derived.Test.YtfdfpimilmhhoaaFrame
import Derived.Test.YtfdfpimilmhhoaaHtml
namespace Go.Proofs.Ytfdfpimilmhhoaa
open Go.RowKit Go.ChangeShapes Go.WideShapes Go.Deep

def secD {H : Type} (x : Sec) : DataW H := .agg [.lit (.int .i64 x.level), .lit (.string (L x.number)), .lit (.string (L x.anchor)), .lit (.string (L x.text))]

/-- what a slice of sections that came in gives -/
def IsSecs {H : Type} (W : World) (a : Option Addr) (len : Nat) (d : DataW H) (l : List Sec) : Prop :=
  Reads W W.heap.size 4 a len (secCells l) ∧ (l = [] ∨ ∃ spare, d = .slice (l.map secD) spare)

theorem open_secs' {H : Type} {enc : TypeId × Value → H} {W : World} {sp : Nat → Bool} {held : Bool} {a : Option Addr} {len cap : Nat} {d : DataW H} {p : List MemPlace}
    (h : DataW.Trod enc Try.prog W 0 sp held 23 (.slice a len cap) d p) : ∃ l : List Sec, IsSecs W a len d l := by
  obtain ⟨fuel, hf⟩ := h
  rcases open_slice_fields Try.underlying23 Try.underlying26 (by kernel_rfl) (by kernel_rfl) hf with ⟨hcs, hx⟩ | ⟨b, len', cap', m, D, Pl, hcs, _, hl, hm, hmm, hx, hi⟩
  · simp [Value.cells] at hcs
    obtain ⟨rfl, rfl, rfl⟩ := hcs
    exact ⟨[], Reads.none_, .inl rfl⟩
  · simp [Value.cells] at hcs
    obtain ⟨rfl, rfl, rfl⟩ := hcs
    have hlm : len ≤ m := by rw [hmm]; split <;> omega
    have hall : ∀ i, i < len → ∃ x : Sec, D i = secD x ∧ ∀ j, j < 4 → W.cell? (b.add (i * 4 + j)) = x.cells[j]? := by
      intro i him
      obtain ⟨ys, n, hD, _, hys, hf⟩ := hi i (by omega)
      obtain ⟨v0, y0, c0, g0, t0⟩ := hf 0 _ rfl
      obtain ⟨v1, y1, c1, g1, t1⟩ := hf 1 _ rfl
      obtain ⟨v2, y2, c2, g2, t2⟩ := hf 2 _ rfl
      obtain ⟨v3, y3, c3, g3, t3⟩ := hf 3 _ rfl
      obtain ⟨x0, e0, rfl, _⟩ := DataW.trod_int Try.underlying3 t0
      obtain ⟨x1, e1, rfl, _⟩ := DataW.trod_string Try.underlying9 t1
      obtain ⟨x2, e2, rfl, _⟩ := DataW.trod_string Try.underlying9 t2
      obtain ⟨x3, e3, rfl, _⟩ := DataW.trod_string Try.underlying9 t3
      simp only [List.cons.injEq, and_true] at e0 e1 e2 e3
      subst e0; subst e1; subst e2; subst e3
      refine ⟨⟨x0, x1, x2, x3⟩, ?_, fun j hj => ?_⟩
      · rw [hD]
        match ys, hys, g0, g1, g2, g3 with
        | [a0, a1, a2, a3], _, g0, g1, g2, g3 =>
          simp at g0 g1 g2 g3
          subst g0; subst g1; subst g2; subst g3
          rfl
      · match j, hj with
        | 0, _ => exact c0
        | 1, _ => exact c1
        | 2, _ => exact c2
        | 3, _ => exact c3
    obtain ⟨l, hll, hl'⟩ := choose_list hall
    refine ⟨l, ⟨by rw [secCells_length]; omega, fun h0 => ⟨b, rfl, ?_, fun j u hu => ?_⟩⟩, .inr ⟨(List.range (m - len)).map fun j => D (len + j), ?_⟩⟩
    · obtain ⟨x, hx0⟩ : ∃ x, l[0]? = some x := ⟨_, List.getElem?_eq_getElem (by omega)⟩
      have := (hl' 0 x hx0).2 0 (by omega)
      have := World.block_lt_of_cell? W _ (this.trans (show x.cells[0]? = some (.int .i64 x.level) from rfl))
      simpa [Addr.add] using this
    · have hj : j < l.length * 4 := by rw [← secCells_length]; exact (List.getElem?_eq_some_iff.1 hu).1
      obtain ⟨x, hx0⟩ : ∃ x, l[j / 4]? = some x := ⟨_, List.getElem?_eq_getElem (by omega)⟩
      have h1 := (hl' (j / 4) x hx0).2 (j % 4) (by omega)
      have h2 := secCells_get l (j / 4) (j % 4) (by omega) hx0
      have h3 : j / 4 * 4 + j % 4 = j := by omega
      rw [h3] at h1 h2
      rw [h1, ← h2, hu]
    · simp only [Prod.mk.injEq] at hx
      rw [hx.1]
      congr 1
      apply List.ext_getElem?
      intro i
      rw [List.getElem?_map, List.getElem?_map]
      by_cases hi : i < len
      · obtain ⟨x, hx0⟩ : ∃ x, l[i]? = some x := ⟨_, List.getElem?_eq_getElem (by omega)⟩
        rw [List.getElem?_range hi, hx0, Option.map_some, Option.map_some, (hl' i x hx0).1]
      · rw [List.getElem?_eq_none (by simpa using hi), List.getElem?_eq_none (by omega)]
        rfl

/-- each text is within the form's reach -/
theorem open_secs {H : Type} {enc : TypeId × Value → H} {W : World} {sp : Nat → Bool} {held : Bool} {a : Option Addr} {len cap : Nat} {d : DataW H} {p : List MemPlace}
    (h : DataW.Trod enc Try.prog W 0 sp held 23 (.slice a len cap) d p) (z : ∀ n ∈ d.weights Try.prog 23, n ≤ 140737488351232) :
    ∃ l : List Sec, Reads W W.heap.size 4 a len (secCells l) ∧ ∀ x ∈ l, x.number.size ≤ 140737488351232 ∧ x.anchor.size ≤ 140737488351232 ∧ x.text.size ≤ 140737488351232 := by
  obtain ⟨l, hr, hd⟩ := open_secs' h
  refine ⟨l, hr, fun x hx => ?_⟩
  rcases hd with rfl | ⟨spare, rfl⟩
  · cases hx
  · have key : ∀ n ∈ (secD (H := H) x).weights Try.prog 26, n ≤ 140737488351232 := fun n hn => z n (by
      simp only [DataW.weights, Try.underlying23, List.mem_cons, List.mem_append]
      exact Or.inr (Or.inl (weights_all (List.mem_map.2 ⟨x, hx, rfl⟩) n hn)))
    simp only [secD, DataW.weights, Try.underlying26] at key
    refine ⟨key _ ?_, key _ ?_, key _ ?_⟩ <;> simp [DataW.weightsEach, DataW.weights]

/-- all together are of small bulk -/
theorem open_secs_upto {H : Type} {enc : TypeId × Value → H} {W : World} {sp : Nat → Bool} {held : Bool} {a : Option Addr} {len cap : Nat} {d : DataW H} {p : List MemPlace}
    (h : DataW.Trod enc Try.prog W 0 sp held 23 (.slice a len cap) d p) (b : Rows.uptoBulk d ≤ 1048576) :
    ∃ l : List Sec, Reads W W.heap.size 4 a len (secCells l) ∧ ∀ x ∈ l, x.number.size + x.anchor.size + x.text.size ≤ 1048576 := by
  obtain ⟨l, hr, hd⟩ := open_secs' h
  refine ⟨l, hr, fun x hx => ?_⟩
  rcases hd with rfl | ⟨spare, rfl⟩
  · cases hx
  · have h1 := bulk_all (List.mem_map.2 ⟨x, hx, rfl⟩ : secD (H := H) x ∈ l.map secD)
    simp only [Rows.uptoBulk] at b
    simp only [secD, Rows.uptoBulk, Rows.uptoBulkAll, length_L] at h1
    omega
end Go.Proofs.Ytfdfpimilmhhoaa
