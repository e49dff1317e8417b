/-
  Opening a slice of nodes, and a slice of items.
-/
import Derived.Test.YtfdfpimilmhhoaaFrame
import Derived.Test.YtfdfpimilmhhoaaGroup
import Derived.OpenShut
namespace Go.Proofs.Ytfdfpimilmhhoaa
open Go.RowKit Go.ChangeShapes Go.WideShapes Go.Deep

def inlD {H : Type} (x : Inl) : DataW H := .agg [.lit (.int .i64 x.kind), .lit (.int .i64 x.depth), .lit (.string (L x.text)), .lit (.string (L x.url)), .lit (.string (L x.title))]
def inlWf (x : Inl) : Prop := (Lit.int .i64 x.kind).wf = true ∧ (Lit.int .i64 x.depth).wf = true

theorem inls_length (l : List Inl) : (inlCells l).length = l.length * 5 := flat_length _ 5 inl_len l

/-- what a slice of nodes that came in gives -/
def IsInls {H : Type} (W : World) (a : Option Addr) (len : Nat) (d : DataW H) (l : List Inl) : Prop :=
  Reads W W.heap.size 5 a len (inlCells l) ∧ (∀ x ∈ l, inlWf x) ∧ (l = [] ∨ ∃ spare, d = .slice (l.map inlD) spare)

theorem open_inls_f {H : Type} {enc : TypeId × Value → H} {W : World} {sp : Nat → Bool} {held : Bool} {fuel : Nat} {cs : List Value} {y : DataW H × List MemPlace}
    (hf : DataW.trod enc Try.prog W 0 sp held fuel 51 cs = some y) : ∃ a len cap, ∃ l : List Inl, cs = [.slice a len cap] ∧ IsInls W a len y.1 l := by
  rcases open_slice_fields Try.underlying51 Try.underlying95 (by kernel_rfl) (by kernel_rfl) hf with ⟨hcs, hx⟩ | ⟨b, len', cap', m, D, Pl, hcs, _, hl, hm, hmm, hx, hi⟩
  · exact ⟨none, 0, 0, [], hcs, Reads.none_, by simp, .inl rfl⟩
  · have hlm : len' ≤ m := by rw [hmm]; split <;> omega
    have hall : ∀ i, i < len' → ∃ x : Inl, D i = inlD x ∧ inlWf x ∧ ∀ j, j < 5 → W.cell? (b.add (i * 5 + j)) = x.cells[j]? := by
      intro i him
      obtain ⟨ys, n, hD, _, hys, hf⟩ := hi i (by omega)
      obtain ⟨v0, y0, c0, g0, t0⟩ := hf 0 _ rfl
      obtain ⟨v1, y1, c1, g1, t1⟩ := hf 1 _ rfl
      obtain ⟨v2, y2, c2, g2, t2⟩ := hf 2 _ rfl
      obtain ⟨v3, y3, c3, g3, t3⟩ := hf 3 _ rfl
      obtain ⟨v4, y4, c4, g4, t4⟩ := hf 4 _ rfl
      obtain ⟨x0, e0, rfl, f0⟩ := DataW.trod_int Try.underlying3 t0
      obtain ⟨x1, e1, rfl, f1⟩ := DataW.trod_int Try.underlying3 t1
      obtain ⟨x2, e2, rfl, _⟩ := DataW.trod_string Try.underlying9 t2
      obtain ⟨x3, e3, rfl, _⟩ := DataW.trod_string Try.underlying9 t3
      obtain ⟨x4, e4, rfl, _⟩ := DataW.trod_string Try.underlying9 t4
      simp only [List.cons.injEq, and_true] at e0 e1 e2 e3 e4
      subst e0; subst e1; subst e2; subst e3; subst e4
      refine ⟨⟨x0, x1, x2, x3, x4⟩, ?_, ⟨f0, f1⟩, fun j hj => ?_⟩
      · rw [hD]
        match ys, hys, g0, g1, g2, g3, g4 with
        | [a0, a1, a2, a3, a4], _, g0, g1, g2, g3, g4 =>
          simp at g0 g1 g2 g3 g4
          subst g0; subst g1; subst g2; subst g3; subst g4
          rfl
      · match j, hj with
        | 0, _ => exact c0
        | 1, _ => exact c1
        | 2, _ => exact c2
        | 3, _ => exact c3
        | 4, _ => exact c4
    obtain ⟨l, hll, hl'⟩ := choose_list hall
    refine ⟨some b, len', cap', l, hcs, ⟨by rw [inls_length]; omega, fun h0 => ⟨b, rfl, ?_, fun j u hu => ?_⟩⟩, ?_, .inr ⟨(List.range (m - len')).map fun j => D (len' + j), ?_⟩⟩
    · obtain ⟨x, hx0⟩ : ∃ x, l[0]? = some x := ⟨_, List.getElem?_eq_getElem (by omega)⟩
      have := (hl' 0 x hx0).2.2 0 (by omega)
      have := World.block_lt_of_cell? W _ (this.trans (show x.cells[0]? = some (.int .i64 x.kind) from rfl))
      simpa [Addr.add] using this
    · have hj : j < l.length * 5 := by rw [← inls_length]; exact (List.getElem?_eq_some_iff.1 hu).1
      obtain ⟨x, hx0⟩ : ∃ x, l[j / 5]? = some x := ⟨_, List.getElem?_eq_getElem (by omega)⟩
      have h1 := (hl' (j / 5) x hx0).2.2 (j % 5) (by omega)
      have h2 := flat_get Inl.cells 5 inl_len l (j / 5) (j % 5) (by omega) hx0
      have h3 : j / 5 * 5 + j % 5 = j := by omega
      rw [h3] at h1 h2
      rw [h1, ← h2, hu]
    · intro x hx
      obtain ⟨i, hi⟩ := List.getElem?_of_mem hx
      exact (hl' i x hi).2.1
    · subst hx
      simp only
      congr 1
      apply List.ext_getElem?
      intro i
      rw [List.getElem?_map, List.getElem?_map]
      by_cases hi : i < len'
      · obtain ⟨x, hx0⟩ : ∃ x, l[i]? = some x := ⟨_, List.getElem?_eq_getElem (by omega)⟩
        rw [List.getElem?_range hi, hx0, Option.map_some, Option.map_some, (hl' i x hx0).1]
      · rw [List.getElem?_eq_none (by simpa using hi), List.getElem?_eq_none (by omega)]
        rfl

theorem open_inls' {H : Type} {enc : TypeId × Value → H} {W : World} {sp : Nat → Bool} {held : Bool} {a : Option Addr} {len cap : Nat} {d : DataW H} {p : List MemPlace}
    (h : DataW.Trod enc Try.prog W 0 sp held 51 (.slice a len cap) d p) : ∃ l : List Inl, IsInls W a len d l := by
  obtain ⟨fuel, hf⟩ := h
  obtain ⟨a', len', cap', l, hcs, hl⟩ := open_inls_f hf
  simp [Value.cells] at hcs
  obtain ⟨rfl, rfl, rfl⟩ := hcs
  exact ⟨l, hl⟩

def inlSmall (m : Nat) (x : Inl) : Prop := x.text.size ≤ m ∧ x.url.size ≤ m ∧ x.title.size ≤ m
/-- each text is within the form's reach -/
theorem inls_weights {H : Type} {W : World} {a : Option Addr} {len : Nat} {d : DataW H} {l : List Inl} (h : IsInls W a len d l) (z : ∀ n ∈ d.weights Try.prog 51, n ≤ 140737488351232) : ∀ x ∈ l, inlSmall 140737488351232 x := by
  obtain ⟨hr, _, hd⟩ := h
  intro x hx
  rcases hd with rfl | ⟨spare, rfl⟩
  · cases hx
  · have key : ∀ n ∈ (inlD (H := H) x).weights Try.prog 95, n ≤ 140737488351232 := fun n hn => z n (by
      simp only [DataW.weights, Try.underlying51, List.mem_cons, List.mem_append]
      exact Or.inr (Or.inl (weights_all (List.mem_map.2 ⟨x, hx, rfl⟩) n hn)))
    simp only [inlD, DataW.weights, Try.underlying95] at key
    refine ⟨key _ ?_, key _ ?_, key _ ?_⟩ <;> simp [DataW.weightsEach, DataW.weights]
theorem open_inls {H : Type} {enc : TypeId × Value → H} {W : World} {sp : Nat → Bool} {held : Bool} {a : Option Addr} {len cap : Nat} {d : DataW H} {p : List MemPlace}
    (h : DataW.Trod enc Try.prog W 0 sp held 51 (.slice a len cap) d p) (z : ∀ n ∈ d.weights Try.prog 51, n ≤ 140737488351232) :
    ∃ l : List Inl, Reads W W.heap.size 5 a len (inlCells l) ∧ (∀ x ∈ l, inlWf x) ∧ ∀ x ∈ l, inlSmall 140737488351232 x := by
  obtain ⟨l, hl⟩ := open_inls' h
  exact ⟨l, hl.1, hl.2.1, inls_weights hl z⟩
theorem bulk_sum {H : Type} (l : List Inl) : txtLen l + l.length ≤ Rows.uptoBulkAll (l.map (inlD (H := H))) := by
  induction l with
  | nil => simp [txtLen]
  | cons x l ih => simp only [txtLen, List.map_cons, List.sum_cons, Rows.uptoBulkAll, List.length_cons, inlD, Rows.uptoBulk, length_L] at *; omega
/-- all together are of small bulk -/
theorem open_inls_upto {H : Type} {enc : TypeId × Value → H} {W : World} {sp : Nat → Bool} {held : Bool} {a : Option Addr} {len cap : Nat} {d : DataW H} {p : List MemPlace}
    (h : DataW.Trod enc Try.prog W 0 sp held 51 (.slice a len cap) d p) (b : Rows.uptoBulk d ≤ 1048576) :
    ∃ l : List Inl, Reads W W.heap.size 5 a len (inlCells l) ∧ (∀ x ∈ l, inlWf x) ∧ txtLen l + l.length ≤ 1048576 := by
  obtain ⟨l, hr, hw, hd⟩ := open_inls' h
  refine ⟨l, hr, hw, ?_⟩
  rcases hd with rfl | ⟨spare, rfl⟩
  · simp [txtLen]
  · have := bulk_sum (H := H) l
    simp only [Rows.uptoBulk] at b
    omega

/-! ## items -/
def itemD {H : Type} (x : Pc) (dl : DataW H) : DataW H := .agg [.lit (.int .u8 (x.sign.toNat : Int)), .lit (.int .i64 x.n), .lit (.bool x.opn), .lit (.bool x.cls), dl]
def itemOk {H : Type} (W : World) (x : Pc) (D : DataW H) : Prop := (Lit.int .i64 x.n).wf = true ∧ x.left = max x.n 0 ∧ x.shut = false ∧ ∃ dl, D = itemD x dl ∧ IsInls W x.A x.ln dl x.l
/-- what a slice of items that came in gives -/
def IsItems {H : Type} (W : World) (a : Option Addr) (len : Nat) (d : DataW H) (l : List Pc) : Prop :=
  Reads W W.heap.size 5 a len (l.flatMap itCells) ∧ (l = [] ∨ ∃ (ds spare : List (DataW H)), d = .slice ds spare ∧ ∀ (i : Nat) (x : Pc), l[i]? = some x → ∃ D, ds[i]? = some D ∧ itemOk W x D)
theorem items_length (l : List Pc) : (l.flatMap itCells).length = l.length * 5 := flat_length _ 5 it_len l

theorem open_items' {H : Type} {enc : TypeId × Value → H} {W : World} {sp : Nat → Bool} {held : Bool} {a : Option Addr} {len cap : Nat} {d : DataW H} {p : List MemPlace}
    (h : DataW.Trod enc Try.prog W 0 sp held 50 (.slice a len cap) d p) : ∃ l : List Pc, IsItems W a len d l := by
  obtain ⟨fuel, hf⟩ := h
  rcases open_slice_fields Try.underlying50 Try.underlying54 (by kernel_rfl) (by kernel_rfl) hf with ⟨hcs, hx⟩ | ⟨b, len', cap', m, D, Pl, hcs, _, hl, hm, hmm, hx, hi⟩
  · simp [Value.cells] at hcs
    obtain ⟨rfl, rfl, rfl⟩ := hcs
    exact ⟨[], Reads.none_, .inl rfl⟩
  · simp [Value.cells] at hcs
    obtain ⟨rfl, rfl, rfl⟩ := hcs
    have hlm : len ≤ m := by rw [hmm]; split <;> omega
    have hall : ∀ i, i < len → ∃ x : Pc, itemOk W x (D i) ∧ ∀ j, j < 5 → W.cell? (b.add (i * 5 + j)) = (itCells x)[j]? := by
      intro i him
      obtain ⟨ys, n, hD, _, hys, hf⟩ := hi i (by omega)
      obtain ⟨v0, y0, c0, g0, t0⟩ := hf 0 _ rfl
      obtain ⟨v1, y1, c1, g1, t1⟩ := hf 1 _ rfl
      obtain ⟨v2, y2, c2, g2, t2⟩ := hf 2 _ rfl
      obtain ⟨v3, y3, c3, g3, t3⟩ := hf 3 _ rfl
      obtain ⟨v4, y4, c4, g4, t4⟩ := hf 4 _ rfl
      obtain ⟨x0, e0, rfl, f0⟩ := DataW.trod_int Try.underlying5 t0
      obtain ⟨x1, e1, rfl, f1⟩ := DataW.trod_int Try.underlying3 t1
      obtain ⟨x2, e2, rfl⟩ := DataW.trod_bool Try.underlying4 t2
      obtain ⟨x3, e3, rfl⟩ := DataW.trod_bool Try.underlying4 t3
      obtain ⟨A, ln, cp, l, e4, hl⟩ := open_inls_f t4
      have f0' := (by have := f0; simp [Lit.wf, IntKind.min, IntKind.max, IntKind.signed, IntKind.bits] at this; omega : 0 ≤ x0 ∧ x0 ≤ 255)
      simp only [List.cons.injEq, and_true] at e0 e1 e2 e3 e4
      subst e0; subst e1; subst e2; subst e3; subst e4
      have hu : (((UInt8.ofNat x0.toNat).toNat : Nat) : Int) = x0 := by
        rw [UInt8.toNat_ofNat']; omega
      refine ⟨⟨UInt8.ofNat x0.toNat, x1, x2, x3, A, ln, cp, l, max x1 0, false⟩, ⟨f1, rfl, rfl, y4.1, ?_, hl⟩, fun j hj => ?_⟩
      · rw [hD]
        match ys, hys, g0, g1, g2, g3, g4 with
        | [a0, a1, a2, a3, a4], _, g0, g1, g2, g3, g4 =>
          simp at g0 g1 g2 g3 g4
          subst g0; subst g1; subst g2; subst g3; subst g4
          simp only [itemD, hu, List.map_cons, List.map_nil]
      · match j, hj with
        | 0, _ => exact c0.trans (by simp only [itCells, hu]; rfl)
        | 1, _ => exact c1
        | 2, _ => exact c2
        | 3, _ => exact c3
        | 4, _ => exact c4
    obtain ⟨l, hll, hl'⟩ := choose_list hall
    refine ⟨l, ⟨by rw [items_length]; omega, fun h0 => ⟨b, rfl, ?_, fun j u hu => ?_⟩⟩, .inr ⟨_, _, by rw [Prod.mk.injEq] at hx; exact hx.1, fun i x hx0 => ?_⟩⟩
    · obtain ⟨x, hx0⟩ : ∃ x, l[0]? = some x := ⟨_, List.getElem?_eq_getElem (by omega)⟩
      have := (hl' 0 x hx0).2 0 (by omega)
      have := World.block_lt_of_cell? W _ (this.trans (show (itCells x)[0]? = some (.int .u8 (x.sign.toNat : Int)) from rfl))
      simpa [Addr.add] using this
    · have hj : j < l.length * 5 := by rw [← items_length]; exact (List.getElem?_eq_some_iff.1 hu).1
      obtain ⟨x, hx0⟩ : ∃ x, l[j / 5]? = some x := ⟨_, List.getElem?_eq_getElem (by omega)⟩
      have h1 := (hl' (j / 5) x hx0).2 (j % 5) (by omega)
      have h2 := flat_get itCells 5 it_len l (j / 5) (j % 5) (by omega) hx0
      have h3 : j / 5 * 5 + j % 5 = j := by omega
      rw [h3] at h1 h2
      rw [h1, ← h2, hu]
    · refine ⟨D i, ?_, (hl' i x hx0).1⟩
      have : i < len := by rw [← hll]; exact (List.getElem?_eq_some_iff.1 hx0).1
      rw [List.getElem?_map, List.getElem?_range this]; rfl

/-- each item: where its nodes lie -/
def itemFit (W : World) (x : Pc) : Prop := (Lit.int .i64 x.n).wf = true ∧ x.left = max x.n 0 ∧ x.shut = false ∧ Reads W W.heap.size 5 x.A x.ln (inlCells x.l) ∧ ∀ y ∈ x.l, inlWf y
theorem open_items {H : Type} {enc : TypeId × Value → H} {W : World} {sp : Nat → Bool} {held : Bool} {a : Option Addr} {len cap : Nat} {d : DataW H} {p : List MemPlace}
    (h : DataW.Trod enc Try.prog W 0 sp held 50 (.slice a len cap) d p) : ∃ l : List Pc, Reads W W.heap.size 5 a len (l.flatMap itCells) ∧ ∀ x ∈ l, itemFit W x := by
  obtain ⟨l, hr, hd⟩ := open_items' h
  refine ⟨l, hr, fun x hx => ?_⟩
  rcases hd with rfl | ⟨ds, spare, rfl, hd⟩
  · cases hx
  · obtain ⟨i, hi⟩ := List.getElem?_of_mem hx
    obtain ⟨D, _, h1, h2, h3, dl, _, h4, h5, _⟩ := hd i x hi
    exact ⟨h1, h2, h3, h4, h5⟩
end Go.Proofs.Ytfdfpimilmhhoaa
