/-
  Opening a slice of pairs of integers.
-/
import Derived.Test.YteeoohnkfdffnaaGreatDoorFrame
import Derived.Test.YteeoohnkfdffnaaGreatDoorPolRight
namespace Go.Proofs.YteeoohnkfdffnaaGreatDoor
open Go.RowKit Go.ChangeShapes Go.WideShapes Go.Deep

theorem trod_arr2 {H : Type} {enc : TypeId × Value → H} {P : Program} {w : World} {base : Nat} {sp : Nat → Bool} {held : Bool} {k e : TypeId} {fuel : Nat} {cs : List Value} {x : DataW H × List MemPlace}
    (hu : P.underlying k = some (.array 2 e)) (he : P.underlying e = some (.int .i64)) (hc : P.cellsOf k = 2) (hc1 : P.cellsOf e = 1) (h : DataW.trod enc P w base sp held fuel k cs = some x) : ∃ a b : Int, cs = [.int .i64 a, .int .i64 b] := by
  cases fuel with
  | zero => simp [DataW.trod] at h
  | succ m =>
    rw [DataW.trod_step] at h
    unfold DataW.trodStep at h
    simp only [hu, hc, hc1] at h
    split at h
    · rename_i hl
      match cs, hl with
      | [u, v], _ =>
        simp only [Option.map_eq_some_iff] at h
        obtain ⟨ys, hy, _⟩ := h
        rw [show List.range 2 = [0, 1] from rfl, List.mapM_cons] at hy
        simp only [bind, Option.bind_eq_some_iff, List.mapM_cons, List.mapM_nil, pure] at hy
        obtain ⟨y0, h0, y1, ⟨z, h1, _⟩, _⟩ := hy
        obtain ⟨a, e0, _⟩ := DataW.trod_int he h0
        obtain ⟨b, e1, _⟩ := DataW.trod_int he h1
        simp at e0 e1
        exact ⟨a, b, by rw [e0, e1]⟩
    · cases h

/-- what a slice of pairs that came in gives -/
def IsPairs (W : World) (a : Option Addr) (len cap : Nat) (l : List (Int × Int)) : Prop := Reads W W.heap.size 2 a len (prCells l) ∧ len ≤ cap ∧ cap ≤ maxLen

theorem open_pairs {H : Type} {enc : TypeId × Value → H} {W : World} {sp : Nat → Bool} {held : Bool} {a : Option Addr} {len cap : Nat} {d : DataW H} {p : List MemPlace}
    (h : DataW.Trod enc Tryz.prog W 0 sp held 23 (.slice a len cap) d p) : ∃ l : List (Int × Int), IsPairs W a len cap l := by
  obtain ⟨fuel, hf⟩ := h
  have hc2 : Tryz.prog.cellsOf 60 = 2 := by kernel_rfl
  rcases open_slice Tryz.underlying23 hf with ⟨hcs, _⟩ | ⟨b, len', cap', m, n, D, Pl, hcs, _, hl, hm, hmm, _, hi⟩
  · simp [Value.cells] at hcs
    obtain ⟨rfl, rfl, rfl⟩ := hcs
    exact ⟨[], Reads.none_, Nat.le_refl _, Nat.zero_le _⟩
  · simp [Value.cells] at hcs
    obtain ⟨rfl, rfl, rfl⟩ := hcs
    have hlm : len ≤ m := by rw [hmm]; split <;> omega
    have hall : ∀ i, i < len → ∃ x : Int × Int, ∀ j, j < 2 → W.cell? (b.add (i * 2 + j)) = [Value.int .i64 x.1, .int .i64 x.2][j]? := by
      intro i him
      obtain ⟨cs', hc, ht'⟩ := hi i (by omega)
      rw [hc2] at hc
      obtain ⟨x, y, rfl⟩ := trod_arr2 Tryz.underlying60 Tryz.underlying3 hc2 (by kernel_rfl) ht'
      obtain ⟨_, hcl, hat⟩ := World.cells?_some hc
      refine ⟨(x, y), fun j hj => ?_⟩
      have := hat j hj
      rwa [Go.Deep.add_add] at this
    obtain ⟨l, hll, hl'⟩ := choose_list hall
    refine ⟨l, ⟨by rw [prCells_length]; omega, fun h0 => ⟨b, rfl, ?_, fun j u hu => ?_⟩⟩, hl, hm⟩
    · obtain ⟨x, hx0⟩ : ∃ x, l[0]? = some x := ⟨_, List.getElem?_eq_getElem (by omega)⟩
      have := hl' 0 x hx0 0 (by omega)
      have := World.block_lt_of_cell? W _ (this.trans rfl)
      simpa [Addr.add] using this
    · have hj : j < l.length * 2 := by rw [← prCells_length]; exact (List.getElem?_eq_some_iff.1 hu).1
      have hjl : j / 2 < l.length := by omega
      have h1 := hl' (j / 2) l[j / 2] (List.getElem?_eq_getElem hjl)
      have h2 := prCells_at l (j / 2) hjl
      rcases (by omega : j = j / 2 * 2 + 0 ∨ j = j / 2 * 2 + 1) with h3 | h3
      · have := h1 0 (by omega)
        rw [← h3] at this
        rw [this, ← hu]
        rw [Nat.add_zero] at h3
        rw [← h3] at h2
        rw [h2.1]; rfl
      · have := h1 1 (by omega)
        rw [← h3] at this
        rw [this, ← hu]
        rw [← h3] at h2
        rw [h2.2]; rfl
end Go.Proofs.YteeoohnkfdffnaaGreatDoor
