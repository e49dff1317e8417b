/-
  Parts in memory: a row of parts, each with a row of lines of its own.
-/
import Derived.Test.YtgmkjjccnlnpoaaDoorFrameOpen
namespace Go.Proofs.YtgmkjjccnlnpoaaDoor
open Go.RowKit

/-- a part -/
structure PartT where
  depth : Int
  div : Bool
  label : ByteArray
  opn : Bool
  lines : List ByteArray
  deriving DecidableEq
/-- a part, and where its lines lie -/
structure PartR where
  t : PartT
  la : Option Addr
  lc : Nat
def PartR.cells (p : PartR) : List Value := [.int .i64 p.t.depth, .bool p.t.div, .string p.t.label, .bool p.t.opn, .slice p.la p.t.lines.length p.lc]
def partCells (ps : List PartR) : List Value := ps.flatMap PartR.cells
theorem part_len (p : PartR) : p.cells.length = 5 := rfl
theorem parts_length (ps : List PartR) : (partCells ps).length = ps.length * 5 := flat_length _ 5 part_len ps
theorem partCells_app (a b : List PartR) : partCells (a ++ b) = partCells a ++ partCells b := by simp [partCells]

/-- the rows of the parts' lines -/
def LinesIn (w : World) (base : Nat) (ps : List PartR) : Prop := (∀ p ∈ ps, Own w base 9 1 p.la p.t.lines.length p.lc (txCells p.t.lines)) ∧ ps.Pairwise (fun p q => Sep p.la q.la)
def Parts (w : World) (base : Nat) (A : Option Addr) (n c : Nat) (ps : List PartR) : Prop := Own w base 42 5 A n c (partCells ps) ∧ LinesIn w base ps

theorem Tryd.infoPart : (Tryd.prog.info? 42).map (fun i => (i.zero, i.size, i.bytes)) = some (some (.agg #[.int .i64 0, .bool false, .string ⟨#[]⟩, .bool false, .slice none 0 0]), 5, 64) := by kernel_rfl
theorem Tryd.elParts : Elem Tryd.prog 35 42 5 64 := Elem.mk' Tryd.underlying35 Tryd.infoPart rfl (by decide)
theorem Tryd.elInts : Elem Tryd.prog 60 3 1 8 := Elem.mk' (z := .int .i64 0) Tryd.underlying60 (by kernel_rfl) rfl (by decide)

theorem LinesIn.only {w w' : World} {base : Nat} {ps : List PartR} {B : Option Addr} (h : LinesIn w base ps) (ho : Only w w' B) (hs : ∀ p ∈ ps, Sep p.la B) : LinesIn w' base ps := ⟨fun p hp => (h.1 p hp).only ho (hs p hp), h.2⟩
theorem LinesIn.below {w w' : World} {base K : Nat} {ps : List PartR} (h : LinesIn w base ps) (hb : Below K w w') (hK : w.heap.size ≤ K) : LinesIn w' base ps := ⟨fun p hp => (h.1 p hp).below hb hK, h.2⟩
theorem LinesIn.alloc {w : World} {base : Nat} {ps : List PartR} (h : LinesIn w base ps) (o : Obj) : LinesIn (w.alloc o) base ps := ⟨fun p hp => (h.1 p hp).alloc o, h.2⟩
theorem Parts.nil (w : World) (base : Nat) : Parts w base none 0 0 [] := ⟨Own.nil _ _ _ _, by simp, .nil⟩
theorem Parts.len {w : World} {base n c : Nat} {A : Option Addr} {ps : List PartR} (h : Parts w base A n c ps) : ps.length = n := by have := h.1.len; rw [parts_length] at this; omega
theorem Parts.below {w w' : World} {base K n c : Nat} {A : Option Addr} {ps : List PartR} (h : Parts w base A n c ps) (hb : Below K w w') (hK : w.heap.size ≤ K) : Parts w' base A n c ps := ⟨h.1.below hb hK, h.2.below hb hK⟩
theorem Parts.alloc {w : World} {base n c : Nat} {A : Option Addr} {ps : List PartR} (h : Parts w base A n c ps) (o : Obj) : Parts (w.alloc o) base A n c ps := ⟨h.1.alloc o, h.2.alloc o⟩
theorem Parts.sep {w : World} {base n c : Nat} {A : Option Addr} {ps : List PartR} (h : Parts w base A n c ps) : ∀ p ∈ ps, Sep p.la A := fun p hp => (h.2.1 p hp).sep_ne h.1 (by decide)

/-- the world turned in another own row alone -/
theorem Parts.only {w w' : World} {base n c base' e' size' n' c' : Nat} {A B : Option Addr} {ps : List PartR} {ys : List Value} (h : Parts w base A n c ps) (hB : Own w base' e' size' B n' c' ys) (ho : Only w w' B)
    (h1 : 42 ≠ e') (h2 : 9 ≠ e') : Parts w' base A n c ps :=
  ⟨h.1.only ho (h.1.sep_ne hB h1), h.2.only ho (fun p hp => (h.2.1 p hp).sep_ne hB h2)⟩

/-- a part more: 'w': ahead of the append; its own lines' row lies already -/
theorem Parts.push {w w' : World} {base n c n' c' : Nat} {A A' : Option Addr} {ps : List PartR} {q : PartR} (h : Parts w base A n c ps) (hq : Own w base 9 1 q.la q.t.lines.length q.lc (txCells q.t.lines)) (hs : ∀ p ∈ ps, Sep p.la q.la)
    (ho : Only w w' A) (hr : Own w' base 42 5 A' n' c' (partCells ps ++ q.cells)) : Parts w' base A' n' c' (ps ++ [q]) := by
  refine ⟨by rw [partCells_app]; simpa [partCells] using hr, ?_, ?_⟩
  · intro p hp
    rcases List.mem_append.1 hp with hp | hp
    · exact (h.2.1 p hp).only ho (h.sep p hp)
    · rw [List.mem_singleton.1 hp]
      exact hq.only ho (hq.sep_ne h.1 (by decide))
  · rw [List.pairwise_append]
    exact ⟨h.2.2, List.pairwise_singleton _ _, fun p hp q' hq' => by rw [List.mem_singleton.1 hq']; exact hs p hp⟩

/-- the part at i, as the walk reads it -/
theorem Parts.cells_at {w : World} {base n c g : Nat} {ps : List PartR} (h : Parts w base (some ⟨g, 0, none⟩) n c ps) {i : Nat} {p : PartR} (hp : ps[i]? = some p) :
    w.cell? ⟨g, i * 5, none⟩ = some (.int .i64 p.t.depth) ∧ w.cell? ⟨g, i * 5 + 1, none⟩ = some (.bool p.t.div) ∧ w.cell? ⟨g, i * 5 + 2, none⟩ = some (.string p.t.label) ∧ w.cell? ⟨g, i * 5 + 3, none⟩ = some (.bool p.t.opn) ∧ w.cell? ⟨g, i * 5 + 4, none⟩ = some (.slice p.la p.t.lines.length p.lc) := by
  have k := fun j (hj : j < 5) => flat_get PartR.cells 5 part_len ps i j hj hp
  exact ⟨h.1.cell ((k 0 (by omega)).trans rfl), h.1.cell ((k 1 (by omega)).trans rfl), h.1.cell ((k 2 (by omega)).trans rfl), h.1.cell ((k 3 (by omega)).trans rfl), h.1.cell ((k 4 (by omega)).trans rfl)⟩

/-- a part is shut -/
theorem Parts.shut {w : World} {base n c g : Nat} {ps : List PartR} (h : Parts w base (some ⟨g, 0, none⟩) n c ps) {i : Nat} {p : PartR} (hp : ps[i]? = some p) (v : Bool) :
    Parts (w.setCell ⟨g, i * 5 + 3, none⟩ (.bool v)) base (some ⟨g, 0, none⟩) n c (ps.set i { p with t := { p.t with opn := v } }) := by
  have hst := h.1.stored (i * 5 + 3) (.bool v)
  have he : (partCells ps).set (i * 5 + 3) (.bool v) = partCells (ps.set i { p with t := { p.t with opn := v } }) := flat_set PartR.cells 5 part_len ps i 3 (by omega) hp rfl
  rw [he] at hst
  have hL := h.2.only (only_setCell w g (i * 5 + 3) (.bool v)) h.sep
  refine ⟨hst, ?_, ?_⟩
  · intro q hq
    rcases List.mem_or_eq_of_mem_set hq with hq | rfl
    · exact hL.1 q hq
    · exact hL.1 p (List.mem_of_getElem? hp)
  · have : (ps.set i { p with t := { p.t with opn := v } }).Pairwise (fun p q => Sep p.la q.la) := by
      have h2 := h.2.2
      rw [List.pairwise_iff_getElem] at h2 ⊢
      intro a b ha hb hab
      have ha' : a < ps.length := by simpa using ha
      have hb' : b < ps.length := by simpa using hb
      have := h2 a b ha' hb' hab
      obtain ⟨hi, hpe⟩ := List.getElem?_eq_some_iff.1 hp
      rw [List.getElem_set, List.getElem_set]
      split <;> split <;> simp_all
    exact this

/-- a line more in the last part: the append to its row, then the store -/
theorem Parts.line {w w1 : World} {base n c g c1 : Nat} {A1 : Option Addr} {ini : List PartR} {p : PartR} {s : ByteArray} (h : Parts w base (some ⟨g, 0, none⟩) n c (ini ++ [p]))
    (ho : Only w w1 p.la) (hm : Moved w p.la A1) (hr : Own w1 base 9 1 A1 (p.t.lines.length + 1) c1 (txCells p.t.lines ++ [.string s])) :
    Parts (w1.setCell ⟨g, ini.length * 5 + 4, none⟩ (.slice A1 (p.t.lines.length + 1) c1)) base (some ⟨g, 0, none⟩) n c (ini ++ [⟨{ p.t with lines := p.t.lines ++ [s] }, A1, c1⟩]) := by
  have hsp := h.sep p (by simp)
  have hrow : Own w1 base 42 5 (some ⟨g, 0, none⟩) n c (partCells (ini ++ [p])) := h.1.only ho hsp.symm
  have hpw := h.2.2
  rw [List.pairwise_append] at hpw
  have hst := hrow.stored (ini.length * 5 + 4) (.slice A1 (p.t.lines.length + 1) c1)
  have he : (partCells (ini ++ [p])).set (ini.length * 5 + 4) (.slice A1 (p.t.lines.length + 1) c1) = partCells (ini ++ [⟨{ p.t with lines := p.t.lines ++ [s] }, A1, c1⟩]) := by
    have := flat_set PartR.cells 5 part_len (ini ++ [p]) ini.length 4 (by omega) (x := p) (x' := ⟨{ p.t with lines := p.t.lines ++ [s] }, A1, c1⟩) (v := .slice A1 (p.t.lines.length + 1) c1) (by simp) (by simp [PartR.cells])
    unfold partCells
    rw [this]
    simp
  rw [he] at hst
  have hlt : ∀ q ∈ ini ++ [p], ∀ a, q.la = some a → a.block < w.heap.size := fun q hq a ha => ((h.2.1 q hq).lt ha).2
  refine ⟨hst, ?_, ?_⟩
  · intro q hq
    rcases List.mem_append.1 hq with hq | hq
    · have h1 := (h.2.1 q (by simp [hq])).only ho (hpw.2.2 q hq p (by simp))
      exact h1.only (only_setCell w1 g _ _) (h.sep q (by simp [hq]))
    · rw [List.mem_singleton.1 hq]
      have h1 : Own w1 base 9 1 A1 (p.t.lines ++ [s]).length c1 (txCells (p.t.lines ++ [s])) := by simpa [txCells] using hr
      exact h1.only (only_setCell w1 g _ _) (h1.sep_ne hrow (by decide))
  · rw [List.pairwise_append]
    refine ⟨hpw.1, List.pairwise_singleton _ _, fun q hq q' hq' => ?_⟩
    rw [List.mem_singleton.1 hq']
    exact ((hpw.2.2 q hq p (by simp)).symm.moved hm (K := w.heap.size) (fun b hb => hlt q (by simp [hq]) b hb) (Nat.le_refl _)).symm
end Go.Proofs.YtgmkjjccnlnpoaaDoor
