/-
  (*veil.Seer).Veil as plain Lean, and the depths on its way.
-/
import Derived.Test.YteeoohnkfdffnaaGreatDoorVeilLine
import Derived.Test.YteeoohnkfdffnaaGreatDoorDepthsLaw
import Derived.Test.YteeoohnkfdffnaaGreatDoorWriteLaw
import Derived.Test.YteeoohnkfdffnaaGreatDoorRepair
namespace Go.Proofs.YteeoohnkfdffnaaGreatDoor
open Go.RowKit
set_option linter.unusedVariables false

/-- how far it is veiled: what is kept, the labels above, the depth that is hidden -/
structure VeS where
  out : List PartT
  under : List ByteArray
  hid : Int
def skipT (st : VeS) (p : PartT) : Bool := decide (0 ≤ st.hid) && decide (st.hid < p.depth)
def openU (st : VeS) (p : PartT) : List ByteArray := st.under.take p.depth.toNat ++ (if p.div then [p.label] else [])
def veilP (s : SeerT) (u : List ByteArray) (p : PartT) : PartT := { p with lines := p.lines.map fun l => lineT s l u }
def veStep (s : SeerT) (st : VeS) (p : PartT) : VeS :=
  if skipT st p then st
  else ⟨st.out ++ [veilP s (openU st p) p], openU st p, if p.div && !seesT s (openU st p) then p.depth else -1⟩
def veFold (s : SeerT) (ps : List PartT) : VeS := ps.foldl (veStep s) ⟨[], [], -1⟩
def partsOf (text : ByteArray) : List PartT := (frT (linesB (S (repT text)))).out
def veilT (s : SeerT) (text : ByteArray) : ByteArray := S (joinT ((write6 (veFold s (partsOf text)).out).map L))

theorem veFold_take (s : SeerT) {ps : List PartT} {k : Nat} {p : PartT} (h : ps[k]? = some p) : veFold s (ps.take (k + 1)) = veStep s (veFold s (ps.take k)) p := by
  unfold veFold
  rw [List.take_add_one, h, Option.toList_some, List.foldl_append]; rfl

/-- the depths fit the labels above -/
def VeDep (st : VeS) (last : Option PartT) : Prop :=
  (0 ≤ st.hid → (st.under.length : Int) = st.hid + 1) ∧ (st.hid < 0 → match last with | none => st.under = [] | some q => (st.under.length : Int) = q.depth + if q.div then 1 else 0)
/-- how deep a part may lie behind another -/
def fitsT : Option PartT → Int → Prop
  | none, d => d = 0
  | some q, d => d ≤ q.depth + if q.div then 1 else 0
theorem veDep_room {st : VeS} {last : Option PartT} (h : VeDep st last) {p : PartT} (h0 : 0 ≤ p.depth) (hn : fitsT last p.depth) (hs : skipT st p = false) :
    p.depth.toNat ≤ st.under.length := by
  unfold skipT at hs
  rcases Int.lt_or_le st.hid 0 with hh | hh
  · have := h.2 hh
    cases last with
    | none =>
      have hn2 : p.depth = 0 := hn
      omega
    | some q =>
      have hn2 : p.depth ≤ q.depth + if q.div then 1 else 0 := hn
      simp only at this
      omega
  · have := h.1 hh
    have h2 : ¬ st.hid < p.depth := by
      intro hc
      rw [decide_eq_true hh, decide_eq_true hc] at hs
      cases hs
    omega
theorem veDep_step (s : SeerT) {st : VeS} {last : Option PartT} (h : VeDep st last) {p : PartT} (h0 : 0 ≤ p.depth) (hn : fitsT last p.depth) : VeDep (veStep s st p) (some p) := by
  have hr := veDep_room h h0 hn
  unfold veStep
  cases hs : skipT st p
  · have hr := hr hs
    have hu : ((openU st p).length : Int) = p.depth + if p.div then 1 else 0 := by
      unfold openU
      rw [List.length_append, List.length_take, Nat.min_eq_left hr]
      cases p.div <;> simp <;> omega
    simp only [Bool.false_eq_true, if_false]
    cases hd : p.div && !seesT s (openU st p)
    · simp only [Bool.false_eq_true, if_false]
      exact ⟨fun hc => by simp at hc, fun _ => hu⟩
    · simp only [if_true]
      have hdiv : p.div = true := by simp at hd; exact hd.1
      rw [hdiv] at hu
      exact ⟨fun _ => by simpa using hu, fun hc => by simp only at hc; omega⟩
  · simp only [if_true]
    have hh : 0 ≤ st.hid := by
      unfold skipT at hs
      simp at hs
      exact hs.1
    exact ⟨h.1, fun hc => by omega⟩
/-- no part more -/
theorem veOut_len (s : SeerT) (st : VeS) (p : PartT) : (veStep s st p).out.length ≤ st.out.length + 1 := by
  unfold veStep
  split
  · omega
  · simp
end Go.Proofs.YteeoohnkfdffnaaGreatDoor
