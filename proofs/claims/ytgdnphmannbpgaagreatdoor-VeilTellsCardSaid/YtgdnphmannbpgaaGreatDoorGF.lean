/- Joined texts: VeilSpec, VeilDep, VeilMem, VeilSize. -/
import Derived.Test.YtgdnphmannbpgaaGreatDoorGK
import Derived.Test.YtgdnphmannbpgaaGreatDoorGG
import Derived.Test.YtgdnphmannbpgaaGreatDoorGH
import Derived.Test.YtgdnphmannbpgaaGreatDoorGI
/-
  (*veil.Seer).Veil as plain Lean, and the depths on its way.
-/
namespace Go.Proofs.YtgdnphmannbpgaaGreatDoor
open Go.RowKit
set_option linter.unusedVariables false

/-- how far it is veiled: what is kept, the labels above, the depth that is hidden -/
structure VeS where
  out : List PartT
  under : List ByteArray
  hid : Int
def skipT (st : VeS) (p : PartT) : Bool := decide (0 ≤ st.hid) && decide (st.hid < p.depth)
def openU (st : VeS) (p : PartT) : List ByteArray := st.under.take p.depth.toNat ++ (if p.div then [p.label] else [])
def veilP (s : SeerT) (u : List ByteArray) (p : PartT) : PartT := { p with lines := p.lines.map fun l => lineT s l u }
def veStep (s : SeerT) (st : VeS) (p : PartT) : VeS :=
  if skipT st p then st
  else ⟨st.out ++ [veilP s (openU st p) p], openU st p, if p.div && !seesT s (openU st p) then p.depth else -1⟩
def veFold (s : SeerT) (ps : List PartT) : VeS := ps.foldl (veStep s) ⟨[], [], -1⟩
def partsOf (text : ByteArray) : List PartT := (frT (linesB (S (repT text)))).out
def veilT (s : SeerT) (text : ByteArray) : ByteArray := S (joinT ((write6 (veFold s (partsOf text)).out).map L))

theorem veFold_take (s : SeerT) {ps : List PartT} {k : Nat} {p : PartT} (h : ps[k]? = some p) : veFold s (ps.take (k + 1)) = veStep s (veFold s (ps.take k)) p := by
  unfold veFold
  rw [List.take_add_one, h, Option.toList_some, List.foldl_append]; rfl

/-- the depths fit the labels above -/
def VeDep (st : VeS) (last : Option PartT) : Prop :=
  (0 ≤ st.hid → (st.under.length : Int) = st.hid + 1) ∧ (st.hid < 0 → match last with | none => st.under = [] | some q => (st.under.length : Int) = q.depth + if q.div then 1 else 0)
/-- how deep a part may lie behind another -/
def fitsT : Option PartT → Int → Prop
  | none, d => d = 0
  | some q, d => d ≤ q.depth + if q.div then 1 else 0
theorem veDep_room {st : VeS} {last : Option PartT} (h : VeDep st last) {p : PartT} (h0 : 0 ≤ p.depth) (hn : fitsT last p.depth) (hs : skipT st p = false) :
    p.depth.toNat ≤ st.under.length := by
  unfold skipT at hs
  rcases Int.lt_or_le st.hid 0 with hh | hh
  · have := h.2 hh
    cases last with
    | none =>
      have hn2 : p.depth = 0 := hn
      omega
    | some q =>
      have hn2 : p.depth ≤ q.depth + if q.div then 1 else 0 := hn
      simp only at this
      omega
  · have := h.1 hh
    have h2 : ¬ st.hid < p.depth := by
      intro hc
      rw [decide_eq_true hh, decide_eq_true hc] at hs
      cases hs
    omega
theorem veDep_step (s : SeerT) {st : VeS} {last : Option PartT} (h : VeDep st last) {p : PartT} (h0 : 0 ≤ p.depth) (hn : fitsT last p.depth) : VeDep (veStep s st p) (some p) := by
  have hr := veDep_room h h0 hn
  unfold veStep
  cases hs : skipT st p
  · have hr := hr hs
    have hu : ((openU st p).length : Int) = p.depth + if p.div then 1 else 0 := by
      unfold openU
      rw [List.length_append, List.length_take, Nat.min_eq_left hr]
      cases p.div <;> simp <;> omega
    simp only [Bool.false_eq_true, if_false]
    cases hd : p.div && !seesT s (openU st p)
    · simp only [Bool.false_eq_true, if_false]
      exact ⟨fun hc => by simp at hc, fun _ => hu⟩
    · simp only [if_true]
      have hdiv : p.div = true := by simp at hd; exact hd.1
      rw [hdiv] at hu
      exact ⟨fun _ => by simpa using hu, fun hc => by simp only at hc; omega⟩
  · simp only [if_true]
    have hh : 0 ≤ st.hid := by
      unfold skipT at hs
      simp at hs
      exact hs.1
    exact ⟨h.1, fun hc => by omega⟩
/-- no part more -/
theorem veOut_len (s : SeerT) (st : VeS) (p : PartT) : (veStep s st p).out.length ≤ st.out.length + 1 := by
  unfold veStep
  split
  · omega
  · simp
end Go.Proofs.YtgdnphmannbpgaaGreatDoor
/-
  The depths of a frame's parts: each at most one deeper than an opener ahead of it, none deeper than a text.
-/
namespace Go.Proofs.YtgdnphmannbpgaaGreatDoor
set_option linter.unusedVariables false

def ddL (out : List PartT) : List (Int × Bool) := out.map fun p => (p.depth, p.div)
def NextU (d : List (Int × Bool)) : Prop := (∀ x, d[0]? = some x → x.1 = 0) ∧ ∀ i a b, d[i]? = some a → d[i + 1]? = some b → b.1 ≤ a.1 + if a.2 then 1 else 0
theorem ddL_set (out : List PartT) (i : Nat) (p q : PartT) (h : out[i]? = some p) (h1 : q.depth = p.depth) (h2 : q.div = p.div) : ddL (out.set i q) = ddL out := by
  unfold ddL
  rw [List.map_set, h1, h2]
  obtain ⟨hi, rfl⟩ := List.getElem?_eq_some_iff.1 h
  apply List.ext_getElem?
  intro j
  rw [List.getElem?_set]
  split
  · rename_i e
    subst e
    simp [hi]
  · rfl
theorem nextU_push {d : List (Int × Bool)} (h : NextU d) (x : Int × Bool) (h0 : d = [] → x.1 = 0) (hl : ∀ a, d.getLast? = some a → x.1 ≤ a.1 + if a.2 then 1 else 0) : NextU (d ++ [x]) := by
  refine ⟨fun y hy => ?_, fun i a b ha hb => ?_⟩
  · cases d with
    | nil => simp at hy; subst hy; exact h0 rfl
    | cons z t => exact h.1 y (by simpa using hy)
  · by_cases hi : i + 1 < d.length
    · rw [List.getElem?_append_left (by omega)] at ha
      rw [List.getElem?_append_left hi] at hb
      exact h.2 i a b ha hb
    · have hj : i + 1 = d.length := by
        have := (List.getElem?_eq_some_iff.1 hb).1
        simp at this
        omega
      rw [List.getElem?_append_left (by omega)] at ha
      rw [hj, List.getElem?_append_right (Nat.le_refl _)] at hb
      simp at hb
      subst hb
      refine hl a ?_
      rw [List.getLast?_eq_getElem?, ← ha]
      congr 1
      omega
theorem frStep_dd (st : FrS) (s : ByteArray) : ddL (frStep st s).out = ddL st.out ∨ ∃ b, ddL (frStep st s).out = ddL st.out ++ [((st.ins.length : Int), b)] := by
  unfold frStep
  split
  · exact .inr ⟨true, by simp [ddL]⟩
  · split
    · left
      simp only
      unfold shutAt
      split
      · rename_i p hp
        exact ddL_set _ _ _ _ hp rfl rfl
      · rfl
    · split
      · left
        simp only
        unfold addLast
        split
        · rename_i p hp
          obtain ⟨l, e⟩ := List.getLast?_eq_some_iff.1 hp
          rw [e]
          simp [ddL]
        · rfl
      · exact .inr ⟨false, by simp [ddL]⟩
theorem nextU_step {st : FrS} {k : Nat} (hd : DepOk st k) (h : NextU (ddL st.out)) (s : ByteArray) : NextU (ddL (frStep st s).out) := by
  rcases frStep_dd st s with e | ⟨b, e⟩
  · rw [e]; exact h
  · rw [e]
    refine nextU_push h _ (fun h0 => ?_) (fun a ha => ?_)
    · have h1 : st.out = [] := by simpa [ddL] using h0
      have h2 : st.ins = [] := by
        cases hi : st.ins with
        | nil => rfl
        | cons i t =>
          obtain ⟨p, hp, _⟩ := hd.opn i (by rw [hi]; simp)
          rw [h1] at hp
          simp at hp
      simp [h2]
    · unfold ddL at ha
      rw [List.getLast?_map, Option.map_eq_some_iff] at ha
      obtain ⟨p, hp, rfl⟩ := ha
      obtain ⟨h1, h2, h3⟩ := hd.last p hp
      simp only
      cases hdv : p.div
      · simp only [Bool.false_eq_true, if_false]
        cases hr : st.run
        · have := h3 hr hdv; omega
        · have := (h2 hr).2; omega
      · simp only [if_true]; omega
theorem nextU_frT (ls : List ByteArray) : NextU (ddL (frT ls).out) := by
  have : ∀ (l : List ByteArray) (st : FrS) (k : Nat), DepOk st k → NextU (ddL st.out) → NextU (ddL (l.foldl frStep st).out) := by
    intro l
    induction l with
    | nil => intro st k _ h; exact h
    | cons x t ih => intro st k hd h; exact ih _ _ (hd.step x) (nextU_step hd h x)
  exact this ls _ 0 (depOk_frT []) ⟨fun x hx => by simp [ddL] at hx, fun i a b ha => by simp [ddL] at ha⟩
def prevOf (out : List PartT) : Nat → Option PartT
  | 0 => none
  | k + 1 => out[k]?
theorem fits_at (ls : List ByteArray) {k : Nat} {p : PartT} (hp : (frT ls).out[k]? = some p) : fitsT (prevOf (frT ls).out k) p.depth := by
  have hN := nextU_frT ls
  have hpd : (ddL (frT ls).out)[k]? = some (p.depth, p.div) := by simp [ddL, hp]
  cases k with
  | zero => exact hN.1 _ hpd
  | succ j =>
    have hk := (List.getElem?_eq_some_iff.1 hp).1
    obtain ⟨q, hq⟩ : ∃ q, (frT ls).out[j]? = some q := ⟨_, List.getElem?_eq_getElem (by omega)⟩
    have : prevOf (frT ls).out (j + 1) = some q := hq
    rw [this]
    exact hN.2 j (q.depth, q.div) _ (by simp [ddL, hq]) hpd
/-- where a part may open: the labels above reach so far -/
theorem veDep_at (s : SeerT) (ls : List ByteArray) (k : Nat) (hk : k ≤ (frT ls).out.length) : VeDep (veFold s ((frT ls).out.take k)) (prevOf (frT ls).out k) := by
  induction k with
  | zero => exact ⟨fun h => by simp [veFold] at h, fun _ => rfl⟩
  | succ k ih =>
    obtain ⟨p, hp⟩ : ∃ p, (frT ls).out[k]? = some p := ⟨_, List.getElem?_eq_getElem (by omega)⟩
    rw [veFold_take s hp]
    have : prevOf (frT ls).out (k + 1) = some p := hp
    rw [this]
    exact veDep_step s (ih (by omega)) ((depOk_frT ls).each p (List.mem_of_getElem? hp)).2.2 (fits_at ls hp)
/-- the room for the next part's depth -/
theorem veRoom (s : SeerT) (ls : List ByteArray) {k : Nat} {p : PartT} (hp : (frT ls).out[k]? = some p) (hs : skipT (veFold s ((frT ls).out.take k)) p = false) :
    0 ≤ p.depth ∧ p.depth.toNat ≤ (veFold s ((frT ls).out.take k)).under.length := by
  have hk := (List.getElem?_eq_some_iff.1 hp).1
  have h0 := ((depOk_frT ls).each p (List.mem_of_getElem? hp)).2.2
  exact ⟨h0, veDep_room (veDep_at s ls k (by omega)) h0 (fits_at ls hp) hs⟩
end Go.Proofs.YtgdnphmannbpgaaGreatDoor
/-
  A line of a part turned in its row; how long a veiled line may be.
-/
namespace Go.Proofs.YtgdnphmannbpgaaGreatDoor
open Go.RowKit
set_option linter.unusedVariables false

theorem lineT_size (s : SeerT) (l : ByteArray) (u : List ByteArray) : (lineT s l u).size ≤ l.size + 4 := by
  have hb : ∀ u', (bodyT s l u').size ≤ l.size := fun u' => by
    unfold bodyT
    rw [size_S]
    exact Nat.le_trans (hide_len s u' _) (spans_len l).2
  unfold lineT
  split
  · have := hb u; omega
  · rename_i a lb h
    have hl := headed_le h
    rw [length_L] at hl
    split
    · have := hb (u ++ [S lb]); omega
    · unfold headT
      have e1 : ((S a).extract 0 (signsT (L (S a)))).size ≤ a.length := by
        rw [ByteArray.size_extract, size_S]; omega
      simp only [ByteArray.size_append, size_S]
      have : (⟨#[32, 123, 61]⟩ : ByteArray).size = 3 := rfl
      have : (⟨#[125]⟩ : ByteArray).size = 1 := rfl
      omega
theorem set_flat {α β : Type} (f : α → List β) (l : List α) (k : Nat) (x x' : α) (hx : l[k]? = some x) (h : f x' = f x) : (l.set k x').flatMap f = l.flatMap f := by
  induction l generalizing k with
  | nil => simp at hx
  | cons y t ih =>
    cases k with
    | zero => simp at hx; subst hx; simp [h]
    | succ k => simp at hx; simp [ih k hx]
/-- a line of a part is turned -/
theorem Parts.reline {w : World} {base n c : Nat} {A : Option Addr} {ps : List PartR} (h : Parts w base A n c ps) {k : Nat} {p : PartR} (hp : ps[k]? = some p) {j : Nat} {l : ByteArray} (hj : p.t.lines[j]? = some l) (v : ByteArray) :
    ∃ g, p.la = some ⟨g, 0, none⟩ ∧ base ≤ g ∧ g < w.heap.size ∧ w.cell? ⟨g, j, none⟩ = some (.string l) ∧ w.frozen? ⟨g, j, none⟩ = false ∧
      Parts (w.setCell ⟨g, j, none⟩ (.string v)) base A n c (ps.set k ⟨{ p.t with lines := p.t.lines.set j v }, p.la, p.lc⟩) := by
  have hmem := List.mem_of_getElem? hp
  have hrow := h.2.1 p hmem
  have hjl := (List.getElem?_eq_some_iff.1 hj).1
  obtain ⟨g, hg, hg1, hg2⟩ := hrow.some_ (by omega)
  have hrow2 := hrow
  rw [hg] at hrow2
  have hst := hrow2.stored j (.string v)
  have hO := only_setCell w g j (.string v)
  refine ⟨g, hg, hg1, hg2, hrow2.cell (by simp [hj]), hrow2.frozen j, ?_, ?_, ?_⟩
  · have he : partCells (ps.set k ⟨{ p.t with lines := p.t.lines.set j v }, p.la, p.lc⟩) = partCells ps := set_flat _ _ _ _ _ hp (by simp [PartR.cells])
    rw [he]
    exact h.1.only hO (by rw [← hg]; exact (h.sep p hmem).symm)
  · intro q hq
    obtain ⟨i, hi⟩ := List.mem_iff_getElem?.1 hq
    rw [List.getElem?_set] at hi
    split at hi
    · rename_i hik
      split at hi
      · simp only [Option.some.injEq] at hi
        subst hi
        simp only [List.length_set]
        rw [hg]
        have : txCells (p.t.lines.set j v) = (txCells p.t.lines).set j (.string v) := by simp [txCells, List.map_set]
        rw [this]
        exact hst
      · cases hi
    · rename_i hik
      refine (h.2.1 q (List.mem_of_getElem? hi)).only hO ?_
      rw [← hg]
      have hpw := h.2.2
      rw [List.pairwise_iff_getElem] at hpw
      obtain ⟨hil, rfl⟩ := List.getElem?_eq_some_iff.1 hi
      obtain ⟨hkl, rfl⟩ := List.getElem?_eq_some_iff.1 hp
      rcases Nat.lt_or_gt_of_ne hik with hh | hh
      · exact (hpw k i hkl hil hh).symm
      · exact hpw i k hil hkl hh
  · have h2 := h.2.2
    have hsame : (ps.set k ⟨{ p.t with lines := p.t.lines.set j v }, p.la, p.lc⟩).map (·.la) = ps.map (·.la) := by
      rw [List.map_set]
      obtain ⟨hkl, e⟩ := List.getElem?_eq_some_iff.1 hp
      apply List.ext_getElem?
      intro i
      rw [List.getElem?_set]
      split
      · rename_i e2
        subst e2
        simp [hkl, e]
      · rfl
    have h3 : (ps.map (·.la)).Pairwise Sep := List.pairwise_map.2 h2
    rw [← hsame] at h3
    exact List.pairwise_map.1 h3
end Go.Proofs.YtgdnphmannbpgaaGreatDoor
/-
  How large the lines of a text and the parts of a frame may be.
-/
namespace Go.Proofs.YtgdnphmannbpgaaGreatDoor
set_option linter.unusedVariables false

theorem mem_join7 : ∀ (l : List (List UInt8)) (z : List UInt8), z ∈ l → z.length ≤ (joinT l).length
  | [], z, h => by cases h
  | x :: t, z, h => by
    have e : (joinT (x :: t)).length = x.length + 1 + (joinT t).length := by simp [joinT]; omega
    rcases List.mem_cons.1 h with h | h
    · rw [h]; omega
    · have := mem_join7 t z h; omega
theorem join_count7 : ∀ l : List (List UInt8), l.length ≤ (joinT l).length
  | [] => Nat.le_refl _
  | x :: t => by
    have e : (joinT (x :: t)).length = x.length + 1 + (joinT t).length := by simp [joinT]; omega
    have := join_count7 t
    simp only [List.length_cons]
    omega
theorem linesB_mem7 (s : ByteArray) : ∀ x ∈ linesB s, x.size ≤ s.size := by
  intro x hx
  obtain ⟨y, hy, rfl⟩ := List.mem_map.1 hx
  obtain ⟨ini, last, he, -, -, h⟩ := linesT_cases (L s)
  have hs : (L s).length = s.size := length_L s
  have hl : (L s).length = (joinT ini).length + last.length := by rw [he]; simp
  have hi : ∀ z ∈ ini, z.length ≤ (joinT ini).length := fun z hz => mem_join7 ini z hz
  have : y.length ≤ (L s).length := by
    rcases h with ⟨h0, h⟩ | ⟨h0, h⟩
    · rw [h] at hy; have := hi y hy; omega
    · rw [h] at hy
      rcases List.mem_append.1 hy with hy | hy
      · have := hi y hy; omega
      · rw [List.mem_singleton.1 hy]; omega
  rw [hs] at this
  rw [size_S]
  exact this
theorem linesB_len7 (s : ByteArray) : (linesB s).length ≤ s.size + 1 := by
  unfold linesB
  rw [List.length_map]
  obtain ⟨ini, last, he, -, -, h⟩ := linesT_cases (L s)
  have hs : (L s).length = s.size := length_L s
  have hl : (L s).length = (joinT ini).length + last.length := by rw [he]; simp
  have hc := join_count7 ini
  rcases h with ⟨h0, h⟩ | ⟨h0, h⟩
  · rw [h]; omega
  · rw [h, List.length_append, List.length_singleton]; omega
/-- a part's label and lines no longer than B -/
def SzOk (B : Nat) (p : PartT) : Prop := p.label.size ≤ B ∧ ∀ x ∈ p.lines, x.size ≤ B
theorem opens_le7 (l : List UInt8) : (opensT l).1.length ≤ l.length := by
  unfold opensT
  split
  · have h1 := trimR_le l
    have h2 := trimSuf_le ((Lib.trimRightB l 32).drop 4) [125]
    rw [List.length_drop] at h2
    simp only
    omega
  · simp
theorem frStep_sz (B : Nat) (st : FrS) (s : ByteArray) (h : ∀ p ∈ st.out, SzOk B p) (hs : s.size ≤ B) : ∀ p ∈ (frStep st s).out, SzOk B p := by
  have ho := opens_le7 (L s)
  rw [length_L] at ho
  intro p hp
  unfold frStep at hp
  split at hp
  · rcases List.mem_append.1 hp with hp | hp
    · exact h p hp
    · rw [List.mem_singleton.1 hp]
      exact ⟨by simp only [size_S]; omega, fun x hx => by cases hx⟩
  · split at hp
    · simp only at hp
      unfold shutAt at hp
      split at hp
      · rename_i q hq
        rcases List.mem_or_eq_of_mem_set hp with hp | rfl
        · exact h p hp
        · exact h q (List.mem_of_getElem? hq)
      · exact h p hp
    · split at hp
      · simp only at hp
        unfold addLast at hp
        split at hp
        · rename_i q hq
          rcases List.mem_append.1 hp with hp | hp
          · exact h p (List.dropLast_subset _ hp)
          · rw [List.mem_singleton.1 hp]
            have hq2 := h q (List.mem_of_getLast? hq)
            refine ⟨hq2.1, fun x hx => ?_⟩
            rcases List.mem_append.1 hx with hx | hx
            · exact hq2.2 x hx
            · rw [List.mem_singleton.1 hx]; exact hs
        · exact h p hp
      · rcases List.mem_append.1 hp with hp | hp
        · exact h p hp
        · rw [List.mem_singleton.1 hp]
          exact ⟨Nat.zero_le _, fun x hx => by rw [List.mem_singleton.1 hx]; exact hs⟩
theorem frT_sz (B : Nat) (ls : List ByteArray) (hs : ∀ x ∈ ls, x.size ≤ B) : ∀ p ∈ (frT ls).out, SzOk B p := by
  have : ∀ (l : List ByteArray) (st : FrS), (∀ x ∈ l, x.size ≤ B) → (∀ p ∈ st.out, SzOk B p) → ∀ p ∈ (l.foldl frStep st).out, SzOk B p := by
    intro l
    induction l with
    | nil => intro st _ h; exact h
    | cons x t ih => intro st hx h; exact ih _ (fun y hy => hx y (by simp [hy])) (frStep_sz B st x h (hx x (by simp)))
  exact this ls _ hs (fun p hp => by cases hp)
theorem veFold_sz (s : SeerT) (B : Nat) (ps : List PartT) (h : ∀ p ∈ ps, SzOk B p) : ∀ p ∈ (veFold s ps).out, SzOk (B + 4) p := by
  have : ∀ (l : List PartT) (st : VeS), (∀ p ∈ l, SzOk B p) → (∀ p ∈ st.out, SzOk (B + 4) p) → ∀ p ∈ (l.foldl (veStep s) st).out, SzOk (B + 4) p := by
    intro l
    induction l with
    | nil => intro st _ h; exact h
    | cons x t ih =>
      intro st hx hst
      refine ih _ (fun y hy => hx y (by simp [hy])) (fun p hp => ?_)
      unfold veStep at hp
      split at hp
      · exact hst p hp
      · rcases List.mem_append.1 hp with hp | hp
        · exact hst p hp
        · rw [List.mem_singleton.1 hp]
          have hX := hx x (by simp)
          refine ⟨by simp only [veilP]; have := hX.1; omega, fun y hy => ?_⟩
          simp only [veilP] at hy
          obtain ⟨l, hl, rfl⟩ := List.mem_map.1 hy
          have := hX.2 l hl
          have := lineT_size s l (openU st x)
          omega
  exact this ps _ h (fun p hp => by cases hp)
theorem lineN3_le (out : List PartT) (h : ∀ p ∈ out, PartOk p) : lineN out ≤ 3 * outN out := by
  induction out with
  | nil => exact Nat.zero_le _
  | cons p t ih =>
    have h1 := ih (fun q hq => h q (by simp [hq]))
    obtain ⟨a, b, _⟩ := h p (by simp)
    have h2 : p.lines.length + 2 ≤ 3 * partN p := by
      unfold partN
      cases hd : p.div
      · have := List.length_pos_iff.2 (b hd); simp; omega
      · rw [a hd]; simp; split <;> omega
    simp only [lineN, outN, List.map_cons, List.sum_cons] at h1 ⊢
    omega
theorem lines6_len7 (l : List PartT) : (lines6 l).length ≤ lineN l := by
  have h1 := wrFold_len l l.length
  rw [List.take_length] at h1
  have h2 := notOpn_le (wrFold l).inn
  unfold lines6
  rw [List.length_append, List.length_replicate]
  omega
/-- what is written is short, too -/
theorem lines6_size7 {B : Nat} {l : List PartT} (h : ∀ p ∈ l, SzOk B p) : ∀ x ∈ lines6 l, x.size ≤ B + 5 := by
  have hs : shutB.size = 3 := rfl
  have key : ∀ k, ∀ x ∈ (wrFold (l.take k)).out, x.size ≤ B + 5 := by
    intro k
    induction k with
    | zero => simp [wrFold, wrInit]
    | succ k ih =>
      rcases hk : l[k]? with _ | y
      · have : l.length ≤ k := by rw [List.getElem?_eq_none_iff] at hk; exact hk
        rw [List.take_of_length_le (by omega)] at ih ⊢
        exact ih
      · rw [List.take_add_one, hk, Option.toList_some, wrFold_snoc]
        obtain ⟨g1, g2⟩ := h y (List.mem_of_getElem? hk)
        intro x hx
        unfold wrStep at hx
        simp only [List.mem_append] at hx
        rcases hx with ((hx | hx) | hx) | hx
        · exact ih x hx
        · rw [(List.mem_replicate.1 hx).2, hs]; omega
        · split at hx
          · rw [List.mem_singleton.1 hx]
            unfold openB
            rw [ByteArray.size_append, ByteArray.size_append]
            have : (⟨#[58, 58, 58, 123]⟩ : ByteArray).size = 4 := rfl
            have : (⟨#[125]⟩ : ByteArray).size = 1 := rfl
            omega
          · cases hx
        · have := g2 x hx; omega
  intro x hx
  unfold lines6 at hx
  rcases List.mem_append.1 hx with hx | hx
  · have := key l.length x
    rw [List.take_length] at this
    exact this hx
  · rw [(List.mem_replicate.1 hx).2, hs]; omega
theorem join_le7 (B : Nat) : ∀ l : List ByteArray, (∀ x ∈ l, x.size ≤ B) → (joinT (l.map L)).length ≤ l.length * (B + 1)
  | [], _ => by simp [joinT]
  | x :: t, h => by
    have h1 := join_le7 B t (fun y hy => h y (by simp [hy]))
    have h2 := h x (by simp)
    have e : (joinT ((x :: t).map L)).length = x.size + 1 + (joinT (t.map L)).length := by simp [joinT]; omega
    rw [e, List.length_cons, Nat.succ_mul]
    omega
theorem veFold_lineN (s : SeerT) (ps : List PartT) : lineN (veFold s ps).out ≤ lineN ps := by
  have : ∀ (l : List PartT) (st : VeS), lineN (l.foldl (veStep s) st).out ≤ lineN st.out + lineN l := by
    intro l
    induction l with
    | nil => intro st; simp [lineN]
    | cons x t ih =>
      intro st
      have h1 := ih (veStep s st x)
      have h2 : lineN (veStep s st x).out ≤ lineN st.out + (x.lines.length + 2) := by
        unfold veStep
        split
        · omega
        · simp [lineN, veilP]
      simp only [List.foldl_cons]
      have h3 : lineN (x :: t) = x.lines.length + 2 + lineN t := by simp [lineN]
      omega
  have := this ps ⟨[], [], -1⟩
  simpa [lineN, veFold] using this
end Go.Proofs.YtgdnphmannbpgaaGreatDoor
