/-
  How the parts of a frame lie in one another; how many lines they stand for.
-/
import Derived.Test.YteeoohnkfdffnaaGreatDoorFrameParse
namespace Go.Proofs.YteeoohnkfdffnaaGreatDoor

def partN (p : PartT) : Nat := p.lines.length + (if p.div then (if p.opn then 1 else 2) else 0)
def outN (out : List PartT) : Nat := (out.map partN).sum
/-- a part by itself -/
def PartOk (p : PartT) : Prop := (p.div = true → p.lines = []) ∧ (p.div = false → p.lines ≠ []) ∧ 0 ≤ p.depth
/-- two parts, one behind the other -/
def NextOk (a b : PartT) : Prop := b.depth ≤ a.depth + 1 ∧ ¬ (b.div = false ∧ a.div = false ∧ b.depth = a.depth)
structure DepOk (st : FrS) (k : Nat) : Prop where
  each : ∀ p ∈ st.out, PartOk p
  next : ∀ i a b, st.out[i]? = some a → st.out[i + 1]? = some b → NextOk a b
  count : outN st.out = k
  opn : ∀ i ∈ st.ins, ∃ p, st.out[i]? = some p ∧ p.div = true ∧ p.opn = true
  nodup : st.ins.Nodup
  last : ∀ p, st.out.getLast? = some p → (st.ins.length : Int) ≤ p.depth + 1 ∧ (st.run = true → p.div = false ∧ p.depth = st.ins.length) ∧ (st.run = false → p.div = false → (st.ins.length : Int) < p.depth)
  some_ : st.run = true → st.out ≠ []

theorem outN_app (a b : List PartT) : outN (a ++ b) = outN a + outN b := by simp [outN]
theorem next_push {out : List PartT} {q : PartT} (h : ∀ i a b, out[i]? = some a → out[i + 1]? = some b → NextOk a b) (hl : ∀ p, out.getLast? = some p → NextOk p q) :
    ∀ i a b, (out ++ [q])[i]? = some a → (out ++ [q])[i + 1]? = some b → NextOk a b := by
  intro i a b ha hb
  by_cases hi : i + 1 < out.length
  · rw [List.getElem?_append_left (by omega)] at ha
    rw [List.getElem?_append_left hi] at hb
    exact h i a b ha hb
  · by_cases he : i + 1 = out.length
    · rw [List.getElem?_append_left (by omega)] at ha
      rw [List.getElem?_append_right (by omega), he] at hb
      simp at hb
      rw [← hb]
      refine hl a ?_
      rw [List.getLast?_eq_getElem?, show out.length - 1 = i by omega]; exact ha
    · rw [List.getElem?_append_right (by omega)] at hb
      have : i + 1 - out.length ≠ 0 := by omega
      obtain ⟨m, hm⟩ : ∃ m, i + 1 - out.length = m + 1 := ⟨i + 1 - out.length - 1, by omega⟩
      rw [hm] at hb
      simp at hb
/-- a part more -/
theorem DepOk.push {st : FrS} {k : Nat} (h : DepOk st k) (q : PartT) (ins' : List Nat) (run' : Bool) (hq : PartOk q) (hl : ∀ p, st.out.getLast? = some p → NextOk p q) (hn : partN q = 1)
    (ho : ∀ i ∈ ins', ∃ p, (st.out ++ [q])[i]? = some p ∧ p.div = true ∧ p.opn = true) (hd : ins'.Nodup)
    (h1 : (ins'.length : Int) ≤ q.depth + 1) (h2 : run' = true → q.div = false ∧ q.depth = ins'.length) (h3 : run' = false → q.div = false → (ins'.length : Int) < q.depth) : DepOk ⟨st.out ++ [q], ins', run'⟩ (k + 1) where
  each := fun p hp => by
    rcases List.mem_append.1 hp with hp | hp
    · exact h.each p hp
    · rw [List.mem_singleton.1 hp]; exact hq
  next := next_push h.next hl
  count := by rw [outN_app, h.count]; simp [outN, hn]
  opn := ho
  nodup := hd
  last := fun p hp => by
    simp at hp
    rw [← hp]
    exact ⟨h1, h2, h3⟩
  some_ := fun _ => by simp

/-- depth and kind alone count -/
theorem next_same {a b : List PartT} (h : ∀ i : Nat, (b[i]?).map (fun p => (p.depth, p.div)) = (a[i]?).map (fun p => (p.depth, p.div))) (hn : ∀ i x y, a[i]? = some x → a[i + 1]? = some y → NextOk x y) : ∀ i x y, b[i]? = some x → b[i + 1]? = some y → NextOk x y := by
  intro i x y hx hy
  have h1 := h i
  have h2 := h (i + 1)
  rw [hx] at h1
  rw [hy] at h2
  obtain ⟨x', hx', e1⟩ := Option.map_eq_some_iff.1 h1.symm
  obtain ⟨y', hy', e2⟩ := Option.map_eq_some_iff.1 h2.symm
  injection e1 with e11 e12
  injection e2 with e21 e22
  have := hn i x' y' hx' hy'
  unfold NextOk at this ⊢
  rw [← e11, ← e12, ← e21, ← e22]
  exact this
theorem outN_set : ∀ (out : List PartT) (i : Nat) (p q : PartT), out[i]? = some p → outN (out.set i q) + partN p = outN out + partN q
  | [], i, p, q, h => by simp at h
  | a :: t, 0, p, q, h => by
    simp at h
    rw [← h]
    simp [outN]; omega
  | a :: t, i + 1, p, q, h => by
    have := outN_set t i p q (by simpa using h)
    simp only [outN, List.set_cons_succ, List.map_cons, List.sum_cons] at this ⊢
    omega

theorem DepOk.step {st : FrS} {k : Nat} (h : DepOk st k) (s : ByteArray) : DepOk (frStep st s) (k + 1) := by
  have hlt : ∀ i ∈ st.ins, i < st.out.length := fun i hi => by
    obtain ⟨p, hp, _⟩ := h.opn i hi
    exact (List.getElem?_eq_some_iff.1 hp).1
  unfold frStep
  split
  · refine h.push _ _ _ ⟨fun _ => rfl, by simp, by simp⟩ (fun p hp => ⟨(h.last p hp).1, by simp⟩) (by simp [partN]) ?_ ?_ (by simp) (by simp) (by simp)
    · intro i hi
      rcases List.mem_append.1 hi with hi | hi
      · obtain ⟨p, hp, h1⟩ := h.opn i hi
        exact ⟨p, by rw [List.getElem?_append_left (hlt i hi)]; exact hp, h1⟩
      · rw [List.mem_singleton.1 hi]
        exact ⟨_, by simp; rfl, rfl, rfl⟩
    · rw [List.nodup_append]
      refine ⟨h.nodup, by simp, fun a ha b hb e => ?_⟩
      rw [List.mem_singleton.1 hb] at e
      have := hlt a ha
      omega
  · split
    · rename_i hsh
      have hpos : 0 < st.ins.length := by
        rw [Bool.and_eq_true] at hsh
        simpa using hsh.2
      obtain ⟨ins', i, he⟩ : ∃ a b, st.ins = a ++ [b] := ⟨st.ins.dropLast, st.ins.getLast (List.ne_nil_of_length_pos hpos), (List.dropLast_concat_getLast _).symm⟩
      obtain ⟨p, hp, hdiv, hopn⟩ := h.opn i (by rw [he]; simp)
      have hg : st.ins.getLast?.getD 0 = i := by rw [he]; simp
      have hd : st.ins.dropLast = ins' := by rw [he]; simp
      have hsa : shutAt st.out i = st.out.set i { p with opn := false } := by unfold shutAt; rw [hp]
      rw [hg, hd, hsa]
      have hil := (List.getElem?_eq_some_iff.1 hp).1
      have hnd := h.nodup
      rw [he, List.nodup_append] at hnd
      have hsame : ∀ j : Nat, ((st.out.set i { p with opn := false })[j]?).map (fun p => (p.depth, p.div)) = (st.out[j]?).map (fun p => (p.depth, p.div)) := fun j => by
        rw [List.getElem?_set]
        split
        · rename_i hij
          subst hij
          rw [hp]; rfl
        · rfl
      have hlen : st.ins.length = ins'.length + 1 := by rw [he]; simp
      refine ⟨fun q hq => ?_, next_same hsame h.next, ?_, fun j hj => ?_, hnd.1, fun q hq => ?_, by simp⟩
      · rcases List.mem_or_eq_of_mem_set hq with hq | rfl
        · exact h.each q hq
        · exact h.each p (List.mem_of_getElem? hp)
      · have := outN_set st.out i p { p with opn := false } hp
        have hc := h.count
        have e1 : partN p = p.lines.length + 1 := by simp [partN, hdiv, hopn]
        have e2 : partN { p with opn := false } = p.lines.length + 2 := by simp [partN, hdiv]
        simp only at this ⊢
        omega
      · obtain ⟨q, hq, h1⟩ := h.opn j (by rw [he]; simp [hj])
        have hne : i ≠ j := fun e => hnd.2.2 j hj i (by simp) e.symm
        exact ⟨q, by rw [List.getElem?_set, if_neg hne]; exact hq, h1⟩
      · have hq2 : ((st.out.set i { p with opn := false })[st.out.length - 1]?) = some q := by
          rw [List.getLast?_eq_getElem?, List.length_set] at hq; exact hq
        have h1 := hsame (st.out.length - 1)
        rw [hq2] at h1
        obtain ⟨q', hq', e1⟩ := Option.map_eq_some_iff.1 h1.symm
        injection e1 with e11 e12
        obtain ⟨l1, l2, l3⟩ := h.last q' (by rw [List.getLast?_eq_getElem?]; exact hq')
        show (ins'.length : Int) ≤ q.depth + 1 ∧ (false = true → q.div = false ∧ q.depth = (ins'.length : Int)) ∧ (false = false → q.div = false → (ins'.length : Int) < q.depth)
        refine ⟨by omega, by simp, fun _ hqd => ?_⟩
        cases hr : st.run
        · have := l3 hr (by rw [e12]; exact hqd); omega
        · have := (l2 hr).2; omega
    · split
      · rename_i hrun
        have hne := h.some_ hrun
        obtain ⟨ini, last, he⟩ : ∃ a b, st.out = a ++ [b] := ⟨st.out.dropLast, st.out.getLast hne, (List.dropLast_concat_getLast hne).symm⟩
        obtain ⟨l1, l2, l3⟩ := h.last last (by rw [he]; simp)
        obtain ⟨hdv, hdp⟩ := l2 hrun
        have ha : addLast st.out s = ini ++ [{ last with lines := last.lines ++ [s] }] := by unfold addLast; rw [he]; simp
        rw [ha]
        have hsame : ∀ j : Nat, ((ini ++ [{ last with lines := last.lines ++ [s] }])[j]?).map (fun p => (p.depth, p.div)) = (st.out[j]?).map (fun p => (p.depth, p.div)) := fun j => by
          rw [he]
          by_cases hj : j < ini.length
          · rw [List.getElem?_append_left hj, List.getElem?_append_left hj]
          · rw [List.getElem?_append_right (by omega), List.getElem?_append_right (by omega)]
            cases j - ini.length with
            | zero => rfl
            | succ m => rfl
        refine ⟨fun q hq => ?_, next_same hsame h.next, ?_, fun j hj => ?_, h.nodup, fun q hq => ?_, by simp⟩
        · rcases List.mem_append.1 hq with hq | hq
          · exact h.each q (by rw [he]; simp [hq])
          · rw [List.mem_singleton.1 hq]
            exact ⟨by simp [hdv], by simp, (h.each last (by rw [he]; simp)).2.2⟩
        · have hc := h.count
          rw [he, outN_app] at hc
          rw [outN_app]
          simp [outN, partN, hdv] at hc ⊢
          omega
        · obtain ⟨q, hq, h1, h2⟩ := h.opn j hj
          rw [he] at hq
          by_cases hjl : j < ini.length
          · rw [List.getElem?_append_left hjl] at hq
            exact ⟨q, by rw [List.getElem?_append_left hjl]; exact hq, h1, h2⟩
          · have hj2 := hlt j hj
            rw [he] at hj2
            simp at hj2
            have : j = ini.length := by omega
            subst this
            simp at hq
            rw [← hq, hdv] at h1
            cases h1
        · simp at hq
          rw [← hq]
          exact ⟨l1, fun _ => ⟨hdv, hdp⟩, by simp⟩
      · rename_i hrun
        have hrun' : st.run = false := by simpa using hrun
        refine h.push _ _ _ ⟨by simp, by simp, by simp⟩ (fun p hp => ⟨(h.last p hp).1, fun e => ?_⟩) (by simp [partN]) ?_ h.nodup (by show (st.ins.length : Int) ≤ (st.ins.length : Int) + 1; omega) (by simp) (by simp)
        · have := (h.last p hp).2.2 hrun' e.2.1
          have e3 := e.2.2
          simp at e3
          omega
        · intro i hi
          obtain ⟨p, hp, h1⟩ := h.opn i hi
          exact ⟨p, by rw [List.getElem?_append_left (hlt i hi)]; exact hp, h1⟩

theorem depOk_frT (ls : List ByteArray) : DepOk (frT ls) ls.length := by
  have : ∀ (l : List ByteArray) (st : FrS) (k : Nat), DepOk st k → DepOk (l.foldl frStep st) (k + l.length) := by
    intro l
    induction l with
    | nil => intro st k h; exact h
    | cons x t ih =>
      intro st k h
      rw [List.foldl_cons, List.length_cons, show k + (t.length + 1) = k + 1 + t.length by omega]
      exact ih _ _ (h.step x)
  have := this ls ⟨[], [], false⟩ 0 ⟨by simp, by simp, rfl, by simp, by simp, by simp, by simp⟩
  simpa [frT] using this
end Go.Proofs.YteeoohnkfdffnaaGreatDoor
