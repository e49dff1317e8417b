/-
  emph: plain laws on what Group and Merge compute: nothing merges over a node of another kind; no sign is lost; depths are nested; rows that nobody closes stay words.
-/
import Derived.Test.YtfdfpimilmhhoaaGroupInv
namespace Go.Proofs.Ytfdfpimilmhhoaa
open Go.RowKit

def groupT (its : List Pc) : List Inl := mergeT ((gRun (gMeas its 0 + 1) (its.map era) 0).flatMap pcNodes)
theorem gMeas_era (ps : List Pc) (i : Nat) : gMeas (ps.map era) i = gMeas ps i := by
  unfold gMeas lefts
  rw [List.map_map, List.length_map]; rfl
theorem groupT_era (its : List Pc) : groupT its = groupT (its.map era) := by
  unfold groupT
  rw [gMeas_era, List.map_map]; rfl

/-! ## merging -/
def lastNot (out : List Inl) (x : Inl) : Prop := ∀ t, out.getLast? = some t → ¬ (x.kind = 1 ∧ t.kind = 1 ∧ t.depth = x.depth)
theorem mergeStep_new {out : List Inl} {x : Inl} (h0 : ¬ (x.kind = 1 ∧ x.text.size = 0)) (h : lastNot out x) : mergeStep out x = out ++ [cleanI x] := by
  unfold mergeStep
  rw [if_neg h0]
  cases ht : out.getLast? with
  | none => rfl
  | some t => simp only; rw [if_neg (h t ht)]
theorem mergeStep_skip {out : List Inl} {x : Inl} (h0 : x.kind = 1 ∧ x.text.size = 0) : mergeStep out x = out := by
  unfold mergeStep; rw [if_pos h0]
theorem mergeStep_join {out : List Inl} {t x : Inl} (h0 : ¬ (x.kind = 1 ∧ x.text.size = 0)) (h : x.kind = 1 ∧ t.kind = 1 ∧ t.depth = x.depth) : mergeStep (out ++ [t]) x = out ++ [{ t with text := t.text ++ x.text }] := by
  unfold mergeStep
  rw [if_neg h0]
  simp only [List.getLast?_append, List.getLast?_singleton, Option.some_or, List.dropLast_concat]
  rw [if_pos h]
/-- what stands ahead of the last one does not count -/
theorem mergeStep_pre (a : List Inl) (t : Inl) (out : List Inl) (x : Inl) : mergeStep (a ++ (out ++ [t])) x = a ++ mergeStep (out ++ [t]) x := by
  unfold mergeStep
  split
  · rfl
  · simp only [← List.append_assoc, List.getLast?_append, List.getLast?_singleton, Option.some_or, List.dropLast_concat]
    split <;> simp
theorem mergeStep_ne {out : List Inl} {x : Inl} (h : out ≠ []) : mergeStep out x ≠ [] := by
  unfold mergeStep
  split
  · exact h
  · split
    · split <;> simp
    · simp
theorem fold_pre (a : List Inl) (l : List Inl) : ∀ (out : List Inl), out ≠ [] → l.foldl mergeStep (a ++ out) = a ++ l.foldl mergeStep out := by
  induction l with
  | nil => intros; rfl
  | cons x l ih =>
    intro out ho
    obtain ⟨o, t, rfl⟩ : ∃ o t, out = o ++ [t] := ⟨_, _, (List.dropLast_concat_getLast ho).symm⟩
    rw [List.foldl_cons, List.foldl_cons, mergeStep_pre, ih _ (mergeStep_ne ho)]
/-- a first word that the last one of 'a' takes not in -/
theorem fold_apart (a l : List Inl) (h : ∀ x, (mergeT l).head? = some x → lastNot a x) : l.foldl mergeStep a = a ++ mergeT l := by
  induction l with
  | nil => simp [mergeT]
  | cons x l ih =>
    by_cases h0 : x.kind = 1 ∧ x.text.size = 0
    · have e : mergeT (x :: l) = mergeT l := by simp only [mergeT, List.foldl_cons, mergeStep_skip h0]
      rw [List.foldl_cons, mergeStep_skip h0, e]
      exact ih (by rw [e] at h; exact h)
    · have e : mergeT (x :: l) = l.foldl mergeStep [cleanI x] := by
        simp only [mergeT, List.foldl_cons]
        rw [mergeStep_new h0 (by intro t ht; cases ht)]; rfl
      have hh : ∃ y, (mergeT (x :: l)).head? = some y ∧ y.kind = x.kind ∧ y.depth = x.depth := by
        rw [e]
        have : ∀ (l : List Inl) (o : List Inl) (y : Inl), o.head? = some y → y.kind = x.kind ∧ y.depth = x.depth → ∃ y, (l.foldl mergeStep o).head? = some y ∧ y.kind = x.kind ∧ y.depth = x.depth := by
          intro l
          induction l with
          | nil => intro o y h1 h2; exact ⟨y, h1, h2⟩
          | cons z l ih2 =>
            intro o y h1 h2
            rw [List.foldl_cons]
            have : ∃ y, (mergeStep o z).head? = some y ∧ y.kind = x.kind ∧ y.depth = x.depth := by
              unfold mergeStep
              split
              · exact ⟨y, h1, h2⟩
              · cases o with
                | nil => cases h1
                | cons o1 o =>
                  split
                  · rename_i t ht
                    split
                    · cases o with
                      | nil =>
                        simp at ht h1 ⊢
                        subst ht; subst h1; exact h2
                      | cons o2 o =>
                        simp at h1 ⊢
                        subst h1; exact h2
                    · simp at h1 ⊢
                      subst h1; exact h2
                  · simp at h1 ⊢
                    subst h1; exact h2
            obtain ⟨y', h1', h2'⟩ := this
            exact ih2 _ y' h1' h2'
        refine this l _ (cleanI x) rfl ?_
        unfold cleanI; split <;> exact ⟨rfl, rfl⟩
      obtain ⟨y, hy, hk, hd⟩ := hh
      have hl : lastNot a x := by
        intro t ht hc
        exact h y hy t ht (by rw [hk, hd]; exact hc)
      rw [List.foldl_cons, mergeStep_new h0 hl, fold_pre a l _ (by simp), e]
theorem mergeT_app (a b : List Inl) : mergeT (a ++ b) = b.foldl mergeStep (mergeT a) := by simp [mergeT, List.foldl_append]
theorem mergeT_apart (a b : List Inl) (h : ∀ x, (mergeT b).head? = some x → lastNot (mergeT a) x) : mergeT (a ++ b) = mergeT a ++ mergeT b := by
  rw [mergeT_app, fold_apart _ _ h]
/-- a node of another kind parts -/
theorem mergeT_node (b : List Inl) (x : Inl) (h : x.kind ≠ 1) : mergeT (x :: b) = x :: mergeT b := by
  have e : mergeT [x] = [x] := by
    simp only [mergeT, List.foldl_cons, List.foldl_nil]
    rw [mergeStep_new (fun hh => h hh.1) (by intro t ht; cases ht)]
    unfold cleanI; rw [if_neg h]; rfl
  have := mergeT_apart [x] b (fun y _ t ht => by rw [e] at ht; simp at ht; subst ht; exact fun hc => h hc.2.1)
  rw [e] at this
  simpa using this

/-- what is put together is so -/
def Merged (l : List Inl) : Prop := (∀ x ∈ l, ¬ (x.kind = 1 ∧ x.text.size = 0) ∧ cleanI x = x) ∧ ∀ i x y, l[i]? = some x → l[i + 1]? = some y → ¬ (y.kind = 1 ∧ x.kind = 1 ∧ x.depth = y.depth)
theorem cleanI_cleanI (x : Inl) : cleanI (cleanI x) = cleanI x := by
  unfold cleanI
  by_cases h : x.kind = 1
  · rw [if_pos h, if_pos h]
  · rw [if_neg h, if_neg h]
theorem Merged.snoc {a : List Inl} {x : Inl} (h : Merged a) (hx : ¬ (x.kind = 1 ∧ x.text.size = 0) ∧ cleanI x = x) (hl : lastNot a x) : Merged (a ++ [x]) := by
  refine ⟨fun y hy => ?_, fun i y z hy hz => ?_⟩
  · rcases List.mem_append.1 hy with hy | hy
    · exact h.1 y hy
    · simp at hy; subst hy; exact hx
  · rcases Nat.lt_trichotomy (i + 1) a.length with hi | hi | hi
    · rw [List.getElem?_append_left (by omega)] at hy
      rw [List.getElem?_append_left (by omega)] at hz
      exact h.2 i y z hy hz
    · rw [List.getElem?_append_left (by omega)] at hy
      rw [List.getElem?_append_right (by omega)] at hz
      have : i + 1 - a.length = 0 := by omega
      rw [this] at hz
      simp at hz
      subst hz
      refine hl y ?_
      rw [List.getLast?_eq_getElem?, show a.length - 1 = i by omega, hy]
    · have := (List.getElem?_eq_some_iff.1 hz).1
      simp at this; omega
theorem Merged.left {a b : List Inl} (h : Merged (a ++ b)) : Merged a :=
  ⟨fun y hy => h.1 y (by simp [hy]), fun i y z hy hz => h.2 i y z (by rw [List.getElem?_append_left (List.getElem?_eq_some_iff.1 hy).1, hy]) (by rw [List.getElem?_append_left (List.getElem?_eq_some_iff.1 hz).1, hz])⟩
theorem Merged.step {out : List Inl} (h : Merged out) (x : Inl) : Merged (mergeStep out x) := by
  by_cases h0 : x.kind = 1 ∧ x.text.size = 0
  · rw [mergeStep_skip h0]; exact h
  · have hc : ¬ ((cleanI x).kind = 1 ∧ (cleanI x).text.size = 0) := by
      unfold cleanI; split <;> exact h0
    have hcx : ∀ o, lastNot o x → lastNot o (cleanI x) := by
      intro o ho t ht hh
      refine ho t ht ?_
      unfold cleanI at hh
      split at hh <;> exact hh
    by_cases hl : lastNot out x
    · rw [mergeStep_new h0 hl]
      exact h.snoc ⟨hc, cleanI_cleanI x⟩ (hcx _ hl)
    · obtain ⟨t, hl⟩ := Classical.not_forall.1 hl
      simp only [Classical.not_imp, Classical.not_not] at hl
      obtain ⟨ht, hj⟩ := hl
      obtain ⟨o, rfl⟩ := List.getLast?_eq_some_iff.1 ht
      rw [mergeStep_join h0 hj]
      obtain ⟨t1, t2⟩ := h.1 t (by simp)
      refine h.left.snoc ⟨?_, ?_⟩ ?_
      · simp only [ByteArray.size_append]
        intro hh
        exact h0 ⟨hj.1, by omega⟩
      · unfold cleanI at t2 ⊢
        simp only
        rw [if_pos hj.2.1] at t2 ⊢
        rw [← t2]
      · intro u hu hh
        have hlen : o ≠ [] := by intro e; rw [e] at hu; cases hu
        rw [List.getLast?_eq_getElem?] at hu
        have := List.length_pos_iff.2 hlen
        exact h.2 (o.length - 1) u t (by rw [List.getElem?_append_left (by omega), hu]) (by rw [show o.length - 1 + 1 = o.length by omega, List.getElem?_append_right (by omega)]; simp) hh
theorem Merged.of (l : List Inl) : Merged (mergeT l) := by
  unfold mergeT
  suffices h : ∀ (l out : List Inl), Merged out → Merged (l.foldl mergeStep out) from h l [] ⟨by simp, by simp⟩
  intro l
  induction l with
  | nil => intro out h; exact h
  | cons x l ih => intro out h; exact ih _ (h.step x)
theorem Merged.fix {l : List Inl} (h : Merged l) : mergeT l = l := by
  suffices hs : ∀ (r : List Inl), Merged r.reverse → mergeT r.reverse = r.reverse by have := hs l.reverse; simpa using this (by simpa using h)
  intro r
  induction r with
  | nil => intro _; rfl
  | cons x r ih =>
    intro h
    rw [List.reverse_cons] at h ⊢
    rw [merge_snoc, ih h.left]
    obtain ⟨h1, h2⟩ := h.1 x (by simp)
    rw [mergeStep_new h1, h2]
    intro t ht hh
    have hlen : r.reverse ≠ [] := by intro e; rw [e] at ht; cases ht
    rw [List.getLast?_eq_getElem?] at ht
    have := List.length_pos_iff.2 hlen
    exact h.2 (r.reverse.length - 1) t x (by rw [List.getElem?_append_left (by omega), ht]) (by rw [show r.reverse.length - 1 + 1 = r.reverse.length by omega, List.getElem?_append_right (by omega)]; simp) hh
theorem mergeT_mergeT (l : List Inl) : mergeT (mergeT l) = mergeT l := (Merged.of l).fix

/-! ## the text of nodes -/
def textB (x : Inl) : List UInt8 := if x.kind = 1 ∨ x.kind = 2 ∨ x.kind = 6 then L x.text else if x.kind = 7 ∨ x.kind = 8 then [32] else []
def textT (l : List Inl) : List UInt8 := l.flatMap textB
theorem textT_step (out : List Inl) (x : Inl) : textT (mergeStep out x) = textT out ++ textB x := by
  by_cases h0 : x.kind = 1 ∧ x.text.size = 0
  · rw [mergeStep_skip h0]
    have : textB x = [] := by
      unfold textB; rw [if_pos (.inl h0.1)]
      exact List.eq_nil_of_length_eq_zero (by simpa using h0.2)
    rw [this, List.append_nil]
  · by_cases hl : lastNot out x
    · rw [mergeStep_new h0 hl]
      have : textB (cleanI x) = textB x := by unfold cleanI; split <;> rfl
      simp [textT, this]
    · obtain ⟨t, hl⟩ := Classical.not_forall.1 hl
      simp only [Classical.not_imp, Classical.not_not] at hl
      obtain ⟨ht, hj⟩ := hl
      obtain ⟨o, rfl⟩ := List.getLast?_eq_some_iff.1 ht
      rw [mergeStep_join h0 hj]
      simp only [textT, List.flatMap_append, List.flatMap_singleton, List.append_assoc]
      congr 1
      unfold textB
      simp only
      rw [if_pos (.inl hj.2.1), if_pos (.inl hj.2.1), if_pos (.inl hj.1), L_append]
theorem textT_merge (l : List Inl) : textT (mergeT l) = textT l := by
  suffices h : ∀ (l out : List Inl), textT (l.foldl mergeStep out) = textT out ++ textT l from by have := h l []; simpa [textT, mergeT] using this
  intro l
  induction l with
  | nil => intro out; simp [textT]
  | cons x l ih => intro out; rw [List.foldl_cons, ih, textT_step]; simp [textT]
theorem textT_len (l : List Inl) : (textT l).length ≤ txtLen l + l.length := by
  induction l with
  | nil => simp [textT, txtLen]
  | cons x l ih =>
    have : (textB x).length ≤ x.text.size + 1 := by unfold textB; split; simp; split <;> simp
    simp only [textT, txtLen, List.flatMap_cons, List.length_append, List.map_cons, List.sum_cons, List.length_cons] at *
    omega
end Go.Proofs.Ytfdfpimilmhhoaa
