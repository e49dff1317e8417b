/- Joined texts: VeilBytes, VeilHide, VeilGood. -/
import Derived.Test.YtgdnphmannbpgaaGreatDoorGK
import Derived.Test.YtgdnphmannbpgaaGreatDoorGG
import Derived.Test.YtgdnphmannbpgaaGreatDoorGH
import Derived.Lib.MapLaws
/-
  A line's pieces, found byte by byte; a line with the texts of some spans turned has the same pieces, so turned.
-/
namespace Go.Proofs.YtgdnphmannbpgaaGreatDoor
set_option linter.unusedVariables false

/-! ## a span, told by two splits -/
def labS : List UInt8 → Option (List UInt8 × List UInt8)
  | [] => none
  | b :: r => if b = 58 then some ([], r) else (labS r).map fun p => (b :: p.1, p.2)
def barS : List UInt8 → Option (List UInt8 × List UInt8)
  | [] => none
  | b :: r => if b = 124 ∧ r.head? = some 125 then some ([], r.tail) else (barS r).map fun p => (b :: p.1, p.2)
theorem labS_some {q a z : List UInt8} (h : labS q = some (a, z)) : q = a ++ 58 :: z ∧ 58 ∉ a := by
  induction q generalizing a with
  | nil => cases h
  | cons b r ih =>
    unfold labS at h
    split at h
    · rename_i hb
      simp only [Option.some.injEq, Prod.mk.injEq] at h
      obtain ⟨rfl, rfl⟩ := h
      exact ⟨by simp [hb], by simp⟩
    · rename_i hb
      obtain ⟨p, hp, hq⟩ := Option.map_eq_some_iff.1 h
      simp only [Prod.mk.injEq] at hq
      obtain ⟨rfl, rfl⟩ := hq
      obtain ⟨e, hn⟩ := ih (a := p.1) hp
      exact ⟨by simp [e], by simp only [List.mem_cons, not_or]; exact ⟨fun e => hb e.symm, hn⟩⟩
theorem labS_app {a z : List UInt8} (h : 58 ∉ a) : labS (a ++ 58 :: z) = some (a, z) := by
  induction a with
  | nil => simp [labS]
  | cons b r ih =>
    simp only [List.mem_cons, not_or] at h
    simp only [List.cons_append]
    unfold labS
    rw [if_neg (fun e => h.1 e.symm), ih h.2]
    rfl
theorem labS_none {q : List UInt8} (h : labS q = none) : 58 ∉ q := by
  induction q with
  | nil => simp
  | cons b r ih =>
    unfold labS at h
    split at h
    · cases h
    · rename_i hb
      simp only [Option.map_eq_none_iff] at h
      simp only [List.mem_cons, not_or]
      exact ⟨fun e => hb e.symm, ih h⟩
theorem labS_no {q : List UInt8} (h : 58 ∉ q) : labS q = none := by
  induction q with
  | nil => rfl
  | cons b r ih =>
    simp only [List.mem_cons, not_or] at h
    unfold labS
    rw [if_neg (fun e => h.1 e.symm), ih h.2]
    rfl
/-- no '|}' within -/
def noBar : List UInt8 → Bool
  | [] => true
  | b :: r => !(decide (b = 124) && decide (r.head? = some 125)) && noBar r
theorem barS_some {q t r : List UInt8} (h : barS q = some (t, r)) : q = t ++ 124 :: 125 :: r ∧ noBar t = true := by
  induction q generalizing t with
  | nil => cases h
  | cons b x ih =>
    unfold barS at h
    split at h
    · rename_i hb
      simp only [Option.some.injEq, Prod.mk.injEq] at h
      obtain ⟨rfl, rfl⟩ := h
      obtain ⟨rfl, h2⟩ := hb
      cases x with
      | nil => cases h2
      | cons c y => simp at h2; subst h2; exact ⟨rfl, rfl⟩
    · rename_i hb
      obtain ⟨p, hp, hq⟩ := Option.map_eq_some_iff.1 h
      simp only [Prod.mk.injEq] at hq
      obtain ⟨rfl, rfl⟩ := hq
      obtain ⟨e, hn⟩ := ih (t := p.1) hp
      refine ⟨by simp [e], ?_⟩
      unfold noBar
      rw [hn, Bool.and_true, Bool.not_eq_true']
      rw [← Bool.not_eq_true, Bool.and_eq_true, decide_eq_true_eq, decide_eq_true_eq]
      rintro ⟨h1, h2⟩
      refine hb ⟨h1, ?_⟩
      rw [e]
      cases h3 : p.1 with
      | nil => rw [h3] at h2; cases h2
      | cons c y => rw [h3] at h2; simpa using h2
theorem barS_app {t r : List UInt8} (h : noBar t = true) : barS (t ++ 124 :: 125 :: r) = some (t, r) := by
  induction t with
  | nil => simp [barS]
  | cons b x ih =>
    unfold noBar at h
    rw [Bool.and_eq_true, Bool.not_eq_true'] at h
    simp only [List.cons_append]
    unfold barS
    rw [if_neg, ih h.2]
    · rfl
    · rintro ⟨h1, h2⟩
      have h3 := h.1
      rw [← Bool.not_eq_true, Bool.and_eq_true, decide_eq_true_eq, decide_eq_true_eq] at h3
      cases x with
      | nil => simp at h2
      | cons c y => exact h3 ⟨h1, by simpa using h2⟩
def spanQ (l : List UInt8) : Option (List UInt8 × List UInt8 × List UInt8) :=
  match l with
  | 123 :: 124 :: q => match labS q with
    | some (a, z) => if labelT a then (barS z).map fun p => (a, p.1, p.2) else none
    | none => none
  | _ => none
theorem index_labS (q : List UInt8) : Lib.index q [58] = match labS q with | none => -1 | some (a, _) => (a.length : Int) := by
  induction q with
  | nil => rfl
  | cons b r ih =>
    unfold Lib.index labS
    by_cases hb : b = 58
    · rw [if_pos (by subst hb; rfl), if_pos hb]; rfl
    · rw [if_neg (by simp [List.isPrefixOf]; exact fun e => hb e.symm), if_neg hb, ih]
      cases h : labS r with
      | none => rfl
      | some p =>
        obtain ⟨a, z⟩ := p
        simp only [Option.map_some]
        rw [if_neg]
        · simp
        · simp only [beq_iff_eq]; omega
theorem index_barS (q : List UInt8) : Lib.index q [124, 125] = match barS q with | none => -1 | some (a, _) => (a.length : Int) := by
  induction q with
  | nil => rfl
  | cons b r ih =>
    unfold Lib.index barS
    by_cases hb : b = 124 ∧ r.head? = some 125
    · rw [if_pos, if_pos hb]
      · rfl
      · obtain ⟨rfl, h2⟩ := hb
        cases r with
        | nil => cases h2
        | cons c y => simp at h2; subst h2; rfl
    · rw [if_neg hb, if_neg, ih]
      · cases h : barS r with
        | none => rfl
        | some p =>
          obtain ⟨a, z⟩ := p
          simp only [Option.map_some]
          rw [if_neg]
          · simp
          · simp only [beq_iff_eq]; omega
      · intro h
        obtain ⟨y, hy⟩ := List.isPrefixOf_iff_prefix.1 h
        simp only [List.cons_append, List.nil_append, List.cons.injEq] at hy
        exact hb ⟨hy.1.symm, by rw [← hy.2]; rfl⟩
theorem cut_labS (q : List UInt8) : Lib.cut q [58] = match labS q with | none => (q, [], false) | some (a, z) => (a, z, true) := by
  unfold Lib.cut
  rw [index_labS]
  cases h : labS q with
  | none => rfl
  | some p =>
    obtain ⟨a, z⟩ := p
    obtain ⟨e, _⟩ := labS_some h
    simp only
    rw [if_pos (by omega), e]
    simp
theorem cut_barS (q : List UInt8) : Lib.cut q [124, 125] = match barS q with | none => (q, [], false) | some (a, z) => (a, z, true) := by
  unfold Lib.cut
  rw [index_barS]
  cases h : barS q with
  | none => rfl
  | some p =>
    obtain ⟨a, z⟩ := p
    obtain ⟨e, _⟩ := barS_some h
    simp only
    rw [if_pos (by omega), e]
    simp
theorem spanT_eq (l : List UInt8) : spanT l = (spanQ l).map fun p => (p.1, p.2.1) := by
  unfold spanT
  by_cases hp : Lib.hasPrefix l [123, 124] = true
  · obtain ⟨q, hq⟩ := List.isPrefixOf_iff_prefix.1 hp
    subst hq
    rw [if_pos hp]
    simp only [List.cons_append, List.nil_append, List.drop_succ_cons, List.drop_zero, spanQ]
    rw [cut_labS]
    cases h : labS q with
    | none => simp
    | some p =>
      obtain ⟨a, z⟩ := p
      simp only [Bool.true_and]
      cases hl : labelT a
      · simp
      · simp only [if_true]
        rw [cut_barS]
        cases h2 : barS z with
        | none => simp
        | some p => simp
  · rw [if_neg hp]
    have : spanQ l = none := by
      unfold spanQ
      split
      · exact absurd rfl hp
      · rfl
    rw [this]; rfl
theorem spanQ_some {l a t r : List UInt8} (h : spanQ l = some (a, t, r)) : l = 123 :: 124 :: (a ++ 58 :: (t ++ 124 :: 125 :: r)) ∧ labelT a = true ∧ 58 ∉ a ∧ noBar t = true := by
  unfold spanQ at h
  split at h
  · rename_i q
    split at h
    · rename_i a' z h1
      split at h
      · rename_i h2
        obtain ⟨p, hp, e⟩ := Option.map_eq_some_iff.1 h
        simp only [Prod.mk.injEq] at e
        obtain ⟨rfl, rfl, rfl⟩ := e
        obtain ⟨e1, n1⟩ := labS_some h1
        obtain ⟨e2, n2⟩ := barS_some (t := p.1) (r := p.2) hp
        exact ⟨by rw [e1, e2], h2, n1, n2⟩
      · cases h
    · cases h
  · cases h
theorem label_no {a : List UInt8} (h : labelT a = true) : ∀ c ∈ ([123, 125, 124, 58, 32, 9] : List UInt8), c ∉ a := by
  intro c hc hm
  unfold labelT at h
  simp only [Bool.and_eq_true, List.all_eq_true, Bool.not_eq_true'] at h
  have := h.2 c hm
  rw [List.contains_iff_mem.2 (show c ∈ L badC from hc)] at this
  cases this
theorem spanQ_mk {a t r : List UInt8} (h1 : labelT a = true) (h2 : noBar t = true) : spanQ (123 :: 124 :: (a ++ 58 :: (t ++ 124 :: 125 :: r))) = some (a, t, r) := by
  unfold spanQ
  simp only
  rw [labS_app (label_no h1 58 (by simp))]
  simp only
  rw [if_pos h1, barS_app h2]
  rfl
theorem spanQ_head {l : List UInt8} (h : l.head? ≠ some 123) : spanQ l = none := by
  unfold spanQ
  split
  · exact absurd rfl h
  · rfl

/-! ## the pieces, byte by byte -/
def txtP (acc : List UInt8) : List PieceT := if acc.isEmpty then [] else [⟨false, ⟨#[]⟩, S acc⟩]
def spB : Nat → List UInt8 → List UInt8 → List PieceT
  | 0, acc, _ => txtP acc
  | _ + 1, acc, [] => txtP acc
  | f + 1, acc, b :: r => match spanQ (b :: r) with
    | some (a, t, z) => txtP acc ++ ⟨true, S a, S t⟩ :: spB f [] z
    | none => spB f (acc ++ [b]) r
theorem spB_skip : ∀ (x : List UInt8) (f : Nat) (acc y : List UInt8), (123 : UInt8) ∉ x → spB (f + x.length) acc (x ++ y) = spB f (acc ++ x) y
  | [], f, acc, y, _ => by simp
  | b :: x, f, acc, y, h => by
    simp only [List.mem_cons, not_or] at h
    rw [List.length_cons, show f + (x.length + 1) = (f + x.length) + 1 by omega, List.cons_append, spB, spanQ_head (by simp; exact fun e => h.1 e.symm)]
    simp only
    rw [spB_skip x f _ y h.2]
    simp
theorem spanQ_len {l a t r : List UInt8} (h : spanQ l = some (a, t, r)) : l.length = a.length + t.length + 5 + r.length := by
  rw [(spanQ_some h).1]; simp; omega
/-- enough fuel is enough -/
theorem spB_fuel : ∀ (f g : Nat) (acc l : List UInt8), l.length ≤ f → l.length ≤ g → spB f acc l = spB g acc l
  | 0, 0, _, _, _, _ => rfl
  | 0, g + 1, acc, l, h, _ => by
    have : l = [] := List.eq_nil_of_length_eq_zero (by omega)
    subst this; rfl
  | f + 1, 0, acc, l, _, h => by
    have : l = [] := List.eq_nil_of_length_eq_zero (by omega)
    subst this; rfl
  | f + 1, g + 1, acc, [], _, _ => rfl
  | f + 1, g + 1, acc, b :: r, h1, h2 => by
    simp only [List.length_cons] at h1 h2
    rw [spB, spB]
    cases hs : spanQ (b :: r) with
    | none => exact spB_fuel f g _ r (by omega) (by omega)
    | some p =>
      obtain ⟨a, t, z⟩ := p
      have := spanQ_len hs
      simp only [List.length_cons] at this
      simp only
      rw [spB_fuel f g [] z (by omega) (by omega)]
theorem spF_spB (s : ByteArray) : ∀ (f pos frm : Nat) (out : List PieceT), pos ≤ s.size → frm ≤ s.size → s.size < f + pos →
    (frm ≤ pos → spF s f pos frm out = out ++ spB s.size (((L s).take pos).drop frm) ((L s).drop pos)) ∧
    (pos < frm → (∀ b, (L s)[frm - 1]? = some b → b.toNat < 128) → spF s f pos frm out = out ++ spB s.size [] ((L s).drop frm))
  | 0, pos, frm, out, h1, h2, h3 => by omega
  | f + 1, pos, frm, out, h1, h2, h3 => by
    by_cases hp : pos < s.size
    · obtain ⟨⟨da, _⟩, dw, dle, dc⟩ := decode_span s pos hp
      have hl : (L s).length = s.size := length_L s
      have hd : (L s).drop pos = (L s)[pos]'(by omega) :: (L s).drop (pos + 1) := List.drop_eq_getElem_cons (by omega)
      -- the rest of a rune has no sign
      have hrest : ∀ w, (Utf8.decode s pos).2 = w → spB s.size (((L s).take pos).drop frm ++ [(L s)[pos]'(by omega)]) ((L s).drop (pos + 1)) = spB s.size ((((L s).take pos).drop frm) ++ ((L s).drop pos).take w) ((L s).drop (pos + w)) := by
        intro w hw
        rw [hw] at dw dle dc
        have hx : (123 : UInt8) ∉ ((L s).drop (pos + 1)).take (w - 1) := by
          intro hm
          obtain ⟨j, hj⟩ := List.mem_iff_getElem?.1 hm
          rw [List.getElem?_take] at hj
          split at hj
          · rename_i hlt
            rw [List.getElem?_drop] at hj
            obtain ⟨hk, hv⟩ := List.getElem?_eq_some_iff.1 hj
            have := dc (pos + 1 + j) (by omega) (by omega) (by omega)
            rw [hv] at this
            exact absurd this (by decide)
          · cases hj
        have hsplit : (L s).drop (pos + 1) = ((L s).drop (pos + 1)).take (w - 1) ++ (L s).drop (pos + w) := by
          rw [show (L s).drop (pos + w) = ((L s).drop (pos + 1)).drop (w - 1) by rw [List.drop_drop]; congr 1; omega]
          exact (List.take_append_drop _ _).symm
        have hlen : (((L s).drop (pos + 1)).take (w - 1)).length = w - 1 := by
          rw [List.length_take, List.length_drop]; omega
        rw [hsplit, spB_fuel s.size ((s.size - (w - 1)) + (((L s).drop (pos + 1)).take (w - 1)).length) _ _ (by rw [← hsplit, List.length_drop]; omega) (by rw [← hsplit, List.length_drop]; omega), spB_skip _ _ _ _ hx]
        rw [spB_fuel (s.size - (w - 1)) s.size _ _ (by rw [List.length_drop]; omega) (by rw [List.length_drop]; omega)]
        have : ((L s).drop pos).take w = (L s)[pos]'(by omega) :: ((L s).drop (pos + 1)).take (w - 1) := by
          rw [hd, show w = (w - 1) + 1 by omega, List.take_succ_cons]
          rfl
        rw [this]
        simp
      have hacc : ∀ w, frm ≤ pos → (((L s).take pos).drop frm) ++ ((L s).drop pos).take w = ((L s).take (pos + w)).drop frm := by
        intro w hf
        rw [List.take_add, List.drop_append_of_le_length (by rw [List.length_take]; omega)]
      refine ⟨fun hf => ?_, fun hf hb => ?_⟩
      · unfold spF
        rw [if_pos hp, if_neg (by omega), spanT_eq]
        conv => rhs; rw [hd]
        obtain ⟨m, hm⟩ : ∃ m, s.size = m + 1 := ⟨s.size - 1, by omega⟩
        rw [show spB s.size (((L s).take pos).drop frm) ((L s)[pos]'(by omega) :: (L s).drop (pos + 1)) = spB (m + 1) (((L s).take pos).drop frm) ((L s)[pos]'(by omega) :: (L s).drop (pos + 1)) by rw [hm], spB, ← hd]
        cases hs : spanQ ((L s).drop pos) with
        | none =>
          simp only [Option.map_none]
          obtain ⟨i1, _⟩ := spF_spB s f (pos + (Utf8.decode s pos).2) frm out dle h2 (by omega)
          rw [i1 (by omega), ← hacc _ hf, ← hrest _ rfl, spB_fuel m s.size _ _ (by rw [List.length_drop]; omega) (by rw [List.length_drop]; omega)]
        | some p =>
          obtain ⟨a, t, z⟩ := p
          have hlen := spanQ_len hs
          rw [List.length_drop, hl] at hlen
          obtain ⟨he, _⟩ := spanQ_some hs
          have h123 : (L s)[pos]'(by omega) = 123 := by
            rw [hd] at he
            exact (List.cons.inj he).1
          have hw := da (by rw [h123]; decide)
          rw [hw]
          simp only [Option.map_some]
          have hz : (L s).drop (pos + (a.length + t.length + 5)) = z := by
            rw [← List.drop_drop, he]
            rw [show (123 : UInt8) :: 124 :: (a ++ 58 :: (t ++ 124 :: 125 :: z)) = (123 :: 124 :: (a ++ 58 :: (t ++ [124, 125]))) ++ z by simp, List.drop_append_of_le_length (by simp; omega), List.drop_of_length_le (by simp; omega)]
            rfl
          obtain ⟨_, i2⟩ := spF_spB s f (pos + 1) (pos + (a.length + t.length + 5)) ((if frm < pos then out ++ [⟨false, ⟨#[]⟩, s.extract frm pos⟩] else out) ++ [⟨true, S a, S t⟩]) (by omega) (by omega) (by omega)
          rw [i2 (by omega) ?_, hz]
          · have htx : (if frm < pos then out ++ [⟨false, ⟨#[]⟩, s.extract frm pos⟩] else out) = out ++ txtP (((L s).take pos).drop frm) := by
              unfold txtP
              have hle : (((L s).take pos).drop frm).length = pos - frm := by rw [List.length_drop, List.length_take]; omega
              by_cases hlt : frm < pos
              · rw [if_pos hlt, if_neg (by rw [List.isEmpty_iff]; intro e; rw [e] at hle; simp at hle; omega)]
                have : s.extract frm pos = S (((L s).take pos).drop frm) := L_inj (by rw [L_extract, L_S])
                rw [this]
              · have : ((L s).take pos).drop frm = [] := List.eq_nil_of_length_eq_zero (by omega)
                rw [if_neg hlt, this]; simp
            rw [htx, spB_fuel m s.size [] z (by omega) (by omega)]
            simp
          · intro b hb
            have : (L s)[pos + (a.length + t.length + 5) - 1]? = some 125 := by
              have e2 : (L s)[pos + (a.length + t.length + 5) - 1]? = ((L s).drop pos)[a.length + t.length + 4]? := by
                rw [List.getElem?_drop]; congr 1
              rw [e2, he, show (123 : UInt8) :: 124 :: (a ++ 58 :: (t ++ 124 :: 125 :: z)) = (123 :: 124 :: (a ++ 58 :: (t ++ [124]))) ++ 125 :: z by simp, List.getElem?_append_right (by simp; omega)]
              simp
              rw [show a.length + t.length + 2 - (a.length + (t.length + 1 + 1)) = 0 by omega]
              rfl
            rw [this] at hb
            injection hb with hb
            rw [← hb]; decide
      · unfold spF
        rw [if_pos hp, if_pos hf]
        have hle : pos + (Utf8.decode s pos).2 ≤ frm := by
          by_cases hlt : frm < pos + (Utf8.decode s pos).2
          · by_cases he : frm - 1 = pos
            · have : (L s)[pos]'(by omega) = (L s)[pos]'(by omega) := rfl
              have hx := hb ((L s)[pos]'(by omega)) (by rw [he]; exact List.getElem?_eq_getElem _)
              have := da hx
              rw [this] at hlt ⊢
              simp only at hlt ⊢
              omega
            · have h128 := dc (frm - 1) (by omega) (by omega) (by omega)
              have hx := hb ((L s)[frm - 1]'(by omega)) (List.getElem?_eq_getElem _)
              omega
          · omega
        obtain ⟨i1, i2⟩ := spF_spB s f (pos + (Utf8.decode s pos).2) frm out dle h2 (by omega)
        by_cases he : pos + (Utf8.decode s pos).2 = frm
        · rw [i1 (by omega), he]
          have : ((L s).take frm).drop frm = [] := List.eq_nil_of_length_eq_zero (by rw [List.length_drop, List.length_take]; omega)
          rw [this]
        · exact i2 (by omega) hb
    · have hps : pos = s.size := by omega
      refine ⟨fun hf => ?_, fun hf => by omega⟩
      have hl : (L s).length = s.size := length_L s
      unfold spF
      have et : (L s).take pos = L s := List.take_of_length_le (by omega)
      have ed : (L s).drop pos = [] := List.drop_of_length_le (by omega)
      rw [if_neg hp, et, ed]
      have hnil : ∀ k acc, spB k acc [] = txtP acc := fun k acc => by cases k <;> rfl
      rw [hnil]
      unfold txtP
      by_cases hlt : frm < s.size
      · rw [if_pos hlt, if_neg (by rw [List.isEmpty_iff]; intro e; have := congrArg List.length e; rw [List.length_drop] at this; simp at this; omega)]
        have : s.extract frm s.size = S ((L s).drop frm) := L_inj (by rw [L_extract, L_S, List.take_of_length_le (by omega)])
        rw [this]
      · rw [if_neg hlt, List.drop_of_length_le (by omega)]; simp
theorem spansT_eq (s : ByteArray) : spansT s = spB s.size [] (L s) := by
  have := (spF_spB s (s.size + 1) 0 0 [] (Nat.zero_le _) (Nat.zero_le _) (by omega)).1 (Nat.le_refl _)
  simpa [spansT] using this
end Go.Proofs.YtgdnphmannbpgaaGreatDoor
/-
  A line veiled twice is the line veiled by who sees what both see.
-/
namespace Go.Proofs.YtgdnphmannbpgaaGreatDoor
set_option linter.unusedVariables false

/-- the texts of the spans whose label is told are emptied -/
def rwB (h : List UInt8 → Bool) : Nat → List UInt8 → List UInt8
  | 0, l => l
  | _ + 1, [] => []
  | f + 1, b :: r => match spanQ (b :: r) with
    | some (a, t, z) => 123 :: 124 :: (a ++ 58 :: ((if h a then [] else t) ++ 124 :: 125 :: rwB h f z))
    | none => b :: rwB h f r
theorem rwB_nil (h : List UInt8 → Bool) (f : Nat) : rwB h f [] = [] := by cases f <;> rfl
theorem rwB_skip (h : List UInt8 → Bool) : ∀ (x : List UInt8) (f : Nat) (y : List UInt8), (123 : UInt8) ∉ x → rwB h (f + x.length) (x ++ y) = x ++ rwB h f y
  | [], f, y, _ => by simp
  | b :: x, f, y, hx => by
    simp only [List.mem_cons, not_or] at hx
    rw [List.length_cons, show f + (x.length + 1) = (f + x.length) + 1 by omega, List.cons_append, rwB, spanQ_head (by simp; exact fun e => hx.1 e.symm)]
    simp only
    rw [rwB_skip h x f y hx.2]
    simp
theorem rwB_fuel (h : List UInt8 → Bool) : ∀ (f g : Nat) (l : List UInt8), l.length ≤ f → l.length ≤ g → rwB h f l = rwB h g l
  | f, g, [], _, _ => by rw [rwB_nil, rwB_nil]
  | 0, g, b :: r, h1, _ => by simp at h1
  | f + 1, 0, b :: r, _, h2 => by simp at h2
  | f + 1, g + 1, b :: r, h1, h2 => by
    simp only [List.length_cons] at h1 h2
    rw [rwB, rwB]
    cases hs : spanQ (b :: r) with
    | none => simp only; rw [rwB_fuel h f g r (by omega) (by omega)]
    | some p =>
      obtain ⟨a, t, z⟩ := p
      have := spanQ_len hs
      simp only [List.length_cons] at this
      simp only
      rw [rwB_fuel h f g z (by omega) (by omega)]
/-- as long as the line -/
def rwL (h : List UInt8 → Bool) (l : List UInt8) : List UInt8 := rwB h l.length l
theorem rwL_nil (h : List UInt8 → Bool) : rwL h [] = [] := rfl
theorem rwL_app (h : List UInt8 → Bool) {x : List UInt8} (y : List UInt8) (hx : (123 : UInt8) ∉ x) : rwL h (x ++ y) = x ++ rwL h y := by
  unfold rwL
  rw [List.length_append, show x.length + y.length = y.length + x.length by omega, rwB_skip h x _ y hx]
theorem rwL_plain (h : List UInt8 → Bool) {x : List UInt8} (hx : (123 : UInt8) ∉ x) : rwL h x = x := by
  have := rwL_app h [] hx
  simpa [rwL_nil] using this
theorem rwL_none (h : List UInt8 → Bool) {b : UInt8} {r : List UInt8} (hs : spanQ (b :: r) = none) : rwL h (b :: r) = b :: rwL h r := by
  unfold rwL
  rw [List.length_cons, rwB, hs]
theorem rwL_some (h : List UInt8 → Bool) {l a t z : List UInt8} (hs : spanQ l = some (a, t, z)) : rwL h l = 123 :: 124 :: (a ++ 58 :: ((if h a then [] else t) ++ 124 :: 125 :: rwL h z)) := by
  have hlen := spanQ_len hs
  cases l with
  | nil => simp at hlen; omega
  | cons b r =>
    unfold rwL
    simp only [List.length_cons] at hlen ⊢
    rw [rwB, hs]
    simp only
    rw [rwB_fuel h r.length z.length z (by omega) (Nat.le_refl _)]
/-- by the line's length -/
theorem line_ind {P : List UInt8 → Prop} (h0 : P []) (h1 : ∀ b r, spanQ (b :: r) = none → P r → P (b :: r)) (h2 : ∀ l a t z, spanQ l = some (a, t, z) → P z → P l) : ∀ l, P l := by
  have : ∀ n (l : List UInt8), l.length ≤ n → P l := by
    intro n
    induction n with
    | zero => intro l hl; rw [List.eq_nil_of_length_eq_zero (by omega : l.length = 0)]; exact h0
    | succ n ih =>
      intro l hl
      cases l with
      | nil => exact h0
      | cons b r =>
        cases hs : spanQ (b :: r) with
        | none => exact h1 b r hs (ih r (by simpa using hl))
        | some p =>
          obtain ⟨a, t, z⟩ := p
          have := spanQ_len hs
          exact h2 _ a t z hs (ih z (by omega))
  exact fun l => this l.length l (Nat.le_refl _)
theorem rwL_len (h : List UInt8 → Bool) (l : List UInt8) : (rwL h l).length ≤ l.length := by
  induction l using line_ind with
  | h0 => simp [rwL_nil]
  | h1 b r hs ih => rw [rwL_none h hs]; simpa using ih
  | h2 l a t z hs ih =>
    have hlen := spanQ_len hs
    rw [rwL_some h hs, hlen]
    simp only [List.length_cons, List.length_append]
    split
    · simp only [List.length_nil]; omega
    · omega
theorem rwL_id (l : List UInt8) (h : List UInt8 → Bool) (hf : ∀ a, h a = false) : rwL h l = l := by
  induction l using line_ind with
  | h0 => rfl
  | h1 b r hs ih => rw [rwL_none h hs, ih]
  | h2 l a t z hs ih => rw [rwL_some h hs, hf a, ih, (spanQ_some hs).1]; simp
theorem rwL_head (h : List UInt8 → Bool) (l : List UInt8) : (rwL h l).head? = l.head? := by
  cases l with
  | nil => rfl
  | cons b r =>
    cases hs : spanQ (b :: r) with
    | none => rw [rwL_none h hs]; rfl
    | some p =>
      obtain ⟨a, t, z⟩ := p
      rw [rwL_some h hs]
      have := (spanQ_some hs).1
      rw [(List.cons.inj this).1]; rfl
theorem barS_tail {b : UInt8} {r : List UInt8} (h : barS (b :: r) = none) : barS r = none := by
  unfold barS at h
  split at h
  · cases h
  · simpa using h
theorem barS_mid (x r : List UInt8) : barS (x ++ 124 :: 125 :: r) ≠ none := by
  induction x with
  | nil => simp [barS]
  | cons b x ih => intro h; exact ih (barS_tail h)
theorem rwL_nobar (h : List UInt8 → Bool) (l : List UInt8) (hb : barS l = none) : rwL h l = l := by
  induction l using line_ind with
  | h0 => rfl
  | h1 b r hs ih => rw [rwL_none h hs, ih (barS_tail hb)]
  | h2 l a t z hs ih =>
    refine absurd hb ?_
    rw [(spanQ_some hs).1, show (123 : UInt8) :: 124 :: (a ++ 58 :: (t ++ 124 :: 125 :: z)) = (123 :: 124 :: (a ++ 58 :: t)) ++ 124 :: 125 :: z by simp]
    exact barS_mid _ z
/-- up to a sign -/
theorem cut_sign (p : UInt8 → Bool) (q : List UInt8) : ∃ x y, q = x ++ y ∧ (∀ b ∈ x, p b = false) ∧ (y = [] ∨ ∃ c z, y = c :: z ∧ p c = true) := by
  induction q with
  | nil => exact ⟨[], [], rfl, by simp, .inl rfl⟩
  | cons b r ih =>
    cases hb : p b
    · obtain ⟨x, y, e, h1, h2⟩ := ih
      exact ⟨b :: x, y, by rw [e]; rfl, fun c hc => by rcases List.mem_cons.1 hc with h | h; rw [h]; exact hb; exact h1 c h, h2⟩
    · exact ⟨[], b :: r, rfl, by simp, .inr ⟨b, r, rfl, hb⟩⟩
/-- what begins no span begins none, turned -/
theorem spanQ_rw (h : List UInt8 → Bool) {b : UInt8} {r : List UInt8} (hs : spanQ (b :: r) = none) : spanQ (b :: rwL h r) = none := by
  by_cases hb : b = 123
  · subst hb
    cases r with
    | nil => rfl
    | cons c q =>
      by_cases hc : c = 124
      · subst hc
        rw [rwL_none h (spanQ_head (by simp))]
        obtain ⟨x, y, e, hx, hy⟩ := cut_sign (fun b => decide (b = 58) || decide (b = 123)) q
        have hx1 : (58 : UInt8) ∉ x := fun hm => by have := hx _ hm; simp at this
        have hx2 : (123 : UInt8) ∉ x := fun hm => by have := hx _ hm; simp at this
        subst e
        rw [rwL_app h y hx2]
        rcases hy with rfl | ⟨c, z, rfl, hc⟩
        · rw [rwL_nil, List.append_nil]
          unfold spanQ
          simp only
          rw [labS_no hx1]
        · simp only [Bool.or_eq_true, decide_eq_true_eq] at hc
          by_cases h58 : c = 58
          · subst h58
            rw [rwL_none h (spanQ_head (by simp))]
            unfold spanQ at hs ⊢
            simp only at hs ⊢
            rw [labS_app hx1] at hs ⊢
            simp only at hs ⊢
            cases hl : labelT x
            · simp
            · rw [hl] at hs
              simp only [if_true] at hs ⊢
              have hn : barS z = none := by simpa using hs
              rw [rwL_nobar h z hn, hn]; rfl
          · have h123 : c = 123 := by rcases hc with h | h; exact absurd h h58; exact h
            subst h123
            have hh := rwL_head h (123 :: z)
            obtain ⟨z', hz⟩ : ∃ z', rwL h (123 :: z) = 123 :: z' := by
              cases hr : rwL h (123 :: z) with
              | nil => rw [hr] at hh; cases hh
              | cons d w => rw [hr] at hh; simp at hh; subst hh; exact ⟨w, rfl⟩
            rw [hz]
            unfold spanQ
            simp only
            cases hl : labS (x ++ 123 :: z') with
            | none => rfl
            | some p =>
              obtain ⟨a, w⟩ := p
              simp only
              obtain ⟨e, _⟩ := labS_some hl
              have hm : (123 : UInt8) ∈ a := by
                rcases List.append_eq_append_iff.1 e with ⟨u, e1, e2⟩ | ⟨u, e1, e2⟩
                · cases u with
                  | nil => simp at e2
                  | cons d v => simp at e2; rw [e1, ← e2.1]; simp
                · cases u with
                  | nil => simp at e2
                  | cons d v =>
                    simp at e2
                    exact absurd (by rw [e1, ← e2.1]; simp) hx1
              have : labelT a = false := by
                cases hlt : labelT a
                · rfl
                · exact absurd hm (label_no hlt 123 (by simp))
              rw [this]; rfl
      · have hh := rwL_head h (c :: q)
        cases hr : rwL h (c :: q) with
        | nil => rfl
        | cons d w =>
          rw [hr] at hh
          simp at hh
          subst hh
          unfold spanQ
          split
          · rename_i e
            simp only [List.cons.injEq] at e
            exact absurd e.2.1 hc
          · rfl
  · exact spanQ_head (by simpa using hb)
theorem spanQ_rw_some (h : List UInt8 → Bool) {l a t z : List UInt8} (hs : spanQ l = some (a, t, z)) : spanQ (rwL h l) = some (a, if h a then [] else t, rwL h z) := by
  obtain ⟨_, h1, _, h2⟩ := spanQ_some hs
  rw [rwL_some h hs]
  exact spanQ_mk h1 (by split; rfl; exact h2)
/-- twice -/
theorem rwL_twice (h1 h2 : List UInt8 → Bool) (l : List UInt8) : rwL h2 (rwL h1 l) = rwL (fun a => h1 a || h2 a) l := by
  induction l using line_ind with
  | h0 => rfl
  | h1 b r hs ih => rw [rwL_none h1 hs, rwL_none h2 (spanQ_rw h1 hs), ih, rwL_none _ hs]
  | h2 l a t z hs ih =>
    rw [rwL_some h2 (spanQ_rw_some h1 hs), ih, rwL_some _ hs]
    cases h1 a <;> cases h2 a <;> rfl
theorem rwL_congr {h1 h2 : List UInt8 → Bool} (l : List UInt8) (h : ∀ a, h1 a = h2 a) : rwL h1 l = rwL h2 l := by rw [show h1 = h2 from funext h]
/-- the pieces, their texts turned, are the line turned -/
def mapP (h : List UInt8 → Bool) (p : PieceT) : PieceT := if p.span && h (L p.label) then { p with text := ⟨#[]⟩ } else p
theorem txtP_bytes (h : List UInt8 → Bool) (acc : List UInt8) : piecesB ((txtP acc).map (mapP h)) = acc := by
  unfold txtP
  cases acc with
  | nil => rfl
  | cons b r => simp [mapP, piecesB, pieceB]
theorem piecesB_app7 (a b : List PieceT) : piecesB (a ++ b) = piecesB a ++ piecesB b := by simp [piecesB]
theorem spB_map (h : List UInt8 → Bool) : ∀ (f : Nat) (acc l : List UInt8), l.length ≤ f → piecesB ((spB f acc l).map (mapP h)) = acc ++ rwB h f l
  | f, acc, [], _ => by
    have : spB f acc [] = txtP acc := by cases f <;> rfl
    rw [this, txtP_bytes, rwB_nil, List.append_nil]
  | 0, acc, b :: r, hl => by simp at hl
  | f + 1, acc, b :: r, hl => by
    simp only [List.length_cons] at hl
    rw [spB, rwB]
    cases hs : spanQ (b :: r) with
    | none =>
      simp only
      rw [spB_map h f _ r (by omega)]
      simp
    | some p =>
      obtain ⟨a, t, z⟩ := p
      have := spanQ_len hs
      simp only [List.length_cons] at this
      simp only [List.map_append, List.map_cons]
      rw [piecesB_app7, txtP_bytes, show mapP h ⟨true, S a, S t⟩ :: (spB f [] z).map (mapP h) = [mapP h ⟨true, S a, S t⟩] ++ (spB f [] z).map (mapP h) from rfl, piecesB_app7, spB_map h f [] z (by omega)]
      simp only [piecesB, List.flatMap_cons, List.flatMap_nil, List.append_nil, mapP, Bool.true_and, L_S, List.nil_append]
      cases ha : h a
      · simp [pieceB]
      · simp [pieceB, L_lit]
theorem bodyT_eq (s : SeerT) (l : ByteArray) (u : List ByteArray) : bodyT s l u = S (rwL (fun a => !seesT s (u ++ [S a])) (L l)) := by
  unfold bodyT
  have h1 := spB_map (fun a => !seesT s (u ++ [S a])) l.size [] (L l) (by rw [length_L]; exact Nat.le_refl _)
  rw [List.nil_append] at h1
  have h2 : hideP s u = mapP (fun a => !seesT s (u ++ [S a])) := by
    funext p
    unfold hideP mapP
    simp only [S_L]
    rfl
  rw [spansT_eq, h2, h1]
  rfl

/-! ## a labelled heading -/
def tailB (lb : List UInt8) (k : Nat) : List UInt8 := 123 :: 61 :: (lb ++ 125 :: List.replicate k 32)
theorem trimR_split (l : List UInt8) : ∃ k, l = Lib.trimRightB l 32 ++ List.replicate k 32 := by
  obtain ⟨x, y, e, h1, h2⟩ := cut_sign (fun b => !(b == 32)) l.reverse
  have hx : ∀ k (x : List UInt8), x.length = k → (∀ b ∈ x, (!(b == (32 : UInt8))) = false) → x = List.replicate k 32 := by
    intro k x hk hx
    subst hk
    refine List.eq_replicate_of_mem fun b hb => ?_
    have := hx b hb
    simpa using this
  have hx := hx x.length x rfl h1
  refine ⟨x.length, ?_⟩
  unfold Lib.trimRightB
  have hd : l.reverse.dropWhile (fun b => b == 32) = y := by
    rw [e, hx]
    rcases h2 with rfl | ⟨c, z, rfl, hc⟩
    · rw [List.append_nil]
      have := drop_rep x.length 32
      have hz : ∀ k : Nat, (List.replicate k (32 : UInt8)).dropWhile (fun b => b == 32) = [] := fun k => by
        induction k with
        | zero => rfl
        | succ k ih => rw [List.replicate_succ, List.dropWhile_cons, if_pos (by decide)]; exact ih
      exact hz _
    · exact drop_rep _ _ _ _ (by simpa using hc)
  rw [hd]
  have := congrArg List.reverse e
  rw [List.reverse_reverse, List.reverse_append] at this
  conv => lhs; rw [this, hx]
  simp
theorem headed_some {l a lb : List UInt8} (h : headedT l = some (a, lb)) : ∃ k, l = a ++ tailB lb k ∧ labelT lb = true ∧ signsOk a = true := by
  obtain ⟨k, hk⟩ := trimR_split l
  unfold headedT at h
  split at h
  · rename_i h1
    split at h
    · rename_i h2
      split at h
      · rename_i h3
        split at h
        · rename_i h4
          simp only [Option.some.injEq, Prod.mk.injEq] at h
          obtain ⟨ha, hb⟩ := h
          rw [hb] at h3
          rw [ha] at h4
          obtain ⟨m, hm⟩ := List.isSuffixOf_iff_suffix.1 h1
          have hsuf : Lib.trimSuffix (Lib.trimRightB l 32) [125] = m := by
            unfold Lib.trimSuffix
            rw [if_pos h1, ← hm]; simp
          rw [hsuf] at h2 ha hb
          unfold Lib.lastIndex at h2 ha hb
          split at h2
          · rename_i h5
            rw [if_pos h5] at ha hb
            rcases Lib.lastOcc_spec m [123, 61] (m.length - ([123, 61] : List UInt8).length + 1) with ⟨h6, _⟩ | ⟨i, hi, h6, h7, _⟩
            · rw [h6] at h2; omega
            · rw [h6] at ha hb
              simp only [Int.toNat_natCast] at ha hb
              obtain ⟨q, hq⟩ := List.isPrefixOf_iff_prefix.1 h7
              have hdl : m.drop (i + 2) = q := by rw [← List.drop_drop, ← hq]; rfl
              rw [hdl] at hb
              refine ⟨k, ?_, h3, h4⟩
              rw [hk, ← hm]
              have : m = a ++ [123, 61] ++ lb := by
                rw [← ha, ← hb, List.append_assoc, hq, List.take_append_drop]
              rw [this]
              simp [tailB]
          · omega
        · cases h
      · cases h
    · cases h
  · cases h
theorem headed_of {a lb : List UInt8} (k : Nat) (h1 : labelT lb = true) : headedT (a ++ tailB lb k) = if signsOk a then some (a, lb) else none := by
  have := headed_mk a lb k (occ_none (label_no h1 123 (by simp)))
  rw [if_pos h1] at this
  rw [← this]
  simp [tailB]
theorem tail_no {lb : List UInt8} (h : labelT lb = true) (k : Nat) : (124 : UInt8) ∉ tailB lb k ∧ (58 : UInt8) ∉ tailB lb k ∧ (123 : UInt8) ∉ (tailB lb k).tail := by
  have h1 := label_no h 124 (by simp)
  have h2 := label_no h 58 (by simp)
  have h3 := label_no h 123 (by simp)
  unfold tailB
  refine ⟨?_, ?_, ?_⟩
  · simp only [List.mem_cons, List.mem_append, List.mem_replicate, not_or]
    exact ⟨by decide, by decide, h1, by decide, by simp⟩
  · simp only [List.mem_cons, List.mem_append, List.mem_replicate, not_or]
    exact ⟨by decide, by decide, h2, by decide, by simp⟩
  · simp only [List.tail_cons, List.mem_cons, List.mem_append, List.mem_replicate, not_or]
    exact ⟨by decide, h3, by decide, by simp⟩
theorem labS_app2 (q : List UInt8) {T : List UInt8} (h : 58 ∉ T) : labS (q ++ T) = (labS q).map fun p => (p.1, p.2 ++ T) := by
  cases hq : labS q with
  | none =>
    rw [labS_no]
    · rfl
    · simp only [List.mem_append, not_or]; exact ⟨labS_none hq, h⟩
  | some p =>
    obtain ⟨a, z⟩ := p
    obtain ⟨e, hn⟩ := labS_some hq
    rw [e, List.append_assoc, List.cons_append, labS_app hn]; rfl
theorem barS_none124 : ∀ {z : List UInt8}, (124 : UInt8) ∉ z → barS z = none
  | [], _ => rfl
  | b :: r, h => by
    simp only [List.mem_cons, not_or] at h
    unfold barS
    rw [if_neg (fun e => h.1 e.1.symm), barS_none124 h.2]; rfl
theorem barS_app2 (z : List UInt8) {T : List UInt8} (h : 124 ∉ T) (h2 : T.head? ≠ some 125) : barS (z ++ T) = (barS z).map fun p => (p.1, p.2 ++ T) := by
  induction z with
  | nil => rw [List.nil_append, barS_none124 h]; rfl
  | cons b r ih =>
    rw [List.cons_append]
    unfold barS
    have hc : ((r ++ T).head? = some 125) ↔ (r.head? = some 125) := by
      cases r with
      | nil => simp; simpa using h2
      | cons c y => exact Iff.rfl
    by_cases hb : b = 124 ∧ r.head? = some 125
    · rw [if_pos hb, if_pos ⟨hb.1, hc.2 hb.2⟩]
      cases r with
      | nil => simp at hb
      | cons c y => simp
    · rw [if_neg hb, if_neg (fun e => hb ⟨e.1, hc.1 e.2⟩), ih]
      cases barS r <;> rfl
theorem spanQ_app2 (q : List UInt8) {lb : List UInt8} (hl : labelT lb = true) (k : Nat) : spanQ (q ++ tailB lb k) = (spanQ q).map fun p => (p.1, p.2.1, p.2.2 ++ tailB lb k) := by
  obtain ⟨t1, t2, t3⟩ := tail_no hl k
  match q with
  | [] => rfl
  | [c] =>
    by_cases hc : c = 123
    · subst hc; rfl
    · rw [spanQ_head (by simpa using hc), spanQ_head (by simpa using hc)]; rfl
  | b :: c :: q =>
    by_cases hb : b = 123
    · by_cases hc : c = 124
      · subst hb; subst hc
        unfold spanQ
        simp only [List.cons_append]
        rw [labS_app2 q t2]
        cases hq : labS q with
        | none => rfl
        | some p =>
          obtain ⟨a, z⟩ := p
          simp only [Option.map_some]
          cases hla : labelT a
          · rfl
          · simp only [if_true]
            rw [barS_app2 z t1 (by simp [tailB])]
            cases barS z <;> rfl
      · have : ∀ w, spanQ (b :: c :: w) = none := fun w => by
          unfold spanQ
          split
          · rename_i e
            simp only [List.cons.injEq] at e
            exact absurd e.2.1 hc
          · rfl
        rw [List.cons_append, List.cons_append, this, this]; rfl
    · rw [spanQ_head (by simpa using hb), spanQ_head (by simpa using hb)]; rfl
theorem rwL_tail0 (h : List UInt8 → Bool) {lb : List UInt8} (hl : labelT lb = true) (k : Nat) : rwL h (tailB lb k) = tailB lb k := by
  obtain ⟨t1, t2, t3⟩ := tail_no hl k
  have : spanQ (tailB lb k) = none := rfl
  unfold tailB at this t3 ⊢
  rw [List.tail_cons] at t3
  rw [rwL_none h this, rwL_plain h t3]
theorem rwL_tail (h : List UInt8 → Bool) {lb : List UInt8} (hl : labelT lb = true) (k : Nat) (a : List UInt8) : rwL h (a ++ tailB lb k) = rwL h a ++ tailB lb k := by
  induction a using line_ind with
  | h0 => rw [rwL_nil]; exact rwL_tail0 h hl k
  | h1 b r hs ih =>
    rw [rwL_none h hs, List.cons_append, rwL_none h (by have := spanQ_app2 (b :: r) hl k; rw [hs] at this; exact this), ih]; rfl
  | h2 l a t z hs ih =>
    rw [rwL_some h hs, rwL_some h (by have := spanQ_app2 l hl k; rw [hs] at this; exact this), ih]
    simp
theorem rwL_no123 (h : List UInt8 → Bool) (l : List UInt8) (hn : (123 : UInt8) ∉ rwL h l) : rwL h l = l := by
  induction l using line_ind with
  | h0 => rfl
  | h1 b r hs ih =>
    rw [rwL_none h hs] at hn ⊢
    simp only [List.mem_cons, not_or] at hn
    rw [ih hn.2]
  | h2 l a t z hs ih => exact absurd (by rw [rwL_some h hs]; simp) hn
theorem rwL_untail (h : List UInt8 → Bool) {lb : List UInt8} (hl : labelT lb = true) (k : Nat) (l : List UInt8) : ∀ a', rwL h l = a' ++ tailB lb k → ∃ a, l = a ++ tailB lb k ∧ a' = rwL h a := by
  obtain ⟨t1, t2, t3⟩ := tail_no hl k
  induction l using line_ind with
  | h0 => intro a' e; rw [rwL_nil] at e; have := congrArg List.length e; simp [tailB] at this
  | h1 b r hs ih =>
    intro a' e
    have e0 := e
    rw [rwL_none h hs] at e
    cases a' with
    | nil =>
      rw [List.nil_append] at e
      have e1 : rwL h r = (tailB lb k).tail := by rw [← e]; rfl
      have e2 := rwL_no123 h r (by rw [e1]; exact t3)
      rw [e2] at e
      exact ⟨[], e, rfl⟩
    | cons c a'' =>
      rw [List.cons_append, List.cons.injEq] at e
      obtain ⟨rfl, e⟩ := e
      obtain ⟨a, rfl, e3⟩ := ih a'' e
      refine ⟨b :: a, rfl, ?_⟩
      have hn : spanQ (b :: a) = none := by
        have := spanQ_app2 (b :: a) hl k
        rw [List.cons_append, hs] at this
        cases hq : spanQ (b :: a) with
        | none => rfl
        | some p => rw [hq] at this; cases this
      rw [rwL_none h hn, e3]
  | h2 l a t z hs ih =>
    intro a' e
    rw [rwL_some h hs] at e
    have e2 : (123 :: 124 :: (a ++ 58 :: ((if h a then [] else t) ++ [124, 125]))) ++ rwL h z = a' ++ tailB lb k := by rw [← e]; simp
    have main : ∀ u, a' = (123 :: 124 :: (a ++ 58 :: ((if h a then [] else t) ++ [124, 125]))) ++ u → rwL h z = u ++ tailB lb k → ∃ a, l = a ++ tailB lb k ∧ a' = rwL h a := by
      intro u e3 e4
      obtain ⟨a0, rfl, e5⟩ := ih u e4
      obtain ⟨q1, q2, q3, q4⟩ := spanQ_some hs
      refine ⟨123 :: 124 :: (a ++ 58 :: (t ++ 124 :: 125 :: a0)), by rw [q1]; simp, ?_⟩
      rw [rwL_some h (spanQ_mk q2 q4), e3, e5]
      simp
    rcases List.append_eq_append_iff.1 e2 with ⟨u, e3, e4⟩ | ⟨u, e3, e4⟩
    · exact main u e3 e4
    · rcases List.eq_nil_or_concat u with rfl | ⟨u', c, rfl⟩
      · exact main [] (by rw [List.append_nil] at e3 ⊢; exact e3.symm) e4.symm
      · -- the end of the span would lie in the label
        exfalso
        rw [List.concat_eq_append] at e3 e4
        have e5 : (123 :: 124 :: (a ++ 58 :: ((if h a then [] else t) ++ [124]))) ++ [125] = (a' ++ u') ++ [c] := by
          rw [List.append_assoc, ← e3]; simp
        obtain ⟨e6, e7⟩ := List.append_inj' e5 rfl
        rcases List.eq_nil_or_concat u' with rfl | ⟨u'', d, rfl⟩
        · simp only [List.cons.injEq, and_true] at e7
          rw [← e7] at e4
          simp [tailB] at e4
        · rw [List.concat_eq_append] at e4 e6
          have e8 : (123 :: 124 :: (a ++ 58 :: (if h a then [] else t))) ++ [124] = (a' ++ u'') ++ [d] := by
            rw [List.append_assoc, ← e6]; simp
          obtain ⟨_, e9⟩ := List.append_inj' e8 rfl
          simp only [List.cons.injEq, and_true] at e9
          refine t1 ?_
          rw [e4, ← e9]
          simp
/-! ## the signs ahead -/
theorem trimL_app (c : UInt8) (x y : List UInt8) (hy : y.head? ≠ some c) : Lib.trimLeftB (x ++ y) c = Lib.trimLeftB x c ++ y := by
  unfold Lib.trimLeftB
  induction x with
  | nil =>
    cases y with
    | nil => rfl
    | cons d z =>
      rw [List.nil_append, List.dropWhile_cons, if_neg]
      · rfl
      · simp at hy; simpa using hy
  | cons b x ih =>
    rw [List.cons_append, List.dropWhile_cons, List.dropWhile_cons]
    split
    · exact ih
    · rfl
theorem signsOk_app (x y : List UInt8) (hy : y.head? = none ∨ y.head? = some 123) : signsOk (x ++ y) = signsOk x := by
  have h32 : y.head? ≠ some 32 := by rcases hy with h | h <;> rw [h] <;> decide
  have h35 : y.head? ≠ some 35 := by rcases hy with h | h <;> rw [h] <;> decide
  unfold signsOk
  rw [trimL_app 32 x y h32, trimL_app 35 _ y h35]
  have e1 : (x ++ y).length - (Lib.trimLeftB x 32 ++ y).length = x.length - (Lib.trimLeftB x 32).length := by simp only [List.length_append]; omega
  have e2 : (Lib.trimLeftB x 32 ++ y).length - (Lib.trimLeftB (Lib.trimLeftB x 32) 35 ++ y).length = (Lib.trimLeftB x 32).length - (Lib.trimLeftB (Lib.trimLeftB x 32) 35).length := by simp only [List.length_append]; omega
  have e3 : Lib.hasPrefix (Lib.trimLeftB (Lib.trimLeftB x 32) 35 ++ y) [32] = Lib.hasPrefix (Lib.trimLeftB (Lib.trimLeftB x 32) 35) [32] := by
    generalize Lib.trimLeftB (Lib.trimLeftB x 32) 35 = m
    unfold Lib.hasPrefix
    cases m with
    | nil =>
      cases y with
      | nil => rfl
      | cons d z =>
        simp at h32
        simp [List.isPrefixOf]
        exact fun e => h32 e.symm
    | cons d z => simp [List.isPrefixOf]
  rw [e1, e2, e3]
theorem signsOk_rw (h : List UInt8 → Bool) (a : List UInt8) : signsOk (rwL h a) = signsOk a := by
  obtain ⟨x, y, e, hx, hy⟩ := cut_sign (fun b => decide (b = 123)) a
  have hx2 : (123 : UInt8) ∉ x := fun hm => by have := hx _ hm; simp at this
  have hy2 : y.head? = none ∨ y.head? = some 123 := by
    rcases hy with rfl | ⟨c, z, rfl, hc⟩
    · exact .inl rfl
    · right; simp at hc; subst hc; rfl
  rw [e, rwL_app h y hx2, signsOk_app x y hy2, signsOk_app x _ (by rw [rwL_head]; exact hy2)]
theorem headed_rw (h : List UInt8 → Bool) (l : List UInt8) : headedT (rwL h l) = (headedT l).map fun p => (rwL h p.1, p.2) := by
  cases hh : headedT l with
  | some p =>
    obtain ⟨a, lb⟩ := p
    obtain ⟨k, e, h1, h2⟩ := headed_some hh
    rw [e, rwL_tail h h1, headed_of k h1, signsOk_rw, h2]; rfl
  | none =>
    cases hr : headedT (rwL h l) with
    | none => rfl
    | some p =>
      obtain ⟨a', lb⟩ := p
      obtain ⟨k, e, h1, h2⟩ := headed_some hr
      obtain ⟨a, rfl, rfl⟩ := rwL_untail h h1 k l a' e
      rw [headed_of k h1, ← signsOk_rw h, h2] at hh
      cases hh
theorem rep_split (c : UInt8) (l : List UInt8) : ∃ k y, l = List.replicate k c ++ y ∧ y = Lib.trimLeftB l c ∧ y.head? ≠ some c := by
  obtain ⟨x, y, e, hx, hy⟩ := cut_sign (fun b => !(b == c)) l
  have hx2 : x = List.replicate x.length c := List.eq_replicate_of_mem fun b hb => by have := hx b hb; simpa using this
  have hh : y.head? ≠ some c := by
    rcases hy with rfl | ⟨d, z, rfl, hc⟩
    · simp
    · simpa using hc
  refine ⟨x.length, y, by rw [← hx2]; exact e, ?_, hh⟩
  rw [e, trimL_app c x y hh, hx2]
  unfold Lib.trimLeftB
  rw [List.dropWhile_replicate]
  simp
theorem signs_shape {a : List UInt8} (h : signsOk a = true) : ∃ i j y, a = List.replicate i 32 ++ List.replicate j 35 ++ 32 :: y ∧ i ≤ 3 ∧ 1 ≤ j ∧ j ≤ 6 := by
  obtain ⟨i, y1, e1, t1, _⟩ := rep_split 32 a
  obtain ⟨j, y2, e2, t2, _⟩ := rep_split 35 y1
  unfold signsOk at h
  rw [← t1, ← t2] at h
  simp only [Bool.not_eq_true', Bool.or_eq_false_iff, decide_eq_false_iff_not, Bool.not_eq_false'] at h
  obtain ⟨⟨⟨h1, h2⟩, h3⟩, h4⟩ := h
  obtain ⟨z, hz⟩ := List.isPrefixOf_iff_prefix.1 h4
  have l1 := congrArg List.length e1
  have l2 := congrArg List.length e2
  simp only [List.length_append, List.length_replicate] at l1 l2
  refine ⟨i, j, z, ?_, by omega, by omega, by omega⟩
  rw [e1, e2, ← hz]; simp
theorem signsT_shape (i j : Nat) (y : List UInt8) (hj : 1 ≤ j) : signsT (List.replicate i 32 ++ List.replicate j 35 ++ 32 :: y) = i + j := by
  unfold signsT
  rw [signsG_skip i 0 _ (fun b hb => by
    rw [List.append_assoc, List.take_append_of_le_length (by simp)] at hb
    have := List.eq_of_mem_replicate (List.mem_of_mem_take hb)
    rw [this]; decide) (by simp)]
  have hd : (List.replicate i (32 : UInt8) ++ List.replicate j 35 ++ 32 :: y).drop i = List.replicate j 35 ++ 32 :: y := by
    rw [List.append_assoc, List.drop_append_of_le_length (by simp), List.drop_of_length_le (by simp)]; rfl
  rw [hd, Nat.zero_add]
  have : ∀ (j pos n : Nat), (n = pos ∧ 0 < n) ∨ (1 ≤ j) → signsG pos n (List.replicate j 35 ++ 32 :: y) = pos + j := by
    intro j
    induction j with
    | zero =>
      intro pos n h
      rcases h with ⟨rfl, h⟩ | h
      · rw [List.replicate_zero, List.nil_append, signsG, if_neg (by decide), if_pos h]; rfl
      · omega
    | succ j ih =>
      intro pos n h
      rw [List.replicate_succ, List.cons_append, signsG, if_pos rfl, ih (pos + 1) (pos + 1) (.inl ⟨rfl, by omega⟩)]
      omega
  exact this j i 0 (.inr hj)
theorem headT_shape (i j : Nat) (y lb : List UInt8) (hj : 1 ≤ j) : headT (S (List.replicate i 32 ++ List.replicate j 35 ++ 32 :: y)) (S lb) = S ((List.replicate i 32 ++ List.replicate j 35 ++ [32]) ++ tailB lb 0) := by
  apply L_inj
  unfold headT
  rw [L_S, signsT_shape i j y hj]
  simp only [L_append, L_extract, L_S, L_lit]
  rw [List.drop_zero, List.take_append_of_le_length (by simp), List.take_of_length_le (by simp)]
  simp [tailB]
theorem headT_rw (h : List UInt8 → Bool) {a lb : List UInt8} (ha : signsOk a = true) : headT (S (rwL h a)) (S lb) = headT (S a) (S lb) := by
  obtain ⟨i, j, y, e, hi, h1, h6⟩ := signs_shape ha
  subst e
  rw [show List.replicate i (32 : UInt8) ++ List.replicate j 35 ++ 32 :: y = (List.replicate i 32 ++ List.replicate j 35 ++ [32]) ++ y by simp, rwL_app h y (by simp)]
  rw [show (List.replicate i (32 : UInt8) ++ List.replicate j 35 ++ [32]) ++ rwL h y = List.replicate i 32 ++ List.replicate j 35 ++ 32 :: rwL h y by simp, headT_shape i j _ lb h1]
  rw [show (List.replicate i (32 : UInt8) ++ List.replicate j 35 ++ [32]) ++ y = List.replicate i 32 ++ List.replicate j 35 ++ 32 :: y by simp, headT_shape i j _ lb h1]
/-- a heading emptied is a heading, emptied -/
theorem headT_again {a lb : List UInt8} (ha : signsOk a = true) (hl : labelT lb = true) : ∃ b, L (headT (S a) (S lb)) = b ++ tailB lb 0 ∧ signsOk b = true ∧ headT (S b) (S lb) = headT (S a) (S lb) ∧ ∀ h, rwL h (L (headT (S a) (S lb))) = L (headT (S a) (S lb)) := by
  obtain ⟨i, j, y, e, hi, h1, h6⟩ := signs_shape ha
  subst e
  refine ⟨List.replicate i 32 ++ List.replicate j 35 ++ [32], by rw [headT_shape i j y lb h1, L_S], ?_, ?_, ?_⟩
  · have := signs_head j i [] h1
    unfold headL at this
    rw [List.append_nil] at this
    rw [this, decide_eq_true h6, decide_eq_true hi]; rfl
  · rw [headT_shape i j [] lb h1, headT_shape i j y lb h1]
  · intro h
    rw [headT_shape i j y lb h1, L_S, rwL_tail h hl, rwL_plain h (by simp)]

/-! ## the line -/
/-- a line, veiled by who sees what v tells -/
def lineP (v : List ByteArray → Bool) (l : ByteArray) (u : List ByteArray) : ByteArray :=
  match headedT (L l) with
  | none => S (rwL (fun a => !v (u ++ [S a])) (L l))
  | some (a, lb) => if v (u ++ [S lb]) then S (rwL (fun a => !v (u ++ [S lb] ++ [S a])) (L l)) else headT (S a) (S lb)
theorem lineT_eq (s : SeerT) (l : ByteArray) (u : List ByteArray) : lineT s l u = lineP (seesT s) l u := by
  unfold lineT lineP
  cases headedT (L l) with
  | none => exact bodyT_eq s l u
  | some p => simp only [bodyT_eq]
theorem lineP_congr {v w : List ByteArray → Bool} (h : ∀ x, v x = w x) (l : ByteArray) (u : List ByteArray) : lineP v l u = lineP w l u := by rw [show v = w from funext h]
theorem lineP_twice (v w : List ByteArray → Bool) (l : ByteArray) (u : List ByteArray) : lineP w (lineP v l u) u = lineP (fun x => v x && w x) l u := by
  cases hh : headedT (L l) with
  | none =>
    have e1 : ∀ z, lineP z l u = S (rwL (fun a => !z (u ++ [S a])) (L l)) := fun z => by unfold lineP; rw [hh]
    rw [e1, e1]
    have e2 : headedT (L (S (rwL (fun a => !v (u ++ [S a])) (L l)))) = none := by rw [L_S, headed_rw, hh]; rfl
    unfold lineP
    rw [e2]
    simp only
    rw [L_S, rwL_twice]
    exact congrArg S (rwL_congr _ (fun a => by simp [Bool.not_and]))
  | some p =>
    obtain ⟨a, lb⟩ := p
    obtain ⟨k, e, hl, hs⟩ := headed_some hh
    have e1 : ∀ z, lineP z l u = if z (u ++ [S lb]) then S (rwL (fun a => !z (u ++ [S lb] ++ [S a])) (L l)) else headT (S a) (S lb) := fun z => by unfold lineP; rw [hh]
    rw [e1 v, e1 (fun x => v x && w x)]
    cases hv : v (u ++ [S lb])
    · simp only [Bool.false_eq_true, if_false, Bool.false_and]
      obtain ⟨b, q1, q2, q3, q4⟩ := headT_again hs hl
      unfold lineP
      rw [q1, headed_of 0 hl, if_pos q2]
      simp only
      split
      · rw [← q1, q4, S_L]
      · exact q3
    · simp only [if_true, Bool.true_and]
      unfold lineP
      rw [L_S, headed_rw, hh]
      simp only [Option.map_some]
      split
      · rw [rwL_twice]
        exact congrArg S (rwL_congr _ (fun a => by simp [Bool.not_and]))
      · exact headT_rw _ hs
theorem lineP_all {v : List ByteArray → Bool} (h : ∀ x, v x = true) (l : ByteArray) (u : List ByteArray) : lineP v l u = l := by
  unfold lineP
  split
  · rw [rwL_id _ _ (fun a => by rw [h]; rfl), S_L]
  · rw [if_pos (h _), rwL_id _ _ (fun a => by rw [h]; rfl), S_L]
/-- emptied once it stays -/
theorem lineT_again (s : SeerT) (l : ByteArray) (u : List ByteArray) : lineT s (lineT s l u) u = lineT s l u := by
  rw [lineT_eq, lineT_eq, lineP_twice]
  exact lineP_congr (fun x => Bool.and_self _) _ _
/-- no label within -/
def plainT7 (l : List UInt8) : Prop := ∀ i : Nat, l[i]? = some 123 → l[i + 1]? ≠ some 124 ∧ l[i + 1]? ≠ some 61
theorem rwL_plainT (h : List UInt8 → Bool) (l : List UInt8) (hp : plainT7 l) : rwL h l = l := by
  induction l using line_ind with
  | h0 => rfl
  | h1 b r hs ih => rw [rwL_none h hs, ih (fun i hi => hp (i + 1) hi)]
  | h2 l a t z hs ih =>
    have e := (spanQ_some hs).1
    have := (hp 0 (by rw [e]; rfl)).1
    rw [e] at this
    exact absurd rfl this
theorem lineT_plain (s : SeerT) (l : ByteArray) (u : List ByteArray) (hp : plainT7 (L l)) : lineT s l u = l := by
  rw [lineT_eq]
  unfold lineP
  cases hh : headedT (L l) with
  | none => simp only; rw [rwL_plainT _ _ hp, S_L]
  | some p =>
    obtain ⟨a, lb⟩ := p
    obtain ⟨k, e, hl, hs⟩ := headed_some hh
    have := (hp a.length (by rw [e]; simp [tailB])).2
    rw [e] at this
    exact absurd (by rw [List.getElem?_append_right (by omega)]; simp [tailB]) this
end Go.Proofs.YtgdnphmannbpgaaGreatDoor
/-
  Texts that repair leaves as they are: rows of runes, none 0, none CR. What is veiled of such a text is such a text.
-/
namespace Go.Proofs.YtgdnphmannbpgaaGreatDoor
set_option linter.unusedVariables false

theorem decodeN_local {n n' b0 b1 b2 b3 c1 c2 c3 : Nat} (hv : ¬ ((Lib.decodeN n b0 b1 b2 b3).1 = 65533 ∧ (Lib.decodeN n b0 b1 b2 b3).2 = 1)) (hn : (Lib.decodeN n b0 b1 b2 b3).2 ≤ n')
    (h1 : 2 ≤ (Lib.decodeN n b0 b1 b2 b3).2 → c1 = b1) (h2 : 3 ≤ (Lib.decodeN n b0 b1 b2 b3).2 → c2 = b2) (h3 : 4 ≤ (Lib.decodeN n b0 b1 b2 b3).2 → c3 = b3) :
    Lib.decodeN n' b0 c1 c2 c3 = Lib.decodeN n b0 b1 b2 b3 := by
  rcases Lib.decodeN_shape n b0 b1 b2 b3 with ⟨k, e⟩ | ⟨k1, k2, k3, kv, e⟩ | ⟨k1, k2, k3, k4, kv, ks, e⟩ | ⟨k1, k2, k3, k4, k5, kv, kw, e⟩ | e
  · rw [e]; unfold Lib.decodeN; rw [if_pos k]
  · rw [e] at hn h1 h2 h3 ⊢
    have a1 := h1 (Nat.le_refl _)
    subst a1
    simp only at hn
    unfold Lib.decodeN
    rw [if_neg (by omega), if_pos ⟨k1, by omega, k3⟩, if_pos (by omega)]
  · rw [e] at hn h1 h2 h3 ⊢
    have a1 := h1 (by simp)
    have a2 := h2 (Nat.le_refl _)
    subst a1; subst a2
    simp only at hn
    unfold Lib.decodeN
    rw [if_neg (by omega), if_neg (by omega), if_pos ⟨k1, ⟨by omega, k3⟩, by omega, k4⟩, if_pos ⟨by omega, by omega⟩]
  · rw [e] at hn h1 h2 h3 ⊢
    have a1 := h1 (by simp)
    have a2 := h2 (by simp)
    have a3 := h3 (Nat.le_refl _)
    subst a1; subst a2; subst a3
    simp only at hn
    unfold Lib.decodeN
    rw [if_neg (by omega), if_neg (by omega), if_neg (by omega), if_pos ⟨k1, ⟨by omega, k3⟩, ⟨by omega, k4⟩, by omega, k5⟩, if_pos ⟨by omega, by omega⟩]
  · exact absurd (by rw [e]; exact ⟨rfl, rfl⟩) hv
theorem getD_app_l (q y : List UInt8) (i : Nat) (h : i < q.length) : (q ++ y).getD i 0 = q.getD i 0 := by
  rw [List.getD_eq_getElem?_getD, List.getD_eq_getElem?_getD, List.getElem?_append_left h]
theorem decodeL_app {q : List UInt8} (hv : ¬ ((Lib.decodeL q).1 = 65533 ∧ (Lib.decodeL q).2 = 1)) (hl : (Lib.decodeL q).2 ≤ q.length) (hq : q ≠ []) (y : List UInt8) : Lib.decodeL (q ++ y) = Lib.decodeL q := by
  have h0 := List.length_pos_iff.2 hq
  rw [Lib.decodeL_N q] at hv hl
  rw [Lib.decodeL_N q, Lib.decodeL_N (q ++ y), getD_app_l q y 0 h0]
  refine decodeN_local hv (by rw [List.length_append]; omega) (fun h => ?_) (fun h => ?_) (fun h => ?_)
  · rw [getD_app_l q y 1 (by omega)]
  · rw [getD_app_l q y 2 (by omega)]
  · rw [getD_app_l q y 3 (by omega)]
theorem decode_drop (s : ByteArray) (pos : Nat) : Utf8.decode s pos = Lib.decodeL ((L s).drop pos) := by
  have hg : ∀ i, s.get! i = (L s).getD i 0 := fun i => by
    rw [List.getD_eq_getElem?_getD]
    by_cases h : i < s.size
    · rw [List.getElem?_eq_getElem (by rw [length_L]; exact h)]
      simp [ByteArray.get!, getElem!_pos, h, L]
    · rw [List.getElem?_eq_none (by rw [length_L]; omega)]
      simp only [ByteArray.get!, Option.getD_none]
      rw [getElem!_neg]
      · rfl
      · exact h
  have hd : ∀ k, ((L s).drop pos).getD k 0 = (L s).getD (pos + k) 0 := fun k => by
    rw [List.getD_eq_getElem?_getD, List.getD_eq_getElem?_getD, List.getElem?_drop]
  rw [Lib.decode_at, Lib.decodeL_N, hg, hg, hg, hg, hd, hd, hd, hd, List.length_drop, length_L]
  rfl
/-- a rune's bytes -/
def Chunk (q : List UInt8) : Prop := q ≠ [] ∧ (Lib.decodeL q).2 = q.length ∧ ¬ ((Lib.decodeL q).1 = 65533 ∧ (Lib.decodeL q).2 = 1) ∧ (Lib.decodeL q).1 ≠ 0 ∧ (Lib.decodeL q).1 ≠ 13
instance (q : List UInt8) : Decidable (Chunk q) := by unfold Chunk; infer_instance
def Good (l : List UInt8) : Prop := ∃ qs : List (List UInt8), l = qs.flatten ∧ ∀ q ∈ qs, Chunk q
theorem Good.nil : Good [] := ⟨[], rfl, by simp⟩
theorem Good.app {x y : List UInt8} (hx : Good x) (hy : Good y) : Good (x ++ y) := by
  obtain ⟨p, rfl, hp⟩ := hx
  obtain ⟨q, rfl, hq⟩ := hy
  exact ⟨p ++ q, by simp, fun z hz => by rcases List.mem_append.1 hz with h | h; exact hp z h; exact hq z h⟩
theorem Good.chunk {q : List UInt8} (h : Chunk q) : Good q := ⟨[q], by simp, by simpa using h⟩
theorem chunk_bytes {q : List UInt8} (h : Chunk q) : (∃ b, q = [b] ∧ b.toNat < 128 ∧ b ≠ 0 ∧ b ≠ 13) ∨ ∀ b ∈ q, 128 ≤ b.toNat := by
  obtain ⟨h0, h1, h2, h3, h4⟩ := h
  have hp : 0 < (S q).size := by rw [size_S]; exact List.length_pos_iff.2 h0
  obtain ⟨⟨d1, d2⟩, d3, d4, d5⟩ := decode_span (S q) 0 hp
  have hd : Utf8.decode (S q) 0 = Lib.decodeL q := by rw [decode_drop, L_S, List.drop_zero]
  rw [hd] at d1 d2 d3 d4 d5
  simp only [L_S] at d1 d2 d5
  have hpq : 0 < q.length := List.length_pos_iff.2 h0
  by_cases hb : (q[0]'hpq).toNat < 128
  · left
    have hd1 := d1 hb
    rw [hd1] at h1 h3 h4
    simp only at h1 h3 h4
    match q, h1 with
    | [b], _ =>
      refine ⟨b, rfl, hb, ?_, ?_⟩
      · intro e; apply h3; subst e; rfl
      · intro e; apply h4; subst e; rfl
  · right
    intro b hbm
    obtain ⟨j, hj⟩ := List.mem_iff_getElem?.1 hbm
    obtain ⟨hjl, e⟩ := List.getElem?_eq_some_iff.1 hj
    rcases Nat.eq_zero_or_pos j with rfl | hj0
    · rw [← e]; omega
    · have := d5 j (by rw [size_S]; exact hjl) hj0 (by omega)
      rw [← e]; exact this
theorem Good.no {l : List UInt8} (h : Good l) : (13 : UInt8) ∉ l ∧ (0 : UInt8) ∉ l := by
  obtain ⟨qs, rfl, hq⟩ := h
  constructor
  all_goals
    intro hm
    obtain ⟨q, h1, h2⟩ := List.mem_flatten.1 hm
    rcases chunk_bytes (hq q h1) with ⟨b, rfl, c1, c2, c3⟩ | hb
    · rw [List.mem_singleton] at h2
      first | exact c3 h2.symm | exact c2 h2.symm
    · have := hb _ h2
      exact absurd this (by decide)
theorem enc_bad : Lib.encodeRune 65533 = [239, 191, 189] := by decide
theorem chunk_enc {q : List UInt8} (h : Chunk q) : Lib.encodeRune ((Lib.decodeL q).1 : Int) = q := by
  obtain ⟨h0, h1, h2, _⟩ := h
  rw [Lib.encode_decode q h0 h2, h1, List.take_length]
/-- repair leaves it as it is -/
theorem repT_good {l : List UInt8} (h : Good l) : repT (S l) = l := by
  have hn := h.no.1
  obtain ⟨qs, rfl, hq⟩ := h
  have key : ∀ (qs : List (List UInt8)) (pre : List UInt8) (f : Nat), (∀ q ∈ qs, Chunk q) → (13 : UInt8) ∉ pre → qs.flatten.length ≤ f → textF (S (pre ++ qs.flatten)) f pre.length = qs.flatten := by
    intro qs
    induction qs with
    | nil =>
      intro pre f _ _ _
      cases f with
      | zero => rfl
      | succ f => rw [textF, if_neg (by simp)]; rfl
    | cons q qs ih =>
      intro pre f hq hp hf
      have hc := hq q (by simp)
      have hq0 : 0 < q.length := List.length_pos_iff.2 hc.1
      rw [List.flatten_cons, List.length_append] at hf
      obtain ⟨g, rfl⟩ : ∃ g, f = g + 1 := ⟨f - 1, by omega⟩
      have hd : Utf8.decode (S (pre ++ (q :: qs).flatten)) pre.length = Lib.decodeL q := by
        rw [decode_drop, L_S, List.drop_left, List.flatten_cons]
        exact decodeL_app hc.2.2.1 (by rw [hc.2.1]; exact Nat.le_refl _) hc.1 _
      rw [textF, if_pos (by rw [size_S, List.length_append, List.flatten_cons, List.length_append]; omega), hd, hc.2.1]
      have hr : runeP (S (pre ++ (q :: qs).flatten)) pre.length = q := by
        unfold runeP
        rw [hd]
        split
        · rename_i hz
          rcases hz with hz | hz
          · exact absurd hz hc.2.2.2.1
          · have := chunk_enc hc
            rw [hz] at this
            rw [← this]; exact enc_bad.symm
        · rw [if_neg hc.2.2.2.2]
          split
          · rename_i hz
            exfalso
            obtain ⟨_, z1, z2⟩ := hz
            rw [L_S, List.getElem?_append_left (by omega)] at z2
            exact hp (List.mem_of_getElem? z2)
          · exact chunk_enc hc
      rw [hr]
      have := ih (pre ++ q) g (fun z hz => hq z (by simp [hz])) (by
        rw [List.mem_append, not_or]
        exact ⟨hp, fun hm => ((Good.chunk hc).no.1 hm)⟩) (by omega)
      rw [List.length_append, List.append_assoc] at this
      rw [List.flatten_cons, this]
  have := key qs [] qs.flatten.length hq (by simp) (Nat.le_refl _)
  unfold repT
  rw [size_S]
  exact this
theorem bad_chunk : Chunk [239, 191, 189] := by decide +kernel
theorem lf_chunk : Chunk [10] := by decide +kernel
/-- what repair makes is such a text -/
theorem good_repT (s : ByteArray) : Good (repT s) := by
  have hr : ∀ pos, pos < s.size → Good (runeP s pos) := fun pos hp => by
    unfold runeP
    rw [decode_drop]
    have hne : (L s).drop pos ≠ [] := fun e => by have := congrArg List.length e; rw [List.length_drop, length_L] at this; simp at this; omega
    generalize (L s).drop pos = l at *
    split
    · exact .chunk bad_chunk
    · rename_i h1
      split
      · exact .chunk lf_chunk
      · rename_i h2
        split
        · exact .nil
        · have hv : ¬ ((Lib.decodeL l).1 = 65533 ∧ (Lib.decodeL l).2 = 1) := fun h => h1 (.inr h.1)
          rw [Lib.encode_decode l hne hv]
          have hle := Lib.decodeL_le l hne
          have h1le : 1 ≤ (Lib.decodeL l).2 := by
            rw [Lib.decodeL_N]; exact Lib.decodeN_ge1 _ _ _ _ _
          have hd : Lib.decodeL (l.take (Lib.decodeL l).2) = Lib.decodeL l := by
            obtain ⟨k, hk⟩ : ∃ k, (Lib.decodeL l).2 = k := ⟨_, rfl⟩
            rw [hk] at hle h1le ⊢
            have hg : ∀ i, i < k → (l.take k).getD i 0 = l.getD i 0 := fun i hi => by
              rw [List.getD_eq_getElem?_getD, List.getD_eq_getElem?_getD, List.getElem?_take, if_pos hi]
            rw [Lib.decodeL_N] at hv hk ⊢
            rw [Lib.decodeL_N l, hg 0 (by omega)]
            refine decodeN_local hv (by rw [hk, List.length_take]; omega) (fun h => ?_) (fun h => ?_) (fun h => ?_)
            · rw [hg 1 (by omega)]
            · rw [hg 2 (by omega)]
            · rw [hg 3 (by omega)]
          refine .chunk ⟨?_, ?_, ?_, ?_, ?_⟩
          · intro e; have := congrArg List.length e; rw [List.length_take, List.length_nil] at this; omega
          · rw [hd, List.length_take]; omega
          · rw [hd]; exact hv
          · rw [hd]; exact fun h => h1 (.inl h)
          · rw [hd]; exact h2
  have key : ∀ f pos, Good (textF s f pos) := by
    intro f
    induction f with
    | zero => intro pos; exact .nil
    | succ f ih =>
      intro pos
      rw [textF]
      split
      · rename_i h; exact (hr pos h).app (ih _)
      · exact .nil
  exact key _ _
/-- an ASCII byte parts it -/
theorem Good.split {x y : List UInt8} {c : UInt8} (h : Good (x ++ c :: y)) (hc : c.toNat < 128) : Good x ∧ Good y ∧ Chunk [c] := by
  obtain ⟨qs, e, hq⟩ := h
  induction qs generalizing x with
  | nil => simp at e
  | cons q qs ih =>
    have hcq := hq q (by simp)
    rw [List.flatten_cons] at e
    rcases List.append_eq_append_iff.1 e with ⟨u, e1, e2⟩ | ⟨u, e1, e2⟩
    · cases u with
      | nil =>
        rw [List.append_nil] at e1
        rw [List.nil_append] at e2
        obtain ⟨_, h2, h3⟩ := ih (x := []) e2 (fun z hz => hq z (by simp [hz]))
        rw [← e1]
        exact ⟨.chunk hcq, h2, h3⟩
      | cons d u' =>
        rw [List.cons_append, List.cons.injEq] at e2
        obtain ⟨rfl, e2⟩ := e2
        rcases chunk_bytes hcq with ⟨b, hb, _⟩ | hb
        · rw [hb] at e1
          have hl := congrArg List.length e1
          simp at hl
          have hx : x = [] := List.eq_nil_of_length_eq_zero (by omega)
          have hu : u' = [] := List.eq_nil_of_length_eq_zero (by omega)
          subst hx; subst hu
          rw [List.nil_append] at e1 e2
          rw [e2]
          refine ⟨.nil, ⟨qs, rfl, fun z hz => hq z (by simp [hz])⟩, ?_⟩
          rw [← e1, ← hb]; exact hcq
        · have := hb c (by rw [e1]; simp)
          omega
    · obtain ⟨h1, h2, h3⟩ := ih e2.symm (fun z hz => hq z (by simp [hz]))
      rw [e1]
      exact ⟨(Good.chunk hcq).app h1, h2, h3⟩
theorem Good.join {x y : List UInt8} {c : UInt8} (hx : Good x) (hy : Good y) (hc : Chunk [c]) : Good (x ++ c :: y) := by
  rw [show x ++ c :: y = x ++ ([c] ++ y) by simp]
  exact hx.app ((Good.chunk hc).app hy)
theorem Good.tail {y : List UInt8} {c : UInt8} (h : Good (c :: y)) (hc : c.toNat < 128) : Good y := (Good.split (x := []) h hc).2.1
theorem c123 : Chunk [123] := by decide +kernel
theorem c124 : Chunk [124] := by decide +kernel
theorem c125 : Chunk [125] := by decide +kernel
theorem c58 : Chunk [58] := by decide +kernel
theorem c61 : Chunk [61] := by decide +kernel
theorem c32 : Chunk [32] := by decide +kernel
theorem c35 : Chunk [35] := by decide +kernel
theorem Good.cons {y : List UInt8} {c : UInt8} (hc : Chunk [c]) (hy : Good y) : Good (c :: y) := Good.join (x := []) .nil hy hc
theorem Good.rep {c : UInt8} (hc : Chunk [c]) : ∀ k, Good (List.replicate k c)
  | 0 => .nil
  | k + 1 => by rw [List.replicate_succ]; exact .cons hc (Good.rep hc k)
theorem Good.rwL (h : List UInt8 → Bool) : ∀ (n : Nat) (l : List UInt8), l.length ≤ n → Good l → Good (rwL h l)
  | 0, l, hl, _ => by
    have : l = [] := List.eq_nil_of_length_eq_zero (by omega)
    subst this; exact .nil
  | n + 1, l, hl, hg => by
    cases hs : spanQ l with
    | some p =>
      obtain ⟨a, t, z⟩ := p
      rw [rwL_some h hs]
      have hlen := spanQ_len hs
      have e := (spanQ_some hs).1
      rw [e] at hg
      have g1 := (hg.tail (by decide)).tail (by decide)
      obtain ⟨ga, g2, _⟩ := g1.split (by decide)
      obtain ⟨gt, g3, _⟩ := g2.split (by decide)
      have gz := g3.tail (by decide)
      refine .cons c123 (.cons c124 (ga.join ?_ c58))
      refine Good.join ?_ (.cons c125 (Good.rwL h n z (by omega) gz)) c124
      split
      · exact .nil
      · exact gt
    | none =>
      obtain ⟨qs, rfl, hq⟩ := hg
      cases qs with
      | nil => exact .nil
      | cons q qs =>
        have hc := hq q (by simp)
        have hrest : Good qs.flatten := ⟨qs, rfl, fun z hz => hq z (by simp [hz])⟩
        have hq0 : 0 < q.length := List.length_pos_iff.2 hc.1
        rw [List.flatten_cons] at hl hs ⊢
        rw [List.length_append] at hl
        have ih := Good.rwL h n qs.flatten (by omega) hrest
        by_cases h123 : (123 : UInt8) ∈ q
        · rcases chunk_bytes hc with ⟨b, rfl, _⟩ | hb
          · rw [List.singleton_append] at hs ⊢
            rw [rwL_none h hs]
            exact .cons hc ih
          · exact absurd (hb _ h123) (by decide)
        · rw [rwL_app h _ h123]
          exact (Good.chunk hc).app ih
theorem good_headT {a lb : List UInt8} (ha : signsOk a = true) (hl : Good lb) : Good (L (headT (S a) (S lb))) := by
  obtain ⟨i, j, y, e, hi, h1, h6⟩ := signs_shape ha
  subst e
  rw [headT_shape i j y lb h1, L_S]
  refine (((Good.rep c32 i).app (Good.rep c35 j)).app (.chunk c32)).app ?_
  unfold tailB
  exact .cons c123 (.cons c61 (hl.join (Good.rep c32 0) c125))
theorem good_lineP (v : List ByteArray → Bool) {l : ByteArray} (u : List ByteArray) (hg : Good (L l)) : Good (L (lineP v l u)) := by
  unfold lineP
  cases hh : headedT (L l) with
  | none => exact Good.rwL _ _ _ (Nat.le_refl _) hg
  | some p =>
    obtain ⟨a, lb⟩ := p
    obtain ⟨k, e, hl, hs⟩ := headed_some hh
    simp only
    split
    · exact Good.rwL _ _ _ (Nat.le_refl _) hg
    · refine good_headT hs ?_
      rw [e] at hg
      unfold tailB at hg
      exact (((hg.split (by decide)).2.1.tail (by decide)).split (by decide)).1
theorem lf_no (l : List UInt8) (h : List UInt8 → Bool) (h10 : (10 : UInt8) ∉ l) : (10 : UInt8) ∉ rwL h l := by
  induction l using line_ind with
  | h0 => simp [rwL_nil]
  | h1 b r hs ih =>
    rw [rwL_none h hs]
    simp only [List.mem_cons, not_or] at h10 ⊢
    exact ⟨h10.1, ih h10.2⟩
  | h2 l a t z hs ih =>
    rw [(spanQ_some hs).1] at h10
    rw [rwL_some h hs]
    simp only [List.mem_cons, List.mem_append, not_or] at h10 ⊢
    obtain ⟨q1, q2, q3, q4, q5, q6, q7, q8⟩ := h10
    refine ⟨q1, q2, q3, q4, ?_, q6, q7, ih q8⟩
    split
    · simp
    · exact q5
theorem lf_lineP (v : List ByteArray → Bool) {l : ByteArray} (u : List ByteArray) (h10 : (10 : UInt8) ∉ L l) : (10 : UInt8) ∉ L (lineP v l u) := by
  unfold lineP
  cases hh : headedT (L l) with
  | none => exact lf_no _ _ h10
  | some p =>
    obtain ⟨a, lb⟩ := p
    obtain ⟨k, e, hl, hs⟩ := headed_some hh
    simp only
    split
    · exact lf_no _ _ h10
    · obtain ⟨i, j, y, e2, hi, h1, h6⟩ := signs_shape hs
      subst e2
      rw [headT_shape i j y lb h1, L_S]
      rw [e] at h10
      unfold tailB at h10 ⊢
      simp only [List.mem_append, List.mem_cons, List.mem_replicate, not_or] at h10 ⊢
      obtain ⟨_, q1, q2, q3, q4, _⟩ := h10
      exact ⟨⟨⟨by simp, by simp⟩, by simp⟩, q1, q2, q3, q4, by simp⟩
end Go.Proofs.YtgdnphmannbpgaaGreatDoor
