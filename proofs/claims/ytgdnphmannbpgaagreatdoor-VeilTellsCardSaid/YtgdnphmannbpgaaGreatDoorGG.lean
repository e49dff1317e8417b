/- Joined texts: HeadLaw, SpanLaw, DepthsLaw, WriteLaw, Unspan. -/
import Derived.Test.YtgdnphmannbpgaaGreatDoorGH
import Derived.Test.YtgdnphmannbpgaaGreatDoorGC
/-
  What a labelled heading's line is taken apart into: the plain law.
-/
namespace Go.Proofs.YtgdnphmannbpgaaGreatDoor
open Go.Lib

theorem lastIndex_at (h lb : List UInt8) (hn : ∀ j, occAt lb [123, 61] j = false) : Lib.lastIndex (h ++ [123, 61] ++ lb) [123, 61] = (h.length : Int) := by
  have hl : (h ++ [123, 61] ++ lb).length = h.length + 2 + lb.length := by simp; omega
  have hat : occAt (h ++ [123, 61] ++ lb) [123, 61] h.length = true := by
    unfold occAt
    rw [List.append_assoc, List.drop_left]
    simp
  have hbe : ∀ j, h.length < j → occAt (h ++ [123, 61] ++ lb) [123, 61] j = false := by
    intro j hj
    obtain ⟨m, rfl⟩ : ∃ m, j = h.length + (m + 1) := ⟨j - h.length - 1, by omega⟩
    cases m with
    | zero =>
      unfold occAt
      rw [List.append_assoc, show h.length + (0 + 1) = h.length + 1 from rfl, ← List.drop_drop, List.drop_left]
      rfl
    | succ m =>
      have := hn m
      unfold occAt at this ⊢
      rw [show h ++ [123, 61] ++ lb = (h ++ [123, 61]) ++ lb from rfl, show h.length + (m + 1 + 1) = (h ++ [123, 61]).length + m by simp; omega, ← List.drop_drop, List.drop_left]
      exact this
  unfold Lib.lastIndex
  rw [if_pos (by rw [hl]; simp; omega), hl]
  rcases lastOcc_spec (h ++ [123, 61] ++ lb) [123, 61] (h.length + 2 + lb.length - ([123, 61] : List UInt8).length + 1) with ⟨_, h2⟩ | ⟨i, hi, e, ho, hb⟩
  · rw [h2 h.length (by simp; omega)] at hat
    cases hat
  · rw [e]
    rcases Nat.lt_trichotomy i h.length with h1 | h1 | h1
    · rw [hb h.length h1 (by simp; omega)] at hat
      cases hat
    · rw [h1]
    · rw [hbe i h1] at ho
      cases ho
theorem occ_none {lb : List UInt8} (h : 123 ∉ lb) : ∀ j, occAt lb [123, 61] j = false := by
  intro j
  cases ho : occAt lb [123, 61] j
  · rfl
  · obtain ⟨r, hr⟩ := List.isPrefixOf_iff_prefix.1 ho
    exact absurd (List.drop_subset j lb (by rw [← hr]; simp)) h
theorem occ_snoc {lb : List UInt8} (h : 123 ∉ lb) (b : UInt8) : ∀ j, occAt (lb ++ [b]) [123, 61] j = false := by
  intro j
  cases ho : occAt (lb ++ [b]) [123, 61] j
  · rfl
  · obtain ⟨r, hr⟩ := List.isPrefixOf_iff_prefix.1 ho
    by_cases hj : j + 1 < (lb ++ [b]).length
    · have h1 : (lb ++ [b])[j]? = some 123 := by
        have := congrArg (fun l => l[0]?) hr
        simp only [List.getElem?_drop] at this
        simpa using this.symm
      rw [List.getElem?_append_left (by simp at hj; exact hj)] at h1
      exact absurd (List.mem_of_getElem? h1) h
    · have := congrArg List.length hr
      simp at this hj
      omega

theorem trimR_snoc (x : List UInt8) (c : UInt8) (hc : c ≠ 32) (k : Nat) : Lib.trimRightB (x ++ [c] ++ List.replicate k 32) 32 = x ++ [c] := by
  unfold Lib.trimRightB
  rw [List.reverse_append, List.reverse_replicate]
  have : ∀ k, (List.replicate k (32 : UInt8) ++ (x ++ [c]).reverse).dropWhile (fun y => y == 32) = (x ++ [c]).reverse := by
    intro k
    induction k with
    | zero => simp [hc]
    | succ k ih => rw [List.replicate_succ, List.cons_append, List.dropWhile_cons, if_pos (by decide), ih]
  rw [this, List.reverse_reverse]
theorem suffix_no (x : List UInt8) (c d : UInt8) (h : c ≠ d) : Lib.hasSuffix (x ++ [c]) [d] = false := by
  unfold Lib.hasSuffix
  cases hs : [d].isSuffixOf (x ++ [c])
  · rfl
  · obtain ⟨t, ht⟩ := List.isSuffixOf_iff_suffix.1 hs
    exact absurd (List.append_inj_right' ht rfl) (by simpa using fun e : d = c => h e.symm)
theorem suffix_yes (x : List UInt8) (c : UInt8) : Lib.hasSuffix (x ++ [c]) [c] = true ∧ Lib.trimSuffix (x ++ [c]) [c] = x := by
  have h : Lib.hasSuffix (x ++ [c]) [c] = true := by
    unfold Lib.hasSuffix
    exact List.isSuffixOf_iff_suffix.2 ⟨x, rfl⟩
  refine ⟨h, ?_⟩
  unfold Lib.trimSuffix
  rw [if_pos h]
  simp

theorem headed_mk (h lb : List UInt8) (k : Nat) (hn : ∀ j, occAt lb [123, 61] j = false) :
    headedT (h ++ [123, 61] ++ lb ++ [125] ++ List.replicate k 32) = if labelT lb then if signsOk h then some (h, lb) else none else none := by
  unfold headedT
  rw [trimR_snoc _ _ (by decide), (suffix_yes _ _).1, (suffix_yes _ _).2, if_pos rfl, lastIndex_at h lb hn, if_pos (by omega), Int.toNat_natCast]
  have e1 : (h ++ [123, 61] ++ lb).drop (h.length + 2) = lb := by
    rw [show h.length + 2 = (h ++ [123, 61]).length by simp, List.drop_left]
  have e2 : (h ++ [123, 61] ++ lb).take h.length = h := by
    rw [List.append_assoc, List.take_left]
  rw [e1, e2]
theorem headed_no (x : List UInt8) : headedT (x ++ [120]) = none := by
  unfold headedT
  have := trimR_snoc x 120 (by decide) 0
  rw [List.replicate_zero, List.append_nil] at this
  rw [this, suffix_no _ _ _ (by decide)]
  rfl

def headL (n blanks : Nat) (text : List UInt8) : List UInt8 := List.replicate blanks 32 ++ List.replicate n 35 ++ [32] ++ text

theorem drop_rep (k : Nat) (c d : UInt8) (r : List UInt8) (h : d ≠ c) : (List.replicate k c ++ d :: r).dropWhile (fun y => y == c) = d :: r := by
  induction k with
  | zero => simp [h]
  | succ k ih => rw [List.replicate_succ, List.cons_append, List.dropWhile_cons, if_pos (by simp), ih]
theorem signs_head (n blanks : Nat) (text : List UInt8) (hn : 1 ≤ n) : signsOk (headL n blanks text) = (decide (n ≤ 6) && decide (blanks ≤ 3)) := by
  obtain ⟨m, rfl⟩ : ∃ m, n = m + 1 := ⟨n - 1, by omega⟩
  have e1 : Lib.trimLeftB (headL (m + 1) blanks text) 32 = List.replicate (m + 1) 35 ++ 32 :: text := by
    unfold Lib.trimLeftB headL
    rw [List.append_assoc, List.append_assoc, List.replicate_succ, List.cons_append]
    rw [drop_rep _ _ _ _ (by decide)]
    simp
  have e2 : Lib.trimLeftB (List.replicate (m + 1) 35 ++ 32 :: text) 35 = 32 :: text := by
    unfold Lib.trimLeftB
    rw [drop_rep _ _ _ _ (by decide)]
  unfold signsOk
  rw [e1, e2]
  have h1 : (headL (m + 1) blanks text).length - (List.replicate (m + 1) (35 : UInt8) ++ 32 :: text).length = blanks := by
    unfold headL; simp
  have h2 : (List.replicate (m + 1) (35 : UInt8) ++ 32 :: text).length - ((32 : UInt8) :: text).length = m + 1 := by simp
  rw [h1, h2, show Lib.hasPrefix (32 :: text) [32] = true by unfold Lib.hasPrefix; simp]
  have ha : decide (6 < m + 1) = !decide (m + 1 ≤ 6) := by rw [← decide_not]; exact decide_eq_decide.2 (by omega)
  have hb : decide (3 < blanks) = !decide (blanks ≤ 3) := by rw [← decide_not]; exact decide_eq_decide.2 (by omega)
  rw [ha, hb, decide_eq_false (by omega : ¬ m + 1 < 1)]
  cases decide (m + 1 ≤ 6) <;> cases decide (blanks ≤ 3) <;> rfl

/-- small letters alone -/
def lowT (l : List UInt8) : Bool := l.all fun b => decide (97 ≤ b.toNat) && decide (b.toNat ≤ 122)
theorem low_mem {l : List UInt8} (h : lowT l = true) {b : UInt8} (hb : b ∈ l) : 97 ≤ b.toNat ∧ b.toNat ≤ 122 := by
  have := List.all_eq_true.1 h b hb
  simpa using this
theorem low_not {l : List UInt8} (h : lowT l = true) (c : UInt8) (hc : c.toNat < 97 ∨ 122 < c.toNat) : c ∉ l := fun hm => by
  have := low_mem h hm
  omega
theorem low_okay {l : List UInt8} (h : lowT l = true) : l.all (fun b => !(L badC).contains b) = true := by
  rw [List.all_eq_true]
  intro b hb
  have h1 := low_mem h hb
  cases hc : (L badC).contains b
  · rfl
  · have hm : b ∈ L badC := List.contains_iff_mem.1 hc
    have : ∀ x ∈ L badC, x.toNat < 97 ∨ 122 < x.toNat := by decide
    have := this b hm
    omega
theorem label_low {l : List UInt8} (h : lowT l = true) (h0 : 1 ≤ l.length) (h1 : l.length ≤ 40) : labelT l = true := by
  unfold labelT
  rw [low_okay h, decide_eq_true h1]
  cases l with
  | nil => simp at h0
  | cons => rfl
theorem label_low_snoc {l : List UInt8} (h : lowT l = true) (b : UInt8) : labelT (l ++ [b]) = (decide (l.length < 40) && !(L badC).contains b) := by
  unfold labelT
  rw [List.all_append, low_okay h]
  simp only [List.length_append, List.length_singleton, Bool.true_and, List.all_cons, List.all_nil, Bool.and_true]
  rw [show (l ++ [b]).isEmpty = false by cases l <;> rfl]
  simp only [Bool.not_false, Bool.true_and]
  congr 1
end Go.Proofs.YtgdnphmannbpgaaGreatDoor
/-
  Where the spans of a line lie: the plain law.
-/
namespace Go.Proofs.YtgdnphmannbpgaaGreatDoor
open Go.Lib

theorem index_first (c : UInt8) (q r : List UInt8) : ∀ a : List UInt8, c ∉ a → Lib.index (a ++ (c :: q) ++ r) (c :: q) = (a.length : Int)
  | [], _ => by
    rw [List.nil_append, List.cons_append]
    unfold Lib.index
    have : (c :: q).isPrefixOf (c :: (q ++ r)) = true := List.isPrefixOf_iff_prefix.2 ⟨r, rfl⟩
    rw [if_pos this]
    rfl
  | b :: a, h => by
    have h1 : c ≠ b := fun e => h (by rw [e]; simp)
    have h2 : c ∉ a := fun hm => h (by simp [hm])
    have ih := index_first c q r a h2
    rw [List.cons_append, List.cons_append]
    unfold Lib.index
    rw [if_neg (by intro hp; rw [List.isPrefixOf_cons_cons, Bool.and_eq_true] at hp; exact h1 (by simpa using hp.1)), ih, if_neg (by simp)]
    simp
theorem cut_at (c : UInt8) (q r a : List UInt8) (h : c ∉ a) : Lib.cut (a ++ (c :: q) ++ r) (c :: q) = (a, r, true) := by
  unfold Lib.cut
  rw [index_first c q r a h, if_pos (by omega), Int.toNat_natCast]
  congr 1
  · rw [List.append_assoc, List.take_left]
  · rw [show a.length + (c :: q).length = (a ++ (c :: q)).length by simp, List.drop_left]
theorem spanT_at (a t r : List UInt8) (ha : labelT a = true) (ha2 : 58 ∉ a) (ht : 124 ∉ t) : spanT ([123, 124] ++ a ++ [58] ++ t ++ [124, 125] ++ r) = some (a, t) := by
  unfold spanT
  have e0 : ([123, 124] ++ a ++ [58] ++ t ++ [124, 125] ++ r : List UInt8) = [123, 124] ++ (a ++ [58] ++ (t ++ [124, 125] ++ r)) := by simp
  have e1 : Lib.hasPrefix ([123, 124] ++ (a ++ [58] ++ (t ++ [124, 125] ++ r))) [123, 124] = true := by
    unfold Lib.hasPrefix
    exact List.isPrefixOf_iff_prefix.2 ⟨_, rfl⟩
  have e2 : ([123, 124] ++ (a ++ [58] ++ (t ++ [124, 125] ++ r)) : List UInt8).drop 2 = a ++ [58] ++ (t ++ [124, 125] ++ r) := rfl
  rw [e0, e1, if_pos rfl, e2, cut_at 58 [] _ a ha2]
  simp only [ha, Bool.and_true, if_true]
  rw [cut_at 124 [125] r t ht]
  rfl
theorem spanT_no {l : List UInt8} (h : l.head? ≠ some 123) : spanT l = none := by
  unfold spanT
  cases hp : Lib.hasPrefix l [123, 124]
  · rfl
  · obtain ⟨r, hr⟩ := List.isPrefixOf_iff_prefix.1 hp
    exact absurd (by rw [← hr]; rfl) h

theorem head_drop (l : List UInt8) (p : Nat) : (l.drop p).head? = l[p]? := by
  rw [List.head?_drop]

theorem sp_run (s : ByteArray) (frm : Nat) (out : List PieceT) (K : Nat) (hK : K < s.size) (b : UInt8) (hb : (L s)[K]? = some b) (hb2 : b.toNat < 128) :
    ∀ f pos, pos ≤ K → s.size + 1 ≤ f + pos → (∀ p, pos ≤ p → p < K → p < frm ∨ (L s)[p]? ≠ some 123) → ∃ f', s.size + 1 ≤ f' + K ∧ spF s f pos frm out = spF s f' K frm out
  | 0, pos, h1, h2, _ => by omega
  | f + 1, pos, h1, h2, h3 => by
    by_cases he : pos = K
    · exact ⟨f + 1, by omega, by rw [he]⟩
    · have hp : pos < s.size := by omega
      obtain ⟨_, dw, dle, dc⟩ := decode_span s pos hp
      have hle : pos + (Utf8.decode s pos).2 ≤ K := by
        by_cases hlt : K < pos + (Utf8.decode s pos).2
        · have := dc K hK (by omega) hlt
          rw [List.getElem?_eq_getElem (by rw [length_L]; exact hK)] at hb
          injection hb with hb
          rw [hb] at this
          omega
        · omega
      obtain ⟨f', g1, g2⟩ := sp_run s frm out K hK b hb hb2 f (pos + (Utf8.decode s pos).2) hle (by omega) (fun p a1 a2 => h3 p (by omega) a2)
      refine ⟨f', g1, ?_⟩
      rw [← g2]
      conv => lhs; unfold spF
      rw [if_pos hp]
      by_cases hf : pos < frm
      · rw [if_pos hf]
      · rw [if_neg hf]
        rcases h3 pos (Nat.le_refl _) (by omega) with h | h
        · omega
        · rw [spanT_no (by rw [head_drop]; exact h)]
theorem sp_end (s : ByteArray) (frm : Nat) (out : List PieceT) :
    ∀ f pos, pos ≤ s.size → s.size + 1 ≤ f + pos → (∀ p, pos ≤ p → p < frm ∨ (L s)[p]? ≠ some 123) → spF s f pos frm out = if frm < s.size then out ++ [⟨false, ⟨#[]⟩, s.extract frm s.size⟩] else out
  | 0, pos, h1, h2, h3 => by omega
  | f + 1, pos, h1, h2, h3 => by
    by_cases hp : pos < s.size
    · obtain ⟨_, dw, dle, dc⟩ := decode_span s pos hp
      rw [← sp_end s frm out f (pos + (Utf8.decode s pos).2) dle (by omega) (fun p a1 => h3 p (by omega))]
      conv => lhs; unfold spF
      rw [if_pos hp]
      by_cases hf : pos < frm
      · rw [if_pos hf]
      · rw [if_neg hf]
        rcases h3 pos (Nat.le_refl _) with h | h
        · omega
        · rw [spanT_no (by rw [head_drop]; exact h)]
    · unfold spF
      rw [if_neg hp]
theorem sp_hit (s : ByteArray) (frm : Nat) (out : List PieceT) (pre a t r : List UInt8) (e : L s = pre ++ ([123, 124] ++ a ++ [58] ++ t ++ [124, 125] ++ r)) (ha : labelT a = true) (ha2 : 58 ∉ a) (ht : 124 ∉ t) (hf : frm ≤ pre.length) (f : Nat) (hf2 : s.size + 1 ≤ f + pre.length) :
    ∃ f', s.size + 1 ≤ f' + (pre.length + 1) ∧ spF s f pre.length frm out = spF s f' (pre.length + 1) (pre.length + (a.length + t.length + 5)) ((if frm < pre.length then out ++ [⟨false, ⟨#[]⟩, s.extract frm pre.length⟩] else out) ++ [⟨true, S a, S t⟩]) := by
  have hl : s.size = pre.length + (a.length + t.length + 5 + r.length) := by rw [← length_L, e]; simp; omega
  obtain ⟨f, rfl⟩ : ∃ g, f = g + 1 := ⟨f - 1, by omega⟩
  refine ⟨f, by omega, ?_⟩
  have hp : pre.length < s.size := by omega
  have hg : (L s)[pre.length]'(by rw [length_L]; exact hp) = 123 := by simp only [e]; simp
  obtain ⟨⟨hd, _⟩, _⟩ := decode_span s pre.length hp
  have hd := hd (by rw [hg]; decide)
  conv => lhs; unfold spF
  rw [if_pos hp, if_neg (by omega), hd, show (L s).drop pre.length = [123, 124] ++ a ++ [58] ++ t ++ [124, 125] ++ r by rw [e, List.drop_left], spanT_at a t r ha ha2 ht]
theorem ext_mid {s : ByteArray} {x y z : List UInt8} (e : L s = x ++ y ++ z) {i j : Nat} (hi : i = x.length) (hj : j = x.length + y.length) : s.extract i j = S y := by
  have : L (s.extract i j) = y := by
    rw [L_extract, e, hi, hj, show x.length + y.length = (x ++ y).length by simp, List.take_left, List.drop_left]
  rw [← this, S_L]

theorem get_mid (x : List UInt8) (c : UInt8) (r : List UInt8) (k : Nat) (hk : k = x.length) : (x ++ c :: r)[k]? = some c := by subst hk; simp

theorem spans_one (s : ByteArray) (ahead label text behind : List UInt8) (e : L s = ahead ++ ([123, 124] ++ label ++ [58] ++ text ++ [124, 125] ++ behind)) (h1 : 123 ∉ ahead) (h2 : 123 ∉ behind) (h3 : lowT label = true) (h4 : 1 ≤ label.length) (h5 : label.length ≤ 40) (h6 : 124 ∉ text) :
    spansT s = (if 0 < ahead.length then [⟨false, ⟨#[]⟩, S ahead⟩] else []) ++ [⟨true, S label, S text⟩] ++ (if 0 < behind.length then [⟨false, ⟨#[]⟩, S behind⟩] else []) := by
  have hl : s.size = ahead.length + (label.length + text.length + 5 + behind.length) := by rw [← length_L, e]; simp; omega
  unfold spansT
  obtain ⟨f1, g1, q1⟩ := sp_run s 0 [] ahead.length (by omega) 123 (by rw [e]; simp) (by decide) (s.size + 1) 0 (by omega) (by omega) (fun p _ hp => .inr (by
    rw [e, List.getElem?_append_left hp]
    exact fun hh => h1 (List.mem_of_getElem? hh)))
  obtain ⟨f2, g2, q2⟩ := sp_hit s 0 [] ahead label text behind e (label_low h3 h4 h5) (low_not h3 58 (by decide)) h6 (by omega) f1 g1
  rw [q1, q2, sp_end s _ _ f2 _ (by omega) g2]
  · have hx : s.extract 0 ahead.length = S ahead := ext_mid (x := []) (y := ahead) (z := [123, 124] ++ label ++ [58] ++ text ++ [124, 125] ++ behind) (by rw [e]; simp) rfl (by simp)
    rw [List.nil_append, hx]
    by_cases hb : 0 < behind.length
    · rw [if_pos hb, if_pos (by omega), ext_mid (x := ahead ++ ([123, 124] ++ label ++ [58] ++ text ++ [124, 125])) (y := behind) (z := []) (s := s) (by rw [e]; simp) (by simp; omega) (by simp; omega)]
    · rw [if_neg hb, if_neg (by omega), List.append_nil]
  · intro p hp
    by_cases hq : p < ahead.length + (label.length + text.length + 5)
    · exact .inl hq
    · refine .inr fun hh => h2 ?_
      rw [e, show ahead ++ ([123, 124] ++ label ++ [58] ++ text ++ [124, 125] ++ behind) = (ahead ++ ([123, 124] ++ label ++ [58] ++ text ++ [124, 125])) ++ behind by simp, List.getElem?_append_right (by simp; omega)] at hh
      exact List.mem_of_getElem? hh

/-- a piece's bytes in the line -/
def pieceB (p : PieceT) : List UInt8 := if p.span then [123, 124] ++ L p.label ++ [58] ++ L p.text ++ [124, 125] else L p.text
def piecesB (ps : List PieceT) : List UInt8 := ps.flatMap pieceB
/-- pieces, a text and a span in turn -/
def AltOk : Bool → List PieceT → Prop
  | _, [] => True
  | b, p :: ps => p.span = b ∧ 1 ≤ p.text.size ∧ 123 ∉ L p.text ∧ 124 ∉ L p.text ∧ (b = true → lowT (L p.label) = true ∧ 1 ≤ p.label.size ∧ p.label.size ≤ 40) ∧ (b = false → p.label = ⟨#[]⟩) ∧ AltOk (!b) ps

theorem piece_eta (p : PieceT) {b : Bool} (h : p.span = b) : p = ⟨b, p.label, p.text⟩ := by subst h; rfl
theorem sp_back (s : ByteArray) : ∀ (n : Nat) (ps : List PieceT) (pre : List UInt8) (f : Nat) (out : List PieceT), ps.length ≤ n → L s = pre ++ piecesB ps → AltOk false ps → s.size + 1 ≤ f + pre.length → spF s f pre.length pre.length out = out ++ ps
  | n, [], pre, f, out, _, e, _, hf => by
    have hl : s.size = pre.length := by rw [← length_L, e]; simp [piecesB]
    rw [sp_end s _ _ f _ (by omega) hf (fun p hp => .inr (by rw [List.getElem?_eq_none (by rw [length_L]; omega)]; simp)), if_neg (by omega), List.append_nil]
  | n, [x], pre, f, out, _, e, ⟨h1, h2, h3, h4, _, h6, _⟩, hf => by
    have eb : piecesB [x] = L x.text := by simp [piecesB, pieceB, h1]
    rw [eb] at e
    have hl : s.size = pre.length + x.text.size := by rw [← length_L, e]; simp [length_L]
    rw [sp_end s _ _ f _ (by omega) hf, if_pos (by omega), ext_mid (x := pre) (y := L x.text) (z := []) (s := s) (by rw [e]; simp) rfl (by rw [length_L]; omega), S_L]
    · have h7 := h6 rfl
      obtain ⟨sp, lb, tx⟩ := x
      simp only at h1 h7 ⊢
      rw [h1, h7]
    · intro p hp
      refine .inr fun hh => h3 ?_
      rw [e, List.getElem?_append_right hp] at hh
      exact List.mem_of_getElem? hh
  | 0, _ :: _ :: _, _, _, _, h, _, _, _ => by simp at h
  | n + 1, x :: y :: ps, pre, f, out, hn, e, ⟨h1, h2, h3, h4, _, h6, k1, k2, k3, k4, k5, _, hr⟩, hf => by
    obtain ⟨k5, k6, k7⟩ := k5 rfl
    have eb : piecesB (x :: y :: ps) = L x.text ++ ([123, 124] ++ L y.label ++ [58] ++ L y.text ++ [124, 125] ++ piecesB ps) := by simp [piecesB, pieceB, h1, k1]
    rw [eb] at e
    have e1 : L s = (pre ++ L x.text) ++ ([123, 124] ++ L y.label ++ [58] ++ L y.text ++ [124, 125] ++ piecesB ps) := by rw [e]; simp
    have e2 : L s = (pre ++ L x.text ++ ([123, 124] ++ L y.label ++ [58] ++ L y.text ++ [124, 125])) ++ piecesB ps := by rw [e]; simp
    have hl1 : (pre ++ L x.text).length = pre.length + x.text.size := by simp [length_L]
    have hl2 : (pre ++ L x.text ++ ([123, 124] ++ L y.label ++ [58] ++ L y.text ++ [124, 125])).length = pre.length + x.text.size + (y.label.size + y.text.size + 5) := by simp [length_L]; omega
    have hl : s.size = pre.length + x.text.size + (y.label.size + y.text.size + 5) + (piecesB ps).length := by rw [← length_L, e2, List.length_append, hl2]
    have e3 : L s = (pre ++ L x.text ++ ([123, 124] ++ L y.label ++ [58] ++ L y.text ++ [124])) ++ (125 :: piecesB ps) := by rw [e]; simp
    have hl3 : pre.length + x.text.size + (y.label.size + y.text.size + 4) = (pre ++ L x.text ++ ([123, 124] ++ L y.label ++ [58] ++ L y.text ++ [124])).length := by simp [length_L]; omega
    obtain ⟨f1, g1, q1⟩ := sp_run s pre.length out (pre ++ L x.text).length (by rw [hl1]; omega) 123 (by rw [e1]; exact get_mid _ _ _ _ rfl) (by decide) f pre.length (by rw [hl1]; omega) hf (fun p hp hq => .inr (by
      rw [hl1] at hq
      rw [e, List.getElem?_append_right hp, List.getElem?_append_left (by rw [length_L]; omega)]
      exact fun hh => h3 (List.mem_of_getElem? hh)))
    obtain ⟨f2, g2, q2⟩ := sp_hit s pre.length out (pre ++ L x.text) (L y.label) (L y.text) (piecesB ps) e1 (label_low k5 (by rw [length_L]; omega) (by rw [length_L]; omega)) (low_not k5 58 (by decide)) k4 (by rw [hl1]; omega) f1 g1
    rw [q1, q2, if_pos (by rw [hl1]; omega), hl1, ext_mid (x := pre) (y := L x.text) (z := _) (s := s) (by rw [e1]) rfl (by rw [length_L]), S_L, S_L, S_L]
    rw [hl1] at g2
    simp only [length_L]
    obtain ⟨f3, g3, q3⟩ := sp_run s (pre.length + x.text.size + (y.label.size + y.text.size + 5)) (out ++ [⟨false, ⟨#[]⟩, x.text⟩] ++ [⟨true, y.label, y.text⟩]) (pre.length + x.text.size + (y.label.size + y.text.size + 4)) (by omega) 125 (by
        rw [e3]
        exact get_mid _ _ _ _ hl3) (by decide) f2 _ (by omega) g2 (fun p _ hp => .inl (by omega))
    rw [q3]
    obtain ⟨f3, rfl⟩ : ∃ g, f3 = g + 1 := ⟨f3 - 1, by omega⟩
    have hp : pre.length + x.text.size + (y.label.size + y.text.size + 4) < s.size := by omega
    obtain ⟨⟨hd, _⟩, _⟩ := decode_span s _ hp
    have hg : (L s)[pre.length + x.text.size + (y.label.size + y.text.size + 4)]'(by rw [length_L]; exact hp) = 125 := by
      apply Option.some.inj
      rw [← List.getElem?_eq_getElem]
      rw [e3]
      exact get_mid _ _ _ _ hl3
    have hd := hd (by rw [hg]; decide)
    conv => lhs; unfold spF
    rw [if_pos hp, if_pos (by omega), hd]
    simp only
    rw [show pre.length + x.text.size + (y.label.size + y.text.size + 4) + 1 = (pre ++ L x.text ++ ([123, 124] ++ L y.label ++ [58] ++ L y.text ++ [124, 125])).length by rw [hl2]; omega, ← hl2]
    rw [sp_back s n ps _ f3 _ (by simp at hn; omega) e2 hr (by rw [hl2]; omega)]
    have ex : x = ⟨false, ⟨#[]⟩, x.text⟩ := by
      have h7 := h6 rfl
      obtain ⟨sp, lb, tx⟩ := x
      simp only at h1 h7 ⊢
      rw [h1, h7]
    have ey : y = ⟨true, y.label, y.text⟩ := piece_eta y k1
    conv => rhs; rw [ex, ey]
    simp
theorem spans_back (s : ByteArray) (ps : List PieceT) (e : L s = piecesB ps) (h : AltOk false ps) : spansT s = ps := by
  have := sp_back s ps.length ps [] (s.size + 1) [] (Nat.le_refl _) (by rw [e]; rfl) h (by simp)
  simpa [spansT] using this
end Go.Proofs.YtgdnphmannbpgaaGreatDoor
/-
  How the parts of a frame lie in one another; how many lines they stand for.
-/
namespace Go.Proofs.YtgdnphmannbpgaaGreatDoor

def partN (p : PartT) : Nat := p.lines.length + (if p.div then (if p.opn then 1 else 2) else 0)
def outN (out : List PartT) : Nat := (out.map partN).sum
/-- a part by itself -/
def PartOk (p : PartT) : Prop := (p.div = true → p.lines = []) ∧ (p.div = false → p.lines ≠ []) ∧ 0 ≤ p.depth
/-- two parts, one behind the other -/
def NextOk (a b : PartT) : Prop := b.depth ≤ a.depth + 1 ∧ ¬ (b.div = false ∧ a.div = false ∧ b.depth = a.depth)
structure DepOk (st : FrS) (k : Nat) : Prop where
  each : ∀ p ∈ st.out, PartOk p
  next : ∀ i a b, st.out[i]? = some a → st.out[i + 1]? = some b → NextOk a b
  count : outN st.out = k
  opn : ∀ i ∈ st.ins, ∃ p, st.out[i]? = some p ∧ p.div = true ∧ p.opn = true
  nodup : st.ins.Nodup
  last : ∀ p, st.out.getLast? = some p → (st.ins.length : Int) ≤ p.depth + 1 ∧ (st.run = true → p.div = false ∧ p.depth = st.ins.length) ∧ (st.run = false → p.div = false → (st.ins.length : Int) < p.depth)
  some_ : st.run = true → st.out ≠ []

theorem outN_app (a b : List PartT) : outN (a ++ b) = outN a + outN b := by simp [outN]
theorem next_push {out : List PartT} {q : PartT} (h : ∀ i a b, out[i]? = some a → out[i + 1]? = some b → NextOk a b) (hl : ∀ p, out.getLast? = some p → NextOk p q) :
    ∀ i a b, (out ++ [q])[i]? = some a → (out ++ [q])[i + 1]? = some b → NextOk a b := by
  intro i a b ha hb
  by_cases hi : i + 1 < out.length
  · rw [List.getElem?_append_left (by omega)] at ha
    rw [List.getElem?_append_left hi] at hb
    exact h i a b ha hb
  · by_cases he : i + 1 = out.length
    · rw [List.getElem?_append_left (by omega)] at ha
      rw [List.getElem?_append_right (by omega), he] at hb
      simp at hb
      rw [← hb]
      refine hl a ?_
      rw [List.getLast?_eq_getElem?, show out.length - 1 = i by omega]; exact ha
    · rw [List.getElem?_append_right (by omega)] at hb
      have : i + 1 - out.length ≠ 0 := by omega
      obtain ⟨m, hm⟩ : ∃ m, i + 1 - out.length = m + 1 := ⟨i + 1 - out.length - 1, by omega⟩
      rw [hm] at hb
      simp at hb
/-- a part more -/
theorem DepOk.push {st : FrS} {k : Nat} (h : DepOk st k) (q : PartT) (ins' : List Nat) (run' : Bool) (hq : PartOk q) (hl : ∀ p, st.out.getLast? = some p → NextOk p q) (hn : partN q = 1)
    (ho : ∀ i ∈ ins', ∃ p, (st.out ++ [q])[i]? = some p ∧ p.div = true ∧ p.opn = true) (hd : ins'.Nodup)
    (h1 : (ins'.length : Int) ≤ q.depth + 1) (h2 : run' = true → q.div = false ∧ q.depth = ins'.length) (h3 : run' = false → q.div = false → (ins'.length : Int) < q.depth) : DepOk ⟨st.out ++ [q], ins', run'⟩ (k + 1) where
  each := fun p hp => by
    rcases List.mem_append.1 hp with hp | hp
    · exact h.each p hp
    · rw [List.mem_singleton.1 hp]; exact hq
  next := next_push h.next hl
  count := by rw [outN_app, h.count]; simp [outN, hn]
  opn := ho
  nodup := hd
  last := fun p hp => by
    simp at hp
    rw [← hp]
    exact ⟨h1, h2, h3⟩
  some_ := fun _ => by simp

/-- depth and kind alone count -/
theorem next_same {a b : List PartT} (h : ∀ i : Nat, (b[i]?).map (fun p => (p.depth, p.div)) = (a[i]?).map (fun p => (p.depth, p.div))) (hn : ∀ i x y, a[i]? = some x → a[i + 1]? = some y → NextOk x y) : ∀ i x y, b[i]? = some x → b[i + 1]? = some y → NextOk x y := by
  intro i x y hx hy
  have h1 := h i
  have h2 := h (i + 1)
  rw [hx] at h1
  rw [hy] at h2
  obtain ⟨x', hx', e1⟩ := Option.map_eq_some_iff.1 h1.symm
  obtain ⟨y', hy', e2⟩ := Option.map_eq_some_iff.1 h2.symm
  injection e1 with e11 e12
  injection e2 with e21 e22
  have := hn i x' y' hx' hy'
  unfold NextOk at this ⊢
  rw [← e11, ← e12, ← e21, ← e22]
  exact this
theorem outN_set : ∀ (out : List PartT) (i : Nat) (p q : PartT), out[i]? = some p → outN (out.set i q) + partN p = outN out + partN q
  | [], i, p, q, h => by simp at h
  | a :: t, 0, p, q, h => by
    simp at h
    rw [← h]
    simp [outN]; omega
  | a :: t, i + 1, p, q, h => by
    have := outN_set t i p q (by simpa using h)
    simp only [outN, List.set_cons_succ, List.map_cons, List.sum_cons] at this ⊢
    omega

theorem DepOk.step {st : FrS} {k : Nat} (h : DepOk st k) (s : ByteArray) : DepOk (frStep st s) (k + 1) := by
  have hlt : ∀ i ∈ st.ins, i < st.out.length := fun i hi => by
    obtain ⟨p, hp, _⟩ := h.opn i hi
    exact (List.getElem?_eq_some_iff.1 hp).1
  unfold frStep
  split
  · refine h.push _ _ _ ⟨fun _ => rfl, by simp, by simp⟩ (fun p hp => ⟨(h.last p hp).1, by simp⟩) (by simp [partN]) ?_ ?_ (by simp) (by simp) (by simp)
    · intro i hi
      rcases List.mem_append.1 hi with hi | hi
      · obtain ⟨p, hp, h1⟩ := h.opn i hi
        exact ⟨p, by rw [List.getElem?_append_left (hlt i hi)]; exact hp, h1⟩
      · rw [List.mem_singleton.1 hi]
        exact ⟨_, by simp; rfl, rfl, rfl⟩
    · rw [List.nodup_append]
      refine ⟨h.nodup, by simp, fun a ha b hb e => ?_⟩
      rw [List.mem_singleton.1 hb] at e
      have := hlt a ha
      omega
  · split
    · rename_i hsh
      have hpos : 0 < st.ins.length := by
        rw [Bool.and_eq_true] at hsh
        simpa using hsh.2
      obtain ⟨ins', i, he⟩ : ∃ a b, st.ins = a ++ [b] := ⟨st.ins.dropLast, st.ins.getLast (List.ne_nil_of_length_pos hpos), (List.dropLast_concat_getLast _).symm⟩
      obtain ⟨p, hp, hdiv, hopn⟩ := h.opn i (by rw [he]; simp)
      have hg : st.ins.getLast?.getD 0 = i := by rw [he]; simp
      have hd : st.ins.dropLast = ins' := by rw [he]; simp
      have hsa : shutAt st.out i = st.out.set i { p with opn := false } := by unfold shutAt; rw [hp]
      rw [hg, hd, hsa]
      have hil := (List.getElem?_eq_some_iff.1 hp).1
      have hnd := h.nodup
      rw [he, List.nodup_append] at hnd
      have hsame : ∀ j : Nat, ((st.out.set i { p with opn := false })[j]?).map (fun p => (p.depth, p.div)) = (st.out[j]?).map (fun p => (p.depth, p.div)) := fun j => by
        rw [List.getElem?_set]
        split
        · rename_i hij
          subst hij
          rw [hp]; rfl
        · rfl
      have hlen : st.ins.length = ins'.length + 1 := by rw [he]; simp
      refine ⟨fun q hq => ?_, next_same hsame h.next, ?_, fun j hj => ?_, hnd.1, fun q hq => ?_, by simp⟩
      · rcases List.mem_or_eq_of_mem_set hq with hq | rfl
        · exact h.each q hq
        · exact h.each p (List.mem_of_getElem? hp)
      · have := outN_set st.out i p { p with opn := false } hp
        have hc := h.count
        have e1 : partN p = p.lines.length + 1 := by simp [partN, hdiv, hopn]
        have e2 : partN { p with opn := false } = p.lines.length + 2 := by simp [partN, hdiv]
        simp only at this ⊢
        omega
      · obtain ⟨q, hq, h1⟩ := h.opn j (by rw [he]; simp [hj])
        have hne : i ≠ j := fun e => hnd.2.2 j hj i (by simp) e.symm
        exact ⟨q, by rw [List.getElem?_set, if_neg hne]; exact hq, h1⟩
      · have hq2 : ((st.out.set i { p with opn := false })[st.out.length - 1]?) = some q := by
          rw [List.getLast?_eq_getElem?, List.length_set] at hq; exact hq
        have h1 := hsame (st.out.length - 1)
        rw [hq2] at h1
        obtain ⟨q', hq', e1⟩ := Option.map_eq_some_iff.1 h1.symm
        injection e1 with e11 e12
        obtain ⟨l1, l2, l3⟩ := h.last q' (by rw [List.getLast?_eq_getElem?]; exact hq')
        show (ins'.length : Int) ≤ q.depth + 1 ∧ (false = true → q.div = false ∧ q.depth = (ins'.length : Int)) ∧ (false = false → q.div = false → (ins'.length : Int) < q.depth)
        refine ⟨by omega, by simp, fun _ hqd => ?_⟩
        cases hr : st.run
        · have := l3 hr (by rw [e12]; exact hqd); omega
        · have := (l2 hr).2; omega
    · split
      · rename_i hrun
        have hne := h.some_ hrun
        obtain ⟨ini, last, he⟩ : ∃ a b, st.out = a ++ [b] := ⟨st.out.dropLast, st.out.getLast hne, (List.dropLast_concat_getLast hne).symm⟩
        obtain ⟨l1, l2, l3⟩ := h.last last (by rw [he]; simp)
        obtain ⟨hdv, hdp⟩ := l2 hrun
        have ha : addLast st.out s = ini ++ [{ last with lines := last.lines ++ [s] }] := by unfold addLast; rw [he]; simp
        rw [ha]
        have hsame : ∀ j : Nat, ((ini ++ [{ last with lines := last.lines ++ [s] }])[j]?).map (fun p => (p.depth, p.div)) = (st.out[j]?).map (fun p => (p.depth, p.div)) := fun j => by
          rw [he]
          by_cases hj : j < ini.length
          · rw [List.getElem?_append_left hj, List.getElem?_append_left hj]
          · rw [List.getElem?_append_right (by omega), List.getElem?_append_right (by omega)]
            cases j - ini.length with
            | zero => rfl
            | succ m => rfl
        refine ⟨fun q hq => ?_, next_same hsame h.next, ?_, fun j hj => ?_, h.nodup, fun q hq => ?_, by simp⟩
        · rcases List.mem_append.1 hq with hq | hq
          · exact h.each q (by rw [he]; simp [hq])
          · rw [List.mem_singleton.1 hq]
            exact ⟨by simp [hdv], by simp, (h.each last (by rw [he]; simp)).2.2⟩
        · have hc := h.count
          rw [he, outN_app] at hc
          rw [outN_app]
          simp [outN, partN, hdv] at hc ⊢
          omega
        · obtain ⟨q, hq, h1, h2⟩ := h.opn j hj
          rw [he] at hq
          by_cases hjl : j < ini.length
          · rw [List.getElem?_append_left hjl] at hq
            exact ⟨q, by rw [List.getElem?_append_left hjl]; exact hq, h1, h2⟩
          · have hj2 := hlt j hj
            rw [he] at hj2
            simp at hj2
            have : j = ini.length := by omega
            subst this
            simp at hq
            rw [← hq, hdv] at h1
            cases h1
        · simp at hq
          rw [← hq]
          exact ⟨l1, fun _ => ⟨hdv, hdp⟩, by simp⟩
      · rename_i hrun
        have hrun' : st.run = false := by simpa using hrun
        refine h.push _ _ _ ⟨by simp, by simp, by simp⟩ (fun p hp => ⟨(h.last p hp).1, fun e => ?_⟩) (by simp [partN]) ?_ h.nodup (by show (st.ins.length : Int) ≤ (st.ins.length : Int) + 1; omega) (by simp) (by simp)
        · have := (h.last p hp).2.2 hrun' e.2.1
          have e3 := e.2.2
          simp at e3
          omega
        · intro i hi
          obtain ⟨p, hp, h1⟩ := h.opn i hi
          exact ⟨p, by rw [List.getElem?_append_left (hlt i hi)]; exact hp, h1⟩

theorem depOk_frT (ls : List ByteArray) : DepOk (frT ls) ls.length := by
  have : ∀ (l : List ByteArray) (st : FrS) (k : Nat), DepOk st k → DepOk (l.foldl frStep st) (k + l.length) := by
    intro l
    induction l with
    | nil => intro st k h; exact h
    | cons x t ih =>
      intro st k h
      rw [List.foldl_cons, List.length_cons, show k + (t.length + 1) = k + 1 + t.length by omega]
      exact ih _ _ (h.step x)
  have := this ls ⟨[], [], false⟩ 0 ⟨by simp, by simp, rfl, by simp, by simp, by simp, by simp⟩
  simpa [frT] using this
end Go.Proofs.YtgdnphmannbpgaaGreatDoor
/-
  Whether parts may be, and the lines of them: what frame.Right and frame.Write answer, as folds.
-/
namespace Go.Proofs.YtgdnphmannbpgaaGreatDoor

/-- a part by itself -/
def partT (p : PartT) : Bool :=
  if p.div then p.lines.isEmpty && labelT (L p.label)
  else !p.lines.isEmpty && decide (p.label.size = 0) && !p.opn && !(p.lines.any fun s => (opensT (L s)).2 || (shutsT (L s) && decide (0 < p.depth)) || (L s).contains 10)
/-- how far it is seen whether parts may be -/
structure RtS where
  most : Int
  least : Int
  prev : Option PartT
  inn : List PartT
def clash (prev : Option PartT) (x : PartT) : Bool := match prev with
  | some q => !x.div && !q.div && decide (q.depth = x.depth)
  | none => false
def rtIn (st : RtS) (x : PartT) : List PartT := st.inn.take x.depth.toNat ++ [x]
def rtStep (st : RtS) (x : PartT) : Option RtS :=
  if x.depth < st.least ∨ st.most < x.depth ∨ partT x = false then none
  else if clash st.prev x then none
  else if x.opn && (rtIn st x).any (fun y => !y.opn) then none
  else some ⟨if x.div then x.depth + 1 else x.depth, if x.opn then x.depth + 1 else st.least, some x, rtIn st x⟩
def rtFold : Option RtS → List PartT → Option RtS := List.foldl fun s x => s.bind fun s => rtStep s x
def rtInit : RtS := ⟨0, 0, none, []⟩
def right6 (ps : List PartT) : Bool := (rtFold (some rtInit) ps).isSome

def shutB : ByteArray := ⟨#[58, 58, 58]⟩
def openB (label : ByteArray) : ByteArray := (⟨#[58, 58, 58, 123]⟩ : ByteArray) ++ label ++ (⟨#[125]⟩ : ByteArray)
def notOpn (l : List PartT) : Nat := l.countP fun y => !y.opn
/-- how far parts are written -/
structure WrS where
  out : List ByteArray
  inn : List PartT
def wrStep (st : WrS) (x : PartT) : WrS :=
  ⟨st.out ++ List.replicate (notOpn (st.inn.drop x.depth.toNat)) shutB ++ (if x.div then [openB x.label] else []) ++ x.lines, st.inn.take x.depth.toNat ++ (if x.div then [x] else [])⟩
def wrInit : WrS := ⟨[], []⟩
def wrFold (ps : List PartT) : WrS := ps.foldl wrStep wrInit
def lines6 (ps : List PartT) : List ByteArray := (wrFold ps).out ++ List.replicate (notOpn (wrFold ps).inn) shutB
def write6 (ps : List PartT) : List ByteArray := if right6 ps then lines6 ps else []

theorem rtFold_none (ps : List PartT) : rtFold none ps = none := by
  induction ps with
  | nil => rfl
  | cons x t ih => exact ih
theorem rtFold_snoc (s : Option RtS) (ps : List PartT) (x : PartT) : rtFold s (ps ++ [x]) = (rtFold s ps).bind fun s => rtStep s x := by
  unfold rtFold; rw [List.foldl_append]; rfl
theorem wrFold_snoc (ps : List PartT) (x : PartT) : wrFold (ps ++ [x]) = wrStep (wrFold ps) x := by
  unfold wrFold; rw [List.foldl_append]; rfl
theorem frT_app (a b : List ByteArray) : frT (a ++ b) = b.foldl frStep (frT a) := by unfold frT; rw [List.foldl_append]

theorem rtStep_some {st st' : RtS} {x : PartT} (h : rtStep st x = some st') :
    st.least ≤ x.depth ∧ x.depth ≤ st.most ∧ partT x = true ∧ clash st.prev x = false ∧ (x.opn = true → ∀ y ∈ st.inn.take x.depth.toNat, y.opn = true) ∧
    st' = ⟨if x.div then x.depth + 1 else x.depth, if x.opn then x.depth + 1 else st.least, some x, rtIn st x⟩ := by
  unfold rtStep at h
  split at h
  · cases h
  rename_i h1
  split at h
  · cases h
  rename_i h2
  split at h
  · cases h
  rename_i h3
  refine ⟨by omega, by omega, ?_, by simpa using h2, fun hx y hy => ?_, (Option.some.inj h).symm⟩
  · cases hp : partT x
    · exact absurd (.inr (.inr hp)) h1
    · rfl
  · rw [hx, Bool.true_and] at h3
    cases hyo : y.opn
    · exact absurd (List.any_eq_true.2 ⟨y, by unfold rtIn; simp [hy], by rw [hyo]; rfl⟩) h3
    · rfl
theorem part_div {x : PartT} (h : partT x = true) (hd : x.div = true) : x.lines = [] ∧ labelT (L x.label) = true := by
  unfold partT at h
  rw [hd, if_pos rfl, Bool.and_eq_true] at h
  exact ⟨List.isEmpty_iff.1 h.1, h.2⟩
theorem part_run {x : PartT} (h : partT x = true) (hd : x.div = false) :
    x.lines ≠ [] ∧ x.label = ⟨#[]⟩ ∧ x.opn = false ∧ ∀ s ∈ x.lines, (opensT (L s)).2 = false ∧ (shutsT (L s) = true → ¬ 0 < x.depth) ∧ 10 ∉ L s := by
  unfold partT at h
  rw [hd] at h
  simp only [Bool.false_eq_true, if_false, Bool.and_eq_true, Bool.not_eq_true', decide_eq_true_eq, List.any_eq_false] at h
  obtain ⟨⟨⟨h1, h2⟩, h3⟩, h4⟩ := h
  refine ⟨fun e => by rw [e] at h1; simp at h1, bytes_none h2, h3, fun s hs => ?_⟩
  have := h4 s hs
  simp only [Bool.or_eq_true, Bool.and_eq_true, decide_eq_true_eq, not_or, not_and, Bool.not_eq_true, List.contains_iff_mem] at this
  exact ⟨this.1.1, this.1.2, by simpa using this.2⟩

theorem opens_openB {lb : ByteArray} (h : labelT (L lb) = true) : opensT (L (openB lb)) = (L lb, true) := by
  have e : L (openB lb) = [58, 58, 58, 123] ++ L lb ++ [125] := by unfold openB; rw [L_append, L_append]; rfl
  have ht : Lib.trimRightB (L (openB lb)) 32 = [58, 58, 58, 123] ++ L lb ++ [125] := by
    have := trimR_snoc ([58, 58, 58, 123] ++ L lb) 125 (by decide) 0
    rw [List.replicate_zero, List.append_nil] at this
    rw [e, this]
  have hp : Lib.hasPrefix ([58, 58, 58, 123] ++ L lb ++ [125]) openL = true := by
    unfold Lib.hasPrefix openL
    exact List.isPrefixOf_iff_prefix.2 ⟨L lb ++ [125], by simp⟩
  unfold opensT
  rw [ht, hp, if_pos rfl]
  have hd : ([58, 58, 58, 123] ++ L lb ++ [125]).drop 4 = L lb ++ [125] := rfl
  rw [hd, (suffix_yes _ _).1, (suffix_yes _ _).2, h]
  rfl
theorem shutB_fold : (opensT (L shutB)).2 = false ∧ shutsT (L shutB) = true := by decide +kernel
end Go.Proofs.YtgdnphmannbpgaaGreatDoor
/-
  frame.Unspan: its contract: the line of pieces.
-/
namespace Go.Proofs.YtgdnphmannbpgaaGreatDoor
open Go.RowKit

theorem Reads.piece {w : World} {B n : Nat} {A : Option Addr} {ps : List PieceT} (h : Reads w B 3 A n (pieceCells ps)) {k : Nat} {p : PieceT} (hp : ps[k]? = some p) (hk : k < n) :
    ∃ ad, A = some ad ∧ ad.block < B ∧ w.cell? (ad.add (k * 3)) = some (.bool p.span) ∧ w.cell? ⟨(ad.add (k * 3)).block, (ad.add (k * 3)).off + 1, none⟩ = some (.string p.label) ∧ w.cell? ⟨(ad.add (k * 3)).block, (ad.add (k * 3)).off + 2, none⟩ = some (.string p.text) := by
  obtain ⟨ad, e, hb, h0, hj⟩ := h.elem hk
  have g := fun j (hj : j < 3) => flat_get PieceT.cells 3 piece_len ps k j hj hp
  exact ⟨ad, e, hb, h0 _ ((g 0 (by omega)).trans rfl), hj 1 _ (by omega) ((g 1 (by omega)).trans rfl), hj 2 _ (by omega) ((g 2 (by omega)).trans rfl)⟩
theorem piecesB_take (l : List PieceT) (k : Nat) : (piecesB (l.take k)).length ≤ (piecesB l).length := by
  conv => rhs; rw [← List.take_append_drop k l]
  simp only [piecesB, List.flatMap_append, List.length_append]
  omega
theorem piecesB_snoc (l : List PieceT) (x : PieceT) : piecesB (l ++ [x]) = piecesB l ++ pieceB x := by simp [piecesB]

set_option maxHeartbeats 4000000 in
set_option maxRecDepth 100000 in
theorem unspan_any (A : Option Addr) (n c : Nat) (l : List PieceT) (w : World) (hr : Reads w w.heap.size 3 A n (pieceCells l)) (hn : n ≤ 1073741824) (ht : (piecesB l).length ≤ 140737488355328) :
    Calls Tryz.prog 38 #[.slice A n c] w fun e w' => e = .returned (.string (S (piecesB l))) ∧ Below w.heap.size w w' := by
  have hlen : l.length = n := by have := hr.1; rw [pieces_length] at this; omega
  have HL := Lib.hid hlen
  clear hlen
  go_enter Tryz.func38, Tryz.ntmps38
  go_wp2_with fail
  go_loopw [8] (fun i wr => ∃ (k : Nat), k ≤ n ∧ i = .int .i64 k ∧ Bld w.heap.size w.heap.size (piecesB (l.take k)) wr ∧ Below w.heap.size w wr)
    (fun i _ => n - (intOf i).toNat)
  case atStart => exact ⟨0, Nat.zero_le _, rfl, Bld.new w, (Below.refl _ _).alloc (Nat.le_refl _) _⟩
  case round =>
    obtain ⟨k, hk, rfl, hB, hb⟩ := hrel
    by_cases hlt : k < n
    · obtain ⟨x, hx⟩ : ∃ x, l[k]? = some x := ⟨_, List.getElem?_eq_getElem (by rw [HL.out]; omega)⟩
      obtain ⟨ad, rfl, _, g0, g1, g2⟩ := (hr.below hb).piece hx hlt
      have hbs := hb.size
      have HK : Hid (piecesB (l.take (k + 1)) = piecesB (l.take k) ++ pieceB x) := Lib.hid (by
        rw [List.take_add_one, hx, Option.toList_some, piecesB_snoc])
      have hle : (piecesB (l.take k)).length + (pieceB x).length ≤ 140737488355328 := by
        have := piecesB_take l (k + 1)
        rw [HK.out, List.length_append] at this
        omega
      clear hx
      generalize piecesB (l.take k) = kl at *
      cases hsp : x.span
      · rw [hsp] at g0
        have hX : pieceB x = L x.text := by unfold pieceB; rw [hsp]; rfl
        rw [hX, length_L] at hle
        have HX := Lib.hid hX
        clear hX hsp
        go_wp2_with fail
        refine (writeString_any w.heap.size w.heap.size kl x.text _ (hB.alloc _) hle (by simp; omega)).mono ?_
        rintro e w1 ⟨rfl, hB1, b1, k1⟩
        have hb1 := (hb.alloc hbs _).trans b1
        go_wp2_with fail
        go_roundw
        case rel => exact ⟨k + 1, by omega, by go_num, by rw [HK.out, HX.out]; exact hB1, hb1⟩
        case measure => simp [intOf]; omega
      · rw [hsp] at g0
        obtain ⟨s, hs⟩ : ∃ s, (⟨#[123, 124]⟩ : ByteArray) ++ x.label ++ (⟨#[58]⟩ : ByteArray) ++ x.text ++ (⟨#[124, 125]⟩ : ByteArray) = s := ⟨_, rfl⟩
        have hX : pieceB x = L s := by
          unfold pieceB
          rw [hsp, if_pos rfl, ← hs]
          simp only [L_append]
          rfl
        rw [hX, length_L] at hle
        have hsz : s.size = x.label.size + x.text.size + 5 := by
          rw [← hs]
          simp only [ByteArray.size_append]
          have : (⟨#[123, 124]⟩ : ByteArray).size = 2 := rfl
          have : (⟨#[58]⟩ : ByteArray).size = 1 := rfl
          have : (⟨#[124, 125]⟩ : ByteArray).size = 2 := rfl
          omega
        have hsz2 : x.label.size + x.text.size + 5 ≤ 140737488355328 := by omega
        have HX := Lib.hid hX
        have HS := Lib.hid hsz
        clear hX hsp hsz
        go_wp2_with fail
        refine (writeString_any w.heap.size w.heap.size kl s _ (hB.alloc _) (by rw [HS.out] at hle ⊢; exact hle) (by simp; omega)).mono ?_
        rintro e w1 ⟨rfl, hB1, b1, k1⟩
        have hb1 := (hb.alloc hbs _).trans b1
        go_wp2_with fail
        go_roundw
        case rel => exact ⟨k + 1, by omega, by go_num, by rw [HK.out, HX.out]; exact hB1, hb1⟩
        case measure => simp [intOf]; omega
    · go_wp2_with fail
      refine (string_any w.heap.size w.heap.size _ _ hB hb.size).mono ?_
      rintro e w1 ⟨rfl, hB1, b1, k1⟩
      have : k = n := by omega
      subst this
      rw [List.take_of_length_le (by rw [HL.out]; omega)]
      go_wp2_with fail
      go_ret
      exact ⟨rfl, hb.trans b1⟩
end Go.Proofs.YtgdnphmannbpgaaGreatDoor
