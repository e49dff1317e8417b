/-
  Where the spans of a line lie: the plain law.
-/
import Derived.Test.YteeoohnkfdffnaaGreatDoorHeadLaw
namespace Go.Proofs.YteeoohnkfdffnaaGreatDoor
open Go.Lib

theorem index_first (c : UInt8) (q r : List UInt8) : ∀ a : List UInt8, c ∉ a → Lib.index (a ++ (c :: q) ++ r) (c :: q) = (a.length : Int)
  | [], _ => by
    rw [List.nil_append, List.cons_append]
    unfold Lib.index
    have : (c :: q).isPrefixOf (c :: (q ++ r)) = true := List.isPrefixOf_iff_prefix.2 ⟨r, rfl⟩
    rw [if_pos this]
    rfl
  | b :: a, h => by
    have h1 : c ≠ b := fun e => h (by rw [e]; simp)
    have h2 : c ∉ a := fun hm => h (by simp [hm])
    have ih := index_first c q r a h2
    rw [List.cons_append, List.cons_append]
    unfold Lib.index
    rw [if_neg (by intro hp; rw [List.isPrefixOf_cons_cons, Bool.and_eq_true] at hp; exact h1 (by simpa using hp.1)), ih, if_neg (by simp)]
    simp
theorem cut_at (c : UInt8) (q r a : List UInt8) (h : c ∉ a) : Lib.cut (a ++ (c :: q) ++ r) (c :: q) = (a, r, true) := by
  unfold Lib.cut
  rw [index_first c q r a h, if_pos (by omega), Int.toNat_natCast]
  congr 1
  · rw [List.append_assoc, List.take_left]
  · rw [show a.length + (c :: q).length = (a ++ (c :: q)).length by simp, List.drop_left]
theorem spanT_at (a t r : List UInt8) (ha : labelT a = true) (ha2 : 58 ∉ a) (ht : 124 ∉ t) : spanT ([123, 124] ++ a ++ [58] ++ t ++ [124, 125] ++ r) = some (a, t) := by
  unfold spanT
  have e0 : ([123, 124] ++ a ++ [58] ++ t ++ [124, 125] ++ r : List UInt8) = [123, 124] ++ (a ++ [58] ++ (t ++ [124, 125] ++ r)) := by simp
  have e1 : Lib.hasPrefix ([123, 124] ++ (a ++ [58] ++ (t ++ [124, 125] ++ r))) [123, 124] = true := by
    unfold Lib.hasPrefix
    exact List.isPrefixOf_iff_prefix.2 ⟨_, rfl⟩
  have e2 : ([123, 124] ++ (a ++ [58] ++ (t ++ [124, 125] ++ r)) : List UInt8).drop 2 = a ++ [58] ++ (t ++ [124, 125] ++ r) := rfl
  rw [e0, e1, if_pos rfl, e2, cut_at 58 [] _ a ha2]
  simp only [ha, Bool.and_true, if_true]
  rw [cut_at 124 [125] r t ht]
  rfl
theorem spanT_no {l : List UInt8} (h : l.head? ≠ some 123) : spanT l = none := by
  unfold spanT
  cases hp : Lib.hasPrefix l [123, 124]
  · rfl
  · obtain ⟨r, hr⟩ := List.isPrefixOf_iff_prefix.1 hp
    exact absurd (by rw [← hr]; rfl) h

theorem head_drop (l : List UInt8) (p : Nat) : (l.drop p).head? = l[p]? := by
  rw [List.head?_drop]

theorem sp_run (s : ByteArray) (frm : Nat) (out : List PieceT) (K : Nat) (hK : K < s.size) (b : UInt8) (hb : (L s)[K]? = some b) (hb2 : b.toNat < 128) :
    ∀ f pos, pos ≤ K → s.size + 1 ≤ f + pos → (∀ p, pos ≤ p → p < K → p < frm ∨ (L s)[p]? ≠ some 123) → ∃ f', s.size + 1 ≤ f' + K ∧ spF s f pos frm out = spF s f' K frm out
  | 0, pos, h1, h2, _ => by omega
  | f + 1, pos, h1, h2, h3 => by
    by_cases he : pos = K
    · exact ⟨f + 1, by omega, by rw [he]⟩
    · have hp : pos < s.size := by omega
      obtain ⟨_, dw, dle, dc⟩ := decode_span s pos hp
      have hle : pos + (Utf8.decode s pos).2 ≤ K := by
        by_cases hlt : K < pos + (Utf8.decode s pos).2
        · have := dc K hK (by omega) hlt
          rw [List.getElem?_eq_getElem (by rw [length_L]; exact hK)] at hb
          injection hb with hb
          rw [hb] at this
          omega
        · omega
      obtain ⟨f', g1, g2⟩ := sp_run s frm out K hK b hb hb2 f (pos + (Utf8.decode s pos).2) hle (by omega) (fun p a1 a2 => h3 p (by omega) a2)
      refine ⟨f', g1, ?_⟩
      rw [← g2]
      conv => lhs; unfold spF
      rw [if_pos hp]
      by_cases hf : pos < frm
      · rw [if_pos hf]
      · rw [if_neg hf]
        rcases h3 pos (Nat.le_refl _) (by omega) with h | h
        · omega
        · rw [spanT_no (by rw [head_drop]; exact h)]
theorem sp_end (s : ByteArray) (frm : Nat) (out : List PieceT) :
    ∀ f pos, pos ≤ s.size → s.size + 1 ≤ f + pos → (∀ p, pos ≤ p → p < frm ∨ (L s)[p]? ≠ some 123) → spF s f pos frm out = if frm < s.size then out ++ [⟨false, ⟨#[]⟩, s.extract frm s.size⟩] else out
  | 0, pos, h1, h2, h3 => by omega
  | f + 1, pos, h1, h2, h3 => by
    by_cases hp : pos < s.size
    · obtain ⟨_, dw, dle, dc⟩ := decode_span s pos hp
      rw [← sp_end s frm out f (pos + (Utf8.decode s pos).2) dle (by omega) (fun p a1 => h3 p (by omega))]
      conv => lhs; unfold spF
      rw [if_pos hp]
      by_cases hf : pos < frm
      · rw [if_pos hf]
      · rw [if_neg hf]
        rcases h3 pos (Nat.le_refl _) with h | h
        · omega
        · rw [spanT_no (by rw [head_drop]; exact h)]
    · unfold spF
      rw [if_neg hp]
theorem sp_hit (s : ByteArray) (frm : Nat) (out : List PieceT) (pre a t r : List UInt8) (e : L s = pre ++ ([123, 124] ++ a ++ [58] ++ t ++ [124, 125] ++ r)) (ha : labelT a = true) (ha2 : 58 ∉ a) (ht : 124 ∉ t) (hf : frm ≤ pre.length) (f : Nat) (hf2 : s.size + 1 ≤ f + pre.length) :
    ∃ f', s.size + 1 ≤ f' + (pre.length + 1) ∧ spF s f pre.length frm out = spF s f' (pre.length + 1) (pre.length + (a.length + t.length + 5)) ((if frm < pre.length then out ++ [⟨false, ⟨#[]⟩, s.extract frm pre.length⟩] else out) ++ [⟨true, S a, S t⟩]) := by
  have hl : s.size = pre.length + (a.length + t.length + 5 + r.length) := by rw [← length_L, e]; simp; omega
  obtain ⟨f, rfl⟩ : ∃ g, f = g + 1 := ⟨f - 1, by omega⟩
  refine ⟨f, by omega, ?_⟩
  have hp : pre.length < s.size := by omega
  have hg : (L s)[pre.length]'(by rw [length_L]; exact hp) = 123 := by simp only [e]; simp
  obtain ⟨⟨hd, _⟩, _⟩ := decode_span s pre.length hp
  have hd := hd (by rw [hg]; decide)
  conv => lhs; unfold spF
  rw [if_pos hp, if_neg (by omega), hd, show (L s).drop pre.length = [123, 124] ++ a ++ [58] ++ t ++ [124, 125] ++ r by rw [e, List.drop_left], spanT_at a t r ha ha2 ht]
theorem ext_mid {s : ByteArray} {x y z : List UInt8} (e : L s = x ++ y ++ z) {i j : Nat} (hi : i = x.length) (hj : j = x.length + y.length) : s.extract i j = S y := by
  have : L (s.extract i j) = y := by
    rw [L_extract, e, hi, hj, show x.length + y.length = (x ++ y).length by simp, List.take_left, List.drop_left]
  rw [← this, S_L]

theorem get_mid (x : List UInt8) (c : UInt8) (r : List UInt8) (k : Nat) (hk : k = x.length) : (x ++ c :: r)[k]? = some c := by subst hk; simp

theorem spans_one (s : ByteArray) (ahead label text behind : List UInt8) (e : L s = ahead ++ ([123, 124] ++ label ++ [58] ++ text ++ [124, 125] ++ behind)) (h1 : 123 ∉ ahead) (h2 : 123 ∉ behind) (h3 : lowT label = true) (h4 : 1 ≤ label.length) (h5 : label.length ≤ 40) (h6 : 124 ∉ text) :
    spansT s = (if 0 < ahead.length then [⟨false, ⟨#[]⟩, S ahead⟩] else []) ++ [⟨true, S label, S text⟩] ++ (if 0 < behind.length then [⟨false, ⟨#[]⟩, S behind⟩] else []) := by
  have hl : s.size = ahead.length + (label.length + text.length + 5 + behind.length) := by rw [← length_L, e]; simp; omega
  unfold spansT
  obtain ⟨f1, g1, q1⟩ := sp_run s 0 [] ahead.length (by omega) 123 (by rw [e]; simp) (by decide) (s.size + 1) 0 (by omega) (by omega) (fun p _ hp => .inr (by
    rw [e, List.getElem?_append_left hp]
    exact fun hh => h1 (List.mem_of_getElem? hh)))
  obtain ⟨f2, g2, q2⟩ := sp_hit s 0 [] ahead label text behind e (label_low h3 h4 h5) (low_not h3 58 (by decide)) h6 (by omega) f1 g1
  rw [q1, q2, sp_end s _ _ f2 _ (by omega) g2]
  · have hx : s.extract 0 ahead.length = S ahead := ext_mid (x := []) (y := ahead) (z := [123, 124] ++ label ++ [58] ++ text ++ [124, 125] ++ behind) (by rw [e]; simp) rfl (by simp)
    rw [List.nil_append, hx]
    by_cases hb : 0 < behind.length
    · rw [if_pos hb, if_pos (by omega), ext_mid (x := ahead ++ ([123, 124] ++ label ++ [58] ++ text ++ [124, 125])) (y := behind) (z := []) (s := s) (by rw [e]; simp) (by simp; omega) (by simp; omega)]
    · rw [if_neg hb, if_neg (by omega), List.append_nil]
  · intro p hp
    by_cases hq : p < ahead.length + (label.length + text.length + 5)
    · exact .inl hq
    · refine .inr fun hh => h2 ?_
      rw [e, show ahead ++ ([123, 124] ++ label ++ [58] ++ text ++ [124, 125] ++ behind) = (ahead ++ ([123, 124] ++ label ++ [58] ++ text ++ [124, 125])) ++ behind by simp, List.getElem?_append_right (by simp; omega)] at hh
      exact List.mem_of_getElem? hh

/-- a piece's bytes in the line -/
def pieceB (p : PieceT) : List UInt8 := if p.span then [123, 124] ++ L p.label ++ [58] ++ L p.text ++ [124, 125] else L p.text
def piecesB (ps : List PieceT) : List UInt8 := ps.flatMap pieceB
/-- pieces, a text and a span in turn -/
def AltOk : Bool → List PieceT → Prop
  | _, [] => True
  | b, p :: ps => p.span = b ∧ 1 ≤ p.text.size ∧ 123 ∉ L p.text ∧ 124 ∉ L p.text ∧ (b = true → lowT (L p.label) = true ∧ 1 ≤ p.label.size ∧ p.label.size ≤ 40) ∧ (b = false → p.label = ⟨#[]⟩) ∧ AltOk (!b) ps

theorem piece_eta (p : PieceT) {b : Bool} (h : p.span = b) : p = ⟨b, p.label, p.text⟩ := by subst h; rfl
theorem sp_back (s : ByteArray) : ∀ (n : Nat) (ps : List PieceT) (pre : List UInt8) (f : Nat) (out : List PieceT), ps.length ≤ n → L s = pre ++ piecesB ps → AltOk false ps → s.size + 1 ≤ f + pre.length → spF s f pre.length pre.length out = out ++ ps
  | n, [], pre, f, out, _, e, _, hf => by
    have hl : s.size = pre.length := by rw [← length_L, e]; simp [piecesB]
    rw [sp_end s _ _ f _ (by omega) hf (fun p hp => .inr (by rw [List.getElem?_eq_none (by rw [length_L]; omega)]; simp)), if_neg (by omega), List.append_nil]
  | n, [x], pre, f, out, _, e, ⟨h1, h2, h3, h4, _, h6, _⟩, hf => by
    have eb : piecesB [x] = L x.text := by simp [piecesB, pieceB, h1]
    rw [eb] at e
    have hl : s.size = pre.length + x.text.size := by rw [← length_L, e]; simp [length_L]
    rw [sp_end s _ _ f _ (by omega) hf, if_pos (by omega), ext_mid (x := pre) (y := L x.text) (z := []) (s := s) (by rw [e]; simp) rfl (by rw [length_L]; omega), S_L]
    · have h7 := h6 rfl
      obtain ⟨sp, lb, tx⟩ := x
      simp only at h1 h7 ⊢
      rw [h1, h7]
    · intro p hp
      refine .inr fun hh => h3 ?_
      rw [e, List.getElem?_append_right hp] at hh
      exact List.mem_of_getElem? hh
  | 0, _ :: _ :: _, _, _, _, h, _, _, _ => by simp at h
  | n + 1, x :: y :: ps, pre, f, out, hn, e, ⟨h1, h2, h3, h4, _, h6, k1, k2, k3, k4, k5, _, hr⟩, hf => by
    obtain ⟨k5, k6, k7⟩ := k5 rfl
    have eb : piecesB (x :: y :: ps) = L x.text ++ ([123, 124] ++ L y.label ++ [58] ++ L y.text ++ [124, 125] ++ piecesB ps) := by simp [piecesB, pieceB, h1, k1]
    rw [eb] at e
    have e1 : L s = (pre ++ L x.text) ++ ([123, 124] ++ L y.label ++ [58] ++ L y.text ++ [124, 125] ++ piecesB ps) := by rw [e]; simp
    have e2 : L s = (pre ++ L x.text ++ ([123, 124] ++ L y.label ++ [58] ++ L y.text ++ [124, 125])) ++ piecesB ps := by rw [e]; simp
    have hl1 : (pre ++ L x.text).length = pre.length + x.text.size := by simp [length_L]
    have hl2 : (pre ++ L x.text ++ ([123, 124] ++ L y.label ++ [58] ++ L y.text ++ [124, 125])).length = pre.length + x.text.size + (y.label.size + y.text.size + 5) := by simp [length_L]; omega
    have hl : s.size = pre.length + x.text.size + (y.label.size + y.text.size + 5) + (piecesB ps).length := by rw [← length_L, e2, List.length_append, hl2]
    have e3 : L s = (pre ++ L x.text ++ ([123, 124] ++ L y.label ++ [58] ++ L y.text ++ [124])) ++ (125 :: piecesB ps) := by rw [e]; simp
    have hl3 : pre.length + x.text.size + (y.label.size + y.text.size + 4) = (pre ++ L x.text ++ ([123, 124] ++ L y.label ++ [58] ++ L y.text ++ [124])).length := by simp [length_L]; omega
    obtain ⟨f1, g1, q1⟩ := sp_run s pre.length out (pre ++ L x.text).length (by rw [hl1]; omega) 123 (by rw [e1]; exact get_mid _ _ _ _ rfl) (by decide) f pre.length (by rw [hl1]; omega) hf (fun p hp hq => .inr (by
      rw [hl1] at hq
      rw [e, List.getElem?_append_right hp, List.getElem?_append_left (by rw [length_L]; omega)]
      exact fun hh => h3 (List.mem_of_getElem? hh)))
    obtain ⟨f2, g2, q2⟩ := sp_hit s pre.length out (pre ++ L x.text) (L y.label) (L y.text) (piecesB ps) e1 (label_low k5 (by rw [length_L]; omega) (by rw [length_L]; omega)) (low_not k5 58 (by decide)) k4 (by rw [hl1]; omega) f1 g1
    rw [q1, q2, if_pos (by rw [hl1]; omega), hl1, ext_mid (x := pre) (y := L x.text) (z := _) (s := s) (by rw [e1]) rfl (by rw [length_L]), S_L, S_L, S_L]
    rw [hl1] at g2
    simp only [length_L]
    obtain ⟨f3, g3, q3⟩ := sp_run s (pre.length + x.text.size + (y.label.size + y.text.size + 5)) (out ++ [⟨false, ⟨#[]⟩, x.text⟩] ++ [⟨true, y.label, y.text⟩]) (pre.length + x.text.size + (y.label.size + y.text.size + 4)) (by omega) 125 (by
        rw [e3]
        exact get_mid _ _ _ _ hl3) (by decide) f2 _ (by omega) g2 (fun p _ hp => .inl (by omega))
    rw [q3]
    obtain ⟨f3, rfl⟩ : ∃ g, f3 = g + 1 := ⟨f3 - 1, by omega⟩
    have hp : pre.length + x.text.size + (y.label.size + y.text.size + 4) < s.size := by omega
    obtain ⟨⟨hd, _⟩, _⟩ := decode_span s _ hp
    have hg : (L s)[pre.length + x.text.size + (y.label.size + y.text.size + 4)]'(by rw [length_L]; exact hp) = 125 := by
      apply Option.some.inj
      rw [← List.getElem?_eq_getElem]
      rw [e3]
      exact get_mid _ _ _ _ hl3
    have hd := hd (by rw [hg]; decide)
    conv => lhs; unfold spF
    rw [if_pos hp, if_pos (by omega), hd]
    simp only
    rw [show pre.length + x.text.size + (y.label.size + y.text.size + 4) + 1 = (pre ++ L x.text ++ ([123, 124] ++ L y.label ++ [58] ++ L y.text ++ [124, 125])).length by rw [hl2]; omega, ← hl2]
    rw [sp_back s n ps _ f3 _ (by simp at hn; omega) e2 hr (by rw [hl2]; omega)]
    have ex : x = ⟨false, ⟨#[]⟩, x.text⟩ := by
      have h7 := h6 rfl
      obtain ⟨sp, lb, tx⟩ := x
      simp only at h1 h7 ⊢
      rw [h1, h7]
    have ey : y = ⟨true, y.label, y.text⟩ := piece_eta y k1
    conv => rhs; rw [ex, ey]
    simp
theorem spans_back (s : ByteArray) (ps : List PieceT) (e : L s = piecesB ps) (h : AltOk false ps) : spansT s = ps := by
  have := sp_back s ps.length ps [] (s.size + 1) [] (Nat.le_refl _) (by rw [e]; rfl) h (by simp)
  simpa [spansT] using this
end Go.Proofs.YteeoohnkfdffnaaGreatDoor
