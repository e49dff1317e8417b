/-
  veil.New: its contract; the diamond.
-/
import Derived.Test.YteeoohnkfdffnaaGreatDoorVeilSees
import Derived.Test.YteeoohnkfdffnaaGreatDoorPolRight
namespace Go.Proofs.YteeoohnkfdffnaaGreatDoor
open Go.RowKit
set_option linter.unusedVariables false

/-- what New answers: the error's number, and the reader -/
def newV (xs : List ByteArray) (ps : List (Int × Int)) (x : ByteArray) : Int × Option SeerT :=
  if rightT xs ps = true then match newT xs.length ps with
    | none => (1, none)
    | some t => if idxT xs x < 0 then (2, none) else (0, some ⟨xs, t, (idxT xs x).toNat⟩)
  else (1, none)
theorem right_ok {xs : List ByteArray} {ps : List (Int × Int)} (h : rightT xs ps = true) : 1 ≤ xs.length ∧ xs.length ≤ 64 ∧ PairsOk xs.length ps := by
  unfold rightT at h
  simp only [Bool.and_eq_true, decide_eq_true_eq, Bool.not_eq_true'] at h
  obtain ⟨⟨⟨h1, h2⟩, _⟩, h3⟩ := h
  refine ⟨h1, h2, fun p hp => ?_⟩
  have := List.any_eq_false.1 h3 p hp
  unfold badP at this
  simp only [Bool.or_eq_true, decide_eq_true_eq, beq_iff_eq, not_or] at this
  obtain ⟨⟨g1, g2⟩, _⟩ := this
  omega
theorem newV_ok {xs : List ByteArray} {ps : List (Int × Int)} {x : ByteArray} {s : SeerT} {k : Int} (h : newV xs ps x = (k, some s)) : SeerOk s ∧ s.names = xs ∧ k = 0 ∧ newT xs.length ps = some s.lat ∧ (s.at_ : Int) = idxT xs x := by
  unfold newV at h
  split at h
  · rename_i hr
    obtain ⟨h1, h2, h3⟩ := right_ok hr
    split at h
    · simp at h
    · rename_i t ht
      split at h
      · simp at h
      · rename_i hi
        simp only [Prod.mk.injEq, Option.some.injEq] at h
        obtain ⟨rfl, rfl⟩ := h
        have ok := newT_ok h1 h2 (fun p hp => by have := h3 p hp; omega) ht
        have hn := (newT_some ht).1
        refine ⟨⟨ok, hn.symm, ?_⟩, rfl, rfl, ht, by simp; omega⟩
        rcases idxT_lt xs x with h | h
        · exact absurd h hi
        · show (idxT xs x).toNat < t.n
          rw [hn]; exact h
  · simp at h

theorem Reads.up {w : World} {K K' size n : Nat} {A : Option Addr} {xs : List Value} (h : Reads w K size A n xs) (hk : K ≤ K') : Reads w K' size A n xs :=
  ⟨h.1, fun h0 => by obtain ⟨ad, e, hb, hc⟩ := h.2 h0; exact ⟨ad, e, by omega, hc⟩⟩
theorem Tab.up {w : World} {K K' n : Nat} {A : Option Addr} {t : List (List Nat)} (h : Tab w K A n t) (hk : K ≤ K') : Tab w K' A n t := by
  refine ⟨h.1, fun a row hr => ?_⟩
  obtain ⟨h1, ad, B, c, e, hlt, hc, hr2⟩ := h.2 a row hr
  exact ⟨h1, ad, B, c, e, by omega, hc, hr2.up hk⟩
theorem LatR.up {w : World} {K K' p : Nat} {t : LatT} (h : LatR w K p t) (hk : K ≤ K') : LatR w K' p t := by
  obtain ⟨h1, A1, c1, A2, n2, c2, A3, c3, A4, c4, hB, hu, hj, hm⟩ := h
  exact ⟨by omega, A1, c1, A2, n2, c2, A3, c3, A4, c4, hB, hu.up hk, hj.up hk, hm.up hk⟩

set_option maxHeartbeats 4000000 in
set_option maxRecDepth 100000 in
theorem veilNew_any (A B : Option Addr) (n c n2 c2 K : Nat) (xs : List ByteArray) (ps : List (Int × Int)) (x : ByteArray) (w : World) (hr : Reads w K 1 A n (txCells xs)) (hr2 : Reads w K 2 B n2 (prCells ps)) (hK : K ≤ w.heap.size)
    (hn : n ≤ 9223372036854775807) (hn2 : n2 ≤ 1048576) (hsz : ∀ x ∈ xs, x.size ≤ 9223372036854775807) :
    Calls Tryz.prog 12 #[.agg #[.slice A n c, .slice B n2 c2], .string x] w fun e w' => Below w.heap.size w w' ∧
      ((∃ k : Int, newV xs ps x = (k, none) ∧ e = .returned (.tuple #[.pointer none, .int .i64 k])) ∨ ∃ s g, newV xs ps x = (0, some s) ∧ e = .returned (.tuple #[.pointer (some ⟨g, 0, none⟩), .int .i64 0]) ∧ SeerR w' w'.heap.size g s) := by
  have hlen : xs.length = n := by have := hr.1; simpa using this
  have HL := Lib.hid hlen
  obtain ⟨V, hV⟩ : ∃ V, newV xs ps x = V := ⟨_, rfl⟩
  have HV := Lib.hid hV
  rw [hV]
  clear hlen hV
  have bA : Below w.heap.size w (w.alloc (.cells #[.slice A n c, .slice B n2 c2] 26)) := (Below.refl _ _).alloc (Nat.le_refl _) _
  have HRT := Lib.hid (right_any A B n c n2 c2 K xs ps (w.alloc (.cells #[.slice A n c, .slice B n2 c2] 26)) (hr.alloc hK _) (hr2.alloc hK _) (by simp; omega) hn (by omega) hsz)
  have hP := Blk.new w 26 #[.slice A n c, .slice B n2 c2]
  obtain ⟨gp, hgp⟩ : ∃ gp, w.heap.size = gp := ⟨_, rfl⟩
  rw [hgp] at hP
  cases hrt : rightT xs ps
  · rw [hrt] at HRT
    have HV2 : Hid (V = (1, none)) := Lib.hid (by rw [← HV.out]; unfold newV; rw [hrt]; rfl)
    clear hrt
    go_enter Tryz.func12, Tryz.ntmps12
    go_wp2_with (go_at_call 13; refine HRT.out.mono ?_; rintro e w1 ⟨rfl, b1⟩)
    go_ret2
    rw [HV2.out]
    exact ⟨bA.trans (b1.mono (by simp)), .inl ⟨1, rfl, rfl⟩⟩
  · rw [hrt] at HRT
    obtain ⟨h1, h64, hok⟩ := right_ok hrt
    rw [HL.out] at h1 h64 hok
    have HV2 : Hid (V = match newT n ps with | none => (1, none) | some t => if idxT xs x < 0 then (2, none) else (0, some ⟨xs, t, (idxT xs x).toNat⟩)) := Lib.hid (by
      rw [← HV.out]; unfold newV; rw [hrt, if_pos rfl, HL.out])
    clear hrt
    go_enter Tryz.func12, Tryz.ntmps12
    go_upto_region 3 with (go_at_call 13; refine HRT.out.mono ?_; rintro e w1 ⟨rfl, b1⟩)
    have hb1 := bA.trans (b1.mono (by simp))
    have hz1 := hb1.size
    have hP1 := hP.below b1 (by simp; omega)
    have hpl1 := hP1.lt
    try simp only [hgp]
    have k0 : w1.cell? ⟨gp, 0, none⟩ = some (.slice A n c) := hP1.cell 0
    have k1 : w1.cell? ⟨gp, 0 + 1, none⟩ = some (.slice B n2 c2) := hP1.cell 1
    have HN := Lib.hid (latNew_any B n n2 c2 K ps w1 h1 h64 (hr2.below (hb1.mono hK)) (by omega) hn2 hok)
    clear b1 hP bA HRT
    cases hnt : newT n ps with
    | none =>
      have HV3 : Hid (V = (1, none)) := Lib.hid (by rw [HV2.out, hnt])
      have HNT := Lib.hid hnt
      clear hnt
      go_wp2_with (go_at_call 29; refine HN.out.mono ?_; rintro e w2 ⟨b2, h2⟩; obtain rfl : e = .returned (.tuple #[.pointer none, .int .i64 1]) := (by rcases h2 with ⟨_, h⟩ | ⟨_, _, h, _⟩; exact h; rw [HNT.out] at h; cases h))
      go_ret2
      rw [HV3.out]
      exact ⟨hb1.trans (b2.mono hz1), .inl ⟨1, rfl, rfl⟩⟩
    | some t =>
      have HV3 : Hid (V = if idxT xs x < 0 then (2, none) else (0, some ⟨xs, t, (idxT xs x).toNat⟩)) := Lib.hid (by rw [HV2.out, hnt])
      have HNT := Lib.hid hnt
      clear hnt
      go_upto_region 6 with (go_at_call 29; refine HN.out.mono ?_; rintro e w2 ⟨b2, h2⟩; obtain ⟨p, rfl, hL⟩ : ∃ p, e = .returned (.tuple #[.pointer (some ⟨p, 0, none⟩), .int .i64 0]) ∧ LatR w2 w2.heap.size p t := (by rcases h2 with ⟨h, _⟩ | ⟨p, t', h, he, hl⟩; rw [HNT.out] at h; cases h; rw [HNT.out] at h; cases h; exact ⟨p, he, hl⟩))
      have hb2 := hb1.trans (b2.mono hz1)
      have hz2 := hb2.size
      have hP2 := hP1.below b2 hpl1
      have hpl2 := hP2.lt
      have j0 : w2.cell? ⟨gp, 0, none⟩ = some (.slice A n c) := hP2.cell 0
      have j1 : w2.cell? ⟨gp, 0 + 1, none⟩ = some (.slice B n2 c2) := hP2.cell 1
      have HI := Lib.hid (index_any A B n c n2 c2 K xs x w2 (hr.below (hb2.mono hK)) (by omega) hn)
      clear k0 k1 b2 hP1 hpl1 HN
      by_cases hi : idxT xs x < 0
      · have HV4 : Hid (V = (2, none)) := Lib.hid (by rw [HV3.out, if_pos hi])
        have d1 : decide (idxT xs x < 0) = true := decide_eq_true hi
        generalize idxT xs x = ix at *
        go_wp2_with (go_at_call 30; refine HI.out.mono ?_; rintro e w3 ⟨rfl, b3⟩)
        go_ret2
        rw [HV4.out]
        exact ⟨hb2.trans (b3.mono hz2), .inl ⟨2, rfl, rfl⟩⟩
      · obtain ⟨ix, hix⟩ := Int.eq_ofNat_of_zero_le (a := idxT xs x) (by omega)
        have HV4 : Hid (V = (0, some ⟨xs, t, ix⟩)) := Lib.hid (by rw [HV3.out, if_neg hi, hix]; rfl)
        rw [hix] at HI
        have d1 : decide ((ix : Int) < 0) = false := decide_eq_false (by omega)
        clear hi hix
        go_upto_region 9 with (go_at_call 30; refine HI.out.mono ?_; rintro e w3 ⟨rfl, b3⟩)
        have hb3 := hb2.trans (b3.mono hz2)
        have hz3 := hb3.size
        have hP3 := hP2.below b3 hpl2
        have m0 : w3.cell? ⟨gp, 0, none⟩ = some (.slice A n c) := hP3.cell 0
        have hL3 := hL.below b3
        have hw3 := b3.size
        clear j0 j1 b3 hP2 hL HI
        go_wp2_with (at_builtin; refine wpList_app Tryz.elTexts rfl (.const (.slice none 0 0)) (.tmp 30) rfl rfl (Own.nil _ w3.heap.size _ _) rfl (hr.below (hb3.mono hK)) (tx_one _) (by simp only [maxLen]; omega) (by omega) (Nat.le_refl _) ?_
                     intro A6 c6 w6 hown6 ho6 hm6
                     rw [Nat.zero_add, List.nil_append] at hown6
                     have b6 : Below w3.heap.size w3 w6 := ho6.below (fun a ha => by cases ha) (Nat.le_refl _)
                     have hz6 := b6.size)
        have hb6 := hb3.trans (b6.mono hz3)
        have hz6' := hb6.size
        have hb8 := (hb6.alloc hz6' (.cells #[.slice A6 n c6, .slice none 0 0] 26)).alloc (by simp; omega) (.cells #[.slice A6 n c6, .slice none 0 0, .pointer (some ⟨p, 0, none⟩), .int .i64 (ix : Int)] 58)
        have b68 : Below w2.heap.size w6 ((w6.alloc (.cells #[.slice A6 n c6, .slice none 0 0] 26)).alloc (.cells #[.slice A6 n c6, .slice none 0 0, .pointer (some ⟨p, 0, none⟩), .int .i64 (ix : Int)] 58)) := ((Below.refl _ _).alloc (by omega) _).alloc (by simp; omega) _
        have hL8 := ((hL3.below (b6.mono hw3)).below b68).up (K' := ((w6.alloc (.cells #[.slice A6 n c6, .slice none 0 0] 26)).alloc (.cells #[.slice A6 n c6, .slice none 0 0, .pointer (some ⟨p, 0, none⟩), .int .i64 (ix : Int)] 58)).heap.size) (by simp; omega)
        have hN8 := ((hown6.alloc (.cells #[.slice A6 n c6, .slice none 0 0] 26)).alloc (.cells #[.slice A6 n c6, .slice none 0 0, .pointer (some ⟨p, 0, none⟩), .int .i64 (ix : Int)] 58)).reads
        have BS := Blk.new' (w6.alloc (.cells #[.slice A6 n c6, .slice none 0 0] 26)) 58 #[.slice A6 n c6, .slice none 0 0, .pointer (some ⟨p, 0, none⟩), .int .i64 (ix : Int)] (w6.heap.size + 1) (by simp)
        have HLEN := HL.out
        go_ret2
        rw [HV4.out]
        refine ⟨hb8, .inr ⟨_, w6.heap.size + 1, rfl, rfl, ⟨BS.lt, A6, c6, p, ?_, ?_, hL8⟩⟩⟩
        · show Blk _ _ _ #[.slice A6 xs.length c6, .slice none 0 0, .pointer (some ⟨p, 0, none⟩), .int .i64 (ix : Int)]
          rw [HLEN]; exact BS
        · show Reads _ _ 1 A6 xs.length (txCells xs)
          rw [HLEN]; exact hN8
end Go.Proofs.YteeoohnkfdffnaaGreatDoor
