/- Joined texts: VeilSees, VeilNew, LatLaw, RefOrdLaw, RefMat. -/
import Derived.Test.YtgdnphmannbpgaaGreatDoorLatNew
import Derived.Test.YtgdnphmannbpgaaGreatDoorGB
import Derived.Test.YtgdnphmannbpgaaGreatDoorGJ
/-
  A reader in memory; contracts of Unknown, Sees, with, New.
-/
namespace Go.Proofs.YtgdnphmannbpgaaGreatDoor
open Go.RowKit
set_option linter.unusedVariables false

theorem drop_one {α : Type} {l : List α} {k : Nat} {x : α} (h : l[k]? = some x) : l.drop k = x :: l.drop (k + 1) := by
  obtain ⟨hk, e⟩ := List.getElem?_eq_some_iff.1 h
  rw [List.drop_eq_getElem_cons hk, e]
theorem idxF_lt (x : ByteArray) : ∀ (l : List ByteArray) (k : Nat), idxF x k l = -1 ∨ ∃ j : Nat, idxF x k l = (j : Int) ∧ k ≤ j ∧ j < k + l.length
  | [], k => .inl rfl
  | y :: ys, k => by
    unfold idxF
    split
    · exact .inr ⟨k, rfl, Nat.le_refl _, by simp⟩
    · rcases idxF_lt x ys (k + 1) with h | ⟨j, h1, h2, h3⟩
      · exact .inl h
      · exact .inr ⟨j, h1, by omega, by simp; omega⟩
theorem idxT_lt (xs : List ByteArray) (x : ByteArray) : idxT xs x < 0 ∨ (idxT xs x).toNat < xs.length := by
  rcases idxF_lt x xs 0 with h | ⟨j, h1, h2, h3⟩
  · left; unfold idxT; omega
  · right; unfold idxT; rw [h1]; simp; omega
/-- a reader: its policy's names, the lattice, where it stands -/
structure SeerT where
  names : List ByteArray
  lat : LatT
  at_ : Nat
structure SeerOk (s : SeerT) : Prop where
  lat : LatOk s.lat
  len : s.names.length = s.lat.n
  at_ : s.at_ < s.lat.n
structure SeerR (w : World) (K g : Nat) (s : SeerT) : Prop where
  glt : g < K
  ex : ∃ A c p, Blk w g 51 #[.slice A s.names.length c, .slice none 0 0, .pointer (some ⟨p, 0, none⟩), .int .i64 (s.at_ : Int)] ∧ Reads w K 1 A s.names.length (txCells s.names) ∧ LatR w K p s.lat
theorem Tab.below {w w' : World} {K n : Nat} {A : Option Addr} {t : List (List Nat)} (h : Tab w K A n t) (hb : Below K w w') : Tab w' K A n t := by
  refine ⟨h.1, fun a row hr => ?_⟩
  obtain ⟨h1, ad, B, c, e, hlt, hc, hr2⟩ := h.2 a row hr
  exact ⟨h1, ad, B, c, e, hlt, (hb.cell (by rw [block_of_add]; exact hlt)).trans hc, hr2.below hb⟩
theorem LatR.below {w w' : World} {K p : Nat} {t : LatT} (h : LatR w K p t) (hb : Below K w w') : LatR w' K p t := by
  obtain ⟨h1, A1, c1, A2, n2, c2, A3, c3, A4, c4, hB, hu, hj, hm⟩ := h
  exact ⟨h1, A1, c1, A2, n2, c2, A3, c3, A4, c4, hB.below hb h1, hu.below hb, hj.below hb, hm.below hb⟩
theorem SeerR.below {w w' : World} {K g : Nat} {s : SeerT} (h : SeerR w K g s) (hb : Below K w w') : SeerR w' K g s := by
  obtain ⟨h1, A, c, p, hB, hn, hl⟩ := h
  exact ⟨h1, A, c, p, hB.below hb h1, hn.below hb, hl.below hb⟩
def labAt (s : SeerT) (x : ByteArray) : Nat := if idxT s.names x < 0 then topT s.lat else (idxT s.names x).toNat
def seesF (s : SeerT) : Nat → List ByteArray → Nat
  | a, [] => a
  | a, x :: xs => seesF s (rowAt s.lat.join a (labAt s x)) xs
def seesT (s : SeerT) (ls : List ByteArray) : Bool := (at0 s.lat.up (seesF s (bottomT s.lat) ls)).testBit s.at_
theorem labAt_lt {s : SeerT} (h : SeerOk s) (x : ByteArray) : labAt s x < s.lat.n := by
  unfold labAt
  split
  · exact foldAt_lt h.lat.pos (fun a b ha hb => by obtain ⟨_, _, _, k⟩ := h.lat.joins a b ha hb; exact k) _ (Nat.le_refl _)
  · have := idxT_lt s.names x
    rw [h.len] at this
    omega

set_option maxHeartbeats 1000000 in
set_option maxRecDepth 100000 in
theorem unknown_any (g K : Nat) (s : SeerT) (x : ByteArray) (w : World) (h : SeerR w K g s) (hK : K ≤ w.heap.size) (hn : s.names.length ≤ 64) :
    Calls Tryz.prog 9 #[.pointer (some ⟨g, 0, none⟩), .string x] w fun e w' => e = .returned (.bool (decide (idxT s.names x < 0))) ∧ Below w.heap.size w w' := by
  obtain ⟨_, A, c, p, hB, hr, _⟩ := h
  have k0 := hB.cell 0
  have k1 : w.cell? ⟨g, 0 + 1, none⟩ = some (.slice none 0 0) := hB.cell 1
  have HI := Lib.hid (index_any A none s.names.length c 0 0 K s.names x w hr hK (by omega))
  go_enter Tryz.func9, Tryz.ntmps9
  go_wp2_with (go_at_call 20; refine HI.out.mono ?_; rintro e w1 ⟨rfl, b1⟩)
  go_ret
  exact ⟨rfl, b1⟩

set_option maxHeartbeats 2000000 in
set_option maxRecDepth 100000 in
theorem sees_any (g K : Nat) (s : SeerT) (A : Option Addr) (n c : Nat) (ls : List ByteArray) (w : World) (h : SeerR w K g s) (ok : SeerOk s) (hK : K ≤ w.heap.size) (hr : Reads w K 1 A n (txCells ls)) (hn : n ≤ 1099511627776) :
    Calls Tryz.prog 8 #[.pointer (some ⟨g, 0, none⟩), .slice A n c] w fun e w' => e = .returned (.bool (seesT s ls)) ∧ Below w.heap.size w w' := by
  have hlen : ls.length = n := by have := hr.1; simpa using this
  have HL := Lib.hid hlen
  clear hlen
  have h64 := ok.lat.n64
  have hn64 : s.names.length ≤ 64 := by rw [ok.len]; exact h64
  obtain ⟨hgK, AN, cN, p, hB0, hN0, hL0⟩ := h
  have HB := Lib.hid (fun W (hW : Below w.heap.size w W) => (⟨hB0.below (hW.mono hK) hgK, hN0.below (hW.mono hK), hL0.below (hW.mono hK)⟩ : Blk W g 51 #[.slice AN s.names.length cN, .slice none 0 0, .pointer (some ⟨p, 0, none⟩), .int .i64 (s.at_ : Int)] ∧ Reads W K 1 AN s.names.length (txCells s.names) ∧ LatR W K p s.lat))
  have k2 : w.cell? ⟨g, 0 + 2, none⟩ = some (.pointer (some ⟨p, 0, none⟩)) := hB0.cell 2
  have HBOT := Lib.hid (bottom_any p K s.lat w hL0 ok.lat)
  have hbot : bottomT s.lat < s.lat.n := foldAt_lt ok.lat.pos (fun a b ha hb => by obtain ⟨_, _, _, k⟩ := ok.lat.meets a b ha hb; exact k) _ (Nat.le_refl _)
  have HLAB := Lib.hid (labAt_lt ok)
  clear hB0 hN0 hL0
  obtain ⟨V, hV⟩ : ∃ V, seesT s ls = V := ⟨_, rfl⟩
  rw [hV]
  have HV := Lib.hid hV
  clear hV
  go_enter Tryz.func8, Tryz.ntmps8
  go_wp2_with (go_at_call 25; refine HBOT.out.mono ?_; rintro e w1 ⟨rfl, hw⟩; subst w1)
  go_loopw [5, 18] (fun s5 s18 wr => ∃ (k a : Nat), k ≤ n ∧ s18 = .int .i64 k ∧ s5 = .int .i64 (a : Int) ∧ a < s.lat.n ∧ Hid (seesF s a (ls.drop k) = seesF s (bottomT s.lat) ls) ∧ Below w.heap.size w wr) (fun _ s18 _ => n - (intOf s18).toNat)
  case atStart => exact ⟨0, _, Nat.zero_le _, rfl, rfl, hbot, Lib.hid rfl, Below.refl _ _⟩
  case round =>
    clear k2 hbot
    obtain ⟨k, a, hk, rfl, rfl, ha, HF, hb⟩ := hrel
    obtain ⟨hB, hN, hLt⟩ := HB.out wr hb
    have hzw := hb.size
    have k0 := hB.cell 0
    have k1 : wr.cell? ⟨g, 0 + 1, none⟩ = some (.slice none 0 0) := hB.cell 1
    have k2 : wr.cell? ⟨g, 0 + 2, none⟩ = some (.pointer (some ⟨p, 0, none⟩)) := hB.cell 2
    by_cases hlt : k < n
    · obtain ⟨ad, u, rfl, _, hx0, hc⟩ := (hr.below (hb.mono hK)).at_ hlt
      obtain ⟨x, hx, rfl⟩ : ∃ x, ls[k]? = some x ∧ Value.string x = u := by simpa using hx0
      have hlab := HLAB.out x
      have hF2 := HF.out
      rw [drop_one hx, seesF] at hF2
      have HF2 := Lib.hid hF2
      have HI := Lib.hid (index_any AN none s.names.length cN 0 0 K s.names x wr hN (by omega) (by omega))
      have hlb : labAt s x = if idxT s.names x < 0 then topT s.lat else (idxT s.names x).toNat := rfl
      obtain ⟨lb, hlbe⟩ : ∃ lb, labAt s x = lb := ⟨_, rfl⟩
      rw [hlbe] at hlb hlab
      have HLB := Lib.hid hlbe
      obtain ⟨row, j1, j2, j3⟩ := ok.lat.joins a lb ha hlab
      have HJ := Lib.hid (fun W (hW : LatR W K p s.lat) => latJoin_any p K s.lat a lb _ row W hW ha hlab j1 j2)
      clear hx hx0 hF2 j1 j2 hlbe
      by_cases hi : idxT s.names x < 0
      · rw [if_pos hi] at hlb
        have d1 : decide (idxT s.names x < 0) = true := decide_eq_true hi
        have HTOP := Lib.hid (fun W (hW : LatR W K p s.lat) => top_any p K s.lat W hW ok.lat)
        rw [← hlb] at HTOP
        clear hlb
        generalize idxT s.names x = ix at *
        go_wp2_with (first
          | (go_at_call 20; refine HI.out.mono ?_; rintro e w2 ⟨rfl, b2⟩
             have hb2 := hb.trans (b2.mono hzw)
             obtain ⟨hB2, _, hL2⟩ := HB.out w2 hb2
             have m2 : w2.cell? ⟨g, 0 + 2, none⟩ = some (.pointer (some ⟨p, 0, none⟩)) := hB2.cell 2)
          | (go_at_call 26; refine (HTOP.out _ hL2).mono ?_; rintro e w3 ⟨rfl, hw⟩; subst w3)
          | (go_at_call 27; refine (HJ.out _ hL2).mono ?_; rintro e w3 ⟨rfl, hw⟩; subst w3))
        go_roundw
        case rel => exact ⟨k + 1, _, by omega, by go_num, rfl, j3, Lib.hid (by have := HF2.out; rw [HLB.out] at this; exact this), hb2⟩
        case measure => simp [intOf]; omega
      · rw [if_neg hi] at hlb
        have d1 : decide (idxT s.names x < 0) = false := decide_eq_false hi
        obtain ⟨ix, hix⟩ := Int.eq_ofNat_of_zero_le (a := idxT s.names x) (by omega)
        rw [hix] at hlb HI d1
        have hlx : lb = ix := by rw [hlb]; rfl
        subst hlx
        clear hlb hix hi
        go_wp2_with (first
          | (go_at_call 20; refine HI.out.mono ?_; rintro e w2 ⟨rfl, b2⟩
             have hb2 := hb.trans (b2.mono hzw)
             obtain ⟨hB2, _, hL2⟩ := HB.out w2 hb2
             have m2 : w2.cell? ⟨g, 0 + 2, none⟩ = some (.pointer (some ⟨p, 0, none⟩)) := hB2.cell 2)
          | (go_at_call 27; refine (HJ.out _ hL2).mono ?_; rintro e w3 ⟨rfl, hw⟩; subst w3))
        go_roundw
        case rel => exact ⟨k + 1, _, by omega, by go_num, rfl, j3, Lib.hid (by have := HF2.out; rw [HLB.out] at this; exact this), hb2⟩
        case measure => simp [intOf]; omega
    · have hkn : k = n := by omega
      subst hkn
      have hfin := HF.out
      rw [List.drop_of_length_le (by rw [HL.out]; exact Nat.le_refl _), seesF] at hfin
      have HVV : Hid ((at0 s.lat.up a).testBit s.at_ = V) := Lib.hid (by rw [← HV.out]; unfold seesT; rw [← hfin])
      have k3 : wr.cell? ⟨g, 0 + 3, none⟩ = some (.int .i64 (s.at_ : Int)) := hB.cell 3
      have HQ := Lib.hid (fun W (hW : LatR W K p s.lat) => leq_any p K s.lat a s.at_ (at0 s.lat.up a) W hW ha ok.at_ ok.lat.n64 (at0_get (by rw [ok.lat.ups.1]; exact ha)) (ok.lat.ups.2 _ (List.mem_of_getElem? (at0_get (by rw [ok.lat.ups.1]; exact ha)))))
      rw [HVV.out] at HQ
      clear hfin
      go_upto_region 12 with fail
      go_quiet ((go_at_call 28; exact Calls.quiet_of_same (HQ.out _ (hLt.below (below_drewN' (Below.refl _ _) _)))))
      go_wp2_with fail
      go_ret
      exact ⟨rfl, below_drewN' hb _⟩

set_option maxHeartbeats 1000000 in
set_option maxRecDepth 100000 in
theorem with_any (A : Option Addr) (n c K : Nat) (ls : List ByteArray) (x : ByteArray) (w : World) (hr : Reads w K 1 A n (txCells ls)) (hK : K ≤ w.heap.size) (hn : n ≤ 1048576) :
    Calls Tryz.prog 32 #[.slice A n c, .string x] w fun e w' => ∃ A' c', e = .returned (.slice A' (n + 1) c') ∧ Own w' w.heap.size 9 1 A' (n + 1) c' (txCells (ls ++ [x])) ∧ Below w.heap.size w w' := by
  go_enter Tryz.func32, Tryz.ntmps32
  go_wp2_with (first
    | (at_builtin; refine wpList_app Tryz.elTexts rfl (.const (.slice none 0 0)) (.tmp 5) rfl rfl (Own.nil _ w.heap.size _ _) rfl hr (tx_one _) (by simp only [maxLen]; omega) (by omega) (Nat.le_refl _) ?_
       intro A6 c6 w6 hown6 ho6 hm6
       rw [Nat.zero_add, List.nil_append] at hown6
       have b6 : Below w.heap.size w w6 := ho6.below (fun a ha => by cases ha) (Nat.le_refl _)
       have hz6 := b6.size)
    | (at_builtin; refine wpList_app1 Tryz.elTexts rfl (.tmp 6) (.tmp 8) rfl rfl (by exact hown6.alloc _) rfl (Blk.new' _ _ _ _ (by simp)) rfl (by simp [Value.oneCell']) (by simp only [maxLen]; omega) (by omega) (by simp; omega) ?_
       intro A7 c7 w7 hown7 ho7 hm7))
  go_ret
  exact ⟨A7, c7, rfl, by simpa [txCells] using hown7, b6.trans (ho7.of_alloc.below (fun a ha => (hown6.lt ha).1) hz6)⟩
end Go.Proofs.YtgdnphmannbpgaaGreatDoor
/-
  veil.New: its contract; the diamond.
-/
namespace Go.Proofs.YtgdnphmannbpgaaGreatDoor
open Go.RowKit
set_option linter.unusedVariables false

/-- what New answers: the error's number, and the reader -/
def newV (xs : List ByteArray) (ps : List (Int × Int)) (x : ByteArray) : Int × Option SeerT :=
  if rightT xs ps = true then match newT xs.length ps with
    | none => (1, none)
    | some t => if idxT xs x < 0 then (2, none) else (0, some ⟨xs, t, (idxT xs x).toNat⟩)
  else (1, none)
theorem right_ok {xs : List ByteArray} {ps : List (Int × Int)} (h : rightT xs ps = true) : 1 ≤ xs.length ∧ xs.length ≤ 64 ∧ PairsOk xs.length ps := by
  unfold rightT at h
  simp only [Bool.and_eq_true, decide_eq_true_eq, Bool.not_eq_true'] at h
  obtain ⟨⟨⟨h1, h2⟩, _⟩, h3⟩ := h
  refine ⟨h1, h2, fun p hp => ?_⟩
  have := List.any_eq_false.1 h3 p hp
  unfold badP at this
  simp only [Bool.or_eq_true, decide_eq_true_eq, beq_iff_eq, not_or] at this
  obtain ⟨⟨g1, g2⟩, _⟩ := this
  omega
theorem newV_ok {xs : List ByteArray} {ps : List (Int × Int)} {x : ByteArray} {s : SeerT} {k : Int} (h : newV xs ps x = (k, some s)) : SeerOk s ∧ s.names = xs ∧ k = 0 ∧ newT xs.length ps = some s.lat ∧ (s.at_ : Int) = idxT xs x := by
  unfold newV at h
  split at h
  · rename_i hr
    obtain ⟨h1, h2, h3⟩ := right_ok hr
    split at h
    · simp at h
    · rename_i t ht
      split at h
      · simp at h
      · rename_i hi
        simp only [Prod.mk.injEq, Option.some.injEq] at h
        obtain ⟨rfl, rfl⟩ := h
        have ok := newT_ok h1 h2 (fun p hp => by have := h3 p hp; omega) ht
        have hn := (newT_some ht).1
        refine ⟨⟨ok, hn.symm, ?_⟩, rfl, rfl, ht, by simp; omega⟩
        rcases idxT_lt xs x with h | h
        · exact absurd h hi
        · show (idxT xs x).toNat < t.n
          rw [hn]; exact h
  · simp at h

theorem Reads.up {w : World} {K K' size n : Nat} {A : Option Addr} {xs : List Value} (h : Reads w K size A n xs) (hk : K ≤ K') : Reads w K' size A n xs :=
  ⟨h.1, fun h0 => by obtain ⟨ad, e, hb, hc⟩ := h.2 h0; exact ⟨ad, e, by omega, hc⟩⟩
theorem Tab.up {w : World} {K K' n : Nat} {A : Option Addr} {t : List (List Nat)} (h : Tab w K A n t) (hk : K ≤ K') : Tab w K' A n t := by
  refine ⟨h.1, fun a row hr => ?_⟩
  obtain ⟨h1, ad, B, c, e, hlt, hc, hr2⟩ := h.2 a row hr
  exact ⟨h1, ad, B, c, e, by omega, hc, hr2.up hk⟩
theorem LatR.up {w : World} {K K' p : Nat} {t : LatT} (h : LatR w K p t) (hk : K ≤ K') : LatR w K' p t := by
  obtain ⟨h1, A1, c1, A2, n2, c2, A3, c3, A4, c4, hB, hu, hj, hm⟩ := h
  exact ⟨by omega, A1, c1, A2, n2, c2, A3, c3, A4, c4, hB, hu.up hk, hj.up hk, hm.up hk⟩

set_option maxHeartbeats 4000000 in
set_option maxRecDepth 100000 in
theorem veilNew_any (A B : Option Addr) (n c n2 c2 K : Nat) (xs : List ByteArray) (ps : List (Int × Int)) (x : ByteArray) (w : World) (hr : Reads w K 1 A n (txCells xs)) (hr2 : Reads w K 2 B n2 (prCells ps)) (hK : K ≤ w.heap.size)
    (hn : n ≤ 9223372036854775807) (hn2 : n2 ≤ 1048576) (hsz : ∀ x ∈ xs, x.size ≤ 9223372036854775807) :
    Calls Tryz.prog 5 #[.agg #[.slice A n c, .slice B n2 c2], .string x] w fun e w' => Below w.heap.size w w' ∧
      ((∃ k : Int, newV xs ps x = (k, none) ∧ e = .returned (.tuple #[.pointer none, .int .i64 k])) ∨ ∃ s g, newV xs ps x = (0, some s) ∧ e = .returned (.tuple #[.pointer (some ⟨g, 0, none⟩), .int .i64 0]) ∧ SeerR w' w'.heap.size g s) := by
  have hlen : xs.length = n := by have := hr.1; simpa using this
  have HL := Lib.hid hlen
  obtain ⟨V, hV⟩ : ∃ V, newV xs ps x = V := ⟨_, rfl⟩
  have HV := Lib.hid hV
  rw [hV]
  clear hlen hV
  have bA : Below w.heap.size w (w.alloc (.cells #[.slice A n c, .slice B n2 c2] 26)) := (Below.refl _ _).alloc (Nat.le_refl _) _
  have HRT := Lib.hid (right_any A B n c n2 c2 K xs ps (w.alloc (.cells #[.slice A n c, .slice B n2 c2] 26)) (hr.alloc hK _) (hr2.alloc hK _) (by simp; omega) hn (by omega) hsz)
  have hP := Blk.new w 26 #[.slice A n c, .slice B n2 c2]
  obtain ⟨gp, hgp⟩ : ∃ gp, w.heap.size = gp := ⟨_, rfl⟩
  rw [hgp] at hP
  cases hrt : rightT xs ps
  · rw [hrt] at HRT
    have HV2 : Hid (V = (1, none)) := Lib.hid (by rw [← HV.out]; unfold newV; rw [hrt]; rfl)
    clear hrt
    go_enter Tryz.func5, Tryz.ntmps5
    go_wp2_with (go_at_call 6; refine HRT.out.mono ?_; rintro e w1 ⟨rfl, b1⟩)
    go_ret2
    rw [HV2.out]
    exact ⟨bA.trans (b1.mono (by simp)), .inl ⟨1, rfl, rfl⟩⟩
  · rw [hrt] at HRT
    obtain ⟨h1, h64, hok⟩ := right_ok hrt
    rw [HL.out] at h1 h64 hok
    have HV2 : Hid (V = match newT n ps with | none => (1, none) | some t => if idxT xs x < 0 then (2, none) else (0, some ⟨xs, t, (idxT xs x).toNat⟩)) := Lib.hid (by
      rw [← HV.out]; unfold newV; rw [hrt, if_pos rfl, HL.out])
    clear hrt
    go_enter Tryz.func5, Tryz.ntmps5
    go_upto_region 3 with (go_at_call 6; refine HRT.out.mono ?_; rintro e w1 ⟨rfl, b1⟩)
    have hb1 := bA.trans (b1.mono (by simp))
    have hz1 := hb1.size
    have hP1 := hP.below b1 (by simp; omega)
    have hpl1 := hP1.lt
    try simp only [hgp]
    have k0 : w1.cell? ⟨gp, 0, none⟩ = some (.slice A n c) := hP1.cell 0
    have k1 : w1.cell? ⟨gp, 0 + 1, none⟩ = some (.slice B n2 c2) := hP1.cell 1
    have HN := Lib.hid (latNew_any B n n2 c2 K ps w1 h1 h64 (hr2.below (hb1.mono hK)) (by omega) hn2 hok)
    clear b1 hP bA HRT
    cases hnt : newT n ps with
    | none =>
      have HV3 : Hid (V = (1, none)) := Lib.hid (by rw [HV2.out, hnt])
      have HNT := Lib.hid hnt
      clear hnt
      go_wp2_with (go_at_call 19; refine HN.out.mono ?_; rintro e w2 ⟨b2, h2⟩; obtain rfl : e = .returned (.tuple #[.pointer none, .int .i64 1]) := (by rcases h2 with ⟨_, h⟩ | ⟨_, _, h, _⟩; exact h; rw [HNT.out] at h; cases h))
      go_ret2
      rw [HV3.out]
      exact ⟨hb1.trans (b2.mono hz1), .inl ⟨1, rfl, rfl⟩⟩
    | some t =>
      have HV3 : Hid (V = if idxT xs x < 0 then (2, none) else (0, some ⟨xs, t, (idxT xs x).toNat⟩)) := Lib.hid (by rw [HV2.out, hnt])
      have HNT := Lib.hid hnt
      clear hnt
      go_upto_region 6 with (go_at_call 19; refine HN.out.mono ?_; rintro e w2 ⟨b2, h2⟩; obtain ⟨p, rfl, hL⟩ : ∃ p, e = .returned (.tuple #[.pointer (some ⟨p, 0, none⟩), .int .i64 0]) ∧ LatR w2 w2.heap.size p t := (by rcases h2 with ⟨h, _⟩ | ⟨p, t', h, he, hl⟩; rw [HNT.out] at h; cases h; rw [HNT.out] at h; cases h; exact ⟨p, he, hl⟩))
      have hb2 := hb1.trans (b2.mono hz1)
      have hz2 := hb2.size
      have hP2 := hP1.below b2 hpl1
      have hpl2 := hP2.lt
      have j0 : w2.cell? ⟨gp, 0, none⟩ = some (.slice A n c) := hP2.cell 0
      have j1 : w2.cell? ⟨gp, 0 + 1, none⟩ = some (.slice B n2 c2) := hP2.cell 1
      have HI := Lib.hid (index_any A B n c n2 c2 K xs x w2 (hr.below (hb2.mono hK)) (by omega) hn)
      clear k0 k1 b2 hP1 hpl1 HN
      by_cases hi : idxT xs x < 0
      · have HV4 : Hid (V = (2, none)) := Lib.hid (by rw [HV3.out, if_pos hi])
        have d1 : decide (idxT xs x < 0) = true := decide_eq_true hi
        generalize idxT xs x = ix at *
        go_wp2_with (go_at_call 20; refine HI.out.mono ?_; rintro e w3 ⟨rfl, b3⟩)
        go_ret2
        rw [HV4.out]
        exact ⟨hb2.trans (b3.mono hz2), .inl ⟨2, rfl, rfl⟩⟩
      · obtain ⟨ix, hix⟩ := Int.eq_ofNat_of_zero_le (a := idxT xs x) (by omega)
        have HV4 : Hid (V = (0, some ⟨xs, t, ix⟩)) := Lib.hid (by rw [HV3.out, if_neg hi, hix]; rfl)
        rw [hix] at HI
        have d1 : decide ((ix : Int) < 0) = false := decide_eq_false (by omega)
        clear hi hix
        go_upto_region 9 with (go_at_call 20; refine HI.out.mono ?_; rintro e w3 ⟨rfl, b3⟩)
        have hb3 := hb2.trans (b3.mono hz2)
        have hz3 := hb3.size
        have hP3 := hP2.below b3 hpl2
        have m0 : w3.cell? ⟨gp, 0, none⟩ = some (.slice A n c) := hP3.cell 0
        have hL3 := hL.below b3
        have hw3 := b3.size
        clear j0 j1 b3 hP2 hL HI
        go_wp2_with (at_builtin; refine wpList_app Tryz.elTexts rfl (.const (.slice none 0 0)) (.tmp 30) rfl rfl (Own.nil _ w3.heap.size _ _) rfl (hr.below (hb3.mono hK)) (tx_one _) (by simp only [maxLen]; omega) (by omega) (Nat.le_refl _) ?_
                     intro A6 c6 w6 hown6 ho6 hm6
                     rw [Nat.zero_add, List.nil_append] at hown6
                     have b6 : Below w3.heap.size w3 w6 := ho6.below (fun a ha => by cases ha) (Nat.le_refl _)
                     have hz6 := b6.size)
        have hb6 := hb3.trans (b6.mono hz3)
        have hz6' := hb6.size
        have hb8 := (hb6.alloc hz6' (.cells #[.slice A6 n c6, .slice none 0 0] 26)).alloc (by simp; omega) (.cells #[.slice A6 n c6, .slice none 0 0, .pointer (some ⟨p, 0, none⟩), .int .i64 (ix : Int)] 51)
        have b68 : Below w2.heap.size w6 ((w6.alloc (.cells #[.slice A6 n c6, .slice none 0 0] 26)).alloc (.cells #[.slice A6 n c6, .slice none 0 0, .pointer (some ⟨p, 0, none⟩), .int .i64 (ix : Int)] 51)) := ((Below.refl _ _).alloc (by omega) _).alloc (by simp; omega) _
        have hL8 := ((hL3.below (b6.mono hw3)).below b68).up (K' := ((w6.alloc (.cells #[.slice A6 n c6, .slice none 0 0] 26)).alloc (.cells #[.slice A6 n c6, .slice none 0 0, .pointer (some ⟨p, 0, none⟩), .int .i64 (ix : Int)] 51)).heap.size) (by simp; omega)
        have hN8 := ((hown6.alloc (.cells #[.slice A6 n c6, .slice none 0 0] 26)).alloc (.cells #[.slice A6 n c6, .slice none 0 0, .pointer (some ⟨p, 0, none⟩), .int .i64 (ix : Int)] 51)).reads
        have BS := Blk.new' (w6.alloc (.cells #[.slice A6 n c6, .slice none 0 0] 26)) 51 #[.slice A6 n c6, .slice none 0 0, .pointer (some ⟨p, 0, none⟩), .int .i64 (ix : Int)] (w6.heap.size + 1) (by simp)
        have HLEN := HL.out
        go_ret2
        rw [HV4.out]
        refine ⟨hb8, .inr ⟨_, w6.heap.size + 1, rfl, rfl, ⟨BS.lt, A6, c6, p, ?_, ?_, hL8⟩⟩⟩
        · show Blk _ _ _ #[.slice A6 xs.length c6, .slice none 0 0, .pointer (some ⟨p, 0, none⟩), .int .i64 (ix : Int)]
          rw [HLEN]; exact BS
        · show Reads _ _ 1 A6 xs.length (txCells xs)
          rw [HLEN]; exact hN8
end Go.Proofs.YtgdnphmannbpgaaGreatDoor
/-
  The lattice that New makes: what lies above a join is what lies above both; the bottom lies below all. So labels are seen together just if each is seen.
-/
namespace Go.Proofs.YtgdnphmannbpgaaGreatDoor
open Go.RowKit
set_option linter.unusedVariables false

theorem at0_set (l : List Nat) (i j x : Nat) (hi : i < l.length) : at0 (l.set i x) j = if i = j then x else at0 l j := by
  unfold at0
  rw [List.getD_eq_getElem?_getD, List.getD_eq_getElem?_getD, List.getElem?_set]
  by_cases h : i = j
  · subst h; simp [hi]
  · simp [h]
theorem at0_rep (n i : Nat) : at0 (List.replicate n 0) i = 0 := by
  unfold at0
  rw [List.getD_eq_getElem?_getD]
  cases h : (List.replicate n 0)[i]? with
  | none => rfl
  | some x => have := List.eq_of_mem_replicate (List.mem_of_getElem? h); rw [this]; rfl
/-- who lies below: the other way round -/
theorem downB_bit (up : List Nat) (a : Nat) (d : List Nat) (b : Nat) (hb : b ≤ d.length) (i j : Nat) :
    (at0 (downB up a d b) i).testBit j = ((at0 d i).testBit j || (decide (j = a) && decide (i < b) && (at0 up a).testBit i)) := by
  induction b generalizing i j with
  | zero => simp [downB]
  | succ b ih =>
    have ih := ih (by omega)
    unfold downB
    split
    · rename_i hu
      rw [at0_set _ _ _ _ (by rw [downB_len]; omega)]
      split
      · rename_i e
        subst e
        rw [Nat.testBit_or, ih, Nat.testBit_two_pow]
        by_cases hj : j = a
        · subst hj; simp [hu]
        · simp [hj, Ne.symm hj]
      · rename_i e
        rw [ih]
        have : decide (i < b + 1) = decide (i < b) := by
          by_cases h : i < b
          · simp [h]; omega
          · have : ¬ i < b + 1 := by omega
            simp [h, this]
        rw [this]
    · rename_i hu
      rw [ih]
      by_cases e : i = b
      · subst e; simp [hu]
      · have : decide (i < b + 1) = decide (i < b) := by
          by_cases h : i < b
          · simp [h]; omega
          · have : ¬ i < b + 1 := by omega
            simp [h, this]
        rw [this]
theorem downA_bit (n : Nat) (up : List Nat) (a : Nat) (i j : Nat) (hi : i < n) :
    (at0 (downA n up a) i).testBit j = (decide (j < a) && (at0 up j).testBit i) := by
  induction a generalizing i j with
  | zero => simp [downA, at0_rep]
  | succ a ih =>
    rw [downA, downB_bit _ _ _ _ (by rw [downA_len]; exact Nat.le_refl _), ih i j hi]
    by_cases hj : j = a
    · subst hj; simp [hi]
    · have : decide (j < a + 1) = decide (j < a) := by
        by_cases h : j < a
        · simp [h]; omega
        · have : ¬ j < a + 1 := by omega
          simp [h, this]
      simp [hj, this]
structure LatGood (t : LatT) : Prop where
  join : ∀ a b, a < t.n → b < t.n → at0 t.up (rowAt t.join a b) = at0 t.up a &&& at0 t.up b
  bot : ∀ x, x < t.n → (at0 t.up (bottomT t)).testBit x = true
theorem newT_good {n : Nat} {ps : List (Int × Int)} {t : LatT} (hn : 1 ≤ n) (h : newT n ps = some t) (ok : LatOk t) : LatGood t := by
  obtain ⟨h1, h2, h3, h4, _⟩ := newT_some h
  have hul : t.up.length = n := by rw [h2, upsT_len]
  refine ⟨fun a b ha hb => ?_, fun x hx => ?_⟩
  · rw [h1] at ha hb
    obtain ⟨row, e1, e2, e3, e4⟩ := tab_entry hul h3 ha hb
    exact (foundC_lt e4).2.2
  · have hdl : (downA n t.up n).length = n := downA_len n t.up n
    have hlt : ∀ k, k ≤ n → foldAt t.meet k < n := by
      have := foldAt_lt (t := t.meet) ok.pos (fun a b ha hb => by obtain ⟨_, _, _, k⟩ := ok.meets a b ha hb; exact k)
      rw [h1] at this; exact this
    have key : ∀ k, k ≤ n → (∀ x j, x < k → (at0 (downA n t.up n) (foldAt t.meet k)).testBit j = true → (at0 (downA n t.up n) x).testBit j = true) ∧ (0 < k → (at0 (downA n t.up n) (foldAt t.meet k)).testBit (foldAt t.meet k) = true) := by
      intro k
      induction k with
      | zero => intro _; exact ⟨fun x j hx => by omega, fun h => by omega⟩
      | succ k ih =>
        intro hk
        obtain ⟨ih1, _⟩ := ih (by omega)
        obtain ⟨row, e1, e2, e3, e4⟩ := tab_entry hdl h4 (hlt k (by omega)) (show k < n by omega)
        obtain ⟨_, g2, g3⟩ := foundC_lt e4
        have hc : foldAt t.meet (k + 1) = rowAt t.meet (foldAt t.meet k) k := rfl
        rw [← hc] at g2 g3
        refine ⟨fun x j hx hj => ?_, fun _ => by rw [g3]; exact g2⟩
        rw [g3, Nat.testBit_and, Bool.and_eq_true] at hj
        rcases Nat.lt_or_ge x k with hxk | hxk
        · exact ih1 x j hxk hj.1
        · have : x = k := by omega
          subst this
          exact hj.2
    obtain ⟨k1, k2⟩ := key n (Nat.le_refl _)
    have hb := k1 x _ (by omega) (k2 hn)
    rw [downA_bit n t.up n _ _ (by omega)] at hb
    simp only [Bool.and_eq_true] at hb
    unfold bottomT
    rw [h1]
    exact hb.2
/-- is one label seen? -/
def seesL (s : SeerT) (x : ByteArray) : Bool := (at0 s.lat.up (labAt s x)).testBit s.at_
theorem seesF_bit {s : SeerT} (ok : SeerOk s) (g : LatGood s.lat) (ls : List ByteArray) (a : Nat) (ha : a < s.lat.n) :
    seesF s a ls < s.lat.n ∧ (at0 s.lat.up (seesF s a ls)).testBit s.at_ = ((at0 s.lat.up a).testBit s.at_ && ls.all (seesL s)) := by
  induction ls generalizing a with
  | nil => exact ⟨ha, by simp [seesF]⟩
  | cons x xs ih =>
    have hl := labAt_lt ok x
    obtain ⟨_, _, _, hj⟩ := ok.lat.joins a _ ha hl
    obtain ⟨i1, i2⟩ := ih _ hj
    refine ⟨i1, ?_⟩
    rw [seesF, i2, g.join _ _ ha hl, Nat.testBit_and, List.all_cons, Bool.and_assoc]
    rfl
/-- labels are seen together just if each is seen by itself -/
theorem sees_all {s : SeerT} (ok : SeerOk s) (g : LatGood s.lat) (ls : List ByteArray) : seesT s ls = ls.all (seesL s) := by
  have hb : bottomT s.lat < s.lat.n := foldAt_lt ok.lat.pos (fun a b ha hb => by obtain ⟨_, _, _, k⟩ := ok.lat.meets a b ha hb; exact k) _ (Nat.le_refl _)
  unfold seesT
  rw [(seesF_bit ok g ls _ hb).2, g.bot _ ok.at_, Bool.true_and]
theorem sees_one {s : SeerT} (ok : SeerOk s) (g : LatGood s.lat) (x : ByteArray) : seesT s [x] = seesL s x := by
  rw [sees_all ok g]; simp
theorem newV_good {xs : List ByteArray} {ps : List (Int × Int)} {x : ByteArray} {s : SeerT} {k : Int} (h : newV xs ps x = (k, some s)) : LatGood s.lat := by
  have h1 := newV_ok h
  obtain ⟨ok, hn, _, ht, _⟩ := h1
  have hp := ok.lat.pos
  have := (newT_some ht).1
  exact newT_good (by omega) ht ok.lat
end Go.Proofs.YtgdnphmannbpgaaGreatDoor
/-
  The document's order (bowdlerref1.Orders) and the program's lattice: the same bits, the same bounds, the same edges. Plain laws over the masks of XLatSpec.
-/
namespace Go.Proofs.YtgdnphmannbpgaaGreatDoor
open Go.RowKit
set_option linter.unusedVariables false

/-- is b not below a? -/
def bitAt (l : List Nat) (a b : Nat) : Bool := (at0 l a).testBit b
theorem initU_bit (n k : Nat) (hk : k ≤ n) (a b : Nat) : bitAt (initU n k) a b = (decide (a = b) && decide (a < k)) := by
  induction k with
  | zero => unfold bitAt initU; rw [at0_rep]; simp
  | succ k ih =>
    have ih := ih (by omega)
    unfold bitAt at ih ⊢
    rw [initU, at0_set _ _ _ _ (by rw [initU_len]; omega)]
    split
    · rename_i e
      subst e
      rw [Nat.testBit_two_pow]
      by_cases h : k = b
      · subst h; simp
      · simp [h]
    · rename_i e
      rw [ih]
      have : decide (a < k + 1) = decide (a < k) := by
        by_cases h : a < k
        · simp [h]; omega
        · have : ¬ a < k + 1 := by omega
          simp [h, this]
      rw [this]
theorem edgeU_bit (l : List Nat) (p : Int × Int) (hp : p.1.toNat < l.length) (a b : Nat) : bitAt (edgeU l p) a b = (bitAt l a b || (decide (a = p.1.toNat) && decide (b = p.2.toNat))) := by
  unfold bitAt edgeU
  rw [at0_set _ _ _ _ hp]
  split
  · rename_i e
    subst e
    rw [Nat.testBit_or, Nat.testBit_two_pow]
    by_cases h : p.2.toNat = b
    · subst h; simp
    · have h' : ¬ b = p.2.toNat := fun h' => h h'.symm
      simp [h, h']
  · rename_i e
    have e' : ¬ a = p.1.toNat := fun h' => e h'.symm
    simp [e']
theorem closeI_row (k : Nat) (l : List Nat) (i : Nat) (hi : i < l.length) (b : Nat) : bitAt (closeI k l (i + 1)) i b = (bitAt (closeI k l i) i b || (bitAt (closeI k l i) i k && bitAt (closeI k l i) k b)) := by
  unfold bitAt
  rw [closeI]
  split
  · rename_i h
    rw [at0_set _ _ _ _ (by rw [closeI_len]; exact hi), if_pos rfl, Nat.testBit_or, h, Bool.true_and]
  · rename_i h
    have h' : (at0 (closeI k l i) i).testBit k = false := by simpa using h
    rw [h']; simp
theorem closeI_else (k : Nat) (l : List Nat) (i j : Nat) (hi : i < l.length) (hj : j ≠ i) : at0 (closeI k l (i + 1)) j = at0 (closeI k l i) j := by
  rw [closeI]
  split
  · rw [at0_set _ _ _ _ (by rw [closeI_len]; exact hi), if_neg (fun h => hj h.symm)]
  · rfl
/-- a round of the closing, all rows at once -/
theorem closeI_bit (k : Nat) (l : List Nat) (i : Nat) (hi : i ≤ l.length) (a b : Nat) :
    bitAt (closeI k l i) a b = if a < i then (bitAt l a b || (bitAt l a k && bitAt l k b)) else bitAt l a b := by
  induction i generalizing a b with
  | zero => simp [closeI]
  | succ i ih =>
    have ih := ih (by omega)
    by_cases h : a = i
    · subst h
      have hk : bitAt (closeI k l a) k b = bitAt l k b := by
        rw [ih]
        split
        · cases bitAt l k b <;> cases bitAt l k k <;> rfl
        · rfl
      rw [closeI_row k l a (by omega), hk, ih, ih, if_neg (Nat.lt_irrefl _), if_pos (Nat.lt_succ_self _), if_neg (Nat.lt_irrefl _)]
    · have : bitAt (closeI k l (i + 1)) a b = bitAt (closeI k l i) a b := by unfold bitAt; rw [closeI_else k l i a (by omega) h]
      rw [this, ih]
      by_cases h2 : a < i
      · rw [if_pos h2, if_pos (by omega)]
      · rw [if_neg h2, if_neg (by omega)]
theorem closeK_bit (n : Nat) (l : List Nat) (hl : l.length = n) (k a b : Nat) (ha : a < n) :
    bitAt (closeK n l (k + 1)) a b = (bitAt (closeK n l k) a b || (bitAt (closeK n l k) a k && bitAt (closeK n l k) k b)) := by
  rw [closeK, closeI_bit _ _ _ (by rw [closeK_len, hl]; exact Nat.le_refl _), if_pos ha]
/-- the closing is a closing: behind round k what goes through one below k goes -/
theorem closeK_trans (n : Nat) (l : List Nat) (hl : l.length = n) : ∀ k, k ≤ n → ∀ m, m < k → ∀ a b, a < n → b < n → bitAt (closeK n l k) a m = true → bitAt (closeK n l k) m b = true → bitAt (closeK n l k) a b = true
  | 0, _, m, hm, _, _, _, _, _, _ => by omega
  | k + 1, hk, m, hm, a, b, ha, hb, h1, h2 => by
    have ih := closeK_trans n l hl k (by omega)
    have hmn : m < n := by omega
    rw [closeK_bit n l hl k a m ha] at h1
    rw [closeK_bit n l hl k m b hmn] at h2
    rw [closeK_bit n l hl k a b ha]
    simp only [Bool.or_eq_true, Bool.and_eq_true] at h1 h2 ⊢
    by_cases hmk : m = k
    · subst hmk
      have g1 : bitAt (closeK n l m) a m = true := by rcases h1 with h | h; exact h; exact h.1
      have g2 : bitAt (closeK n l m) m b = true := by rcases h2 with h | h; exact h; exact h.2
      exact Or.inr ⟨g1, g2⟩
    · have hm' : m < k := by omega
      rcases h1 with h1 | h1
      · rcases h2 with h2 | h2
        · exact Or.inl (ih m hm' a b ha hb h1 h2)
        · exact Or.inr ⟨ih m hm' a k ha (by omega) h1 h2.1, h2.2⟩
      · rcases h2 with h2 | h2
        · exact Or.inr ⟨h1.1, ih m hm' k b (by omega) hb h1.2 h2⟩
        · exact Or.inr ⟨h1.1, h2.2⟩
theorem closeK_keeps (n : Nat) (l : List Nat) (hl : l.length = n) (k a b : Nat) (ha : a < n) (h : bitAt l a b = true) : bitAt (closeK n l k) a b = true := by
  induction k with
  | zero => exact h
  | succ k ih => rw [closeK_bit n l hl k a b ha, ih]; rfl
theorem edgesU_keeps (ps : List (Int × Int)) (l : List Nat) (hp : ∀ p ∈ ps, p.1.toNat < l.length) (a b : Nat) (h : bitAt l a b = true) : bitAt (edgesU l ps) a b = true := by
  induction ps generalizing l with
  | nil => exact h
  | cons p ps ih =>
    refine ih _ (fun q hq => by unfold edgeU; rw [List.length_set]; exact hp q (by simp [hq])) ?_
    rw [edgeU_bit _ _ (hp p (by simp)), h]; rfl
/-- no bit beyond n -/
def InN (n : Nat) (l : List Nat) : Prop := ∀ a b, bitAt l a b = true → b < n
theorem edgesU_in {n : Nat} (ps : List (Int × Int)) (l : List Nat) (hl : l.length = n) (h : InN n l) (hp : ∀ p ∈ ps, p.1.toNat < n ∧ p.2.toNat < n) : InN n (edgesU l ps) := by
  induction ps generalizing l with
  | nil => exact h
  | cons p ps ih =>
    refine ih _ (by unfold edgeU; rw [List.length_set]; exact hl) ?_ (fun q hq => hp q (by simp [hq]))
    intro a b hb
    rw [edgeU_bit _ _ (by rw [hl]; exact (hp p (by simp)).1)] at hb
    simp only [Bool.or_eq_true, Bool.and_eq_true, decide_eq_true_eq] at hb
    rcases hb with hb | ⟨_, hb⟩
    · exact h a b hb
    · rw [hb]; exact (hp p (by simp)).2
theorem closeK_in {n : Nat} (l : List Nat) (hl : l.length = n) (h : InN n l) : ∀ k, InN n (closeK n l k)
  | 0 => h
  | k + 1 => fun a b hb => by
    have ih := closeK_in l hl h k
    rw [closeK, closeI_bit _ _ _ (by rw [closeK_len, hl]; exact Nat.le_refl _)] at hb
    split at hb
    · simp only [Bool.or_eq_true, Bool.and_eq_true] at hb
      rcases hb with hb | hb
      · exact ih a b hb
      · exact ih k b hb.2
    · exact ih a b hb
/-- what the lattice's bits are -/
structure UpOk (n : Nat) (l : List Nat) : Prop where
  len : l.length = n
  refl : ∀ a, a < n → bitAt l a a = true
  trans : ∀ a m b, a < n → m < n → b < n → bitAt l a m = true → bitAt l m b = true → bitAt l a b = true
  inn : InN n l
theorem upsT_up {n : Nat} {ps : List (Int × Int)} (hp : ∀ p ∈ ps, p.1.toNat < n ∧ p.2.toNat < n) : UpOk n (upsT n ps) := by
  have hl : (edgesU (initU n n) ps).length = n := by rw [edgesU_len, initU_len]
  refine ⟨upsT_len n ps, fun a ha => ?_, fun a m b ha hm hb h1 h2 => closeK_trans n _ hl n (Nat.le_refl _) m hm a b ha hb h1 h2, closeK_in _ hl (edgesU_in ps _ (initU_len n n) ?_ hp) n⟩
  · refine closeK_keeps n _ hl n a a ha (edgesU_keeps ps _ (fun p h => by rw [initU_len]; exact (hp p h).1) a a ?_)
    rw [initU_bit n n (Nat.le_refl _)]; simp [ha]
  · intro a b h
    rw [initU_bit n n (Nat.le_refl _)] at h
    simp only [Bool.and_eq_true, decide_eq_true_eq] at h
    omega
theorem downA_up {n : Nat} {up : List Nat} (h : UpOk n up) : UpOk n (downA n up n) := by
  have hb : ∀ a b, a < n → bitAt (downA n up n) a b = (decide (b < n) && bitAt up b a) := fun a b ha => downA_bit n up n a b ha
  refine ⟨downA_len n up n, fun a ha => ?_, fun a m b h1 h2 h3 g1 g2 => ?_, fun a b g => ?_⟩
  · rw [hb a a ha, h.refl a ha]; simp [ha]
  · rw [hb _ _ h1, Bool.and_eq_true] at g1
    rw [hb _ _ h2, Bool.and_eq_true] at g2
    rw [hb _ _ h1, h.trans b m a h3 h2 h1 g2.2 g1.2]; simp [h3]
  · rcases Nat.lt_or_ge a n with ha | ha
    · rw [hb a b ha, Bool.and_eq_true] at g
      simpa using g.1
    · exfalso
      have : at0 (downA n up n) a = 0 := by
        unfold at0
        rw [List.getD_eq_getElem?_getD, List.getElem?_eq_none (by rw [downA_len]; exact ha)]; rfl
      unfold bitAt at g
      rw [this] at g
      simp at g
/-- no two above one another -/
theorem cycB_false {up : List Nat} {a n : Nat} (h : cycB up a n = false) : ∀ b, b < n → cycAt up a b = false := by
  induction n with
  | zero => intro b hb; omega
  | succ n ih =>
    unfold cycB at h
    simp only [Bool.or_eq_false_iff] at h
    intro b hb
    rcases Nat.lt_or_ge b n with hbn | hbn
    · exact ih h.1 b hbn
    · have : b = n := by omega
      subst this; exact h.2
theorem cycA_false {up : List Nat} {n k : Nat} (h : cycA n up k = false) : ∀ a, a < k → ∀ b, b < n → cycAt up a b = false := by
  induction k with
  | zero => intro a ha; omega
  | succ k ih =>
    unfold cycA at h
    simp only [Bool.or_eq_false_iff] at h
    intro a ha
    rcases Nat.lt_or_ge a k with hak | hak
    · exact ih h.1 a hak
    · have : a = k := by omega
      subst this; exact cycB_false h.2
theorem cyc_anti {up : List Nat} {n : Nat} (h : cycA n up n = false) {a b : Nat} (ha : a < n) (hb : b < n) (h1 : bitAt up a b = true) (h2 : bitAt up b a = true) : a = b := by
  have := cycA_false h a ha b hb
  unfold cycAt at this
  unfold bitAt at h1 h2
  rw [h1, h2] at this
  simpa using this
/-- the least of those that are above both: the first that is below all of them -/
def bothL (M : Nat → Nat → Bool) (a b n : Nat) : List Nat := (List.range n).filter fun x => M a x && M b x
def leastT (M : Nat → Nat → Bool) (a b n : Nat) : Option Nat := (bothL M a b n).find? fun c => (bothL M a b n).all fun y => M c y
theorem foundC_none {above : List Nat} {both k : Nat} (h : foundC above both k = none) : ∀ c, c < k → ¬ (both.testBit c = true ∧ at0 above c = both) := by
  induction k with
  | zero => intro c hc; omega
  | succ k ih =>
    unfold foundC at h
    split at h
    · cases h
    · rename_i hk
      intro c hc
      rcases Nat.lt_or_ge c k with hck | hck
      · exact ih h c hck
      · have : c = k := by omega
        subst this
        simpa using hk
theorem bothL_mem {M : Nat → Nat → Bool} {a b n x : Nat} : x ∈ bothL M a b n ↔ x < n ∧ M a x = true ∧ M b x = true := by
  unfold bothL
  rw [List.mem_filter, List.mem_range, Bool.and_eq_true]
theorem least_found {n : Nat} {above : List Nat} (u : UpOk n above) (anti : ∀ a b, a < n → b < n → bitAt above a b = true → bitAt above b a = true → a = b) {a b : Nat} (ha : a < n) (hb : b < n) :
    leastT (bitAt above) a b n = foundC above (at0 above a &&& at0 above b) n := by
  have hbit : ∀ j, (at0 above a &&& at0 above b).testBit j = (bitAt above a j && bitAt above b j) := fun j => by rw [Nat.testBit_and]; rfl
  have hQ : ∀ c, c < n → ((at0 above a &&& at0 above b).testBit c = true ∧ at0 above c = at0 above a &&& at0 above b) → c ∈ bothL (bitAt above) a b n ∧ ((bothL (bitAt above) a b n).all fun y => bitAt above c y) = true := by
    intro c hc ⟨h1, h2⟩
    rw [hbit, Bool.and_eq_true] at h1
    refine ⟨bothL_mem.2 ⟨hc, h1⟩, List.all_eq_true.2 fun y hy => ?_⟩
    obtain ⟨g1, g2, g3⟩ := bothL_mem.1 hy
    have : bitAt above c y = (bitAt above a y && bitAt above b y) := by rw [← hbit]; unfold bitAt; rw [h2]
    rw [this, g2, g3]; rfl
  have hR : ∀ c, c ∈ bothL (bitAt above) a b n → ((bothL (bitAt above) a b n).all fun y => bitAt above c y) = true → c < n ∧ (at0 above a &&& at0 above b).testBit c = true ∧ at0 above c = at0 above a &&& at0 above b := by
    intro c hc hall
    obtain ⟨g1, g2, g3⟩ := bothL_mem.1 hc
    refine ⟨g1, by rw [hbit, g2, g3]; rfl, Nat.eq_of_testBit_eq fun j => ?_⟩
    rw [hbit]
    show bitAt above c j = _
    cases hj : bitAt above c j with
    | true =>
      have hjn := u.inn _ _ hj
      rw [u.trans a c j ha g1 hjn g2 hj, u.trans b c j hb g1 hjn g3 hj]; rfl
    | false =>
      cases hb2 : (bitAt above a j && bitAt above b j) with
      | false => rfl
      | true =>
        exfalso
        rw [Bool.and_eq_true] at hb2
        have := List.all_eq_true.1 hall j (bothL_mem.2 ⟨u.inn _ _ hb2.1, hb2⟩)
        rw [hj] at this; cases this
  unfold leastT
  cases hf : foundC above (at0 above a &&& at0 above b) n with
  | none =>
    rw [List.find?_eq_none]
    intro x hx hall
    obtain ⟨k1, k2⟩ := hR x hx hall
    exact foundC_none hf x k1 k2
  | some c =>
    obtain ⟨c1, c2⟩ := foundC_lt hf
    obtain ⟨q1, q2⟩ := hQ c c1 c2
    cases hg : (bothL (bitAt above) a b n).find? fun c => (bothL (bitAt above) a b n).all fun y => bitAt above c y with
    | none => exact absurd q2 (List.find?_eq_none.1 hg c q1)
    | some d =>
      have d1 := List.mem_of_find?_eq_some hg
      have d2 := List.find?_some hg
      have e1 := List.all_eq_true.1 q2 d d1
      have e2 := List.all_eq_true.1 d2 c q1
      rw [anti d c (bothL_mem.1 d1).1 c1 e2 e1]
/-- the first that all are below -/
def edgeF (M : Nat → Nat → Bool) (n : Nat) : Option Nat := (List.range n).find? fun x => (List.range n).all fun y => M y x
theorem fold_above {n : Nat} {above : List Nat} {tab : List (List Nat)} (u : UpOk n above) (hn : 1 ≤ n) (ht : tabA above above n = some tab) (lt : ∀ k, k ≤ n → foldAt tab k < n) :
    ∀ x, x < n → bitAt above x (foldAt tab n) = true := by
  have key : ∀ k, k ≤ n → ∀ x, x < k → bitAt above x (foldAt tab k) = true := by
    intro k
    induction k with
    | zero => intro _ x hx; omega
    | succ k ih =>
      intro hk x hx
      obtain ⟨row, e1, e2, e3, e4⟩ := tab_entry u.len ht (lt k (by omega)) (show k < n by omega)
      obtain ⟨_, g2, g3⟩ := foundC_lt e4
      have hc : foldAt tab (k + 1) = rowAt tab (foldAt tab k) k := rfl
      rw [← hc] at g2 g3
      rw [Nat.testBit_and, Bool.and_eq_true] at g2
      rcases Nat.lt_or_ge x k with hxk | hxk
      · exact u.trans x _ _ (by omega) (lt k (by omega)) (by rw [hc]; exact e3) (ih (by omega) x hxk) g2.1
      · have : x = k := by omega
        subst this; exact g2.2
  exact key n (Nat.le_refl _)
theorem edge_fold {n : Nat} {above : List Nat} (anti : ∀ a b, a < n → b < n → bitAt above a b = true → bitAt above b a = true → a = b) {t : Nat} (ht : t < n) (h : ∀ x, x < n → bitAt above x t = true) :
    edgeF (bitAt above) n = some t := by
  unfold edgeF
  cases hg : (List.range n).find? fun x => (List.range n).all fun y => bitAt above y x with
  | none =>
    have := List.find?_eq_none.1 hg t (List.mem_range.2 ht)
    exact absurd (List.all_eq_true.2 fun y hy => h y (List.mem_range.1 hy)) this
  | some d =>
    have d1 := List.mem_range.1 (List.mem_of_find?_eq_some hg)
    have d2 := List.find?_some hg
    rw [anti d t d1 ht (h d d1) (List.all_eq_true.1 d2 t (List.mem_range.2 ht))]
end Go.Proofs.YtgdnphmannbpgaaGreatDoor
/-
  The document's order in memory: three matrices whose rows are blocks of their own; stores into them; what is read of them when they are done.
-/
namespace Go.Proofs.YtgdnphmannbpgaaGreatDoor
open Go.RowKit
set_option linter.unusedVariables false

theorem rowB_all {set above : List Nat} {a : Nat} : ∀ b, (∀ i, i < b → ∃ c, foundC above (at0 set a &&& at0 set i) set.length = some c) → ∃ r, rowB set above a b = some r
  | 0, _ => ⟨[], rfl⟩
  | b + 1, h => by
    obtain ⟨r, hr⟩ := rowB_all b (fun i hi => h i (by omega))
    obtain ⟨c, hc⟩ := h b (by omega)
    exact ⟨r ++ [c], by rw [rowB, hr, hc]⟩
theorem tabA_all {set above : List Nat} : ∀ k, (∀ a b, a < k → b < set.length → ∃ c, foundC above (at0 set a &&& at0 set b) set.length = some c) → ∃ t, tabA set above k = some t
  | 0, _ => ⟨[], rfl⟩
  | k + 1, h => by
    obtain ⟨t, ht⟩ := tabA_all k (fun a b ha hb => h a b (by omega) hb)
    obtain ⟨r, hr⟩ := rowB_all (a := k) set.length (fun i hi => h k i (by omega) hi)
    exact ⟨t ++ [r], by rw [tabA, ht, hr]⟩

def rowC (n : Nat) (f : Nat → Value) : Array Value := ((List.range n).map f).toArray
theorem rowC_get {n : Nat} {f : Nat → Value} {b : Nat} (h : b < n) : (rowC n f)[b]? = some (f b) := by
  unfold rowC
  simp [h]
theorem rowC_set {n : Nat} {f : Nat → Value} {b : Nat} (h : b < n) (v : Value) : (rowC n f).setIfInBounds b v = rowC n (fun y => if y = b then v else f y) := by
  unfold rowC
  apply Array.ext
  · simp
  · intro i h1 h2
    simp only [List.setIfInBounds_toArray, List.getElem_toArray, List.getElem_set, List.getElem_map, List.getElem_range]
    by_cases e : i = b
    · subst e; simp
    · rw [if_neg (fun h => e h.symm), if_neg e]
theorem rowC_rep (n : Nat) (v : Value) : Array.replicate n v = rowC n (fun _ => v) := by
  unfold rowC
  apply Array.ext
  · simp
  · intro i h1 h2
    simp
theorem rowC_congr {n : Nat} {f g : Nat → Value} (h : ∀ b, b < n → f b = g b) : rowC n f = rowC n g := by
  unfold rowC
  rw [List.map_congr_left fun b hb => h b (List.mem_range.1 hb)]
/-- rows of a matrix, each a block of its own -/
structure MatB (w : World) (base rt t : Nat) (A : Option Addr) (m c n : Nat) (g : Nat → Nat) (F : Nat → Nat → Value) : Prop where
  head : Own w base rt 1 A m c ((List.range m).map fun a => Value.slice (some ⟨g a, 0, none⟩) n n)
  row : ∀ a, a < m → Blk w (g a) t (rowC n (F a))
  lo : ∀ a, a < m → base ≤ g a
  inj : ∀ a b, a < m → b < m → g a = g b → a = b
  ne : rt ≠ t

section
variable {w w' : World} {base rt t m c n : Nat} {A B : Option Addr} {g : Nat → Nat} {F : Nat → Nat → Value}
theorem MatB.cell (h : MatB w base rt t A m c n g F) {a b : Nat} (ha : a < m) (hb : b < n) : w.cell? ⟨g a, b, none⟩ = some (F a b) ∧ w.frozen? ⟨g a, b, none⟩ = false :=
  ⟨by rw [(h.row a ha).cell b, rowC_get hb], (h.row a ha).frozen b⟩
theorem MatB.hcell {q : Nat} (h : MatB w base rt t (some ⟨q, 0, none⟩) m c n g F) {a : Nat} (ha : a < m) : w.cell? ⟨q, a, none⟩ = some (.slice (some ⟨g a, 0, none⟩) n n) :=
  h.head.cell (by rw [List.getElem?_map, List.getElem?_range ha]; rfl)
theorem MatB.some_ (h : MatB w base rt t A m c n g F) (hm : 0 < m) : ∃ q, A = some ⟨q, 0, none⟩ ∧ base ≤ q ∧ q < w.heap.size := h.head.some_ hm
theorem MatB.hne (h : MatB w base rt t A m c n g F) {a : Nat} (ha : a < m) : ∀ q, A = some q → q.block ≠ g a := h.head.blk_ne (h.row a ha) h.ne
theorem MatB.only (h : MatB w base rt t A m c n g F) (ho : Only w w' B) (hs : Sep A B) (hg : ∀ a, a < m → ∀ b, B = some b → b.block ≠ g a) : MatB w' base rt t A m c n g F :=
  ⟨h.head.only ho hs, fun a ha => (h.row a ha).only ho (hg a ha), h.lo, h.inj, h.ne⟩
theorem MatB.alloc (h : MatB w base rt t A m c n g F) (o : Obj) : MatB (w.alloc o) base rt t A m c n g F :=
  ⟨h.head.alloc o, fun a ha => (h.row a ha).alloc o, h.lo, h.inj, h.ne⟩
theorem MatB.drewN (h : MatB w base rt t A m c n g F) (k : Nat) : MatB (w.drewN k) base rt t A m c n g F :=
  ⟨h.head.drewN k, fun a ha => (h.row a ha).drewN k, h.lo, h.inj, h.ne⟩
theorem MatB.below {K : Nat} (h : MatB w base rt t A m c n g F) (hb : Below K w w') (hK : w.heap.size ≤ K) : MatB w' base rt t A m c n g F :=
  ⟨h.head.below hb hK, fun a ha => (h.row a ha).below hb (by have := (h.row a ha).lt; omega), h.lo, h.inj, h.ne⟩
theorem MatB.congr (h : MatB w base rt t A m c n g F) {F' : Nat → Nat → Value} (he : ∀ a b, a < m → b < n → F a b = F' a b) : MatB w base rt t A m c n g F' :=
  ⟨h.head, fun a ha => by rw [← rowC_congr (fun b hb => he a b ha hb)]; exact h.row a ha, h.lo, h.inj, h.ne⟩
/-- a store into it -/
theorem MatB.set (h : MatB w base rt t A m c n g F) {a b : Nat} (ha : a < m) (hb : b < n) (v : Value) : MatB (w.setCell ⟨g a, b, none⟩ v) base rt t A m c n g (fun x y => if x = a ∧ y = b then v else F x y) := by
  refine ⟨h.head.only (only_setCell w (g a) b v) (fun p q hp hq => by injection hq with hq; rw [← hq]; exact h.hne ha p hp), fun x hx => ?_, h.lo, h.inj, h.ne⟩
  by_cases e : x = a
  · subst e
    have := (h.row x ha).set_ b v
    rw [rowC_set hb] at this
    rw [rowC_congr (g := fun y => if y = b then v else F x y) (fun y _ => by simp)]
    exact this
  · rw [rowC_congr (g := F x) (fun y _ => by rw [if_neg (fun h => e h.1)])]
    exact (h.row x hx).far (p := ⟨g a, b, none⟩) (fun he => e (h.inj x a hx ha he)) v
/-- one row more: a new block -/
theorem MatB.push (h : MatB w base rt t A m c n g F) {q : Nat} {f : Nat → Value} {A' : Option Addr} {c' : Nat} (hq : Blk w q t (rowC n f)) (hlo : base ≤ q) (hne : ∀ a, a < m → g a ≠ q) (hA : ∀ a, A = some a → a.block ≠ q)
    (ho : Only w w' A) (hO : Own w' base rt 1 A' (m + 1) c' (((List.range m).map fun a => Value.slice (some ⟨g a, 0, none⟩) n n) ++ [.slice (some ⟨q, 0, none⟩) n n])) :
    MatB w' base rt t A' (m + 1) c' n (fun a => if a = m then q else g a) (fun a b => if a = m then f b else F a b) := by
  refine ⟨?_, fun a ha => ?_, fun a ha => ?_, fun a b ha hb => ?_, h.ne⟩
  · rw [List.range_succ, List.map_append]
    have : ((List.range m).map fun a => Value.slice (some ⟨if a = m then q else g a, 0, none⟩) n n) = (List.range m).map fun a => Value.slice (some ⟨g a, 0, none⟩) n n :=
      List.map_congr_left fun a ha => by rw [if_neg (by have := List.mem_range.1 ha; omega)]
    rw [this]
    simpa using hO
  · by_cases e : a = m
    · subst e
      simp only [if_true]
      exact hq.only ho hA
    · simp only [if_neg e]
      exact (h.row a (by omega)).only ho (fun p hp => h.hne (by omega) p hp)
  · by_cases e : a = m
    · simp only [if_pos e]; exact hlo
    · simp only [if_neg e]; exact h.lo a (by omega)
  · by_cases e : a = m <;> by_cases e' : b = m
    · omega
    · simp only [if_pos e, if_neg e']
      exact fun he => absurd he.symm (hne b (by omega))
    · simp only [if_neg e, if_pos e']
      exact fun he => absurd he (hne a (by omega))
    · simp only [if_neg e, if_neg e']
      exact h.inj a b (by omega) (by omega)
end
theorem MatB.nil (w : World) (base rt t n : Nat) (h : rt ≠ t) : MatB w base rt t none 0 0 n (fun _ => 0) (fun _ _ => .bool false) :=
  ⟨Own.nil _ _ _ _, fun a ha => by omega, fun a ha => by omega, fun a b ha => by omega, h⟩

/-- a matrix of truths, as it is read -/
def TabB (w : World) (K : Nat) (A : Option Addr) (n : Nat) (F : Nat → Nat → Bool) : Prop :=
  ∃ ad, A = some ad ∧ ad.block < K ∧ ∀ a, a < n → ∃ B c, w.cell? (ad.add a) = some (.slice B n c) ∧ Reads w K 1 B n ((List.range n).map fun b => Value.bool (F a b))
theorem TabB.below {w w' : World} {K n : Nat} {A : Option Addr} {F : Nat → Nat → Bool} (h : TabB w K A n F) (hb : Below K w w') : TabB w' K A n F := by
  obtain ⟨ad, e, hlt, h⟩ := h
  refine ⟨ad, e, hlt, fun a ha => ?_⟩
  obtain ⟨B, c, h1, h2⟩ := h a ha
  exact ⟨B, c, (hb.cell (by rw [block_of_add]; exact hlt)).trans h1, h2.below hb⟩
theorem TabB.up {w : World} {K K' n : Nat} {A : Option Addr} {F : Nat → Nat → Bool} (h : TabB w K A n F) (hk : K ≤ K') : TabB w K' A n F := by
  obtain ⟨ad, e, hlt, h⟩ := h
  refine ⟨ad, e, by omega, fun a ha => ?_⟩
  obtain ⟨B, c, h1, h2⟩ := h a ha
  exact ⟨B, c, h1, h2.more hk⟩
theorem TabB.drewN {w : World} {K n : Nat} {A : Option Addr} {F : Nat → Nat → Bool} (h : TabB w K A n F) (k : Nat) : TabB (w.drewN k) K A n F := h
theorem row_reads {w : World} {n q t : Nat} {f : Nat → Value} (h : Blk w q t (rowC n f)) : Reads w w.heap.size 1 (some ⟨q, 0, none⟩) n ((List.range n).map f) :=
  ⟨by simp, fun _ => ⟨_, rfl, h.lt, fun j u hu => by
    rw [add_at, h.cell j]
    unfold rowC
    simpa using hu⟩⟩
theorem MatB.tabB {w : World} {base rt t n c : Nat} {A : Option Addr} {g : Nat → Nat} {F : Nat → Nat → Bool} (h : MatB w base rt t A n c n g (fun a b => .bool (F a b))) (hn : 0 < n) : TabB w w.heap.size A n F := by
  obtain ⟨q, rfl, h1, h2⟩ := h.some_ hn
  exact ⟨_, rfl, h2, fun a ha => ⟨_, n, by rw [add_at]; exact h.hcell ha, row_reads (h.row a ha)⟩⟩
theorem MatB.tab {w : World} {base rt t n c : Nat} {A : Option Addr} {g : Nat → Nat} {F : Nat → Nat → Int} {l : List (List Nat)} (h : MatB w base rt t A n c n g (fun a b => .int .i64 (F a b))) (hn : 0 < n) (hl : l.length = n)
    (he : ∀ a b, a < n → b < n → ∃ row, l[a]? = some row ∧ row.length = n ∧ row[b]? = some (rowAt l a b) ∧ F a b = (rowAt l a b : Int)) : Tab w w.heap.size A n l := by
  obtain ⟨q, rfl, h1, h2⟩ := h.some_ hn
  refine ⟨hl, fun a row hr => ?_⟩
  have ha : a < n := by rw [← hl]; exact (List.getElem?_eq_some_iff.1 hr).1
  obtain ⟨row', e1, e2, _, _⟩ := he a 0 ha hn
  rw [hr] at e1
  obtain rfl := Option.some.inj e1
  refine ⟨e2, _, _, n, rfl, h2, by rw [add_at]; exact h.hcell ha, ?_⟩
  have hrow := row_reads (h.row a ha)
  have : (row.map fun x : Nat => Value.int .i64 (x : Int)) = (List.range n).map fun b => Value.int .i64 (F a b) := by
    apply List.ext_getElem?
    intro b
    rw [List.getElem?_map, List.getElem?_map]
    rcases Nat.lt_or_ge b n with hb | hb
    · obtain ⟨row2, k1, _, k3, k4⟩ := he a b ha hb
      rw [hr] at k1
      obtain rfl := Option.some.inj k1
      rw [k3, List.getElem?_range hb]
      simp [k4]
    · rw [List.getElem?_eq_none (by omega), List.getElem?_eq_none (by simp; omega)]
      rfl
  rw [this]
  exact hrow
/-- the document's order -/
structure OrdR (w : World) (K p : Nat) (t : LatT) : Prop where
  plt : p < K
  ex : ∃ A1 c1 A2 c2 A3 c3, Blk w p 85 #[.int .i64 (t.n : Int), .slice A1 t.n c1, .slice A2 t.n c2, .slice A3 t.n c3] ∧ TabB w K A1 t.n (bitAt t.up) ∧ Tab w K A2 t.n t.join ∧ Tab w K A3 t.n t.meet
theorem OrdR.below {w w' : World} {K p : Nat} {t : LatT} (h : OrdR w K p t) (hb : Below K w w') : OrdR w' K p t := by
  obtain ⟨h1, A1, c1, A2, c2, A3, c3, hB, hl, hj, hm⟩ := h
  exact ⟨h1, A1, c1, A2, c2, A3, c3, hB.below hb h1, hl.below hb, hj.below hb, hm.below hb⟩
theorem OrdR.up {w : World} {K K' p : Nat} {t : LatT} (h : OrdR w K p t) (hk : K ≤ K') : OrdR w K' p t := by
  obtain ⟨h1, A1, c1, A2, c2, A3, c3, hB, hl, hj, hm⟩ := h
  exact ⟨by omega, A1, c1, A2, c2, A3, c3, hB, hl.up hk, hj.up hk, hm.up hk⟩
/-- the order that is being made: so many rows of each matrix -/
structure OrdS (w : World) (base p n mL mJ mM : Nat) (AL AJ AM : Option Addr) (cL cJ cM : Nat) (gL gJ gM : Nat → Nat) (FL : Nat → Nat → Bool) (FJ FM : Nat → Nat → Int) : Prop where
  size : base ≤ w.heap.size
  pb : base ≤ p
  blk : Blk w p 85 #[.int .i64 (n : Int), .slice AL mL cL, .slice AJ mJ cJ, .slice AM mM cM]
  L : MatB w base 86 4 AL mL cL n gL (fun a b => .bool (FL a b))
  J : MatB w base 81 3 AJ mJ cJ n gJ (fun a b => .int .i64 (FJ a b))
  M : MatB w base 81 3 AM mM cM n gM (fun a b => .int .i64 (FM a b))
  jm : ∀ a b, a < mJ → b < mM → gJ a ≠ gM b
  hd : Sep AJ AM
section
variable {w w' : World} {base p n mL mJ mM : Nat} {AL AJ AM : Option Addr} {cL cJ cM : Nat} {gL gJ gM : Nat → Nat} {FL : Nat → Nat → Bool} {FJ FM : Nat → Nat → Int}
theorem OrdS.cells (h : OrdS w base p n mL mJ mM AL AJ AM cL cJ cM gL gJ gM FL FJ FM) :
    w.cell? ⟨p, 0, none⟩ = some (.int .i64 (n : Int)) ∧ w.cell? ⟨p, 0 + 1, none⟩ = some (.slice AL mL cL) ∧ w.cell? ⟨p, 0 + 2, none⟩ = some (.slice AJ mJ cJ) ∧ w.cell? ⟨p, 0 + 3, none⟩ = some (.slice AM mM cM) :=
  ⟨h.blk.cell 0, h.blk.cell 1, h.blk.cell 2, h.blk.cell 3⟩
theorem OrdS.alloc (h : OrdS w base p n mL mJ mM AL AJ AM cL cJ cM gL gJ gM FL FJ FM) (o : Obj) : OrdS (w.alloc o) base p n mL mJ mM AL AJ AM cL cJ cM gL gJ gM FL FJ FM :=
  ⟨by simp; have := h.size; omega, h.pb, h.blk.alloc o, h.L.alloc o, h.J.alloc o, h.M.alloc o, h.jm, h.hd⟩
theorem OrdS.drewN (h : OrdS w base p n mL mJ mM AL AJ AM cL cJ cM gL gJ gM FL FJ FM) (k : Nat) : OrdS (w.drewN k) base p n mL mJ mM AL AJ AM cL cJ cM gL gJ gM FL FJ FM :=
  ⟨h.size, h.pb, h.blk.drewN k, h.L.drewN k, h.J.drewN k, h.M.drewN k, h.jm, h.hd⟩
theorem OrdS.below {K : Nat} (h : OrdS w base p n mL mJ mM AL AJ AM cL cJ cM gL gJ gM FL FJ FM) (hb : Below K w w') (hK : w.heap.size ≤ K) : OrdS w' base p n mL mJ mM AL AJ AM cL cJ cM gL gJ gM FL FJ FM :=
  ⟨by have := h.size; have := hb.size; omega, h.pb, h.blk.below hb (by have := h.blk.lt; omega), h.L.below hb hK, h.J.below hb hK, h.M.below hb hK, h.jm, h.hd⟩
theorem OrdS.congr (h : OrdS w base p n mL mJ mM AL AJ AM cL cJ cM gL gJ gM FL FJ FM) {FL' : Nat → Nat → Bool} {FJ' FM' : Nat → Nat → Int} (h1 : ∀ a b, a < mL → b < n → FL a b = FL' a b) (h2 : ∀ a b, a < mJ → b < n → FJ a b = FJ' a b) (h3 : ∀ a b, a < mM → b < n → FM a b = FM' a b) :
    OrdS w base p n mL mJ mM AL AJ AM cL cJ cM gL gJ gM FL' FJ' FM' :=
  ⟨h.size, h.pb, h.blk, h.L.congr fun a b ha hb => by rw [h1 a b ha hb], h.J.congr fun a b ha hb => by rw [h2 a b ha hb], h.M.congr fun a b ha hb => by rw [h3 a b ha hb], h.jm, h.hd⟩
theorem OrdS.setL (h : OrdS w base p n mL mJ mM AL AJ AM cL cJ cM gL gJ gM FL FJ FM) {a b : Nat} (ha : a < mL) (hb : b < n) (v : Bool) :
    OrdS (w.setCell ⟨gL a, b, none⟩ (.bool v)) base p n mL mJ mM AL AJ AM cL cJ cM gL gJ gM (fun x y => if x = a ∧ y = b then v else FL x y) FJ FM ∧ Below base w (w.setCell ⟨gL a, b, none⟩ (.bool v)) := by
  have hr := h.L.row a ha
  have ho := only_setCell w (gL a) b (.bool v)
  refine ⟨⟨by simp [World.setCell]; exact h.size, h.pb, h.blk.far (p := ⟨gL a, b, none⟩) (h.blk.ne_ hr (by decide)) _, ?_, ?_, ?_, h.jm, h.hd⟩, (Below.refl _ _).setCell (p := ⟨gL a, b, none⟩) (h.L.lo a ha) _⟩
  · refine (h.L.set ha hb (.bool v)).congr fun x y _ _ => ?_
    split <;> rfl
  · exact h.J.only ho (fun x y hx hy => by injection hy with hy; rw [← hy]; exact h.J.head.blk_ne hr (by decide) x hx) (fun x hx y hy => by injection hy with hy; rw [← hy]; exact hr.ne_ (h.J.row x hx) (by decide))
  · exact h.M.only ho (fun x y hx hy => by injection hy with hy; rw [← hy]; exact h.M.head.blk_ne hr (by decide) x hx) (fun x hx y hy => by injection hy with hy; rw [← hy]; exact hr.ne_ (h.M.row x hx) (by decide))
theorem OrdS.setJ (h : OrdS w base p n mL mJ mM AL AJ AM cL cJ cM gL gJ gM FL FJ FM) {a b : Nat} (ha : a < mJ) (hb : b < n) (v : Int) :
    OrdS (w.setCell ⟨gJ a, b, none⟩ (.int .i64 v)) base p n mL mJ mM AL AJ AM cL cJ cM gL gJ gM FL (fun x y => if x = a ∧ y = b then v else FJ x y) FM ∧ Below base w (w.setCell ⟨gJ a, b, none⟩ (.int .i64 v)) := by
  have hr := h.J.row a ha
  have ho := only_setCell w (gJ a) b (.int .i64 v)
  refine ⟨⟨by simp [World.setCell]; exact h.size, h.pb, h.blk.far (p := ⟨gJ a, b, none⟩) (h.blk.ne_ hr (by decide)) _, ?_, ?_, ?_, h.jm, h.hd⟩, (Below.refl _ _).setCell (p := ⟨gJ a, b, none⟩) (h.J.lo a ha) _⟩
  · exact h.L.only ho (fun x y hx hy => by injection hy with hy; rw [← hy]; exact h.L.head.blk_ne hr (by decide) x hx) (fun x hx y hy => by injection hy with hy; rw [← hy]; exact hr.ne_ (h.L.row x hx) (by decide))
  · refine (h.J.set ha hb (.int .i64 v)).congr fun x y _ _ => ?_
    split <;> rfl
  · exact h.M.only ho (fun x y hx hy => by injection hy with hy; rw [← hy]; exact h.M.head.blk_ne hr (by decide) x hx) (fun x hx y hy => by injection hy with hy; rw [← hy]; exact h.jm a x ha hx)
theorem OrdS.setM (h : OrdS w base p n mL mJ mM AL AJ AM cL cJ cM gL gJ gM FL FJ FM) {a b : Nat} (ha : a < mM) (hb : b < n) (v : Int) :
    OrdS (w.setCell ⟨gM a, b, none⟩ (.int .i64 v)) base p n mL mJ mM AL AJ AM cL cJ cM gL gJ gM FL FJ (fun x y => if x = a ∧ y = b then v else FM x y) ∧ Below base w (w.setCell ⟨gM a, b, none⟩ (.int .i64 v)) := by
  have hr := h.M.row a ha
  have ho := only_setCell w (gM a) b (.int .i64 v)
  refine ⟨⟨by simp [World.setCell]; exact h.size, h.pb, h.blk.far (p := ⟨gM a, b, none⟩) (h.blk.ne_ hr (by decide)) _, ?_, ?_, ?_, h.jm, h.hd⟩, (Below.refl _ _).setCell (p := ⟨gM a, b, none⟩) (h.M.lo a ha) _⟩
  · exact h.L.only ho (fun x y hx hy => by injection hy with hy; rw [← hy]; exact h.L.head.blk_ne hr (by decide) x hx) (fun x hx y hy => by injection hy with hy; rw [← hy]; exact hr.ne_ (h.L.row x hx) (by decide))
  · exact h.J.only ho (fun x y hx hy => by injection hy with hy; rw [← hy]; exact h.J.head.blk_ne hr (by decide) x hx) (fun x hx y hy => by injection hy with hy; rw [← hy]; exact (h.jm x a hx ha).symm)
  · refine (h.M.set ha hb (.int .i64 v)).congr fun x y _ _ => ?_
    split <;> rfl
end
end Go.Proofs.YtgdnphmannbpgaaGreatDoor
