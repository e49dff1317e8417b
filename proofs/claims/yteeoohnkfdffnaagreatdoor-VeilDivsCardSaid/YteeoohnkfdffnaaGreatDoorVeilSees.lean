/-
  A reader in memory; contracts of Unknown, Sees, with, New.
-/
import Derived.Test.YteeoohnkfdffnaaGreatDoorLatNew
import Derived.Test.YteeoohnkfdffnaaGreatDoorGB
namespace Go.Proofs.YteeoohnkfdffnaaGreatDoor
open Go.RowKit
set_option linter.unusedVariables false

theorem drop_one {α : Type} {l : List α} {k : Nat} {x : α} (h : l[k]? = some x) : l.drop k = x :: l.drop (k + 1) := by
  obtain ⟨hk, e⟩ := List.getElem?_eq_some_iff.1 h
  rw [List.drop_eq_getElem_cons hk, e]
theorem idxF_lt (x : ByteArray) : ∀ (l : List ByteArray) (k : Nat), idxF x k l = -1 ∨ ∃ j : Nat, idxF x k l = (j : Int) ∧ k ≤ j ∧ j < k + l.length
  | [], k => .inl rfl
  | y :: ys, k => by
    unfold idxF
    split
    · exact .inr ⟨k, rfl, Nat.le_refl _, by simp⟩
    · rcases idxF_lt x ys (k + 1) with h | ⟨j, h1, h2, h3⟩
      · exact .inl h
      · exact .inr ⟨j, h1, by omega, by simp; omega⟩
theorem idxT_lt (xs : List ByteArray) (x : ByteArray) : idxT xs x < 0 ∨ (idxT xs x).toNat < xs.length := by
  rcases idxF_lt x xs 0 with h | ⟨j, h1, h2, h3⟩
  · left; unfold idxT; omega
  · right; unfold idxT; rw [h1]; simp; omega
/-- a reader: its policy's names, the lattice, where it stands -/
structure SeerT where
  names : List ByteArray
  lat : LatT
  at_ : Nat
structure SeerOk (s : SeerT) : Prop where
  lat : LatOk s.lat
  len : s.names.length = s.lat.n
  at_ : s.at_ < s.lat.n
structure SeerR (w : World) (K g : Nat) (s : SeerT) : Prop where
  glt : g < K
  ex : ∃ A c p, Blk w g 58 #[.slice A s.names.length c, .slice none 0 0, .pointer (some ⟨p, 0, none⟩), .int .i64 (s.at_ : Int)] ∧ Reads w K 1 A s.names.length (txCells s.names) ∧ LatR w K p s.lat
theorem Tab.below {w w' : World} {K n : Nat} {A : Option Addr} {t : List (List Nat)} (h : Tab w K A n t) (hb : Below K w w') : Tab w' K A n t := by
  refine ⟨h.1, fun a row hr => ?_⟩
  obtain ⟨h1, ad, B, c, e, hlt, hc, hr2⟩ := h.2 a row hr
  exact ⟨h1, ad, B, c, e, hlt, (hb.cell (by rw [block_of_add]; exact hlt)).trans hc, hr2.below hb⟩
theorem LatR.below {w w' : World} {K p : Nat} {t : LatT} (h : LatR w K p t) (hb : Below K w w') : LatR w' K p t := by
  obtain ⟨h1, A1, c1, A2, n2, c2, A3, c3, A4, c4, hB, hu, hj, hm⟩ := h
  exact ⟨h1, A1, c1, A2, n2, c2, A3, c3, A4, c4, hB.below hb h1, hu.below hb, hj.below hb, hm.below hb⟩
theorem SeerR.below {w w' : World} {K g : Nat} {s : SeerT} (h : SeerR w K g s) (hb : Below K w w') : SeerR w' K g s := by
  obtain ⟨h1, A, c, p, hB, hn, hl⟩ := h
  exact ⟨h1, A, c, p, hB.below hb h1, hn.below hb, hl.below hb⟩
def labAt (s : SeerT) (x : ByteArray) : Nat := if idxT s.names x < 0 then topT s.lat else (idxT s.names x).toNat
def seesF (s : SeerT) : Nat → List ByteArray → Nat
  | a, [] => a
  | a, x :: xs => seesF s (rowAt s.lat.join a (labAt s x)) xs
def seesT (s : SeerT) (ls : List ByteArray) : Bool := (at0 s.lat.up (seesF s (bottomT s.lat) ls)).testBit s.at_
theorem labAt_lt {s : SeerT} (h : SeerOk s) (x : ByteArray) : labAt s x < s.lat.n := by
  unfold labAt
  split
  · exact foldAt_lt h.lat.pos (fun a b ha hb => by obtain ⟨_, _, _, k⟩ := h.lat.joins a b ha hb; exact k) _ (Nat.le_refl _)
  · have := idxT_lt s.names x
    rw [h.len] at this
    omega

set_option maxHeartbeats 1000000 in
set_option maxRecDepth 100000 in
theorem unknown_any (g K : Nat) (s : SeerT) (x : ByteArray) (w : World) (h : SeerR w K g s) (hK : K ≤ w.heap.size) (hn : s.names.length ≤ 64) :
    Calls Tryz.prog 16 #[.pointer (some ⟨g, 0, none⟩), .string x] w fun e w' => e = .returned (.bool (decide (idxT s.names x < 0))) ∧ Below w.heap.size w w' := by
  obtain ⟨_, A, c, p, hB, hr, _⟩ := h
  have k0 := hB.cell 0
  have k1 : w.cell? ⟨g, 0 + 1, none⟩ = some (.slice none 0 0) := hB.cell 1
  have HI := Lib.hid (index_any A none s.names.length c 0 0 K s.names x w hr hK (by omega))
  go_enter Tryz.func16, Tryz.ntmps16
  go_wp2_with (go_at_call 30; refine HI.out.mono ?_; rintro e w1 ⟨rfl, b1⟩)
  go_ret
  exact ⟨rfl, b1⟩

set_option maxHeartbeats 2000000 in
set_option maxRecDepth 100000 in
theorem sees_any (g K : Nat) (s : SeerT) (A : Option Addr) (n c : Nat) (ls : List ByteArray) (w : World) (h : SeerR w K g s) (ok : SeerOk s) (hK : K ≤ w.heap.size) (hr : Reads w K 1 A n (txCells ls)) (hn : n ≤ 1099511627776) :
    Calls Tryz.prog 15 #[.pointer (some ⟨g, 0, none⟩), .slice A n c] w fun e w' => e = .returned (.bool (seesT s ls)) ∧ Below w.heap.size w w' := by
  have hlen : ls.length = n := by have := hr.1; simpa using this
  have HL := Lib.hid hlen
  clear hlen
  have h64 := ok.lat.n64
  have hn64 : s.names.length ≤ 64 := by rw [ok.len]; exact h64
  obtain ⟨hgK, AN, cN, p, hB0, hN0, hL0⟩ := h
  have HB := Lib.hid (fun W (hW : Below w.heap.size w W) => (⟨hB0.below (hW.mono hK) hgK, hN0.below (hW.mono hK), hL0.below (hW.mono hK)⟩ : Blk W g 58 #[.slice AN s.names.length cN, .slice none 0 0, .pointer (some ⟨p, 0, none⟩), .int .i64 (s.at_ : Int)] ∧ Reads W K 1 AN s.names.length (txCells s.names) ∧ LatR W K p s.lat))
  have k2 : w.cell? ⟨g, 0 + 2, none⟩ = some (.pointer (some ⟨p, 0, none⟩)) := hB0.cell 2
  have HBOT := Lib.hid (bottom_any p K s.lat w hL0 ok.lat)
  have hbot : bottomT s.lat < s.lat.n := foldAt_lt ok.lat.pos (fun a b ha hb => by obtain ⟨_, _, _, k⟩ := ok.lat.meets a b ha hb; exact k) _ (Nat.le_refl _)
  have HLAB := Lib.hid (labAt_lt ok)
  clear hB0 hN0 hL0
  obtain ⟨V, hV⟩ : ∃ V, seesT s ls = V := ⟨_, rfl⟩
  rw [hV]
  have HV := Lib.hid hV
  clear hV
  go_enter Tryz.func15, Tryz.ntmps15
  go_wp2_with (go_at_call 35; refine HBOT.out.mono ?_; rintro e w1 ⟨rfl, hw⟩; subst w1)
  go_loopw [5, 18] (fun s5 s18 wr => ∃ (k a : Nat), k ≤ n ∧ s18 = .int .i64 k ∧ s5 = .int .i64 (a : Int) ∧ a < s.lat.n ∧ Hid (seesF s a (ls.drop k) = seesF s (bottomT s.lat) ls) ∧ Below w.heap.size w wr) (fun _ s18 _ => n - (intOf s18).toNat)
  case atStart => exact ⟨0, _, Nat.zero_le _, rfl, rfl, hbot, Lib.hid rfl, Below.refl _ _⟩
  case round =>
    clear k2 hbot
    obtain ⟨k, a, hk, rfl, rfl, ha, HF, hb⟩ := hrel
    obtain ⟨hB, hN, hLt⟩ := HB.out wr hb
    have hzw := hb.size
    have k0 := hB.cell 0
    have k1 : wr.cell? ⟨g, 0 + 1, none⟩ = some (.slice none 0 0) := hB.cell 1
    have k2 : wr.cell? ⟨g, 0 + 2, none⟩ = some (.pointer (some ⟨p, 0, none⟩)) := hB.cell 2
    by_cases hlt : k < n
    · obtain ⟨ad, u, rfl, _, hx0, hc⟩ := (hr.below (hb.mono hK)).at_ hlt
      obtain ⟨x, hx, rfl⟩ : ∃ x, ls[k]? = some x ∧ Value.string x = u := by simpa using hx0
      have hlab := HLAB.out x
      have hF2 := HF.out
      rw [drop_one hx, seesF] at hF2
      have HF2 := Lib.hid hF2
      have HI := Lib.hid (index_any AN none s.names.length cN 0 0 K s.names x wr hN (by omega) (by omega))
      have hlb : labAt s x = if idxT s.names x < 0 then topT s.lat else (idxT s.names x).toNat := rfl
      obtain ⟨lb, hlbe⟩ : ∃ lb, labAt s x = lb := ⟨_, rfl⟩
      rw [hlbe] at hlb hlab
      have HLB := Lib.hid hlbe
      obtain ⟨row, j1, j2, j3⟩ := ok.lat.joins a lb ha hlab
      have HJ := Lib.hid (fun W (hW : LatR W K p s.lat) => latJoin_any p K s.lat a lb _ row W hW ha hlab j1 j2)
      clear hx hx0 hF2 j1 j2 hlbe
      by_cases hi : idxT s.names x < 0
      · rw [if_pos hi] at hlb
        have d1 : decide (idxT s.names x < 0) = true := decide_eq_true hi
        have HTOP := Lib.hid (fun W (hW : LatR W K p s.lat) => top_any p K s.lat W hW ok.lat)
        rw [← hlb] at HTOP
        clear hlb
        generalize idxT s.names x = ix at *
        go_wp2_with (first
          | (go_at_call 30; refine HI.out.mono ?_; rintro e w2 ⟨rfl, b2⟩
             have hb2 := hb.trans (b2.mono hzw)
             obtain ⟨hB2, _, hL2⟩ := HB.out w2 hb2
             have m2 : w2.cell? ⟨g, 0 + 2, none⟩ = some (.pointer (some ⟨p, 0, none⟩)) := hB2.cell 2)
          | (go_at_call 36; refine (HTOP.out _ hL2).mono ?_; rintro e w3 ⟨rfl, hw⟩; subst w3)
          | (go_at_call 37; refine (HJ.out _ hL2).mono ?_; rintro e w3 ⟨rfl, hw⟩; subst w3))
        go_roundw
        case rel => exact ⟨k + 1, _, by omega, by go_num, rfl, j3, Lib.hid (by have := HF2.out; rw [HLB.out] at this; exact this), hb2⟩
        case measure => simp [intOf]; omega
      · rw [if_neg hi] at hlb
        have d1 : decide (idxT s.names x < 0) = false := decide_eq_false hi
        obtain ⟨ix, hix⟩ := Int.eq_ofNat_of_zero_le (a := idxT s.names x) (by omega)
        rw [hix] at hlb HI d1
        have hlx : lb = ix := by rw [hlb]; rfl
        subst hlx
        clear hlb hix hi
        go_wp2_with (first
          | (go_at_call 30; refine HI.out.mono ?_; rintro e w2 ⟨rfl, b2⟩
             have hb2 := hb.trans (b2.mono hzw)
             obtain ⟨hB2, _, hL2⟩ := HB.out w2 hb2
             have m2 : w2.cell? ⟨g, 0 + 2, none⟩ = some (.pointer (some ⟨p, 0, none⟩)) := hB2.cell 2)
          | (go_at_call 37; refine (HJ.out _ hL2).mono ?_; rintro e w3 ⟨rfl, hw⟩; subst w3))
        go_roundw
        case rel => exact ⟨k + 1, _, by omega, by go_num, rfl, j3, Lib.hid (by have := HF2.out; rw [HLB.out] at this; exact this), hb2⟩
        case measure => simp [intOf]; omega
    · have hkn : k = n := by omega
      subst hkn
      have hfin := HF.out
      rw [List.drop_of_length_le (by rw [HL.out]; exact Nat.le_refl _), seesF] at hfin
      have HVV : Hid ((at0 s.lat.up a).testBit s.at_ = V) := Lib.hid (by rw [← HV.out]; unfold seesT; rw [← hfin])
      have k3 : wr.cell? ⟨g, 0 + 3, none⟩ = some (.int .i64 (s.at_ : Int)) := hB.cell 3
      have HQ := Lib.hid (fun W (hW : LatR W K p s.lat) => leq_any p K s.lat a s.at_ (at0 s.lat.up a) W hW ha ok.at_ ok.lat.n64 (at0_get (by rw [ok.lat.ups.1]; exact ha)) (ok.lat.ups.2 _ (List.mem_of_getElem? (at0_get (by rw [ok.lat.ups.1]; exact ha)))))
      rw [HVV.out] at HQ
      clear hfin
      go_upto_region 12 with fail
      go_quiet ((go_at_call 38; exact Calls.quiet_of_same (HQ.out _ (hLt.below (below_drewN' (Below.refl _ _) _)))))
      go_wp2_with fail
      go_ret
      exact ⟨rfl, below_drewN' hb _⟩

set_option maxHeartbeats 1000000 in
set_option maxRecDepth 100000 in
theorem with_any (A : Option Addr) (n c K : Nat) (ls : List ByteArray) (x : ByteArray) (w : World) (hr : Reads w K 1 A n (txCells ls)) (hK : K ≤ w.heap.size) (hn : n ≤ 1048576) :
    Calls Tryz.prog 40 #[.slice A n c, .string x] w fun e w' => ∃ A' c', e = .returned (.slice A' (n + 1) c') ∧ Own w' w.heap.size 9 1 A' (n + 1) c' (txCells (ls ++ [x])) ∧ Below w.heap.size w w' := by
  go_enter Tryz.func40, Tryz.ntmps40
  go_wp2_with (first
    | (at_builtin; refine wpList_app Tryz.elTexts rfl (.const (.slice none 0 0)) (.tmp 5) rfl rfl (Own.nil _ w.heap.size _ _) rfl hr (tx_one _) (by simp only [maxLen]; omega) (by omega) (Nat.le_refl _) ?_
       intro A6 c6 w6 hown6 ho6 hm6
       rw [Nat.zero_add, List.nil_append] at hown6
       have b6 : Below w.heap.size w w6 := ho6.below (fun a ha => by cases ha) (Nat.le_refl _)
       have hz6 := b6.size)
    | (at_builtin; refine wpList_app1 Tryz.elTexts rfl (.tmp 6) (.tmp 8) rfl rfl (by exact hown6.alloc _) rfl (Blk.new' _ _ _ _ (by simp)) rfl (by simp [Value.oneCell']) (by simp only [maxLen]; omega) (by omega) (by simp; omega) ?_
       intro A7 c7 w7 hown7 ho7 hm7))
  go_ret
  exact ⟨A7, c7, rfl, by simpa [txCells] using hown7, b6.trans (ho7.of_alloc.below (fun a ha => (hown6.lt ha).1) hz6)⟩
end Go.Proofs.YteeoohnkfdffnaaGreatDoor
