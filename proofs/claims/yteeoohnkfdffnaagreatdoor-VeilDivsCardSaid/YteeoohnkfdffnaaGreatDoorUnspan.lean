/-
  frame.Unspan: its contract: the line of pieces.
-/
import Derived.Test.YteeoohnkfdffnaaGreatDoorSpanLaw
import Derived.Test.YteeoohnkfdffnaaGreatDoorFrameSpans
namespace Go.Proofs.YteeoohnkfdffnaaGreatDoor
open Go.RowKit

theorem Reads.piece {w : World} {B n : Nat} {A : Option Addr} {ps : List PieceT} (h : Reads w B 3 A n (pieceCells ps)) {k : Nat} {p : PieceT} (hp : ps[k]? = some p) (hk : k < n) :
    ∃ ad, A = some ad ∧ ad.block < B ∧ w.cell? (ad.add (k * 3)) = some (.bool p.span) ∧ w.cell? ⟨(ad.add (k * 3)).block, (ad.add (k * 3)).off + 1, none⟩ = some (.string p.label) ∧ w.cell? ⟨(ad.add (k * 3)).block, (ad.add (k * 3)).off + 2, none⟩ = some (.string p.text) := by
  obtain ⟨ad, e, hb, h0, hj⟩ := h.elem hk
  have g := fun j (hj : j < 3) => flat_get PieceT.cells 3 piece_len ps k j hj hp
  exact ⟨ad, e, hb, h0 _ ((g 0 (by omega)).trans rfl), hj 1 _ (by omega) ((g 1 (by omega)).trans rfl), hj 2 _ (by omega) ((g 2 (by omega)).trans rfl)⟩
theorem piecesB_take (l : List PieceT) (k : Nat) : (piecesB (l.take k)).length ≤ (piecesB l).length := by
  conv => rhs; rw [← List.take_append_drop k l]
  simp only [piecesB, List.flatMap_append, List.length_append]
  omega
theorem piecesB_snoc (l : List PieceT) (x : PieceT) : piecesB (l ++ [x]) = piecesB l ++ pieceB x := by simp [piecesB]

set_option maxHeartbeats 4000000 in
set_option maxRecDepth 100000 in
theorem unspan_any (A : Option Addr) (n c : Nat) (l : List PieceT) (w : World) (hr : Reads w w.heap.size 3 A n (pieceCells l)) (hn : n ≤ 1073741824) (ht : (piecesB l).length ≤ 140737488355328) :
    Calls Tryz.prog 46 #[.slice A n c] w fun e w' => e = .returned (.string (S (piecesB l))) ∧ Below w.heap.size w w' := by
  have hlen : l.length = n := by have := hr.1; rw [pieces_length] at this; omega
  have HL := Lib.hid hlen
  clear hlen
  go_enter Tryz.func46, Tryz.ntmps46
  go_wp2_with fail
  go_loopw [8] (fun i wr => ∃ (k : Nat), k ≤ n ∧ i = .int .i64 k ∧ Bld w.heap.size w.heap.size (piecesB (l.take k)) wr ∧ Below w.heap.size w wr)
    (fun i _ => n - (intOf i).toNat)
  case atStart => exact ⟨0, Nat.zero_le _, rfl, Bld.new w, (Below.refl _ _).alloc (Nat.le_refl _) _⟩
  case round =>
    obtain ⟨k, hk, rfl, hB, hb⟩ := hrel
    by_cases hlt : k < n
    · obtain ⟨x, hx⟩ : ∃ x, l[k]? = some x := ⟨_, List.getElem?_eq_getElem (by rw [HL.out]; omega)⟩
      obtain ⟨ad, rfl, _, g0, g1, g2⟩ := (hr.below hb).piece hx hlt
      have hbs := hb.size
      have HK : Hid (piecesB (l.take (k + 1)) = piecesB (l.take k) ++ pieceB x) := Lib.hid (by
        rw [List.take_add_one, hx, Option.toList_some, piecesB_snoc])
      have hle : (piecesB (l.take k)).length + (pieceB x).length ≤ 140737488355328 := by
        have := piecesB_take l (k + 1)
        rw [HK.out, List.length_append] at this
        omega
      clear hx
      generalize piecesB (l.take k) = kl at *
      cases hsp : x.span
      · rw [hsp] at g0
        have hX : pieceB x = L x.text := by unfold pieceB; rw [hsp]; rfl
        rw [hX, length_L] at hle
        have HX := Lib.hid hX
        clear hX hsp
        go_wp2_with fail
        refine (writeString_any w.heap.size w.heap.size kl x.text _ (hB.alloc _) hle (by simp; omega)).mono ?_
        rintro e w1 ⟨rfl, hB1, b1, k1⟩
        have hb1 := (hb.alloc hbs _).trans b1
        go_wp2_with fail
        go_roundw
        case rel => exact ⟨k + 1, by omega, by go_num, by rw [HK.out, HX.out]; exact hB1, hb1⟩
        case measure => simp [intOf]; omega
      · rw [hsp] at g0
        obtain ⟨s, hs⟩ : ∃ s, (⟨#[123, 124]⟩ : ByteArray) ++ x.label ++ (⟨#[58]⟩ : ByteArray) ++ x.text ++ (⟨#[124, 125]⟩ : ByteArray) = s := ⟨_, rfl⟩
        have hX : pieceB x = L s := by
          unfold pieceB
          rw [hsp, if_pos rfl, ← hs]
          simp only [L_append]
          rfl
        rw [hX, length_L] at hle
        have hsz : s.size = x.label.size + x.text.size + 5 := by
          rw [← hs]
          simp only [ByteArray.size_append]
          have : (⟨#[123, 124]⟩ : ByteArray).size = 2 := rfl
          have : (⟨#[58]⟩ : ByteArray).size = 1 := rfl
          have : (⟨#[124, 125]⟩ : ByteArray).size = 2 := rfl
          omega
        have hsz2 : x.label.size + x.text.size + 5 ≤ 140737488355328 := by omega
        have HX := Lib.hid hX
        have HS := Lib.hid hsz
        clear hX hsp hsz
        go_wp2_with fail
        refine (writeString_any w.heap.size w.heap.size kl s _ (hB.alloc _) (by rw [HS.out] at hle ⊢; exact hle) (by simp; omega)).mono ?_
        rintro e w1 ⟨rfl, hB1, b1, k1⟩
        have hb1 := (hb.alloc hbs _).trans b1
        go_wp2_with fail
        go_roundw
        case rel => exact ⟨k + 1, by omega, by go_num, by rw [HK.out, HX.out]; exact hB1, hb1⟩
        case measure => simp [intOf]; omega
    · go_wp2_with fail
      refine (string_any w.heap.size w.heap.size _ _ hB hb.size).mono ?_
      rintro e w1 ⟨rfl, hB1, b1, k1⟩
      have : k = n := by omega
      subst this
      rw [List.take_of_length_le (by rw [HL.out]; omega)]
      go_wp2_with fail
      go_ret
      exact ⟨rfl, hb.trans b1⟩
end Go.Proofs.YteeoohnkfdffnaaGreatDoor
