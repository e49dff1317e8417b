/-
  frame.Spans: its contract.
-/
import Derived.Test.YteeoohnkfdffnaaGreatDoorFrameSpan
import Derived.Test.YteeoohnkfdffnaaGreatDoorRepair
namespace Go.Proofs.YteeoohnkfdffnaaGreatDoor
open Go.RowKit

/-- a piece of a line -/
structure PieceT where
  span : Bool
  label : ByteArray
  text : ByteArray
  deriving DecidableEq
def PieceT.cells (p : PieceT) : List Value := [.bool p.span, .string p.label, .string p.text]
def pieceCells (ps : List PieceT) : List Value := ps.flatMap PieceT.cells
theorem piece_len (p : PieceT) : p.cells.length = 3 := rfl
theorem pieces_length (ps : List PieceT) : (pieceCells ps).length = ps.length * 3 := flat_length _ 3 piece_len ps
theorem Tryz.infoPiece : (Tryz.prog.info? 84).map (fun i => (i.zero, i.size, i.bytes)) = some (some (.agg #[.bool false, .string ⟨#[]⟩, .string ⟨#[]⟩]), 3, 40) := by kernel_rfl
theorem Tryz.elPieces : Elem Tryz.prog 81 84 3 40 := Elem.mk' Tryz.underlying81 Tryz.infoPiece rfl (by decide)

/-- the pieces from pos on; frm: behind the last span -/
def spF (s : ByteArray) : Nat → Nat → Nat → List PieceT → List PieceT
  | 0, _, _, out => out
  | f + 1, pos, frm, out =>
    if pos < s.size then
      if pos < frm then spF s f (pos + (Utf8.decode s pos).2) frm out
      else match spanT ((L s).drop pos) with
        | none => spF s f (pos + (Utf8.decode s pos).2) frm out
        | some (a, t) => spF s f (pos + (Utf8.decode s pos).2) (pos + (a.length + t.length + 5)) ((if frm < pos then out ++ [⟨false, ⟨#[]⟩, s.extract frm pos⟩] else out) ++ [⟨true, S a, S t⟩])
    else if frm < s.size then out ++ [⟨false, ⟨#[]⟩, s.extract frm s.size⟩] else out
def spansT (s : ByteArray) : List PieceT := spF s (s.size + 1) 0 0 []

theorem index_hit (sub : List UInt8) : ∀ s : List UInt8, 0 ≤ Lib.index s sub → ∃ a r, s = a ++ sub ++ r ∧ Lib.index s sub = (a.length : Int)
  | [], h => by
    unfold Lib.index at h ⊢
    cases sub with
    | nil => exact ⟨[], [], rfl, rfl⟩
    | cons => simp at h
  | b :: l, h => by
    unfold Lib.index at h ⊢
    by_cases hp : sub.isPrefixOf (b :: l) = true
    · obtain ⟨r, hr⟩ := List.isPrefixOf_iff_prefix.1 hp
      exact ⟨[], r, by simp [hr], by rw [if_pos hp]; rfl⟩
    · rw [if_neg hp] at h ⊢
      by_cases h1 : (Lib.index l sub == -1) = true
      · rw [if_pos h1] at h; omega
      · rw [if_neg h1] at h ⊢
        have h2 := Lib.index_ge l sub
        have h3 : Lib.index l sub ≠ -1 := fun e => h1 (by rw [e]; rfl)
        obtain ⟨a, r, e, ea⟩ := index_hit sub l (by omega)
        exact ⟨b :: a, r, by rw [e]; simp, by rw [ea]; simp⟩
theorem cut_hit {s p : List UInt8} (h : (Lib.cut s p).2.2 = true) : s = (Lib.cut s p).1 ++ p ++ (Lib.cut s p).2.1 := by
  unfold Lib.cut at h ⊢
  split at h
  · rename_i h0
    obtain ⟨a, r, e, ea⟩ := index_hit p s h0
    rw [if_pos h0, ea]
    simp only [Int.toNat_natCast]
    conv => lhs; rw [e]
    rw [e]
    simp
  · simp at h
theorem spanT_some {l a t : List UInt8} (h : spanT l = some (a, t)) : ∃ r, l = [123, 124] ++ a ++ [58] ++ t ++ [124, 125] ++ r ∧ labelT a = true := by
  unfold spanT at h
  split at h
  · rename_i hp
    obtain ⟨q, hq⟩ := List.isPrefixOf_iff_prefix.1 hp
    have hd : l.drop 2 = q := by rw [← hq]; rfl
    rw [hd] at h
    split at h
    · rename_i h1
      rw [Bool.and_eq_true] at h1
      split at h
      · rename_i h2
        have c1 := cut_hit h1.1
        have c2 := cut_hit h2
        injection h with h
        injection h with ha ht
        rw [ha] at c1
        rw [ha] at h1
        rw [ht] at c2
        refine ⟨(Lib.cut (Lib.cut q [58]).2.1 [124, 125]).2.1, ?_, h1.2⟩
        rw [← hq]
        conv => lhs; rw [c1, c2]
        simp
      · cases h
    · cases h
  · cases h
theorem spanT_le {l a t : List UInt8} (h : spanT l = some (a, t)) : a.length + t.length + 5 ≤ l.length := by
  obtain ⟨r, e, _⟩ := spanT_some h
  rw [e]; simp; omega

theorem only_iter (w : World) (k : Nat) (s : ByteArray) (pos : Nat) : Only w (w.iterAt k s pos) (some ⟨k, 0, none⟩) :=
  ⟨rfl, rfl, rfl, by rw [Lib.iterAt_size]; exact Nat.le_refl _, fun j _ hj => Lib.iterAt_other w k j s pos (fun e => hj (by rw [e]; rfl))⟩

set_option maxHeartbeats 4000000 in
set_option maxRecDepth 100000 in
theorem spans_any (s : ByteArray) (w : World) (hg : Glb w) (hs : s.size ≤ 1048576) :
    Calls Tryz.prog 45 #[.string s] w fun e w' => ∃ A n c, e = .returned (.slice A n c) ∧ Own w' w.heap.size 84 3 A n c (pieceCells (spansT s)) ∧ Below w.heap.size w w' := by
  go_enter Tryz.func45, Tryz.ntmps45
  go_wp2_with fail
  go_loopw [3, 4, 5] (fun s3 s4 s5 wr => ∃ (pos frm f : Nat) (A1 : Option Addr) (n1 c1 : Nat) (out : List PieceT), pos ≤ s.size ∧ frm ≤ s.size ∧ s.size + 1 ≤ f + pos ∧ s3 = .slice A1 n1 c1 ∧ s4 = .int .i64 frm ∧ s5 = .int .i64 frm ∧ n1 ≤ 2 * pos ∧
    spansT s = spF s f pos frm out ∧ Own wr (w.heap.size + 1) 84 3 A1 n1 c1 (pieceCells out) ∧ wr.heap[w.heap.size]? = some (.stringIter s pos) ∧ Below w.heap.size w wr) (fun _ _ _ wr => s.size - wr.iterPos w.heap.size)
  case atStart => exact ⟨0, 0, s.size + 1, none, 0, 0, [], by omega, by omega, by omega, rfl, rfl, rfl, by omega, rfl, Own.nil _ _ _ _, World.iter_heap w s 0, (Below.refl _ w).alloc (Nat.le_refl _) _⟩
  case round =>
    obtain ⟨pos, frm, f, A1, n1, c1, out, hps, hfs, hf, rfl, rfl, rfl, hn1, hI, hown, hit, hbw⟩ := hrel
    have hsz : w.heap.size < wr.heap.size := (Array.getElem?_eq_some_iff.1 hit).1
    obtain ⟨f, rfl⟩ : ∃ g, f = g + 1 := ⟨f - 1, by omega⟩
    rw [spF] at hI
    by_cases hp : pos < s.size
    · rw [if_pos hp] at hI
      have hnx : ∀ ty, (Instr.next (.pointer (some ⟨w.heap.size, 0, none⟩)) true ty).run Tryz.prog wr = _ := fun ty => Lib.run_next_any_at wr w.heap.size s pos ty hit hp
      obtain ⟨_, dw, dle, _⟩ := decode_span s pos hp
      have hit2 := Lib.iterAt_heap wr w.heap.size s pos (pos + (Utf8.decode s pos).2) hit
      have hbw2 := Lib.below_iterAt hbw (k := w.heap.size) (by omega) s (pos + (Utf8.decode s pos).2)
      generalize Utf8.decode s pos = D at *
      obtain ⟨r, dd⟩ := D
      simp only at hI dw dle hit2 hbw2 hnx
      have hown2 := hown.only (only_iter wr w.heap.size s (pos + dd)) (fun a b ha hb => by
        injection hb with hb
        have := (hown.lt ha).1
        rw [← hb]; show a.block ≠ w.heap.size; omega)
      have Hit := Lib.hid hit
      clear hit hown hbw
      generalize wr.iterAt w.heap.size s (pos + dd) = W at *
      have hW := (Array.getElem?_eq_some_iff.1 hit2).1
      by_cases hskip : pos < frm
      · rw [if_pos hskip] at hI
        have HI := Lib.hid hI
        clear hI
        go_wp2_with fail
        go_roundw
        case rel => exact ⟨pos + dd, frm, f, A1, n1, c1, out, by omega, by omega, by omega, rfl, rfl, rfl, by omega, HI.out, hown2, hit2, hbw2⟩
        case measure => simp only [World.iterPos, hit2, Hit.out]; omega
      · rw [if_neg hskip] at hI
        have hgW := hg.below hbw2
        obtain ⟨V, hV⟩ : ∃ V, spanT ((L s).drop pos) = V := ⟨_, rfl⟩
        have hLe : L (s.extract pos s.size) = (L s).drop pos := by rw [L_extract, ← length_L, List.take_length]
        have hsp := span_any (s.extract pos s.size) W hgW (by rw [ByteArray.size_extract]; omega)
        rw [hLe, hV] at hsp
        rw [hV] at hI
        have hVle : ∀ a t, V = some (a, t) → pos + (a.length + t.length + 5) ≤ s.size := fun a t h => by
          have := spanT_le (hV.trans h)
          rw [List.length_drop, length_L] at this
          omega
        have HSP := Lib.hid hsp
        have x1 : (0 : Int) ≤ (pos : Int) := by omega
        have x2 : (pos : Int) ≤ (s.size : Int) := by omega
        have x3 : ((pos : Int)).toNat = pos := by omega
        clear hsp hV hLe
        cases V with
        | none =>
          have HI : Hid (spansT s = spF s f (pos + dd) frm out) := Lib.hid hI
          clear hI hVle
          go_wp2_with fail
          refine HSP.out.mono ?_
          rintro e w1 ⟨rfl, b1⟩
          unfold spanV
          have hown3 := hown2.below b1 (Nat.le_refl _)
          have hit3 := (b1.block w.heap.size hW).trans hit2
          have hbw3 := hbw2.trans (b1.mono (Nat.le_of_lt hW))
          have hw1 := (Array.getElem?_eq_some_iff.1 hit3).1
          clear HSP b1 hown2 hbw2 hgW
          go_wp2_with fail
          go_roundw
          case rel => exact ⟨pos + dd, frm, f, A1, n1, c1, out, by omega, by omega, by omega, rfl, rfl, rfl, by omega, HI.out, hown3.alloc _, (Below.heap_alloc w1 _ _ hw1).trans hit3, hbw3.alloc (Nat.le_of_lt hw1) _⟩
          case measure => simp only [World.iterPos, (Below.heap_alloc w1 _ _ hw1).trans hit3, Hit.out]; omega
        | some V =>
          obtain ⟨a, t⟩ := V
          have hN := hVle a t rfl
          obtain ⟨N, hNe⟩ : ∃ N, a.length + t.length + 5 = N := ⟨_, rfl⟩
          have hN0 : 0 < N := by omega
          unfold spanV at HSP
          simp only at HSP hI
          rw [hNe] at HSP hN hI
          have q0 : ((N : Int) == 0) = false := beq_eq_false_iff_ne.2 (by omega)
          clear hVle hNe
          have HI := Lib.hid hI
          clear hI
          go_wp2_with fail
          refine HSP.out.mono ?_
          rintro e w1 ⟨rfl, b1⟩
          have hown3 := hown2.below b1 (Nat.le_refl _)
          have hit3 := (b1.block w.heap.size hW).trans hit2
          have hbw3 := hbw2.trans (b1.mono (Nat.le_of_lt hW))
          have hw1 := (Array.getElem?_eq_some_iff.1 hit3).1
          clear HSP b1 hown2 hbw2 hgW
          by_cases hfp : frm < pos
          · have HI2 : Hid (spansT s = spF s f (pos + dd) (pos + N) (out ++ [⟨false, ⟨#[]⟩, s.extract frm pos⟩] ++ [⟨true, S a, S t⟩])) := Lib.hid (by rw [HI.out, if_pos hfp])
            clear HI
            have y1 : (0 : Int) ≤ (frm : Int) := by omega
            have y2 : (frm : Int) ≤ (pos : Int) := by omega
            have y3 : decide ((frm : Int) < (pos : Int)) = true := decide_eq_true (by omega)
            have Bx : Blk (w1.alloc (.cells #[.bool true, .string (S a), .string (S t)] 84)) w1.heap.size 84 #[.bool true, .string (S a), .string (S t)] := Blk.new _ _ _
            go_wp2_with (first
              | (at_builtin; refine wpList_app1 Tryz.elPieces rfl (.tmp 29) (.tmp 35) rfl rfl (by exact (hown3.alloc _).alloc _) rfl (Blk.new' _ _ _ _ (by simp)) rfl (by simp [Value.oneCell']) (by simp only [maxLen]; omega) (by omega) (by simp; omega) ?_
                 intro A2 c2 w3 hown4 ho4 hm4
                 have Bx3 := (Bx.alloc (.cells #[.bool false, .string ⟨#[]⟩, .string (s.extract frm pos)] 84)).only ho4 (fun a ha => by have := (hown3.lt ha).2; omega)
                 have d0 := Bx3.cell 0
                 have d1 := Bx3.cell 1
                 have d2 := Bx3.cell 2
                 have hlow := ho4.of_alloc.of_alloc.below (K := w.heap.size + 1) (fun a ha => (hown3.lt ha).1) (by omega)
                 have hz3 := hlow.size)
              | (at_builtin; refine wpList_app1 Tryz.elPieces rfl (.tmp 37) (.tmp 39) rfl rfl (by exact hown4.alloc _) rfl (Blk.new' _ _ _ _ (by simp)) rfl (by simp [Value.oneCell']) (by simp only [maxLen]; omega) (by omega) (by simp; omega) ?_
                 intro A3 c3 w5 hown5 ho5 hm5
                 have hlow2 := ho5.of_alloc.below (K := w.heap.size + 1) (fun a ha => (hown4.lt ha).1) (by omega)))
            have hlow3 := hlow.trans hlow2
            have hit5 := (hlow3.block w.heap.size (by omega)).trans hit3
            go_roundw
            case rel =>
              refine ⟨pos + dd, pos + N, f, A3, n1 + 1 + 1, c3, _, by omega, by omega, by omega, rfl, by go_num, by go_num, by omega, HI2.out, ?_, hit5, hbw3.trans (hlow3.mono (by omega))⟩
              simpa [pieceCells, PieceT.cells] using hown5
            case measure => simp only [World.iterPos, hit5, Hit.out]; omega
          · have HI2 : Hid (spansT s = spF s f (pos + dd) (pos + N) (out ++ [⟨true, S a, S t⟩])) := Lib.hid (by rw [HI.out, if_neg hfp])
            clear HI
            have y3 : decide ((frm : Int) < (pos : Int)) = false := decide_eq_false (by omega)
            have y4 : decide (frm < pos) = false := decide_eq_false (by omega)
            have Bx : Blk (w1.alloc (.cells #[.bool true, .string (S a), .string (S t)] 84)) w1.heap.size 84 #[.bool true, .string (S a), .string (S t)] := Blk.new _ _ _
            go_wp2_with (at_builtin; refine wpList_app1 Tryz.elPieces rfl (.tmp 37) (.tmp 39) rfl rfl (by exact (hown3.alloc _).alloc _) rfl (Blk.new' _ _ _ _ (by simp)) rfl (by simp [Value.oneCell']) (by simp only [maxLen]; omega) (by omega) (by simp; omega) ?_
                         intro A3 c3 w5 hown5 ho5 hm5
                         have hlow3 := ho5.of_alloc.of_alloc.below (K := w.heap.size + 1) (fun a ha => (hown3.lt ha).1) (by omega))
            have hit5 := (hlow3.block w.heap.size (by omega)).trans hit3
            go_roundw
            case rel =>
              refine ⟨pos + dd, pos + N, f, A3, n1 + 1, c3, _, by omega, by omega, by omega, rfl, by go_num, by go_num, by omega, HI2.out, ?_, hit5, hbw3.trans (hlow3.mono (by omega))⟩
              simpa [pieceCells, PieceT.cells] using hown5
            case measure => simp only [World.iterPos, hit5, Hit.out]; omega
    · rw [if_neg hp] at hI
      have hnx : ∀ ty, (Instr.next (.pointer (some ⟨w.heap.size, 0, none⟩)) true ty).run Tryz.prog wr = _ := fun ty => Lib.run_next_end_at wr w.heap.size s pos ty hit hp
      have hbs := hbw.size
      by_cases hfl : frm < s.size
      · rw [if_pos hfl] at hI
        have HI := Lib.hid hI
        clear hI
        have y1 : (0 : Int) ≤ (frm : Int) := by omega
        have y2 : (frm : Int) ≤ (s.size : Int) := by omega
        go_wp2_with (at_builtin; refine wpList_app1 Tryz.elPieces rfl (.tmp 51) (.tmp 56) rfl rfl (by exact hown.alloc _) rfl (Blk.new' _ _ _ _ (by simp)) rfl (by simp [Value.oneCell']) (by simp only [maxLen]; omega) (by omega) (by simp; omega) ?_
                     intro A3 c3 w5 hown5 ho5 hm5
                     have hlow3 := ho5.of_alloc.below (K := w.heap.size + 1) (fun a ha => (hown.lt ha).1) (by omega))
        go_ret
        refine ⟨A3, n1 + 1, c3, rfl, ?_, hbw.trans (hlow3.mono (by omega))⟩
        rw [HI.out]
        have h5 := hown5.base_le (base' := w.heap.size) (by omega)
        simpa [pieceCells, PieceT.cells] using h5
      · rw [if_neg hfl] at hI
        have HI := Lib.hid hI
        clear hI
        go_wp2_with fail
        go_ret
        exact ⟨A1, n1, c1, rfl, by rw [HI.out]; exact hown.base_le (by omega), hbw⟩
end Go.Proofs.YteeoohnkfdffnaaGreatDoor
