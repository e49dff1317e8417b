/-
  mark: the contracts of behind and row, and of the library's functions that mark calls.
-/
import Derived.Test.YtommebalgghdjaaDoorLine2
import Derived.Test.YtommebalgghdjaaDoorMarkLaw
import Derived.Shelf.Strings.SlTrimAscii
namespace Go.Proofs.YtommebalgghdjaaDoor
open Go.RowKit

set_option maxRecDepth 100000 in
theorem behind_any (s : ByteArray) (w : World) (hs : s.size ≤ 1048576) :
    Calls Tryd.prog 64 #[.string s] w fun e w' => e = .returned (.tuple #[.string (S (restT (L s))), .int .i64 (colT 0 (L s) : Int), .bool (decide ((colT 0 (L s) : Int) ≤ 3))]) ∧ Below w.heap.size w w' := by
  have hst := strip_all (L s)
  have hcl := (colT_le (L s) 0).2
  rw [length_L] at hcl
  have HST := Lib.hid hst
  clear hst
  go_enter Tryd.func64, Tryd.ntmps64
  go_wp2_with fail
  refine (indent_any s _ hs).mono ?_
  rintro e w1 ⟨rfl, b1⟩
  go_wp2_with fail
  refine (strip_any s _ _ hs (by omega)).mono ?_
  rintro e w2 ⟨rfl, b2⟩
  rw [HST.out]
  have bb := b1.trans (b2.mono b1.size)
  go_wp2_with fail
  go_ret3
  exact ⟨rfl, bb⟩

set_option maxHeartbeats 1000000 in
set_option maxRecDepth 100000 in
theorem row_any (s : ByteArray) (c : UInt8) (w : World) (hc : c.toNat < 128) (hs : s.size ≤ 1099511627776) :
    Calls Tryd.prog 65 #[.string s, .int .u8 (c.toNat : Int)] w fun e w' => e = .returned (.int .i64 (rowT c (L s) : Int)) ∧ Below w.heap.size w w' := by
  go_enter Tryd.func65, Tryd.ntmps65
  go_wp2_with fail
  go_loopw [5] (fun _ wr => ∃ pos : Nat, pos ≤ s.size ∧ rowT c (L s) = pos + rowT c ((L s).drop pos) ∧ wr.heap[w.heap.size]? = some (.stringIter s pos) ∧ Below w.heap.size w wr)
    (fun _ wr => s.size - wr.iterPos w.heap.size)
  case atStart =>
    refine ⟨0, by omega, by simp, ?_, (Below.refl _ w).alloc (Nat.le_refl _) _⟩
    exact World.iter_heap w s 0
  case round =>
    obtain ⟨pos, hps, hR, hit, hbw⟩ := hrel
    have hsz : w.heap.size < wr.heap.size := (Array.getElem?_eq_some_iff.1 hit).1
    by_cases hp : pos < s.size
    · have hnx : ∀ ty, (Instr.next (.pointer (some ⟨w.heap.size, 0, none⟩)) true ty).run Tryd.prog wr = _ := fun ty => Lib.run_next_any_at wr w.heap.size s pos ty hit hp
      obtain ⟨⟨dlo, dhi⟩, dw, dle, dmid⟩ := decode_span s pos hp
      have hpl : pos < (L s).length := by simpa using hp
      have hdr : (L s).drop pos = (L s)[pos] :: (L s).drop (pos + 1) := List.drop_eq_getElem_cons hpl
      have hgb : s[pos]'hp = (L s)[pos]'hpl := get_L s pos hp
      generalize hbb : (L s)[pos] = b at *
      have hit2 := Lib.iterAt_heap wr w.heap.size s pos (pos + (Utf8.decode s pos).2) hit
      have hbw2 := Lib.below_iterAt hbw (k := w.heap.size) (by omega) s (pos + (Utf8.decode s pos).2)
      by_cases hbc : b = c
      · have hd := dlo (by rw [hbc]; exact hc)
        rw [hd] at hnx hit2 hbw2
        have HR : Hid (rowT c (L s) = (pos + 1) + rowT c ((L s).drop (pos + 1))) := Lib.hid (by
          rw [hR, hdr]; unfold rowT; rw [List.takeWhile_cons, if_pos (by simp [hbc]), List.length_cons]; omega)
        have Hit := Lib.hid hit
        rw [hbc] at hgb
        clear hd dlo dhi dmid hdr hR hbc hit hbw hbb
        go_wp2_with fail
        go_roundw
        case rel => exact ⟨pos + 1, by omega, HR.out, hit2, hbw2⟩
        case measure => simp only [World.iterPos, hit2, Hit.out]; omega
      · have HR : Hid (rowT c (L s) = pos) := Lib.hid (by
          rw [hR, hdr]; unfold rowT; rw [List.takeWhile_cons, if_neg (by simpa using hbc)]; rfl)
        have q1 : (((s[pos]'hp).toNat : Int) != (c.toNat : Int)) = true := by
          rw [bne_iff_ne, hgb]
          intro e
          exact hbc (UInt8.toNat_inj.1 (by omega))
        clear dlo dhi dmid hdr hR hit hbw hbb hbc hgb
        go_wp2_with fail
        go_ret
        rw [HR.out]
        exact ⟨rfl, hbw2⟩
    · have hnx : ∀ ty, (Instr.next (.pointer (some ⟨w.heap.size, 0, none⟩)) true ty).run Tryd.prog wr = _ := fun ty => Lib.run_next_end_at wr w.heap.size s pos ty hit hp
      have HR : Hid (rowT c (L s) = s.size) := Lib.hid (by
        rw [hR, List.drop_eq_nil_of_le (by simp; omega)]; simp [rowT]; omega)
      clear hR
      go_wp2_with fail
      go_ret
      rw [HR.out]
      exact ⟨rfl, hbw⟩

/-! ## the library's functions -/
theorem idx_mem (l : List UInt8) (c : UInt8) : decide (0 ≤ Lib.indexByte l c) = l.contains c := by
  induction l with
  | nil => rfl
  | cons b l ih =>
    have h1 := Lib.indexByte_ge l c
    rw [Lib.indexByte, List.contains_cons, ← ih]
    by_cases hb : b = c
    · subst hb; simp
    · have h2 : (b == c) = false := by simpa using hb
      have h3 : (c == b) = false := by simpa using fun e : c = b => hb e.symm
      rw [h2, h3]
      by_cases h4 : Lib.indexByte l c = -1
      · rw [h4]; rfl
      · have h5 : (Lib.indexByte l c == -1) = false := by simpa using h4
        rw [h5]
        simp only [Bool.false_eq_true, if_false, Bool.false_or]
        by_cases h6 : 0 ≤ Lib.indexByte l c
        · rw [decide_eq_true h6, decide_eq_true (by omega)]
        · omega
theorem contains_any (cs : ByteArray) (b : UInt8) (w : World) (hb : b.toNat < 128) :
    Calls Tryd.prog 62 #[.string cs, .int .i32 (b.toNat : Int)] w fun e w' => e = .returned (.bool ((L cs).contains b)) ∧ w = w' := by
  refine (Tryd.strings_ContainsRune_ascii cs (b.toNat : Int) w (by omega) (by omega)).mono ?_
  rintro e w1 ⟨rfl, rfl⟩
  rw [show ((b.toNat : Int).toNat.toUInt8) = b by simp, idx_mem]
  exact ⟨rfl, rfl⟩
theorem trimRight1_any (s : ByteArray) (c : UInt8) (hc : c.toNat < 128) (w : World) (hs : s.size ≤ 9223372036854775807) :
    Calls Tryd.prog 67 #[.string s, .string ⟨#[c]⟩] w fun e w' => e = .returned (.string (S (Lib.trimRightB (L s) c))) ∧ w = w' :=
  (Tryd.strings_TrimRight_one s c hc w hs).mono fun _ _ ⟨h, h'⟩ => ⟨h, h'.symm⟩
theorem trim1_any (s : ByteArray) (c : UInt8) (hc : c.toNat < 128) (w : World) (hs : s.size ≤ 9223372036854775807) :
    Calls Tryd.prog 26 #[.string s, .string ⟨#[c]⟩] w fun e w' => e = .returned (.string (S (Lib.trimB (L s) c))) ∧ Below w.heap.size w w' :=
  (Tryd.strings_Trim_one s c hc w hs).mono fun _ _ ⟨h, h'⟩ => ⟨h, by rcases h' with rfl | rfl; exact Below.refl _ _; exact (Below.refl _ _).drew⟩
theorem trimCs_any (s cs : ByteArray) (w : World) (hs : s.size ≤ 9223372036854775807) (hcs : cs.size < 4294967281) (ha : ∀ b ∈ L cs, b.toNat < 128) :
    Calls Tryd.prog 26 #[.string s, .string cs] w fun e w' => e = .returned (.string (S (Lib.trimS (L s) (L cs)))) ∧ Below w.heap.size w w' :=
  Any.strings_Trim_ascii Tryd.lays160 zeroSet (by kernel_rfl) s cs w hs hcs (fun _ b hb => ha b (List.mem_of_getElem? hb))
theorem trimRightCs_any (s cs : ByteArray) (w : World) (hs : s.size ≤ 9223372036854775807) (hcs : cs.size < 4294967281) (ha : ∀ b ∈ L cs, b.toNat < 128) :
    Calls Tryd.prog 67 #[.string s, .string cs] w fun e w' => e = .returned (.string (S (Lib.trimRightS (L s) (L cs)))) ∧ Below w.heap.size w w' :=
  Any.strings_TrimRight_ascii Tryd.lays162 zeroSet (by kernel_rfl) s cs w hs hcs (fun _ b hb => ha b (List.mem_of_getElem? hb))
end Go.Proofs.YtommebalgghdjaaDoor
