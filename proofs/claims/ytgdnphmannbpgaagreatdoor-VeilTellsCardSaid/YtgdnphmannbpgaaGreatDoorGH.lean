/- Joined texts: WriteRune, Repair, FrameSpan, FrameSpans, FrameParse. -/
import Derived.Test.YtgdnphmannbpgaaGreatDoorGB
import Derived.Shelf.Strings.BuilderRune
import Derived.Test.YtgdnphmannbpgaaGreatDoorGC
import Derived.Laws.ResultCell
/-
  (*strings.Builder).WriteRune: the library's contract, laid by hand (the one command passes over it at this dump).
-/
namespace Go.Proofs.YtgdnphmannbpgaaGreatDoor
open Go.Shelf Go.RowKit
def Tryz.renRf (n : Nat) : Nat := if n = 168 then 63 else if n = 240 then 81 else if n = 242 then 82 else if n = 276 then 105 else if n = 278 then 106 else n
def Tryz.renRt (n : Nat) : Nat := match n with
  | 0 => 0
  | 3 => 3
  | 4 => 4
  | 5 => 5
  | 9 => 9
  | 20 => 20
  | 21 => 21
  | 37 => 109
  | 46 => 157
  | 51 => 150
  | 70 => 108
  | 72 => 111
  | 75 => 113
  | 80 => 118
  | 164 => 148
  | n => n
def Tryz.renR : Go.Shelf.Ren := ⟨Tryz.renRf, Tryz.renRt, fun n => n⟩
theorem Tryz.lays168 : Go.Proofs.Lays.n168 Tryz.prog Tryz.renR := {
  mixed := by kernel_rfl
  f168 := Tryz.func63.trans (congrArg some (by kernel_rfl))
  f240 := Tryz.func81.trans (congrArg some (by kernel_rfl))
  f242 := Tryz.func82.trans (congrArg some (by kernel_rfl))
  f276 := Tryz.func105.trans (congrArg some (by kernel_rfl))
  f278 := Tryz.func106.trans (congrArg some (by kernel_rfl))
  t0 := Tryz.underlying0, a0 := Tryz.isAgg0, z0 := Tryz.sizeOf0, v0 := Tryz.zeroValue0
  t3 := Tryz.underlying3, a3 := Tryz.isAgg3, z3 := Tryz.sizeOf3, v3 := Tryz.zeroValue3
  t4 := Tryz.underlying4, a4 := Tryz.isAgg4, z4 := Tryz.sizeOf4, v4 := Tryz.zeroValue4
  t5 := Tryz.underlying5, a5 := Tryz.isAgg5, z5 := Tryz.sizeOf5, v5 := Tryz.zeroValue5
  t9 := Tryz.underlying9, a9 := Tryz.isAgg9, z9 := Tryz.sizeOf9, v9 := Tryz.zeroValue9
  t20 := Tryz.underlying20, a20 := Tryz.isAgg20, z20 := Tryz.sizeOf20, v20 := Tryz.zeroValue20
  t21 := Tryz.underlying21, a21 := Tryz.isAgg21, z21 := Tryz.sizeOf21, v21 := Tryz.zeroValue21
  t37 := Tryz.underlying109, a37 := Tryz.isAgg109, z37 := Tryz.sizeOf109, v37 := Tryz.zeroValue109
  t46 := Tryz.underlying157, a46 := Tryz.isAgg157, z46 := Tryz.sizeOf157, v46 := Tryz.zeroValue157
  t51 := Tryz.underlying150, a51 := Tryz.isAgg150, z51 := Tryz.sizeOf150, v51 := Tryz.zeroValue150
  t70 := Tryz.underlying108, a70 := Tryz.isAgg108, z70 := Tryz.sizeOf108, v70 := Tryz.zeroValue108
  t72 := Tryz.underlying111, a72 := Tryz.isAgg111, z72 := Tryz.sizeOf111, v72 := Tryz.zeroValue111
  t75 := Tryz.underlying113, a75 := Tryz.isAgg113, z75 := Tryz.sizeOf113, v75 := Tryz.zeroValue113
  t164 := Tryz.underlying148, a164 := Tryz.isAgg148, z164 := Tryz.sizeOf148, v164 := Tryz.zeroValue148 }
theorem Tryz.extraR : Builder.Extra Tryz.prog Tryz.renR := {
  sizeBuilder := by kernel_rfl
  liesBuilder := by kernel_rfl
  t5 := Tryz.underlying5
  a5 := Tryz.isAgg5
  z5 := Tryz.sizeOf5
  v5 := Tryz.zeroValue5
  infoByte := by kernel_rfl
  cellsByte := by kernel_rfl
  sizeByte := by kernel_rfl
  neB5 := by decide }

/-- b.WriteRune(r) -/
theorem writeRune_any (B b : Nat) (l : List UInt8) (r : Int) (w : World) (hr0 : -2147483648 ≤ r) (hr1 : r ≤ 2147483647) (h : Bld B b l w) (hlen : l.length + 4 ≤ 140737488355328) (hBw : B ≤ w.heap.size) :
    Calls Tryz.prog 63 #[.pointer (some ⟨b, 0, none⟩), .int .i32 r] w fun e w' => (∃ n : Int, e = .returned (.tuple #[.int .i64 n, .nilIface])) ∧
      Bld B b (l ++ Lib.encodeRune r) w' ∧ Below B w w' ∧ Lib.OthersKept 5 (some b) w w' := by
  refine (Any.Builder_WriteRune_k Tryz.lays168 Tryz.extraR B b (Lib.byteCells l) r hr0 hr1 w h (by rw [Lib.byteCells_length]; exact hlen) hBw).mono ?_
  rintro e w' ⟨he, h1, h2, h3⟩
  refine ⟨⟨_, he⟩, Or.inr ?_, h2, h3⟩
  rw [Lib.byteCells_append, Lib.byteCells_encodeRune]
  exact h1
end Go.Proofs.YtgdnphmannbpgaaGreatDoor
/-
  repair.Text: its contract.
-/
namespace Go.Proofs.YtgdnphmannbpgaaGreatDoor
open Go.RowKit

/-- what stands for the rune at pos -/
def runeP (s : ByteArray) (pos : Nat) : List UInt8 :=
  if (Utf8.decode s pos).1 = 0 ∨ (Utf8.decode s pos).1 = 65533 then [239, 191, 189]
  else if (Utf8.decode s pos).1 = 13 then [10]
  else if (Utf8.decode s pos).1 = 10 ∧ 0 < pos ∧ (L s)[pos - 1]? = some 13 then []
  else Lib.encodeRune (Utf8.decode s pos).1
def textF (s : ByteArray) : Nat → Nat → List UInt8
  | 0, _ => []
  | f + 1, pos => if pos < s.size then runeP s pos ++ textF s f (pos + (Utf8.decode s pos).2) else []
def repT (s : ByteArray) : List UInt8 := textF s s.size 0

theorem encodeRune_le (r : Int) : (Lib.encodeRune r).length ≤ 4 := by rw [← Lib.runeCells_length]; exact (Lib.runeCells_le r).2
theorem runeP_le (s : ByteArray) (pos : Nat) : (runeP s pos).length ≤ 4 := by
  unfold runeP
  split
  · simp
  split
  · simp
  split
  · simp
  · exact encodeRune_le _
theorem textF_le (s : ByteArray) : ∀ f pos, (textF s f pos).length ≤ 4 * f
  | 0, _ => by simp [textF]
  | f + 1, pos => by
    rw [textF]
    split
    · have := textF_le s f (pos + (Utf8.decode s pos).2)
      have := runeP_le s pos
      rw [List.length_append]; omega
    · simp
theorem repT_le (s : ByteArray) : (repT s).length ≤ 4 * s.size := textF_le s _ _
theorem decode_le (s : ByteArray) (pos : Nat) : (Utf8.decode s pos).1 ≤ 1114111 := by
  rw [Lib.decode_at]
  exact Lib.decodeN_rune_le _ _ _ _ _ (UInt8.toNat_lt _)

theorem byte_ne' {x : UInt8} (h : ¬ x = 13) : ((x.toNat : Int) == 13) = false := by
  refine beq_eq_false_iff_ne.2 fun e => h (UInt8.toNat_inj.1 ?_)
  have : x.toNat = 13 := by omega
  rw [this]; rfl

set_option maxHeartbeats 1000000 in
set_option maxRecDepth 100000 in
theorem repair_any (s : ByteArray) (w : World) (hs : s.size ≤ 1099511627776) :
    Calls Tryz.prog 31 #[.string s] w fun e w' => e = .returned (.string (S (repT s))) ∧ Below w.heap.size w w' := by
  go_enter Tryz.func31, Tryz.ntmps31
  go_wp2_with fail
  go_loopw [4] (fun _ wr => ∃ (pos f : Nat) (acc : List UInt8), pos ≤ s.size ∧ s.size ≤ f + pos ∧ repT s = acc ++ textF s f pos ∧ acc.length ≤ 4 * pos ∧ Bld w.heap.size w.heap.size acc wr ∧ wr.heap[w.heap.size + 1]? = some (.stringIter s pos) ∧ Below w.heap.size w wr)
    (fun _ wr => s.size - wr.iterPos (w.heap.size + 1))
  case atStart =>
    refine ⟨0, s.size, [], by omega, by omega, rfl, by simp, (Bld.new w).alloc _, ?_, ((Below.refl _ w).alloc (Nat.le_refl _) _).alloc (by simp) _⟩
    have := World.iter_heap (w.alloc (.cells #[.pointer none, .slice none 0 0] 111)) s 0
    simpa using this
  case round =>
    obtain ⟨pos, f, acc, hps, hf, hE, hal, hI, hit, hbw⟩ := hrel
    have hsz : w.heap.size + 1 < wr.heap.size := (Array.getElem?_eq_some_iff.1 hit).1
    by_cases hp : pos < s.size
    · obtain ⟨f, rfl⟩ : ∃ f', f = f' + 1 := ⟨f - 1, by omega⟩
      rw [textF, if_pos hp] at hE
      have hnx : ∀ ty, (Instr.next (.pointer (some ⟨w.heap.size + 1, 0, none⟩)) true ty).run Tryz.prog wr = _ := fun ty => Lib.run_next_any_at wr (w.heap.size + 1) s pos ty hit hp
      obtain ⟨_, dw, dle, _⟩ := decode_span s pos hp
      have hrl := decode_le s pos
      have hI2 := hI.iterAt hit (pos + (Utf8.decode s pos).2)
      have hit2 := Lib.iterAt_heap wr (w.heap.size + 1) s pos (pos + (Utf8.decode s pos).2) hit
      have hbw2 := Lib.below_iterAt hbw (k := w.heap.size + 1) (by omega) s (pos + (Utf8.decode s pos).2)
      have hsz2 : w.heap.size ≤ (wr.iterAt (w.heap.size + 1) s (pos + (Utf8.decode s pos).2)).heap.size := by rw [Lib.iterAt_size]; omega
      have hrp : runeP s pos = runeP s pos := rfl
      conv at hrp => rhs; unfold runeP
      have hpl := runeP_le s pos
      generalize Utf8.decode s pos = D at *
      obtain ⟨r, d⟩ := D
      simp only at *
      generalize runeP s pos = piece at *
      have HE := Lib.hid hE
      have Hit := Lib.hid hit
      clear hE hI hbw hit
      by_cases c0 : r = 0 ∨ r = 65533
      · rw [if_pos c0] at hrp
        have HP := Lib.hid hrp
        clear hrp
        rcases c0 with rfl | rfl
        all_goals
          go_wp2_with fail
          refine (writeString_any w.heap.size w.heap.size acc _ _ hI2 (by rw [show (⟨#[239, 191, 189]⟩ : ByteArray).size = 3 from rfl]; omega) hsz2).mono ?_
          rintro e W1 ⟨rfl, h1, b1, k1⟩
          go_wp2_with fail
          go_roundw
          case rel =>
            refine ⟨pos + d, f, _, by omega, by omega, ?_, ?_, h1, k1.iter hit2 (by omega), hbw2.trans b1⟩
            · rw [HE.out, HP.out, List.append_assoc]; rfl
            · rw [List.length_append, show (L ⟨#[239, 191, 189]⟩).length = 3 from rfl]; omega
          case measure =>
            simp only [World.iterPos, k1.iter hit2 (by omega), Hit.out]
            omega
      · rw [if_neg c0] at hrp
        have q1 : ((r : Int) == 0) = false := beq_eq_false_iff_ne.2 (by omega)
        have q2 : ((r : Int) == 65533) = false := beq_eq_false_iff_ne.2 (by omega)
        clear c0
        by_cases c13 : r = 13
        · rw [if_pos c13] at hrp
          have HP := Lib.hid hrp
          clear hrp
          subst c13
          go_wp2_with fail
          refine (writeByte_any w.heap.size w.heap.size acc 10 _ hI2 (by omega) hsz2).mono ?_
          rintro e W1 ⟨rfl, h1, b1, k1⟩
          go_wp2_with fail
          go_roundw
          case rel =>
            refine ⟨pos + d, f, _, by omega, by omega, ?_, ?_, h1, k1.iter hit2 (by omega), hbw2.trans b1⟩
            · rw [HE.out, HP.out, List.append_assoc]
            · rw [List.length_append, List.length_singleton]; omega
          case measure =>
            simp only [World.iterPos, k1.iter hit2 (by omega), Hit.out]
            omega
        · rw [if_neg c13] at hrp
          have q3 : ((r : Int) == 13) = false := beq_eq_false_iff_ne.2 (by omega)
          clear c13
          by_cases c10 : r = 10
          · subst c10
            by_cases hp0 : pos = 0
            · subst hp0
              rw [if_neg (by omega)] at hrp
              rw [Nat.zero_add] at hI2 hit2 hbw2 hsz2
              simp only [Nat.zero_add] at hnx
              have HP := Lib.hid hrp
              clear hrp
              go_wp2_with fail
              refine (writeRune_any w.heap.size w.heap.size acc _ _ (by omega) (by omega) hI2 (by omega) hsz2).mono ?_
              rintro e W1 ⟨⟨m, rfl⟩, h1, b1, k1⟩
              go_wp2_with fail
              go_roundw
              case rel =>
                refine ⟨d, f, _, by omega, by omega, ?_, ?_, h1, k1.iter hit2 (by omega), hbw2.trans b1⟩
                · rw [HE.out, HP.out, List.append_assoc, Nat.zero_add]; try rfl
                · rw [List.length_append]; have := encodeRune_le 10; omega
              case measure =>
                simp only [World.iterPos, k1.iter hit2 (by omega), Hit.out]
                omega
            · obtain ⟨p, rfl⟩ : ∃ p, pos = p + 1 := ⟨pos - 1, by omega⟩
              have hps2 : p < s.size := by omega
              have hgl : (L s)[p]? = some (s[p]'hps2) := by rw [List.getElem?_eq_getElem (by simpa using hps2), get_L]
              rw [Nat.add_sub_cancel, hgl] at hrp
              by_cases hb : s[p]'hps2 = 13
              · rw [if_pos ⟨rfl, by omega, by rw [hb]⟩] at hrp
                have HP := Lib.hid hrp
                clear hrp hgl
                go_wp2_with fail
                go_roundw
                case rel => exact ⟨p + 1 + d, f, acc, by omega, by omega, by rw [HE.out, HP.out]; rfl, by omega, hI2, hit2, hbw2⟩
                case measure =>
                  simp only [World.iterPos, hit2, Hit.out]
                  omega
              · rw [if_neg (fun h => hb (by simpa using h.2.2))] at hrp
                have q4 := byte_ne' hb
                have HP := Lib.hid hrp
                clear hrp hgl hb
                go_wp2_with fail
                refine (writeRune_any w.heap.size w.heap.size acc _ _ (by omega) (by omega) hI2 (by omega) hsz2).mono ?_
                rintro e W1 ⟨⟨m, rfl⟩, h1, b1, k1⟩
                go_wp2_with fail
                go_roundw
                case rel =>
                  refine ⟨p + 1 + d, f, _, by omega, by omega, ?_, ?_, h1, k1.iter hit2 (by omega), hbw2.trans b1⟩
                  · rw [HE.out, HP.out, List.append_assoc]; try rfl
                  · rw [List.length_append]; have := encodeRune_le 10; omega
                case measure =>
                  simp only [World.iterPos, k1.iter hit2 (by omega), Hit.out]
                  omega
          · rw [if_neg (fun h => c10 h.1)] at hrp
            have HP := Lib.hid hrp
            have q4 : ((r : Int) == 10) = false := beq_eq_false_iff_ne.2 (by omega)
            clear hrp c10
            go_wp2_with fail
            refine (writeRune_any w.heap.size w.heap.size acc _ _ (by omega) (by omega) hI2 (by omega) hsz2).mono ?_
            rintro e W1 ⟨⟨m, rfl⟩, h1, b1, k1⟩
            go_wp2_with fail
            go_roundw
            case rel =>
              refine ⟨pos + d, f, _, by omega, by omega, ?_, ?_, h1, k1.iter hit2 (by omega), hbw2.trans b1⟩
              · rw [HE.out, HP.out, List.append_assoc]; try rfl
              · rw [List.length_append]; have := encodeRune_le (r : Int); omega
            case measure =>
              simp only [World.iterPos, k1.iter hit2 (by omega), Hit.out]
              omega
    · have hnx : ∀ ty, (Instr.next (.pointer (some ⟨w.heap.size + 1, 0, none⟩)) true ty).run Tryz.prog wr = _ := fun ty => Lib.run_next_end_at wr (w.heap.size + 1) s pos ty hit hp
      have hfin : repT s = acc := by
        rw [hE]
        cases f with
        | zero => simp [textF]
        | succ f => rw [textF, if_neg hp, List.append_nil]
      have HF := Lib.hid hfin
      have Hit := Lib.hid hit
      clear hfin hit hE
      go_wp2_with fail
      refine (string_any w.heap.size w.heap.size acc _ hI (by omega)).mono ?_
      rintro e W1 ⟨rfl, h1, b1, k1⟩
      go_wp2_with fail
      go_ret
      rw [HF.out]
      exact ⟨rfl, hbw.trans b1⟩
end Go.Proofs.YtgdnphmannbpgaaGreatDoor
/-
  frame.span: its contract.
-/
namespace Go.Proofs.YtgdnphmannbpgaaGreatDoor
open Go.RowKit

/-- the span with which a text begins -/
def spanT (l : List UInt8) : Option (List UInt8 × List UInt8) :=
  if Lib.hasPrefix l [123, 124] then
    if (Lib.cut (l.drop 2) [58]).2.2 && labelT (Lib.cut (l.drop 2) [58]).1 then
      if (Lib.cut (Lib.cut (l.drop 2) [58]).2.1 [124, 125]).2.2 then some ((Lib.cut (l.drop 2) [58]).1, (Lib.cut (Lib.cut (l.drop 2) [58]).2.1 [124, 125]).1) else none
    else none
  else none
def spanV : Option (List UInt8 × List UInt8) → Value
  | none => .tuple #[.agg #[.bool false, .string ⟨#[]⟩, .string ⟨#[]⟩], .int .i64 0]
  | some (a, t) => .tuple #[.agg #[.bool true, .string (S a), .string (S t)], .int .i64 ((a.length + t.length + 5 : Nat) : Int)]

theorem cut_le (s p : List UInt8) : (Lib.cut s p).1.length ≤ s.length ∧ (Lib.cut s p).2.1.length ≤ s.length := by
  unfold Lib.cut
  split
  · simp; exact Nat.min_le_right _ _
  · simp
theorem Glb.drewN {w : World} (h : Glb w) (n : Nat) : Glb (w.drewN n) := h

theorem cut_any (s : List UInt8) (sep : ByteArray) (w : World) (hg : Glb w) (hs : s.length < 4294967281) :
    Calls Tryz.prog 98 #[.string (S s), .string sep] w fun e w' => e = .returned (.tuple #[.string (S (Lib.cut s (L sep)).1), .string (S (Lib.cut s (L sep)).2.1), .bool (Lib.cut s (L sep)).2.2]) ∧ Below w.heap.size w w' := by
  obtain ⟨m, hm⟩ := hg
  refine (Tryz.strings_Cut (S s) sep m w (by simpa [S] using hs) hm).mono ?_
  rintro e w1 ⟨rfl, n, rfl⟩
  exact ⟨rfl, below_drewN' (Below.refl _ _) _⟩

set_option maxHeartbeats 2000000 in
set_option maxRecDepth 100000 in
theorem span_any (s : ByteArray) (w : World) (hg : Glb w) (hs : s.size < 4294967281) :
    Calls Tryz.prog 73 #[.string s] w fun e w' => e = .returned (spanV (spanT (L s))) ∧ Below w.heap.size w w' := by
  have bA : Below w.heap.size w (w.alloc (.cells #[.bool false, .string ⟨#[]⟩, .string ⟨#[]⟩] 78)) := (Below.refl _ _).alloc (Nat.le_refl _) _
  have B0 : Blk (w.alloc (.cells #[.bool false, .string ⟨#[]⟩, .string ⟨#[]⟩] 78)) w.heap.size 78 #[.bool false, .string ⟨#[]⟩, .string ⟨#[]⟩] := Blk.new _ _ _
  have hgA := hg.below bA
  have hls : (L s).length = s.size := length_L s
  have h1 : Hid (∀ w, Calls Tryz.prog 79 #[.string s, .string ⟨#[123, 124]⟩] w fun e w' => e = .returned (.tuple #[.string (S (Lib.trimPrefix (L s) [123, 124])), .bool (Lib.hasPrefix (L s) [123, 124])]) ∧ w' = w) := Lib.hid fun w => Tryz.strings_CutPrefix s ⟨#[123, 124]⟩ w
  obtain ⟨V, hV⟩ : ∃ V, spanT (L s) = V := ⟨_, rfl⟩
  rw [hV]
  unfold spanT at hV
  generalize L s = l at *
  have HV := Lib.hid hV
  clear hV
  cases hp : Lib.hasPrefix l [123, 124]
  · rw [hp] at h1
    go_enter Tryz.func73, Tryz.ntmps73
    go_wp2_with fail
    refine (h1.out _).mono ?_
    rintro e w1 ⟨rfl, rfl⟩
    have d0 := B0.cell 0
    have d1 := B0.cell 1
    have d2 := B0.cell 2
    have f0 := B0.frozen 0
    have f1 := B0.frozen 1
    have f2 := B0.frozen 2
    have bS := ((bA.setCell (p := ⟨w.heap.size, 0, none⟩) (Nat.le_refl _) (.bool false)).setCell (p := ⟨w.heap.size, 1, none⟩) (Nat.le_refl _) (.string ⟨#[]⟩)).setCell (p := ⟨w.heap.size, 2, none⟩) (Nat.le_refl _) (.string ⟨#[]⟩)
    generalize w.alloc (.cells #[.bool false, .string ⟨#[]⟩, .string ⟨#[]⟩] 78) = w1 at *
    go_wp2_with fail
    try simp only [Exit.inBlock, Exit.then]
    refine bodyPost_ret (v := spanV none) ?_ rfl ?_
    · rw [results_cell_tmp rfl]
      unfold spanV
      go_simp
    · exact ⟨by rw [← HV.out, hp]; rfl, bS⟩
  · have htp : Lib.trimPrefix l [123, 124] = l.drop 2 := by unfold Lib.trimPrefix; rw [hp]; rfl
    rw [hp, htp] at h1
    have HV2 := HV.out
    rw [hp, if_pos rfl] at HV2
    clear HV
    have hr : (l.drop 2).length ≤ l.length := by simp
    generalize l.drop 2 = r at *
    have hc1 := cut_le r [58]
    have h2 : Hid (∀ w, Glb w → Calls Tryz.prog 98 #[.string (S r), .string ⟨#[58]⟩] w fun e w' => e = .returned (.tuple #[.string (S (Lib.cut r [58]).1), .string (S (Lib.cut r [58]).2.1), .bool (Lib.cut r [58]).2.2]) ∧ Below w.heap.size w w') := Lib.hid fun w hg => cut_any r ⟨#[58]⟩ w hg (by omega)
    obtain ⟨⟨nm, tx, is⟩, hc⟩ : ∃ y, Lib.cut r [58] = y := ⟨_, rfl⟩
    rw [hc] at h2 hc1 HV2
    simp only at h2 hc1 HV2
    have HV := Lib.hid HV2
    clear HV2
    have hc2 := cut_le tx [124, 125]
    have h3 : Hid (∀ w, Glb w → Calls Tryz.prog 98 #[.string (S tx), .string ⟨#[124, 125]⟩] w fun e w' => e = .returned (.tuple #[.string (S (Lib.cut tx [124, 125]).1), .string (S (Lib.cut tx [124, 125]).2.1), .bool (Lib.cut tx [124, 125]).2.2]) ∧ Below w.heap.size w w') := Lib.hid fun w hg => cut_any tx ⟨#[124, 125]⟩ w hg (by omega)
    obtain ⟨⟨tt, rest, is2⟩, hcc⟩ : ∃ y, Lib.cut tx [124, 125] = y := ⟨_, rfl⟩
    have HV3 := HV.out
    rw [hcc] at h3 hc2 HV3
    simp only at h3 hc2 HV3
    have HV := Lib.hid HV3
    clear HV3 hcc
    have h4 : Hid (∀ w, Calls Tryz.prog 70 #[.string (S nm)] w fun e w' => e = .returned (.bool (labelT nm)) ∧ Below w.heap.size w w') := Lib.hid fun w => by
      have := label_any (S nm) w (by simp [S]; omega)
      rwa [L_S] at this
    have HNM := Lib.hid hc1.1
    have hnl : (S nm).size = nm.length := by simp [S]
    clear hc
    go_enter Tryz.func73, Tryz.ntmps73
    go_wp2_with fail
    refine (h1.out _).mono ?_
    rintro e w1 ⟨rfl, rfl⟩
    go_wp2_with fail
    refine (h2.out _ hgA).mono ?_
    rintro e w1 ⟨rfl, b1⟩
    have B1 := B0.below b1 B0.lt
    have bb1 := bA.trans (b1.mono (by have := B0.lt; omega))
    clear h1 h2 B0 bA b1
    cases is
    · skip
      have d0 := B1.cell 0
      have d1 := B1.cell 1
      have d2 := B1.cell 2
      have f0 := B1.frozen 0
      have f1 := B1.frozen 1
      have f2 := B1.frozen 2
      have bS := ((bb1.setCell (p := ⟨w.heap.size, 0, none⟩) (Nat.le_refl _) (.bool false)).setCell (p := ⟨w.heap.size, 1, none⟩) (Nat.le_refl _) (.string ⟨#[]⟩)).setCell (p := ⟨w.heap.size, 2, none⟩) (Nat.le_refl _) (.string ⟨#[]⟩)
      go_wp2_with fail
      all_goals
        try simp only [Exit.inBlock, Exit.then]
        refine bodyPost_ret (v := spanV none) ?_ rfl ?_
        · rw [results_cell_tmp rfl]
          unfold spanV
          go_simp
        · exact ⟨by rw [← HV.out]; rfl, bS⟩
    · cases hlb : labelT nm
      · rw [hlb] at h4
        have HLB := Lib.hid hlb
        clear hlb
        go_wp2_with fail
        refine (h4.out _).mono ?_
        rintro e w2 ⟨rfl, b2⟩
        have B2 := B1.below b2 B1.lt
        have bb2 := bb1.trans (b2.mono bb1.size)
        clear B1 h4
        have d0 := B2.cell 0
        have d1 := B2.cell 1
        have d2 := B2.cell 2
        have f0 := B2.frozen 0
        have f1 := B2.frozen 1
        have f2 := B2.frozen 2
        have bS := ((bb2.setCell (p := ⟨w.heap.size, 0, none⟩) (Nat.le_refl _) (.bool false)).setCell (p := ⟨w.heap.size, 1, none⟩) (Nat.le_refl _) (.string ⟨#[]⟩)).setCell (p := ⟨w.heap.size, 2, none⟩) (Nat.le_refl _) (.string ⟨#[]⟩)
        go_wp2_with fail
        all_goals
          try simp only [Exit.inBlock, Exit.then]
          refine bodyPost_ret (v := spanV none) ?_ rfl ?_
          · rw [results_cell_tmp rfl]
            unfold spanV
            go_simp
          · exact ⟨by rw [← HV.out, HLB.out]; rfl, bS⟩
      · rw [hlb] at h4
        have HLB := Lib.hid hlb
        clear hlb
        go_wp2_with fail
        refine (h4.out _).mono ?_
        rintro e w2 ⟨rfl, b2⟩
        have B2 := B1.below b2 B1.lt
        have bb2 := bb1.trans (b2.mono bb1.size)
        have hg2 := hg.below bb2
        clear B1 h4
        go_wp2_with fail
        refine (h3.out _ hg2).mono ?_
        rintro e w3 ⟨rfl, b3⟩
        have B3 := B2.below b3 B2.lt
        have bb3 := bb2.trans (b3.mono bb2.size)
        clear B2 h3 hg2 b3 b2
        have htl : (S tt).size = tt.length := by simp [S]
        have HT := Lib.hid hc2.1
        have hb1 : nm.length ≤ 4294967281 := by have := HNM.out; omega
        have hb2 : tt.length ≤ 4294967281 := by have := HT.out; have := hc1.2; omega
        clear hc1 hc2 hr
        cases is2
        · skip
          have d0 := B3.cell 0
          have d1 := B3.cell 1
          have d2 := B3.cell 2
          have f0 := B3.frozen 0
          have f1 := B3.frozen 1
          have f2 := B3.frozen 2
          have bS := ((bb3.setCell (p := ⟨w.heap.size, 0, none⟩) (Nat.le_refl _) (.bool false)).setCell (p := ⟨w.heap.size, 1, none⟩) (Nat.le_refl _) (.string ⟨#[]⟩)).setCell (p := ⟨w.heap.size, 2, none⟩) (Nat.le_refl _) (.string ⟨#[]⟩)
          go_wp2_with fail
          all_goals
            try simp only [Exit.inBlock, Exit.then]
            refine bodyPost_ret (v := spanV none) ?_ rfl ?_
            · rw [results_cell_tmp rfl]
              unfold spanV
              go_simp
            · exact ⟨by rw [← HV.out, HLB.out]; rfl, bS⟩
        · skip
          have d0 := B3.cell 0
          have d1 := B3.cell 1
          have d2 := B3.cell 2
          have f0 := B3.frozen 0
          have f1 := B3.frozen 1
          have f2 := B3.frozen 2
          have bS := ((bb3.setCell (p := ⟨w.heap.size, 0, none⟩) (Nat.le_refl _) (.bool true)).setCell (p := ⟨w.heap.size, 1, none⟩) (Nat.le_refl _) (.string (S nm))).setCell (p := ⟨w.heap.size, 2, none⟩) (Nat.le_refl _) (.string (S tt))
          go_wp2_with fail
          all_goals
            try simp only [Exit.inBlock, Exit.then]
            refine bodyPost_ret (v := spanV (some (nm, tt))) ?_ rfl ?_
            · rw [results_cell_tmp rfl]
              unfold spanV
              go_simp
            · exact ⟨by rw [← HV.out, HLB.out]; rfl, bS⟩
end Go.Proofs.YtgdnphmannbpgaaGreatDoor
/-
  frame.Spans: its contract.
-/
namespace Go.Proofs.YtgdnphmannbpgaaGreatDoor
open Go.RowKit

/-- a piece of a line -/
structure PieceT where
  span : Bool
  label : ByteArray
  text : ByteArray
  deriving DecidableEq
def PieceT.cells (p : PieceT) : List Value := [.bool p.span, .string p.label, .string p.text]
def pieceCells (ps : List PieceT) : List Value := ps.flatMap PieceT.cells
theorem piece_len (p : PieceT) : p.cells.length = 3 := rfl
theorem pieces_length (ps : List PieceT) : (pieceCells ps).length = ps.length * 3 := flat_length _ 3 piece_len ps
theorem Tryz.infoPiece : (Tryz.prog.info? 78).map (fun i => (i.zero, i.size, i.bytes)) = some (some (.agg #[.bool false, .string ⟨#[]⟩, .string ⟨#[]⟩]), 3, 40) := by kernel_rfl
theorem Tryz.elPieces : Elem Tryz.prog 75 78 3 40 := Elem.mk' Tryz.underlying75 Tryz.infoPiece rfl (by decide)

/-- the pieces from pos on; frm: behind the last span -/
def spF (s : ByteArray) : Nat → Nat → Nat → List PieceT → List PieceT
  | 0, _, _, out => out
  | f + 1, pos, frm, out =>
    if pos < s.size then
      if pos < frm then spF s f (pos + (Utf8.decode s pos).2) frm out
      else match spanT ((L s).drop pos) with
        | none => spF s f (pos + (Utf8.decode s pos).2) frm out
        | some (a, t) => spF s f (pos + (Utf8.decode s pos).2) (pos + (a.length + t.length + 5)) ((if frm < pos then out ++ [⟨false, ⟨#[]⟩, s.extract frm pos⟩] else out) ++ [⟨true, S a, S t⟩])
    else if frm < s.size then out ++ [⟨false, ⟨#[]⟩, s.extract frm s.size⟩] else out
def spansT (s : ByteArray) : List PieceT := spF s (s.size + 1) 0 0 []

theorem index_hit (sub : List UInt8) : ∀ s : List UInt8, 0 ≤ Lib.index s sub → ∃ a r, s = a ++ sub ++ r ∧ Lib.index s sub = (a.length : Int)
  | [], h => by
    unfold Lib.index at h ⊢
    cases sub with
    | nil => exact ⟨[], [], rfl, rfl⟩
    | cons => simp at h
  | b :: l, h => by
    unfold Lib.index at h ⊢
    by_cases hp : sub.isPrefixOf (b :: l) = true
    · obtain ⟨r, hr⟩ := List.isPrefixOf_iff_prefix.1 hp
      exact ⟨[], r, by simp [hr], by rw [if_pos hp]; rfl⟩
    · rw [if_neg hp] at h ⊢
      by_cases h1 : (Lib.index l sub == -1) = true
      · rw [if_pos h1] at h; omega
      · rw [if_neg h1] at h ⊢
        have h2 := Lib.index_ge l sub
        have h3 : Lib.index l sub ≠ -1 := fun e => h1 (by rw [e]; rfl)
        obtain ⟨a, r, e, ea⟩ := index_hit sub l (by omega)
        exact ⟨b :: a, r, by rw [e]; simp, by rw [ea]; simp⟩
theorem cut_hit {s p : List UInt8} (h : (Lib.cut s p).2.2 = true) : s = (Lib.cut s p).1 ++ p ++ (Lib.cut s p).2.1 := by
  unfold Lib.cut at h ⊢
  split at h
  · rename_i h0
    obtain ⟨a, r, e, ea⟩ := index_hit p s h0
    rw [if_pos h0, ea]
    simp only [Int.toNat_natCast]
    conv => lhs; rw [e]
    rw [e]
    simp
  · simp at h
theorem spanT_some {l a t : List UInt8} (h : spanT l = some (a, t)) : ∃ r, l = [123, 124] ++ a ++ [58] ++ t ++ [124, 125] ++ r ∧ labelT a = true := by
  unfold spanT at h
  split at h
  · rename_i hp
    obtain ⟨q, hq⟩ := List.isPrefixOf_iff_prefix.1 hp
    have hd : l.drop 2 = q := by rw [← hq]; rfl
    rw [hd] at h
    split at h
    · rename_i h1
      rw [Bool.and_eq_true] at h1
      split at h
      · rename_i h2
        have c1 := cut_hit h1.1
        have c2 := cut_hit h2
        injection h with h
        injection h with ha ht
        rw [ha] at c1
        rw [ha] at h1
        rw [ht] at c2
        refine ⟨(Lib.cut (Lib.cut q [58]).2.1 [124, 125]).2.1, ?_, h1.2⟩
        rw [← hq]
        conv => lhs; rw [c1, c2]
        simp
      · cases h
    · cases h
  · cases h
theorem spanT_le {l a t : List UInt8} (h : spanT l = some (a, t)) : a.length + t.length + 5 ≤ l.length := by
  obtain ⟨r, e, _⟩ := spanT_some h
  rw [e]; simp; omega

theorem only_iter (w : World) (k : Nat) (s : ByteArray) (pos : Nat) : Only w (w.iterAt k s pos) (some ⟨k, 0, none⟩) :=
  ⟨rfl, rfl, rfl, by rw [Lib.iterAt_size]; exact Nat.le_refl _, fun j _ hj => Lib.iterAt_other w k j s pos (fun e => hj (by rw [e]; rfl))⟩

set_option maxHeartbeats 4000000 in
set_option maxRecDepth 100000 in
theorem spans_any (s : ByteArray) (w : World) (hg : Glb w) (hs : s.size ≤ 1048576) :
    Calls Tryz.prog 37 #[.string s] w fun e w' => ∃ A n c, e = .returned (.slice A n c) ∧ Own w' w.heap.size 78 3 A n c (pieceCells (spansT s)) ∧ Below w.heap.size w w' := by
  go_enter Tryz.func37, Tryz.ntmps37
  go_wp2_with fail
  go_loopw [3, 4, 5] (fun s3 s4 s5 wr => ∃ (pos frm f : Nat) (A1 : Option Addr) (n1 c1 : Nat) (out : List PieceT), pos ≤ s.size ∧ frm ≤ s.size ∧ s.size + 1 ≤ f + pos ∧ s3 = .slice A1 n1 c1 ∧ s4 = .int .i64 frm ∧ s5 = .int .i64 frm ∧ n1 ≤ 2 * pos ∧
    spansT s = spF s f pos frm out ∧ Own wr (w.heap.size + 1) 78 3 A1 n1 c1 (pieceCells out) ∧ wr.heap[w.heap.size]? = some (.stringIter s pos) ∧ Below w.heap.size w wr) (fun _ _ _ wr => s.size - wr.iterPos w.heap.size)
  case atStart => exact ⟨0, 0, s.size + 1, none, 0, 0, [], by omega, by omega, by omega, rfl, rfl, rfl, by omega, rfl, Own.nil _ _ _ _, World.iter_heap w s 0, (Below.refl _ w).alloc (Nat.le_refl _) _⟩
  case round =>
    obtain ⟨pos, frm, f, A1, n1, c1, out, hps, hfs, hf, rfl, rfl, rfl, hn1, hI, hown, hit, hbw⟩ := hrel
    have hsz : w.heap.size < wr.heap.size := (Array.getElem?_eq_some_iff.1 hit).1
    obtain ⟨f, rfl⟩ : ∃ g, f = g + 1 := ⟨f - 1, by omega⟩
    rw [spF] at hI
    by_cases hp : pos < s.size
    · rw [if_pos hp] at hI
      have hnx : ∀ ty, (Instr.next (.pointer (some ⟨w.heap.size, 0, none⟩)) true ty).run Tryz.prog wr = _ := fun ty => Lib.run_next_any_at wr w.heap.size s pos ty hit hp
      obtain ⟨_, dw, dle, _⟩ := decode_span s pos hp
      have hit2 := Lib.iterAt_heap wr w.heap.size s pos (pos + (Utf8.decode s pos).2) hit
      have hbw2 := Lib.below_iterAt hbw (k := w.heap.size) (by omega) s (pos + (Utf8.decode s pos).2)
      generalize Utf8.decode s pos = D at *
      obtain ⟨r, dd⟩ := D
      simp only at hI dw dle hit2 hbw2 hnx
      have hown2 := hown.only (only_iter wr w.heap.size s (pos + dd)) (fun a b ha hb => by
        injection hb with hb
        have := (hown.lt ha).1
        rw [← hb]; show a.block ≠ w.heap.size; omega)
      have Hit := Lib.hid hit
      clear hit hown hbw
      generalize wr.iterAt w.heap.size s (pos + dd) = W at *
      have hW := (Array.getElem?_eq_some_iff.1 hit2).1
      by_cases hskip : pos < frm
      · rw [if_pos hskip] at hI
        have HI := Lib.hid hI
        clear hI
        go_wp2_with fail
        go_roundw
        case rel => exact ⟨pos + dd, frm, f, A1, n1, c1, out, by omega, by omega, by omega, rfl, rfl, rfl, by omega, HI.out, hown2, hit2, hbw2⟩
        case measure => simp only [World.iterPos, hit2, Hit.out]; omega
      · rw [if_neg hskip] at hI
        have hgW := hg.below hbw2
        obtain ⟨V, hV⟩ : ∃ V, spanT ((L s).drop pos) = V := ⟨_, rfl⟩
        have hLe : L (s.extract pos s.size) = (L s).drop pos := by rw [L_extract, ← length_L, List.take_length]
        have hsp := span_any (s.extract pos s.size) W hgW (by rw [ByteArray.size_extract]; omega)
        rw [hLe, hV] at hsp
        rw [hV] at hI
        have hVle : ∀ a t, V = some (a, t) → pos + (a.length + t.length + 5) ≤ s.size := fun a t h => by
          have := spanT_le (hV.trans h)
          rw [List.length_drop, length_L] at this
          omega
        have HSP := Lib.hid hsp
        have x1 : (0 : Int) ≤ (pos : Int) := by omega
        have x2 : (pos : Int) ≤ (s.size : Int) := by omega
        have x3 : ((pos : Int)).toNat = pos := by omega
        clear hsp hV hLe
        cases V with
        | none =>
          have HI : Hid (spansT s = spF s f (pos + dd) frm out) := Lib.hid hI
          clear hI hVle
          go_wp2_with fail
          refine HSP.out.mono ?_
          rintro e w1 ⟨rfl, b1⟩
          unfold spanV
          have hown3 := hown2.below b1 (Nat.le_refl _)
          have hit3 := (b1.block w.heap.size hW).trans hit2
          have hbw3 := hbw2.trans (b1.mono (Nat.le_of_lt hW))
          have hw1 := (Array.getElem?_eq_some_iff.1 hit3).1
          clear HSP b1 hown2 hbw2 hgW
          go_wp2_with fail
          go_roundw
          case rel => exact ⟨pos + dd, frm, f, A1, n1, c1, out, by omega, by omega, by omega, rfl, rfl, rfl, by omega, HI.out, hown3.alloc _, (Below.heap_alloc w1 _ _ hw1).trans hit3, hbw3.alloc (Nat.le_of_lt hw1) _⟩
          case measure => simp only [World.iterPos, (Below.heap_alloc w1 _ _ hw1).trans hit3, Hit.out]; omega
        | some V =>
          obtain ⟨a, t⟩ := V
          have hN := hVle a t rfl
          obtain ⟨N, hNe⟩ : ∃ N, a.length + t.length + 5 = N := ⟨_, rfl⟩
          have hN0 : 0 < N := by omega
          unfold spanV at HSP
          simp only at HSP hI
          rw [hNe] at HSP hN hI
          have q0 : ((N : Int) == 0) = false := beq_eq_false_iff_ne.2 (by omega)
          clear hVle hNe
          have HI := Lib.hid hI
          clear hI
          go_wp2_with fail
          refine HSP.out.mono ?_
          rintro e w1 ⟨rfl, b1⟩
          have hown3 := hown2.below b1 (Nat.le_refl _)
          have hit3 := (b1.block w.heap.size hW).trans hit2
          have hbw3 := hbw2.trans (b1.mono (Nat.le_of_lt hW))
          have hw1 := (Array.getElem?_eq_some_iff.1 hit3).1
          clear HSP b1 hown2 hbw2 hgW
          by_cases hfp : frm < pos
          · have HI2 : Hid (spansT s = spF s f (pos + dd) (pos + N) (out ++ [⟨false, ⟨#[]⟩, s.extract frm pos⟩] ++ [⟨true, S a, S t⟩])) := Lib.hid (by rw [HI.out, if_pos hfp])
            clear HI
            have y1 : (0 : Int) ≤ (frm : Int) := by omega
            have y2 : (frm : Int) ≤ (pos : Int) := by omega
            have y3 : decide ((frm : Int) < (pos : Int)) = true := decide_eq_true (by omega)
            have Bx : Blk (w1.alloc (.cells #[.bool true, .string (S a), .string (S t)] 78)) w1.heap.size 78 #[.bool true, .string (S a), .string (S t)] := Blk.new _ _ _
            go_wp2_with (first
              | (at_builtin; refine wpList_app1 Tryz.elPieces rfl (.tmp 29) (.tmp 35) rfl rfl (by exact (hown3.alloc _).alloc _) rfl (Blk.new' _ _ _ _ (by simp)) rfl (by simp [Value.oneCell']) (by simp only [maxLen]; omega) (by omega) (by simp; omega) ?_
                 intro A2 c2 w3 hown4 ho4 hm4
                 have Bx3 := (Bx.alloc (.cells #[.bool false, .string ⟨#[]⟩, .string (s.extract frm pos)] 78)).only ho4 (fun a ha => by have := (hown3.lt ha).2; omega)
                 have d0 := Bx3.cell 0
                 have d1 := Bx3.cell 1
                 have d2 := Bx3.cell 2
                 have hlow := ho4.of_alloc.of_alloc.below (K := w.heap.size + 1) (fun a ha => (hown3.lt ha).1) (by omega)
                 have hz3 := hlow.size)
              | (at_builtin; refine wpList_app1 Tryz.elPieces rfl (.tmp 37) (.tmp 39) rfl rfl (by exact hown4.alloc _) rfl (Blk.new' _ _ _ _ (by simp)) rfl (by simp [Value.oneCell']) (by simp only [maxLen]; omega) (by omega) (by simp; omega) ?_
                 intro A3 c3 w5 hown5 ho5 hm5
                 have hlow2 := ho5.of_alloc.below (K := w.heap.size + 1) (fun a ha => (hown4.lt ha).1) (by omega)))
            have hlow3 := hlow.trans hlow2
            have hit5 := (hlow3.block w.heap.size (by omega)).trans hit3
            go_roundw
            case rel =>
              refine ⟨pos + dd, pos + N, f, A3, n1 + 1 + 1, c3, _, by omega, by omega, by omega, rfl, by go_num, by go_num, by omega, HI2.out, ?_, hit5, hbw3.trans (hlow3.mono (by omega))⟩
              simpa [pieceCells, PieceT.cells] using hown5
            case measure => simp only [World.iterPos, hit5, Hit.out]; omega
          · have HI2 : Hid (spansT s = spF s f (pos + dd) (pos + N) (out ++ [⟨true, S a, S t⟩])) := Lib.hid (by rw [HI.out, if_neg hfp])
            clear HI
            have y3 : decide ((frm : Int) < (pos : Int)) = false := decide_eq_false (by omega)
            have y4 : decide (frm < pos) = false := decide_eq_false (by omega)
            have Bx : Blk (w1.alloc (.cells #[.bool true, .string (S a), .string (S t)] 78)) w1.heap.size 78 #[.bool true, .string (S a), .string (S t)] := Blk.new _ _ _
            go_wp2_with (at_builtin; refine wpList_app1 Tryz.elPieces rfl (.tmp 37) (.tmp 39) rfl rfl (by exact (hown3.alloc _).alloc _) rfl (Blk.new' _ _ _ _ (by simp)) rfl (by simp [Value.oneCell']) (by simp only [maxLen]; omega) (by omega) (by simp; omega) ?_
                         intro A3 c3 w5 hown5 ho5 hm5
                         have hlow3 := ho5.of_alloc.of_alloc.below (K := w.heap.size + 1) (fun a ha => (hown3.lt ha).1) (by omega))
            have hit5 := (hlow3.block w.heap.size (by omega)).trans hit3
            go_roundw
            case rel =>
              refine ⟨pos + dd, pos + N, f, A3, n1 + 1, c3, _, by omega, by omega, by omega, rfl, by go_num, by go_num, by omega, HI2.out, ?_, hit5, hbw3.trans (hlow3.mono (by omega))⟩
              simpa [pieceCells, PieceT.cells] using hown5
            case measure => simp only [World.iterPos, hit5, Hit.out]; omega
    · rw [if_neg hp] at hI
      have hnx : ∀ ty, (Instr.next (.pointer (some ⟨w.heap.size, 0, none⟩)) true ty).run Tryz.prog wr = _ := fun ty => Lib.run_next_end_at wr w.heap.size s pos ty hit hp
      have hbs := hbw.size
      by_cases hfl : frm < s.size
      · rw [if_pos hfl] at hI
        have HI := Lib.hid hI
        clear hI
        have y1 : (0 : Int) ≤ (frm : Int) := by omega
        have y2 : (frm : Int) ≤ (s.size : Int) := by omega
        go_wp2_with (at_builtin; refine wpList_app1 Tryz.elPieces rfl (.tmp 51) (.tmp 56) rfl rfl (by exact hown.alloc _) rfl (Blk.new' _ _ _ _ (by simp)) rfl (by simp [Value.oneCell']) (by simp only [maxLen]; omega) (by omega) (by simp; omega) ?_
                     intro A3 c3 w5 hown5 ho5 hm5
                     have hlow3 := ho5.of_alloc.below (K := w.heap.size + 1) (fun a ha => (hown.lt ha).1) (by omega))
        go_ret
        refine ⟨A3, n1 + 1, c3, rfl, ?_, hbw.trans (hlow3.mono (by omega))⟩
        rw [HI.out]
        have h5 := hown5.base_le (base' := w.heap.size) (by omega)
        simpa [pieceCells, PieceT.cells] using h5
      · rw [if_neg hfl] at hI
        have HI := Lib.hid hI
        clear hI
        go_wp2_with fail
        go_ret
        exact ⟨A1, n1, c1, rfl, by rw [HI.out]; exact hown.base_le (by omega), hbw⟩
end Go.Proofs.YtgdnphmannbpgaaGreatDoor
/-
  frame.Parse: its contract.
-/
namespace Go.Proofs.YtgdnphmannbpgaaGreatDoor
open Go.RowKit

/-- how far a frame is read -/
structure FrS where
  out : List PartT
  ins : List Nat
  run : Bool
def shutAt (out : List PartT) (i : Nat) : List PartT := match out[i]? with
  | some p => out.set i { p with opn := false }
  | none => out
def addLast (out : List PartT) (s : ByteArray) : List PartT := match out.getLast? with
  | some p => out.dropLast ++ [{ p with lines := p.lines ++ [s] }]
  | none => out
def frStep (st : FrS) (s : ByteArray) : FrS :=
  if (opensT (L s)).2 then ⟨st.out ++ [⟨(st.ins.length : Int), true, S (opensT (L s)).1, true, []⟩], st.ins ++ [st.out.length], false⟩
  else if shutsT (L s) && decide (0 < st.ins.length) then ⟨shutAt st.out (st.ins.getLast?.getD 0), st.ins.dropLast, false⟩
  else if st.run then ⟨addLast st.out s, st.ins, true⟩
  else ⟨st.out ++ [⟨(st.ins.length : Int), false, ⟨#[]⟩, false, [s]⟩], st.ins, true⟩
def frT (ls : List ByteArray) : FrS := ls.foldl frStep ⟨[], [], false⟩
/-- what holds on the way -/
def FrOk (st : FrS) (k : Nat) : Prop := (∀ i ∈ st.ins, i < st.out.length) ∧ (st.run = true → st.out ≠ []) ∧ st.out.length ≤ k ∧ st.ins.length ≤ k ∧ ∀ p ∈ st.out, p.lines.length ≤ k

theorem frT_take (ls : List ByteArray) {k : Nat} {s : ByteArray} (h : ls[k]? = some s) : frT (ls.take (k + 1)) = frStep (frT (ls.take k)) s := by
  unfold frT
  rw [List.take_add_one, h, Option.toList_some, List.foldl_append]; rfl

theorem shutAt_len (out : List PartT) (i : Nat) : (shutAt out i).length = out.length := by
  unfold shutAt; split <;> simp
theorem shutAt_mem {out : List PartT} {i k : Nat} (h : ∀ p ∈ out, p.lines.length ≤ k) : ∀ p ∈ shutAt out i, p.lines.length ≤ k := by
  intro p hp
  unfold shutAt at hp
  split at hp
  · rename_i q hq
    rcases List.mem_or_eq_of_mem_set hp with hp | rfl
    · exact h p hp
    · exact h q (List.mem_of_getElem? hq)
  · exact h p hp

theorem FrOk.step {st : FrS} {k : Nat} (h : FrOk st k) (s : ByteArray) : FrOk (frStep st s) (k + 1) := by
  obtain ⟨h1, h2, h3, h4, h5⟩ := h
  unfold frStep
  split
  · refine ⟨fun i hi => ?_, by simp, by simp; omega, by simp; omega, fun p hp => ?_⟩
    · rcases List.mem_append.1 hi with hi | hi
      · have := h1 i hi; simp; omega
      · rw [List.mem_singleton.1 hi]; simp
    · rcases List.mem_append.1 hp with hp | hp
      · have := h5 p hp; omega
      · rw [List.mem_singleton.1 hp]; simp
  · split
    · refine ⟨fun i hi => ?_, by simp, by rw [shutAt_len]; omega, by simp; omega, fun p hp => ?_⟩
      · rw [shutAt_len]; exact h1 i (List.dropLast_subset _ hi)
      · exact Nat.le_trans (shutAt_mem h5 p hp) (by omega)
    · split
      · rename_i hrun
        have hne := h2 hrun
        obtain ⟨ini, last, he⟩ : ∃ ini last, st.out = ini ++ [last] := ⟨st.out.dropLast, st.out.getLast hne, (List.dropLast_concat_getLast hne).symm⟩
        have ha : addLast st.out s = ini ++ [{ last with lines := last.lines ++ [s] }] := by unfold addLast; rw [he]; simp
        rw [ha]
        have hl : st.out.length = ini.length + 1 := by rw [he]; simp
        refine ⟨fun i hi => ?_, by simp, by simp; omega, by simp; omega, fun p hp => ?_⟩
        · have := h1 i hi; simp; omega
        · rcases List.mem_append.1 hp with hp | hp
          · have := h5 p (by rw [he]; simp [hp]); omega
          · rw [List.mem_singleton.1 hp]
            have := h5 last (by rw [he]; simp)
            simp; omega
      · refine ⟨fun i hi => ?_, by simp, by simp; omega, by simp; omega, fun p hp => ?_⟩
        · have := h1 i hi; simp; omega
        · rcases List.mem_append.1 hp with hp | hp
          · have := h5 p hp; omega
          · rw [List.mem_singleton.1 hp]; simp
theorem frT_ok (ls : List ByteArray) : ∀ k, k ≤ ls.length → FrOk (frT (ls.take k)) k
  | 0, _ => ⟨by simp [frT], by simp [frT], by simp [frT], by simp [frT], by simp [frT]⟩
  | k + 1, h => by
    rw [frT_take ls (List.getElem?_eq_getElem (by omega : k < ls.length))]
    exact (frT_ok ls k (by omega)).step _

def inCells (l : List Nat) : List Value := l.map fun i : Nat => Value.int .i64 (i : Int)

set_option maxHeartbeats 4000000 in
set_option maxRecDepth 100000 in
theorem frParse_any (A : Option Addr) (n cap K : Nat) (ls : List ByteArray) (w : World) (hr : Reads w K 1 A n (txCells ls)) (hK : K ≤ w.heap.size) (hn : n ≤ 1048576) (hsz : ∀ x ∈ ls, x.size ≤ 9223372036854775807) :
    Calls Tryz.prog 29 #[.slice A n cap] w fun e w' => ∃ A' m c' ps, e = .returned (.slice A' m c') ∧ Parts w' w.heap.size A' m c' ps ∧ ps.map (·.t) = (frT ls).out ∧ Below w.heap.size w w' := by
  have hlen : ls.length = n := by have := hr.1; simpa using this
  have HL := Lib.hid hlen
  have HSZ := Lib.hid hsz
  clear hlen hsz
  go_enter Tryz.func29, Tryz.ntmps29
  go_wp2_with fail
  go_loopw [3, 4, 5, 12] (fun s3 s4 s5 s12 wr => ∃ (k : Nat) (A1 A2 : Option Addr) (n1 c1 n2 c2 : Nat) (ps : List PartR), k ≤ n ∧ s12 = .int .i64 k ∧ s3 = .slice A1 n1 c1 ∧ s4 = .slice A2 n2 c2 ∧ s5 = .bool (frT (ls.take k)).run ∧
    Parts wr w.heap.size A1 n1 c1 ps ∧ ps.map (·.t) = (frT (ls.take k)).out ∧ Own wr w.heap.size 3 1 A2 n2 c2 (inCells (frT (ls.take k)).ins) ∧ Below w.heap.size w wr) (fun _ _ _ s12 _ => n - (intOf s12).toNat)
  case atStart => exact ⟨0, none, none, 0, 0, 0, 0, [], Nat.zero_le _, rfl, rfl, rfl, rfl, Parts.nil _ _, rfl, Own.nil _ _ _ _, Below.refl _ _⟩
  case round =>
    obtain ⟨k, A1, A2, n1, c1, n2, c2, ps, hk, rfl, rfl, rfl, rfl, hP, hout, hin, hb⟩ := hrel
    have hbs := hb.size
    have hn1 := hP.len
    have hok := frT_ok ls k (by rw [HL.out]; exact hk)
    by_cases hlt : k < n
    · obtain ⟨ad, u, rfl, _, hx0, hc⟩ := (hr.keep (w' := wr) fun p hp => hb.cell (by omega)).at_ hlt
      obtain ⟨x, hx, rfl⟩ : ∃ x, ls[k]? = some x ∧ Value.string x = u := by simpa using hx0
      have hxs := HSZ.out x (List.mem_of_getElem? hx)
      have hst := frT_take ls hx
      clear hx hx0
      generalize frT (ls.take k) = st at *
      have HST := Lib.hid hst
      clear hst
      obtain ⟨out, ins, run⟩ := st
      obtain ⟨o1, o2, o3, o4, o5⟩ := hok
      simp only at o1 o2 o3 o4 o5 hout hin
      have hn2 : ins.length = n2 := by have := hin.len; simp [inCells] at this; omega
      have hon : out.length = n1 := by rw [← hout, List.length_map, hn1]
      have HO := Lib.hid (fun w => opens_any x w hxs)
      have HS := Lib.hid (fun w => shuts_any x w hxs)
      obtain ⟨⟨lbl, is⟩, hop⟩ : ∃ y, opensT (L x) = y := ⟨_, rfl⟩
      rw [hop] at HO
      cases is
      · by_cases hsh : shutsT (L x) = true ∧ 0 < ins.length
        · obtain ⟨hsh, hpos⟩ := hsh
          obtain ⟨ins', i, rfl⟩ : ∃ ini last, ins = ini ++ [last] := ⟨ins.dropLast, ins.getLast (List.ne_nil_of_length_pos hpos), (List.dropLast_concat_getLast _).symm⟩
          have hi : i < out.length := o1 i (by simp)
          obtain ⟨m, hm⟩ : ∃ m, ins'.length = m := ⟨_, rfl⟩
          have hnm : n2 = m + 1 := by rw [← hn2, ← hm]; simp
          subst hnm
          obtain ⟨p, hp⟩ : ∃ p, ps[i]? = some p := ⟨_, List.getElem?_eq_getElem (by omega)⟩
          obtain ⟨g1, rfl, hg1, _⟩ := hP.1.some_ (by omega)
          obtain ⟨g2, rfl, hg2, _⟩ := hin.some_ (by omega)
          have HST2 : Hid (frT (ls.take (k + 1)) = ⟨shutAt out i, ins', false⟩) := Lib.hid (by rw [HST.out]; unfold frStep; rw [hop, hsh]; simp)
          have hpt : out[i]? = some p.t := by rw [← hout, List.getElem?_map, hp]; rfl
          have HSA : Hid (shutAt out i = (ps.set i { p with t := { p.t with opn := false } }).map (·.t)) := Lib.hid (by unfold shutAt; rw [hpt, ← hout, List.map_set])
          have hii : i < n1 := by omega
          rw [hsh] at HS
          have ci : ∀ W, Own W w.heap.size 3 1 (some ⟨g2, 0, none⟩) (m + 1) c2 (inCells (ins' ++ [i])) → W.cell? ⟨g2, m, none⟩ = some (.int .i64 (i : Int)) := fun W h => h.cell (by simp [inCells, hm])
          have HCI := Lib.hid ci
          have q1 : (0 : Int) ≤ (i : Int) := by omega
          have q2 : (i : Int) < (n1 : Int) := by omega
          have q3 : ((i : Int)).toNat = i := by omega
          have hmk : m + 1 ≤ k := by omega
          have hcap : m + 1 ≤ c2 := hin.cap
          have hmc : m ≤ c2 := by omega
          have hmc2 : (m : Int) ≤ (c2 : Int) := by omega
          have hc20 : ¬ c2 = 0 := by omega
          have hnk : n1 ≤ k := by omega
          have HN2 := Lib.hid hn2
          have HM := Lib.hid hm
          have HP5 := Lib.hid hp
          clear hp HST hop hsh ci hm hon hn2 o1 o2 o3 o4 o5 hi hpt
          go_wp2_with (first
            | (go_at_call 58; refine (HO.out _).mono ?_; rintro e w1 ⟨rfl, b1⟩
               have hP1 := hP.below b1 (Nat.le_refl _)
               have hin1 := hin.below b1 (Nat.le_refl _)
               have hb1 := hb.trans (b1.mono hbs)
               have hz1 := hb1.size)
            | (go_at_call 59; refine (HS.out _).mono ?_; rintro e w2 ⟨rfl, b2⟩
               have hP2 := hP1.below b2 (Nat.le_refl _)
               have hin2 := hin1.below b2 (Nat.le_refl _)
               have hb2 := hb1.trans (b2.mono hz1)
               have hz2 := hb2.size
               have c2i := HCI.out _ hin2
               obtain ⟨_, _, _, p3, _⟩ := hP2.cells_at HP5.out
               have f3 := hP2.1.frozen (i * 5 + 3)))
          have hst := hP2.shut HP5.out false
          have hs4 := (hin2.only (only_setCell w2 g1 (i * 5 + 3) (.bool false)) (hin2.sep_ne hP2.1 (by decide))).take (m := m) (by omega)
          go_roundw
          case rel =>
            refine ⟨k + 1, some ⟨g1, 0, none⟩, some ⟨g2, 0, none⟩, n1, c1, m, c2, _, by omega, by go_num, rfl, by rfl, by rw [HST2.out], hst, ?_, ?_, hb2.setCell (p := ⟨g1, i * 5 + 3, none⟩) hg1 _⟩
            · rw [HST2.out]; exact HSA.out.symm
            · rw [HST2.out]
              have e5 : (inCells (ins' ++ [i])).take (m * 1) = inCells ins' := by simp [inCells, ← HM.out]
              rwa [e5] at hs4
          case measure => simp [intOf]; omega
        · have hcc : shutsT (L x) = false ∨ (shutsT (L x) = true ∧ n2 = 0) := by
            cases h : shutsT (L x)
            · exact .inl rfl
            · exact .inr ⟨rfl, by have : ¬ 0 < ins.length := fun hp => hsh ⟨h, hp⟩; omega⟩
          have HSH : Hid ((shutsT (L x) && decide (0 < ins.length)) = false) := Lib.hid (by
            rcases hcc with h | ⟨h, h0⟩
            · rw [h]; rfl
            · rw [decide_eq_false (by omega), Bool.and_false])
          clear hsh
          cases run
          · have HST2 : Hid (frT (ls.take (k + 1)) = ⟨out ++ [⟨(ins.length : Int), false, ⟨#[]⟩, false, [x]⟩], ins, true⟩) := Lib.hid (by rw [HST.out]; unfold frStep; rw [hop, HSH.out]; rfl)
            have HON := Lib.hid hon
            have HN2 := Lib.hid hn2
            have hnk : n1 ≤ k := by omega
            have hnk2 : n2 ≤ k := by omega
            clear HST hop o1 o2 o3 o4 o5 hon hn2
            rcases hcc with hsh | ⟨hsh, h0⟩
            case' inr => subst h0
            all_goals
              go_wp2_with (first
                | (go_at_call 58; refine (HO.out _).mono ?_; rintro e w1 ⟨rfl, b1⟩
                   have hP1 := hP.below b1 (Nat.le_refl _)
                   have hin1 := hin.below b1 (Nat.le_refl _)
                   have hb1 := hb.trans (b1.mono hbs)
                   have hz1 := hb1.size)
                | (go_at_call 59; refine (HS.out _).mono ?_; rintro e w2 ⟨rfl, b2⟩; rw [hsh]
                   have hP2 := hP1.below b2 (Nat.le_refl _)
                   have hin2 := hin1.below b2 (Nat.le_refl _)
                   have hb2 := hb1.trans (b2.mono hz1)
                   have hz2 := hb2.size)
                | (at_builtin; refine wpList_app1 Tryz.elParts rfl (.tmp 21) (.tmp 27) rfl rfl (by exact (hP2.1.alloc _).alloc _) rfl (Blk.new' _ _ _ _ (by simp)) rfl (by simp [Value.oneCell']) (by simp only [maxLen]; omega) (by omega) (by simp; omega) ?_
                   intro A3 c3 w3 hr3 ho3 hm3))
              have hrow : Own (w2.alloc (.cells #[.string x] 9)) w.heap.size 9 1 (some ⟨w2.heap.size, 0, none⟩) 1 1 (txCells [x]) :=
                World.ownsRow_lit (base := w.heap.size) (e := 9) (size := 1) w2 #[.string x] 1 hz2 (by unfold maxLen; omega) (by simp)
              have hin3 := ((hin2.alloc (.cells #[.string x] 9)).alloc (.cells #[.int .i64 _, .bool false, .string ⟨#[]⟩, .bool false, .slice (some ⟨w2.heap.size, 0, none⟩) 1 1] 67)).only ho3 (hin2.sep_ne hP2.1 (by decide))
              have hP3 := Parts.push (q := ⟨⟨_, false, ⟨#[]⟩, false, [x]⟩, some ⟨w2.heap.size, 0, none⟩, 1⟩) ((hP2.alloc (.cells #[.string x] 9)).alloc _) (hrow.alloc _) (fun p hp a b ha hb => by
                injection hb with hb
                have := ((hP2.2.1 p hp).lt ha).2
                rw [← hb]; show a.block ≠ w2.heap.size; omega) ho3 hr3
              go_roundw
              case rel =>
                refine ⟨k + 1, A3, A2, n1 + 1, c3, _, c2, _, by omega, by go_num, rfl, rfl, by rw [HST2.out], hP3, ?_, ?_, hb2.trans (ho3.of_alloc.of_alloc.below (fun a ha => (hP2.1.lt ha).1) hz2)⟩
                · rw [HST2.out, List.map_append, hout, HN2.out]; rfl
                · rw [HST2.out]; exact hin3
              case measure => simp [intOf]; omega
          · obtain ⟨ini, p, rfl⟩ : ∃ ini last, ps = ini ++ [last] := by
              have hne : ps ≠ [] := fun e => o2 rfl (by rw [← hout, e]; rfl)
              exact ⟨ps.dropLast, ps.getLast hne, (List.dropLast_concat_getLast hne).symm⟩
            have HST2 : Hid (frT (ls.take (k + 1)) = ⟨addLast out x, ins, true⟩) := Lib.hid (by rw [HST.out]; unfold frStep; rw [hop, HSH.out]; rfl)
            have HAL : Hid (addLast out x = ini.map (·.t) ++ [{ p.t with lines := p.t.lines ++ [x] }]) := Lib.hid (by unfold addLast; rw [← hout]; simp)
            have hpl : p.t.lines.length ≤ k := o5 p.t (by rw [← hout]; simp)
            obtain ⟨j, hj⟩ : ∃ j, ini.length = j := ⟨_, rfl⟩
            have hnj : n1 = j + 1 := by rw [← hn1, ← hj]; simp
            subst hnj
            obtain ⟨g1, rfl, hg1, _⟩ := hP.1.some_ (by omega)
            have hjk : j + 1 ≤ k := by omega
            have hnk2 : n2 ≤ k := by omega
            have HJ := Lib.hid hj
            have hpj : Hid ((ini ++ [p])[j]? = some p) := Lib.hid (by rw [← hj]; simp)
            clear HST hop o1 o2 o3 o4 o5 hon hn1 hj
            rcases hcc with hsh | ⟨hsh, h0⟩
            case' inr => subst h0
            all_goals
              go_wp2_with (first
                | (go_at_call 58; refine (HO.out _).mono ?_; rintro e w1 ⟨rfl, b1⟩
                   have hP1 := hP.below b1 (Nat.le_refl _)
                   have hin1 := hin.below b1 (Nat.le_refl _)
                   have hb1 := hb.trans (b1.mono hbs)
                   have hz1 := hb1.size)
                | (go_at_call 59; refine (HS.out _).mono ?_; rintro e w2 ⟨rfl, b2⟩; rw [hsh]
                   have hP2 := hP1.below b2 (Nat.le_refl _)
                   have hin2 := hin1.below b2 (Nat.le_refl _)
                   have hb2 := hb1.trans (b2.mono hz1)
                   have hz2 := hb2.size
                   obtain ⟨_, _, _, _, p4⟩ := hP2.cells_at hpj.out)
                | (at_builtin; refine wpList_app1 Tryz.elTexts rfl (.tmp 78) (.tmp 80) rfl rfl (by exact (hP2.2.1 p (by simp)).alloc _) rfl (Blk.new' _ _ _ _ (by simp)) rfl (by simp [Value.oneCell']) (by simp only [maxLen]; omega) (by omega) (by simp; omega) ?_
                   intro A3 c3 w3 hr3 ho3 hm3
                   have hrow := (hP2.1.alloc (.cells #[.string x] 9)).only ho3 ((hP2.sep p (by simp)).symm)
                   have f4 := hrow.frozen (j * 5 + 4)
                   have e4 : w3.cell? ⟨g1, j * 5 + 4, none⟩ = some (.slice p.la p.t.lines.length p.lc) := hrow.cell ((flat_get PartR.cells 5 part_len (ini ++ [p]) j 4 (by omega) hpj.out).trans rfl)))
              have hP4 := Parts.line (hP2.alloc (.cells #[.string x] 9)) ho3 hm3 hr3
              have hin4 := ((hin2.alloc (.cells #[.string x] 9)).only ho3 (hin2.sep_ne (hP2.2.1 p (by simp)) (by decide))).only (only_setCell w3 g1 (j * 5 + 4) (.slice A3 (p.t.lines.length + 1) c3)) (hin2.sep_ne hP2.1 (by decide))
              rw [HJ.out] at hP4
              go_roundw
              case rel =>
                refine ⟨k + 1, some ⟨g1, 0, none⟩, A2, j + 1, c1, _, c2, _, by omega, by go_num, rfl, rfl, by rw [HST2.out], hP4, ?_, ?_, (hb2.trans (ho3.of_alloc.below (fun a ha => ((hP2.2.1 p (by simp)).lt ha).1) hz2)).setCell (p := ⟨g1, j * 5 + 4, none⟩) hg1 _⟩
                · rw [HST2.out, HAL.out]; simp
                · rw [HST2.out]; exact hin4
              case measure => simp [intOf]; omega
      · have HST2 : Hid (frT (ls.take (k + 1)) = ⟨out ++ [⟨(ins.length : Int), true, S lbl, true, []⟩], ins ++ [out.length], false⟩) := Lib.hid (by rw [HST.out]; unfold frStep; rw [hop]; rfl)
        clear HST HS hop
        go_wp2_with (first
          | (go_at_call 58; refine (HO.out _).mono ?_; rintro e w1 ⟨rfl, b1⟩
             have hP1 := hP.below b1 (Nat.le_refl _)
             have hin1 := hin.below b1 (Nat.le_refl _)
             have hb1 := hb.trans (b1.mono hbs)
             have hz1 := hb1.size)
          | (at_builtin; refine wpList_app1 Tryz.elParts rfl (.tmp 31) (.tmp 36) rfl rfl (by exact hP1.1.alloc _) rfl (Blk.new' _ _ _ _ (by simp)) rfl (by simp [Value.oneCell']) (by simp only [maxLen]; omega) (by omega) (by simp; omega) ?_
             intro A1' c1' w2 hr2 ho2 hm2
             have hin2 := (hin1.alloc (.cells #[.int .i64 (n2 : Int), .bool true, .string (S lbl), .bool true, .slice none 0 0] 67)).only ho2 (hin1.sep_ne hP1.1 (by decide))
             have hb2 := hb1.trans (ho2.of_alloc.below (fun a ha => (hP1.1.lt ha).1) hz1)
             have hz2 := hb2.size)
          | (at_builtin; refine wpList_app1 Tryz.elInts rfl (.tmp 38) (.tmp 42) rfl rfl (by exact hin2.alloc _) rfl (Blk.new' _ _ _ _ (by simp)) rfl (by simp [Value.oneCell']) (by simp only [maxLen]; omega) (by omega) (by simp; omega) ?_
             intro A2' c2' w3 hr3 ho3 hm3))
        have hP2 : Parts w2 w.heap.size A1' (n1 + 1) c1' (ps ++ [⟨⟨(n2 : Int), true, S lbl, true, []⟩, none, 0⟩]) :=
          Parts.push (q := ⟨⟨(n2 : Int), true, S lbl, true, []⟩, none, 0⟩) (hP1.alloc _) (Own.nil _ _ _ _) (fun _ _ => Sep.none_r) ho2 hr2
        have hP3 := (hP2.alloc (.cells #[.int .i64 (n1 : Int)] 3)).only (hin2.alloc _) ho3 (by decide) (by decide)
        go_roundw
        case rel =>
          refine ⟨k + 1, A1', A2', n1 + 1, c1', n2 + 1, c2', _, by omega, by go_num, rfl, rfl, by rw [HST2.out], hP3, ?_, ?_, hb2.trans (ho3.of_alloc.below (fun a ha => (hin2.lt ha).1) hz2)⟩
          · rw [HST2.out, List.map_append, hout, hn2]; rfl
          · rw [HST2.out]
            simpa [inCells, hon] using hr3
        case measure => simp [intOf]; omega
    · have hkn : k = n := by omega
      subst hkn
      rw [List.take_of_length_le (by rw [HL.out]; omega)] at hout
      clear hok hin
      go_wp2_with fail
      go_ret
      exact ⟨A1, n1, c1, ps, rfl, hP, hout, hb⟩
end Go.Proofs.YtgdnphmannbpgaaGreatDoor
