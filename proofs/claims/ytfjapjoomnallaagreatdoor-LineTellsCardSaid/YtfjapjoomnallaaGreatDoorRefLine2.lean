/-
  bowdlerref1: Expand, Indent, Strip.
-/
import Derived.Test.YtfjapjoomnallaaGreatDoorRefLine
namespace Go.Proofs.YtfjapjoomnallaaGreatDoor
open Go.RowKit
set_option linter.unusedVariables false

def txOf : Value → ByteArray
  | .string s => s
  | _ => ⟨#[]⟩
theorem gap_col {l : List UInt8} {k c : Nat} (hk : k < l.length) (h : gapT l[k] = false) : colT c (l.drop k) = c ∧ restT (l.drop k) = l.drop k := by
  have h2 : NoBlank (l.drop k) := by
    intro b hb
    rw [List.head?_drop, List.getElem?_eq_getElem hk] at hb
    injection hb with hb
    subst hb
    unfold gapT at h
    simpa using h
  exact ⟨colT_no h2 c, restT_of_no h2⟩
theorem gap_more {l : List UInt8} {k c : Nat} (hk : k < l.length) (h : gapT l[k] = true) : colT c (l.drop k) = colT (if l[k] = 32 then c + 1 else c + (4 - c % 4)) (l.drop (k + 1)) ∧ restT (l.drop k) = restT (l.drop (k + 1)) := by
  rw [List.drop_eq_getElem_cons hk]
  have hr : restT (l[k] :: l.drop (k + 1)) = restT (l.drop (k + 1)) := by
    unfold restT
    rw [List.dropWhile_cons, if_pos (by simpa [gapT] using h)]
  refine ⟨?_, hr⟩
  rw [colT]
  by_cases h32 : l[k] = 32
  · rw [if_pos h32, if_pos h32]
  · have h9 : l[k] = 9 := by simpa [gapT, h32] using h
    rw [if_neg h32, if_pos h9, if_neg h32]
theorem rep_snoc (c : Nat) : S (List.replicate c 32) ++ (⟨#[32]⟩ : ByteArray) = S (List.replicate (c + 1) 32) := by
  apply L_inj
  rw [L_append, L_S, L_S, List.replicate_succ']
  rfl

set_option maxHeartbeats 2000000 in
set_option maxRecDepth 100000 in
theorem refExpand_any (s : ByteArray) (w : World) (hs : s.size ≤ 1048576) :
    Calls Tryz.prog 16 #[.string s] w fun e w' => e = .returned (.string (S (expandT (L s)))) ∧ w' = w := by
  go_enter Tryz.func16, Tryz.ntmps16
  go_wp2_with fail
  go_loop [3, 4] (fun s3 s4 => ∃ (k c : Nat) (acc : ByteArray), k ≤ s.size ∧ c ≤ 4 * k ∧ s4 = .int .i64 (k : Int) ∧ s3 = .string acc ∧ acc.size = c ∧ Hid (acc = S (List.replicate c 32)) ∧ Hid (colT 0 (L s) = colT c ((L s).drop k)) ∧ Hid (restT (L s) = restT ((L s).drop k))) (fun _ s4 => s.size - (intOf s4).toNat)
  case atStart => exact ⟨0, 0, ⟨#[]⟩, Nat.zero_le _, Nat.zero_le _, rfl, rfl, rfl, Lib.hid rfl, Lib.hid (by simp), Lib.hid (by simp)⟩
  case round =>
    obtain ⟨k, c, acc, hk, hck, rfl, rfl, hcs, HA, HC, HR⟩ := hrel
    by_cases hlt : k < s.size
    · have hil : k < (L s).length := by simpa using hlt
      have hgb : s[k]'hlt = (L s)[k]'hil := get_L s k hlt
      have HG := Lib.hid (gap_any (s[k]'hlt) w)
      cases hv : gapT ((L s)[k]'hil)
      · obtain ⟨e1, e2⟩ := gap_col (c := c) hil hv
        have hE : Hid (acc ++ s.extract k s.size = S (expandT (L s))) := Lib.hid (by
          rw [HA.out]
          apply L_inj
          rw [L_append, L_S, L_S, L_extract, List.take_of_length_le (by simp), expandT, HC.out, HR.out, e1, e2])
        have p1 : ¬ 9223372036854775807 < acc.size + (s.extract k s.size).size := by rw [ByteArray.size_extract]; omega
        rw [hgb, hv] at HG
        rw [← hgb] at HG
        clear hv e1 e2
        go_wp2_with (go_at_call 27; refine HG.out.mono ?_; rintro e w1 ⟨rfl, rfl⟩)
        go_ret
        rw [hE.out]
        exact ⟨rfl, rfl⟩
      · have hstep := gap_more (c := c) hil hv
        rw [hgb, hv] at HG
        rw [← hgb] at HG
        have p1 : ¬ 9223372036854775807 < acc.size + 1 := by omega
        by_cases h32 : (L s)[k]'hil = 32
        · rw [if_pos h32] at hstep
          have HC2 := Lib.hid (HC.out.trans hstep.1)
          have HR2 := Lib.hid (HR.out.trans hstep.2)
          have q1 : (((s[k]'hlt).toNat : Int) == 9) = false := by rw [hgb, h32]; rfl
          have HA2 : Hid (acc ++ ⟨#[32]⟩ = S (List.replicate (c + 1) 32)) := Lib.hid (by rw [HA.out]; exact rep_snoc c)
          have hs2 : (acc ++ (⟨#[32]⟩ : ByteArray)).size = c + 1 := by rw [ByteArray.size_append, hcs]; rfl
          clear hv hstep h32 hgb
          generalize hacc2 : acc ++ (⟨#[32]⟩ : ByteArray) = acc2 at *
          go_wp2_with (go_at_call 27; refine HG.out.mono ?_; rintro e w1 ⟨rfl, rfl⟩)
          go_loop [3] (fun s3 => s3 = .string acc2) (fun _ => 0)
          case atStart => rfl
          case round =>
            subst hrel
            go_wp2_with fail
            go_round
            case rel => exact ⟨k + 1, c + 1, acc2, by omega, by omega, by go_num, rfl, hs2, HA2, HC2, HR2⟩
            case measure => simp [intOf]; omega
        · rw [if_neg h32] at hstep
          have HC2 := Lib.hid (HC.out.trans hstep.1)
          have HR2 := Lib.hid (HR.out.trans hstep.2)
          have h9 : (L s)[k]'hil = 9 := by simpa [gapT, h32] using hv
          have q1 : (((s[k]'hlt).toNat : Int) == 9) = true := by rw [hgb, h9]; rfl
          have HA2 : Hid (acc ++ ⟨#[32]⟩ = S (List.replicate (c + 1) 32)) := Lib.hid (by rw [HA.out]; exact rep_snoc c)
          have hs2 : (acc ++ (⟨#[32]⟩ : ByteArray)).size = c + 1 := by rw [ByteArray.size_append, hcs]; rfl
          clear hv hstep h32 h9 hgb
          generalize hacc2 : acc ++ (⟨#[32]⟩ : ByteArray) = acc2 at *
          go_wp2_with (go_at_call 27; refine HG.out.mono ?_; rintro e w1 ⟨rfl, rfl⟩)
          go_loop [3] (fun s3 => ∃ (d : Nat) (a : ByteArray), c + 1 ≤ d ∧ d ≤ c + (4 - c % 4) ∧ s3 = .string a ∧ a.size = d ∧ Hid (a = S (List.replicate d 32))) (fun s3 => c + 4 - (txOf s3).size)
          case atStart => exact ⟨c + 1, acc2, by omega, by omega, rfl, hs2, HA2⟩
          case round =>
            obtain ⟨d, a, hd1, hd2, rfl, hda, HD⟩ := hrel
            by_cases hd4 : d % 4 = 0
            · have hdc : d = c + (4 - c % 4) := by omega
              have q2 : (((a.size : Int) % 4) != 0) = false := by rw [hda]; simp; omega
              go_wp2_with fail
              go_round
              case rel => exact ⟨k + 1, d, a, by omega, by omega, by go_num, rfl, hda, HD, Lib.hid (by rw [hdc]; exact HC2.out), HR2⟩
              case measure => simp [intOf]; omega
            · have q2 : (((a.size : Int) % 4) != 0) = true := by rw [hda, bne_iff_ne]; omega
              have p2 : ¬ 9223372036854775807 < a.size + 1 := by omega
              have HD2 : Hid (a ++ ⟨#[32]⟩ = S (List.replicate (d + 1) 32)) := Lib.hid (by rw [HD.out]; exact rep_snoc d)
              have hs3 : (a ++ (⟨#[32]⟩ : ByteArray)).size = d + 1 := by rw [ByteArray.size_append, hda]; rfl
              go_wp2_with fail
              go_round
              case rel => exact ⟨d + 1, _, by omega, by omega, rfl, hs3, HD2⟩
              case measure => simp [txOf, hda]; omega
    · have hks : k = s.size := by omega
      subst hks
      have hE : Hid (acc = S (expandT (L s))) := Lib.hid (by
        have e1 := HC.out
        have e2 := HR.out
        rw [List.drop_of_length_le (by simp)] at e1 e2
        rw [HA.out, expandT, e1, e2]
        simp [colT, restT])
      go_wp2_with fail
      go_ret
      rw [hE.out]
      exact ⟨rfl, rfl⟩
end Go.Proofs.YtfjapjoomnallaaGreatDoor
