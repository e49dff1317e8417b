/- Joined texts: RefBase, RefFrame, RefWith, LentTx. -/
import Derived.Test.YtgdnphmannbpgaaGreatDoorGB
import Derived.Test.YtgdnphmannbpgaaGreatDoorGA
import Derived.Test.YtgdnphmannbpgaaGreatDoorGC
import Derived.Test.YtgdnphmannbpgaaGreatDoorGJ
/-
  bowdlerref1: gap, Split, Join (printed by mkreftx.py out of XRefLine).
-/
namespace Go.Proofs.YtgdnphmannbpgaaGreatDoor
open Go.RowKit
set_option linter.unusedVariables false

def gapT (b : UInt8) : Bool := b == 32 || b == 9
set_option maxRecDepth 100000 in
theorem gap_any (b : UInt8) (w : World) : Calls Tryz.prog 99 #[.int .u8 (b.toNat : Int)] w fun e w' => e = .returned (.bool (gapT b)) ∧ w' = w := by
  by_cases h : b = 32
  · subst h
    go_enter Tryz.func99, Tryz.ntmps99
    go_wp2_with fail
    go_ret
    exact ⟨rfl, rfl⟩
  · have q1 : ((b.toNat : Int) == 32) = false := byte_ne (n := 32) (by omega) (by intro e; exact h e)
    by_cases h9 : b = 9
    · subst h9
      go_enter Tryz.func99, Tryz.ntmps99
      go_wp2_with fail
      go_ret
      exact ⟨rfl, rfl⟩
    · have q2 : ((b.toNat : Int) == 9) = false := byte_ne (n := 9) (by omega) (by intro e; exact h9 e)
      have hV : gapT b = false := by simp [gapT, h, h9]
      rw [hV]
      clear hV h h9
      go_enter Tryz.func99, Tryz.ntmps99
      go_wp2_with fail
      go_ret
      exact ⟨rfl, rfl⟩

/-- a line's end found -/
theorem split_step {l : List UInt8} {xs : List (List UInt8)} {p i : Nat} (hpi : p ≤ i) (hi : i < l.length) (h : split10 l = xs ++ split10 (l.drop p)) (hn : 10 ∉ (l.drop p).take (i - p)) (h10 : l[i] = 10) : split10 l = (xs ++ [(l.take i).drop p]) ++ split10 (l.drop (i + 1)) := by
  have h1 : l.drop p = (l.drop p).take (i - p) ++ 10 :: l.drop (i + 1) := by
    conv => lhs; rw [← List.take_append_drop (i - p) (l.drop p)]
    rw [List.drop_drop, show p + (i - p) = i by omega, List.drop_eq_getElem_cons hi, h10]
  rw [h, h1, split10_app _ hn, List.append_assoc, List.drop_take]
  congr 1
theorem split_more {l : List UInt8} {p i : Nat} (hpi : p ≤ i) (hi : i < l.length) (hn : 10 ∉ (l.drop p).take (i - p)) (h10 : ¬ l[i] = 10) : 10 ∉ (l.drop p).take (i + 1 - p) := by
  rw [show i + 1 - p = (i - p) + 1 by omega, List.take_add_one, List.getElem?_drop, show p + (i - p) = i by omega, List.getElem?_eq_getElem hi]
  intro hm
  rcases List.mem_append.1 hm with hm | hm
  · exact hn hm
  · simp only [Option.toList_some, List.mem_singleton] at hm
    exact h10 hm.symm
theorem split_end {l : List UInt8} {xs : List ByteArray} (h : split10 l = xs.map L ++ split10 []) : (linesT l).map S = xs := by
  have h1 : linesT l = xs.map L := by
    unfold linesT
    rw [h]
    simp [split10]
  rw [h1, map_S_L]
theorem split_last {l : List UInt8} {xs : List ByteArray} {p : Nat} (hp : p < l.length) (h : split10 l = xs.map L ++ split10 (l.drop p)) (hn : 10 ∉ l.drop p) : (linesT l).map S = xs ++ [S (l.drop p)] := by
  have h1 : linesT l = xs.map L ++ [l.drop p] := by
    unfold linesT
    rw [h, split10_none hn, if_neg]
    rw [List.getLast?_concat]
    intro e
    injection e with e
    have := congrArg List.length e
    simp at this
    omega
  rw [h1, List.map_append, map_S_L]
  rfl

set_option maxHeartbeats 2000000 in
set_option maxRecDepth 100000 in
theorem refSplit_any (s : ByteArray) (w : World) (hs : s.size ≤ 1048576) :
    Calls Tryz.prog 47 #[.string s] w fun e w' => ∃ A n c, e = .returned (.slice A n c) ∧ Own w' w.heap.size 9 1 A n c (txCells (linesB s)) ∧ Below w.heap.size w w' := by
  go_enter Tryz.func47, Tryz.ntmps47
  go_wp2_with fail
  go_loopw [3, 4, 5] (fun s3 s4 s5 wr => ∃ (xs : List ByteArray) (n p i c : Nat) (A : Option Addr), n ≤ i ∧ p ≤ i ∧ i ≤ s.size ∧ s5 = .int .i64 (i : Int) ∧ s4 = .int .i64 (p : Int) ∧ s3 = .slice A n c ∧ Own wr w.heap.size 9 1 A n c (txCells xs) ∧
      Hid (split10 (L s) = xs.map L ++ split10 ((L s).drop p)) ∧ Hid (10 ∉ ((L s).drop p).take (i - p)) ∧ Below w.heap.size w wr) (fun _ _ s5 _ => s.size - (intOf s5).toNat)
  case atStart => exact ⟨[], 0, 0, 0, 0, none, by omega, by omega, by omega, rfl, rfl, rfl, Own.nil _ _ _ _, Lib.hid (by simp), Lib.hid (by simp), Below.refl _ _⟩
  case round =>
    obtain ⟨xs, n, p, i, c, A, hni, hpi, his, rfl, rfl, rfl, hO, H1, H2, hb⟩ := hrel
    have hz := hb.size
    by_cases hlt : i < s.size
    · have hil : i < (L s).length := by simpa using hlt
      by_cases h10 : (L s)[i]'hil = 10
      · have H3 := Lib.hid (split_step hpi hil H1.out H2.out h10)
        have q1 : (((s[i]'hlt).toNat : Int) == 10) = true := by rw [get_L s i hlt, h10]; rfl
        have H4 : Hid (10 ∉ ((L s).drop (i + 1)).take (i + 1 - (i + 1))) := Lib.hid (by simp)
        have HX : Hid (L (s.extract p i) = ((L s).take i).drop p) := Lib.hid (L_extract s p i)
        clear h10
        go_wp2_with (at_builtin; refine wpList_app1 Tryz.elTexts rfl (.tmp 16) (.tmp 21) rfl rfl (by exact hO.alloc _) rfl (Blk.new' _ _ _ _ (by simp)) rfl (by simp [Value.oneCell']) (by simp only [maxLen]; omega) (by omega) (by simp; omega) ?_
                     intro A2 c2 w2 hO2 ho2 hm2)
        go_roundw
        case rel =>
          refine ⟨xs ++ [s.extract p i], n + 1, i + 1, i + 1, c2, A2, by omega, by omega, by omega, by go_num, by go_num, rfl, by simpa [txCells] using hO2, Lib.hid ?_, H4, hb.trans (ho2.of_alloc.below (fun a ha => (hO.lt ha).1) hz)⟩
          rw [List.map_append, List.map_cons, List.map_nil, HX.out]
          exact H3.out
        case measure => simp [intOf]; omega
      · have H3 := Lib.hid (split_more hpi hil H2.out h10)
        have q1 : (((s[i]'hlt).toNat : Int) == 10) = false := by rw [get_L s i hlt]; exact byte_ne (n := 10) (by omega) (by intro e; exact h10 e)
        clear h10
        go_wp2_with fail
        go_roundw
        case rel => exact ⟨xs, n, p, i + 1, c, A, by omega, by omega, by omega, by go_num, rfl, rfl, hO, H1, H3, hb⟩
        case measure => simp [intOf]; omega
    · have his2 : i = s.size := by omega
      subst his2
      by_cases hp : p < s.size
      · have hE : Hid (linesB s = xs ++ [s.extract p s.size]) := Lib.hid (by
          have h2 := H2.out
          rw [List.take_of_length_le (by simp)] at h2
          have h3 := split_last (xs := xs) (p := p) (by simpa using hp) H1.out h2
          rw [linesB, h3]
          congr 1
          rw [← S_L (s.extract p s.size), L_extract, List.take_of_length_le (by simp)])
        go_wp2_with (at_builtin; refine wpList_app1 Tryz.elTexts rfl (.tmp 29) (.tmp 33) rfl rfl (by exact hO.alloc _) rfl (Blk.new' _ _ _ _ (by simp)) rfl (by simp [Value.oneCell']) (by simp only [maxLen]; omega) (by omega) (by simp; omega) ?_
                     intro A2 c2 w2 hO2 ho2 hm2)
        go_ret
        refine ⟨A2, n + 1, c2, rfl, ?_, hb.trans (ho2.of_alloc.below (fun a ha => (hO.lt ha).1) hz)⟩
        rw [hE.out]
        simpa [txCells] using hO2
      · have hps : p = s.size := by omega
        subst hps
        have hE : Hid (linesB s = xs) := Lib.hid (by
          have h1 := H1.out
          rw [List.drop_of_length_le (by simp)] at h1
          rw [linesB]
          exact split_end h1)
        go_wp2_with fail
        go_ret
        refine ⟨A, n, c, rfl, ?_, hb⟩
        rw [hE.out]
        exact hO

set_option maxHeartbeats 2000000 in
set_option maxRecDepth 100000 in
theorem refJoin_any (A : Option Addr) (n c K : Nat) (xs : List ByteArray) (w : World) (hr : Reads w K 1 A n (txCells xs)) (hn : n ≤ 1099511627776) (hb : (joinT (xs.map L)).length ≤ 140737488355328) :
    Calls Tryz.prog 49 #[.slice A n c] w fun e w' => e = .returned (.string (S (joinT (xs.map L)))) ∧ w' = w := by
  have hlen : xs.length = n := by have := hr.1; simpa using this
  have HL := Lib.hid hlen
  clear hlen
  go_enter Tryz.func49, Tryz.ntmps49
  go_wp2_with fail
  go_loop [3, 4] (fun s3 s4 => ∃ (k : Nat) (acc : ByteArray), k ≤ n ∧ s4 = .int .i64 (k : Int) ∧ s3 = .string acc ∧ Hid (acc = S (joinT ((xs.take k).map L)))) (fun _ s4 => n - (intOf s4).toNat)
  case atStart => exact ⟨0, ⟨#[]⟩, Nat.zero_le _, rfl, rfl, Lib.hid rfl⟩
  case round =>
    obtain ⟨k, acc, hk, rfl, rfl, HA⟩ := hrel
    by_cases hlt : k < n
    · obtain ⟨ad, u, rfl, _, hx0, hc⟩ := hr.at_ hlt
      obtain ⟨x, hx, rfl⟩ : ∃ x, xs[k]? = some x ∧ Value.string x = u := by simpa using hx0
      have hT := joinT_take xs hx
      have hle := joinT_take_le xs (k + 1)
      rw [hT, List.length_append, List.length_append] at hle
      simp only [length_L, List.length_singleton] at hle
      have hacc : acc.size = (joinT ((xs.take k).map L)).length := by rw [HA.out, size_S]
      have p1 : ¬ 9223372036854775807 < acc.size + x.size := by omega
      have p2 : ¬ 9223372036854775807 < (acc ++ x).size + 1 := by rw [ByteArray.size_append]; omega
      have p3 : ¬ 9223372036854775807 < acc.size + x.size + 1 := by omega
      have HT : Hid (acc ++ x ++ ⟨#[10]⟩ = S (joinT ((xs.take (k + 1)).map L))) := Lib.hid (by
        rw [hT, HA.out]
        apply L_inj
        rw [L_append, L_append, L_S, L_S, List.append_assoc]
        rfl)
      clear hle hacc hT hx hx0
      go_wp2_with fail
      go_round
      case rel => exact ⟨k + 1, _, by omega, by go_num, rfl, HT⟩
      case measure => simp [intOf]; omega
    · have hkn : k = n := by omega
      subst hkn
      have hE : Hid (acc = S (joinT (xs.map L))) := Lib.hid (by rw [HA.out, List.take_of_length_le (by rw [HL.out]; omega)])
      go_wp2_with fail
      go_ret
      rw [hE.out]
      exact ⟨rfl, rfl⟩
end Go.Proofs.YtgdnphmannbpgaaGreatDoor
/-
  bowdlerref1: rest, Label, At.
-/
namespace Go.Proofs.YtgdnphmannbpgaaGreatDoor
open Go.RowKit
set_option linter.unusedVariables false

def strLn : Value → Nat
  | .string s => s.size
  | _ => 0
theorem trimR_end (l : List UInt8) (b : UInt8) (h : b ≠ 32) : Lib.trimRightB (l ++ [b]) 32 = l ++ [b] := by
  unfold Lib.trimRightB
  rw [List.reverse_append]
  simp [h]
theorem trimR_cut (l : List UInt8) : Lib.trimRightB (l ++ [32]) 32 = Lib.trimRightB l 32 := by
  unfold Lib.trimRightB
  rw [List.reverse_append]
  simp
theorem last_split {l : List UInt8} {m : Nat} {b : UInt8} (hl : l.length = m + 1) (h : l[m]? = some b) : l = l.take m ++ [b] := by
  conv => lhs; rw [← List.take_of_length_le (show l.length ≤ m + 1 by omega)]
  rw [List.take_add_one, h]; rfl

set_option maxHeartbeats 2000000 in
set_option maxRecDepth 100000 in
theorem refRest_any (s : ByteArray) (w : World) (hs : s.size ≤ 1099511627776) :
    Calls Tryz.prog 74 #[.string s] w fun e w' => e = .returned (.string (S (Lib.trimRightB (L s) 32))) ∧ w' = w := by
  go_enter Tryz.func74, Tryz.ntmps74
  go_wp2_with fail
  go_loop [0] (fun s0 => ∃ y : ByteArray, s0 = .string y ∧ y.size ≤ 1099511627776 ∧ Hid (Lib.trimRightB (L s) 32 = Lib.trimRightB (L y) 32)) (fun s0 => strLn s0)
  case atStart => exact ⟨s, rfl, hs, Lib.hid rfl⟩
  case round =>
    obtain ⟨y, rfl, hys, HY⟩ := hrel
    by_cases h0 : y.size = 0
    · obtain rfl := bytes_none h0
      have HE : Hid (S (Lib.trimRightB (L s) 32) = ⟨#[]⟩) := Lib.hid (by rw [HY.out]; rfl)
      go_wp2_with fail
      go_ret
      rw [HE.out]
      exact ⟨rfl, rfl⟩
    · obtain ⟨p1, p2, p3⟩ := bytes_some h0
      have x5 : ((y.size : Int) - 1).toNat = y.size - 1 := by omega
      have x6 : (0 : Int) ≤ (y.size : Int) - 1 := by omega
      have x7 : IntKind.i64.wrap ((y.size : Int) - 1) = ((y.size - 1 : Nat) : Int) := (IntWalk.i64_in _ (by omega)).trans (by omega)
      have x8 : y.size - 1 < y.size := by omega
      have HGT : Hid (L y = (L y).take (y.size - 1) ++ [y[y.size - 1]'x8]) := Lib.hid (last_split (by rw [length_L]; omega) (by rw [List.getElem?_eq_getElem (by rw [length_L]; exact x8)]; rfl))
      by_cases hb : y[y.size - 1]'x8 = 32
      · go_wp2_with fail
        go_round
        case rel =>
          refine ⟨_, rfl, by simp; omega, Lib.hid ?_⟩
          have hL : L (y.extract 0 (y.size - 1)) = (L y).take (y.size - 1) := by rw [L_extract, List.drop_zero]
          rw [HY.out, hL]
          conv => lhs; rw [HGT.out, hb, trimR_cut]
        case measure => simp [strLn]; omega
      · have p5 : ((y[y.size - 1].toNat : Int) == 32) = false := byte_ne (n := 32) (by decide) hb
        have HE : Hid (S (Lib.trimRightB (L s) 32) = y) := Lib.hid (by
          rw [HY.out, HGT.out, trimR_end _ _ hb, ← HGT.out, S_L])
        go_wp2_with fail
        go_ret
        rw [HE.out]
        exact ⟨rfl, rfl⟩

theorem badC_or (b : UInt8) : (L badC).contains b = (b == 123 || b == 125 || b == 124 || b == 58 || gapT b) := by
  show ([123, 125, 124, 58, 32, 9] : List UInt8).contains b = _
  simp only [List.contains_cons, List.contains_nil, Bool.or_false, gapT, Bool.or_assoc]

set_option maxHeartbeats 4000000 in
set_option maxRecDepth 100000 in
theorem refLabel_any (s : ByteArray) (w : World) (hs : s.size ≤ 1099511627776) :
    Calls Tryz.prog 75 #[.string s] w fun e w' => e = .returned (.bool (labelT (L s))) ∧ w' = w := by
  go_enter Tryz.func75, Tryz.ntmps75
  go_wp2_with fail
  go_loop [3] (fun s3 => ∃ k : Nat, k ≤ s.size ∧ s3 = .int .i64 (k : Int) ∧ Hid (∀ b ∈ (L s).take k, (L badC).contains b = false)) (fun s3 => s.size - (intOf s3).toNat)
  case atStart => exact ⟨0, Nat.zero_le _, rfl, Lib.hid (by simp)⟩
  case round =>
    obtain ⟨k, hk, rfl, HA⟩ := hrel
    by_cases hlt : k < s.size
    · have hlt2 : k < (L s).length := by simpa using hlt
      have HB : Hid ((L s)[k]? = some (s[k]'hlt)) := Lib.hid (by rw [List.getElem?_eq_getElem hlt2]; rfl)
      have HBad : Hid ((L badC).contains (s[k]'hlt) = true → labelT (L s) = false) := Lib.hid (by
        intro h
        unfold labelT
        have : (L s).all (fun b => !(L badC).contains b) = false := by
          rw [List.all_eq_false]
          exact ⟨s[k]'hlt, List.mem_of_getElem? HB.out, by rw [h]; decide⟩
        rw [this, Bool.and_false])
      have HOr := Lib.hid (badC_or (s[k]'hlt))
      by_cases b1 : s[k]'hlt = 123
      · have HR : Hid (labelT (L s) = false) := Lib.hid (HBad.out (by rw [HOr.out, b1]; rfl))
        have q1 : (((s[k]'hlt).toNat : Int) == 123) = true := by rw [b1]; rfl
        clear b1
        go_wp2_with fail
        go_ret
        rw [HR.out]
        exact ⟨rfl, rfl⟩
      have q1 : (((s[k]'hlt).toNat : Int) == 123) = false := byte_ne (n := 123) (by decide) b1
      by_cases b2 : s[k]'hlt = 125
      · have HR : Hid (labelT (L s) = false) := Lib.hid (HBad.out (by rw [HOr.out, b2]; rfl))
        have q2 : (((s[k]'hlt).toNat : Int) == 125) = true := by rw [b2]; rfl
        clear b1 b2
        go_wp2_with fail
        go_ret
        rw [HR.out]
        exact ⟨rfl, rfl⟩
      have q2 : (((s[k]'hlt).toNat : Int) == 125) = false := byte_ne (n := 125) (by decide) b2
      by_cases b3 : s[k]'hlt = 124
      · have HR : Hid (labelT (L s) = false) := Lib.hid (HBad.out (by rw [HOr.out, b3]; rfl))
        have q3 : (((s[k]'hlt).toNat : Int) == 124) = true := by rw [b3]; rfl
        clear b1 b2 b3
        go_wp2_with fail
        go_ret
        rw [HR.out]
        exact ⟨rfl, rfl⟩
      have q3 : (((s[k]'hlt).toNat : Int) == 124) = false := byte_ne (n := 124) (by decide) b3
      by_cases b4 : s[k]'hlt = 58
      · have HR : Hid (labelT (L s) = false) := Lib.hid (HBad.out (by rw [HOr.out, b4]; rfl))
        have q4 : (((s[k]'hlt).toNat : Int) == 58) = true := by rw [b4]; rfl
        clear b1 b2 b3 b4
        go_wp2_with fail
        go_ret
        rw [HR.out]
        exact ⟨rfl, rfl⟩
      have q4 : (((s[k]'hlt).toNat : Int) == 58) = false := byte_ne (n := 58) (by decide) b4
      cases hg : gapT (s[k]'hlt)
      · have HN : Hid (∀ b ∈ (L s).take (k + 1), (L badC).contains b = false) := Lib.hid (by
          intro b hb
          rw [List.take_add_one, HB.out, Option.toList_some, List.mem_append, List.mem_singleton] at hb
          rcases hb with hb | rfl
          · exact HA.out b hb
          · rw [HOr.out, hg]; simp [b1, b2, b3, b4])
        clear b1 b2 b3 b4
        go_wp2_with (go_at_call 99; refine (gap_any _ _).mono ?_; rintro e w1 ⟨rfl, hw⟩; subst w1; rw [hg])
        go_round
        case rel => exact ⟨k + 1, by omega, by go_num, HN⟩
        case measure => simp [intOf]; omega
      · have HR : Hid (labelT (L s) = false) := Lib.hid (HBad.out (by rw [HOr.out, hg]; simp))
        clear b1 b2 b3 b4
        go_wp2_with (go_at_call 99; refine (gap_any _ _).mono ?_; rintro e w1 ⟨rfl, hw⟩; subst w1; rw [hg])
        go_ret
        rw [HR.out]
        exact ⟨rfl, rfl⟩
    · have hks : k = s.size := by omega
      subst hks
      have hall : (L s).all (fun b => !(L badC).contains b) = true := List.all_eq_true.2 fun b hb => by
        rw [HA.out b (by rw [List.take_of_length_le (by simp)]; exact hb)]; rfl
      by_cases h1 : s.size = 0
      · have HR : Hid (labelT (L s) = false) := Lib.hid (by rw [bytes_none h1]; rfl)
        clear hall
        have c1 : decide ((1 : Int) ≤ (s.size : Int)) = false := decide_eq_false (by omega)
        go_wp2_with fail
        go_ret
        rw [HR.out]
        exact ⟨rfl, rfl⟩
      · have hne : (L s).isEmpty = false := by
          cases he : (L s) with
          | nil => exfalso; have := congrArg List.length he; rw [length_L] at this; exact h1 this
          | cons => rfl
        by_cases h40 : s.size ≤ 40
        · have HR : Hid (labelT (L s) = true) := Lib.hid (by unfold labelT; rw [hall, hne, decide_eq_true (by rw [length_L]; exact h40)]; rfl)
          clear hall hne
          go_wp2_with fail
          go_ret
          rw [HR.out]
          refine ⟨?_, rfl⟩
          show Ending.returned (Value.bool (decide ((s.size : Int) ≤ 40))) = _
          rw [decide_eq_true (by omega)]
        · have HR : Hid (labelT (L s) = false) := Lib.hid (by unfold labelT; rw [hne, decide_eq_false (by rw [length_L]; exact h40)]; rfl)
          clear hall hne
          go_wp2_with fail
          go_ret
          rw [HR.out]
          refine ⟨?_, rfl⟩
          show Ending.returned (Value.bool (decide ((s.size : Int) ≤ 40))) = _
          rw [decide_eq_false (by omega)]

set_option maxHeartbeats 2000000 in
set_option maxRecDepth 100000 in
theorem refAt_any (A : Option Addr) (n c K : Nat) (xs : List ByteArray) (x : ByteArray) (w : World) (hr : Reads w K 1 A n (txCells xs)) (hn : n ≤ 1099511627776) :
    Calls Tryz.prog 12 #[.slice A n c, .string x] w fun e w' => e = .returned (.int .i64 (idxT xs x)) ∧ w' = w := by
  have hlen : xs.length = n := by have := hr.1; simpa using this
  have HL := Lib.hid hlen
  clear hlen
  go_enter Tryz.func12, Tryz.ntmps12
  go_wp2_with fail
  go_loop [5] (fun s5 => ∃ k : Nat, k ≤ n ∧ s5 = .int .i64 k ∧ Hid (idxF x 0 xs = idxF x k (xs.drop k))) (fun s5 => n - (intOf s5).toNat)
  case atStart => exact ⟨0, Nat.zero_le _, rfl, Lib.hid rfl⟩
  case round =>
    obtain ⟨k, hk, rfl, HIX⟩ := hrel
    by_cases hlt : k < n
    · obtain ⟨ad, u, rfl, _, hx0, hc⟩ := hr.at_ hlt
      obtain ⟨y, hy, rfl⟩ : ∃ y, xs[k]? = some y ∧ Value.string y = u := by simpa using hx0
      have hlt2 : k < xs.length := by rw [HL.out]; exact hlt
      have hd : xs.drop k = y :: xs.drop (k + 1) := by
        rw [List.drop_eq_getElem_cons hlt2]
        rw [List.getElem?_eq_getElem hlt2] at hy
        rw [Option.some.inj hy]
      have HIY : Hid (idxF x 0 xs = if x = y then (k : Int) else idxF x (k + 1) (xs.drop (k + 1))) := Lib.hid (by rw [HIX.out, hd, idxF])
      clear hd hy hx0
      by_cases hxy : y = x
      · have HR : Hid (idxT xs x = (k : Int)) := Lib.hid (by have := HIY.out; rw [if_pos hxy.symm] at this; exact this)
        subst hxy
        go_wp2_with fail
        go_ret
        rw [HR.out]
        exact ⟨rfl, rfl⟩
      · have HR : Hid (idxF x 0 xs = idxF x (k + 1) (xs.drop (k + 1))) := Lib.hid (by have := HIY.out; rw [if_neg (fun h => hxy h.symm)] at this; exact this)
        obtain ⟨t1, t2, t3⟩ := bytes_ne hxy
        clear hxy
        go_wp2_with fail
        go_round
        case rel => exact ⟨k + 1, by omega, by go_num, HR⟩
        case measure => simp [intOf]; omega
    · have HR : Hid (idxT xs x = -1) := Lib.hid (by
        unfold idxT; rw [HIX.out, List.drop_eq_nil_of_le (by rw [HL.out]; omega)]; rfl)
      go_wp2_with fail
      go_ret
      rw [HR.out]
      exact ⟨rfl, rfl⟩
end Go.Proofs.YtgdnphmannbpgaaGreatDoor
/-
  bowdlerref1.with.
-/
namespace Go.Proofs.YtgdnphmannbpgaaGreatDoor
open Go.RowKit
set_option linter.unusedVariables false

set_option maxHeartbeats 1000000 in
set_option maxRecDepth 100000 in
theorem refWith_any (A : Option Addr) (n c K : Nat) (xs : List ByteArray) (x : ByteArray) (w : World) (hr : Reads w K 1 A n (txCells xs)) (hn : n ≤ 1048576) :
    Calls Tryz.prog 42 #[.slice A n c, .string x] w fun e w' => ∃ B d, e = .returned (.slice B (n + 1) d) ∧ Own w' w.heap.size 9 1 B (n + 1) d (txCells (xs ++ [x])) ∧ Below w.heap.size w w' := by
  go_enter Tryz.func42, Tryz.ntmps42
  go_wp2_with (first
    | (at_builtin; refine wpList_app Tryz.elTexts rfl (.const (.slice none 0 0)) (.tmp 5) rfl rfl (Own.nil _ w.heap.size _ _) rfl hr (tx_one _) (by simp only [maxLen]; omega) (by omega) (Nat.le_refl _) ?_
       intro A6 c6 w6 hown6 ho6 hm6
       rw [Nat.zero_add, List.nil_append] at hown6
       have b6 := ho6.below (K := w.heap.size) (fun a ha => by cases ha) (Nat.le_refl _)
       have hz6 := b6.size)
    | (at_builtin; refine wpList_app1 Tryz.elTexts rfl (.tmp 6) (.tmp 8) rfl rfl (by exact hown6.alloc _) rfl (Blk.new' _ _ _ _ (by simp)) rfl (by simp [Value.oneCell']) (by simp only [maxLen]; omega) (by omega) (by simp; omega) ?_
       intro B d w2 hO2 ho2 hm2))
  go_ret
  exact ⟨B, d, rfl, by simpa [txCells] using hO2, b6.trans (ho2.of_alloc.below (fun a ha => (hown6.lt ha).1) hz6)⟩
end Go.Proofs.YtgdnphmannbpgaaGreatDoor
/-
  bowdlerbook.copyTexts, LentTexts, StaysTexts (printed by mkreftx.py).
-/
namespace Go.Proofs.YtgdnphmannbpgaaGreatDoor
open Go.RowKit
set_option linter.unusedVariables false

set_option maxHeartbeats 1000000 in
set_option maxRecDepth 100000 in
theorem copyTexts_any (A : Option Addr) (n c K : Nat) (xs : List ByteArray) (w : World) (hr : Reads w K 1 A n (txCells xs)) (hn : n ≤ 1048576) :
    Calls Tryz.prog 39 #[.slice A n c] w fun e w' => ∃ A' c', e = .returned (.slice A' n c') ∧ Own w' w.heap.size 9 1 A' n c' (txCells xs) ∧ Below w.heap.size w w' := by
  go_enter Tryz.func39, Tryz.ntmps39
  go_wp2_with (at_builtin; refine wpList_app Tryz.elTexts rfl (.const (.slice none 0 0)) (.tmp 3) rfl rfl (Own.nil _ w.heap.size _ _) rfl hr (tx_one _) (by simp only [maxLen]; omega) (by omega) (Nat.le_refl _) ?_
               intro A6 c6 w6 hown6 ho6 hm6
               rw [Nat.zero_add, List.nil_append] at hown6)
  go_ret
  exact ⟨A6, c6, rfl, hown6, ho6.below (fun a ha => by cases ha) (Nat.le_refl _)⟩

def markB : ByteArray := { data := #[109, 97, 114, 107] }
set_option maxHeartbeats 1000000 in
set_option maxRecDepth 100000 in
theorem lentTexts_any (A : Option Addr) (n c K : Nat) (xs : List ByteArray) (w : World) (hr : Reads w K 1 A n (txCells xs)) (hn : n ≤ 1000000) :
    Calls Tryz.prog 13 #[.slice A n c] w fun e w' => ∃ B d, e = .returned (.slice B n d) ∧ Own w' w.heap.size 9 1 B (n + 1) d (txCells (xs ++ [markB])) ∧ Below w.heap.size w w' := by
  go_enter Tryz.func13, Tryz.ntmps13
  go_wp2_with (first
    | (go_at_call 39; refine (copyTexts_any A n c K xs w hr (by omega)).mono ?_; rintro e w1 ⟨A1, c1, rfl, hO1, b1⟩
       have hz1 := b1.size)
    | (at_builtin; refine wpList_app1 Tryz.elTexts rfl (.tmp 4) (.tmp 5) rfl rfl (by exact hO1.alloc _) rfl (Blk.new' _ _ _ _ (by simp)) rfl (by simp [Value.oneCell']) (by simp only [maxLen]; omega) (by omega) (by simp; omega) ?_
       intro B d w2 hO2 ho2 hm2
       obtain ⟨q, rfl, _, _⟩ := hO2.some_ (by omega)
       have hcap := hO2.cap))
  go_ret
  exact ⟨_, _, rfl, by simpa [txCells, markB] using hO2, b1.trans (ho2.of_alloc.below (fun a ha => (hO1.lt ha).1) hz1)⟩
set_option maxHeartbeats 1000000 in
set_option maxRecDepth 100000 in
theorem staysTexts_any (B A : Option Addr) (n d c K base : Nat) (xs : List ByteArray) (w : World) (hO : Own w base 9 1 B (n + 1) d (txCells (xs ++ [markB]))) (hr : Reads w K 1 A n (txCells xs)) (hn : n ≤ 1000000) :
    Calls Tryz.prog 16 #[.slice B n d, .slice A n c] w fun e w' => e = .returned (.bool true) ∧ ∃ m, w' = w.drewN m := by
  have hlen : xs.length = n := by have := hr.1; simpa using this
  obtain ⟨q, rfl, _, _⟩ := hO.some_ (by omega)
  have hcap := hO.cap
  have k1 : ∀ m, (w.drewN m).cell? ⟨q, n, none⟩ = some (.string markB) := fun m => (hO.drewN m).cell (by rw [← hlen]; simp [txCells])
  have hrd : Reads w w.heap.size 1 (some ⟨q, 0, none⟩) n (txCells xs) := by
    have h1 := (hO.take (m := n) (by omega)).reads
    have : (txCells (xs ++ [markB])).take (n * 1) = txCells xs := by
      rw [Nat.mul_one]
      unfold txCells
      rw [← List.map_take, List.take_append_of_le_length (by omega), List.take_of_length_le (by omega)]
    rw [this] at h1
    exact h1
  have HS := Lib.hid (sameTexts_any (some ⟨q, 0, none⟩) A n n d c (w.heap.size + K) xs xs w (hrd.more (by omega)) (hr.more (by omega)) (by omega) (by omega))
  have hd : decide (xs = xs) = true := decide_eq_true rfl
  have hmk : (markB.toList == [109, 97, 114, 107]) = true := by decide +kernel
  clear hlen hrd hO
  go_enter Tryz.func16, Tryz.ntmps16
  go_wp2_with (go_at_call 45; refine HS.out.mono ?_; rintro e w1 ⟨rfl, mm, rfl⟩; have k2 := k1 mm; rw [hd])
  go_ret
  exact ⟨rfl, mm, rfl⟩
end Go.Proofs.YtgdnphmannbpgaaGreatDoor
