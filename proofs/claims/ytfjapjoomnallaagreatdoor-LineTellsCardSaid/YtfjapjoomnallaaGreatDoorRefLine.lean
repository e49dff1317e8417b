/-
  bowdlerref1: gap, Split, Join, Blank.
-/
import Derived.Test.YtfjapjoomnallaaGreatDoorLine
import Derived.Test.YtfjapjoomnallaaGreatDoorLineB
import Derived.Test.YtfjapjoomnallaaGreatDoorBlankLaw
namespace Go.Proofs.YtfjapjoomnallaaGreatDoor
open Go.RowKit
set_option linter.unusedVariables false

def gapT (b : UInt8) : Bool := b == 32 || b == 9
set_option maxRecDepth 100000 in
theorem gap_any (b : UInt8) (w : World) : Calls Tryz.prog 27 #[.int .u8 (b.toNat : Int)] w fun e w' => e = .returned (.bool (gapT b)) ∧ w' = w := by
  by_cases h : b = 32
  · subst h
    go_enter Tryz.func27, Tryz.ntmps27
    go_wp2_with fail
    go_ret
    exact ⟨rfl, rfl⟩
  · have q1 : ((b.toNat : Int) == 32) = false := byte_ne (n := 32) (by omega) (by intro e; exact h e)
    by_cases h9 : b = 9
    · subst h9
      go_enter Tryz.func27, Tryz.ntmps27
      go_wp2_with fail
      go_ret
      exact ⟨rfl, rfl⟩
    · have q2 : ((b.toNat : Int) == 9) = false := byte_ne (n := 9) (by omega) (by intro e; exact h9 e)
      have hV : gapT b = false := by simp [gapT, h, h9]
      rw [hV]
      clear hV h h9
      go_enter Tryz.func27, Tryz.ntmps27
      go_wp2_with fail
      go_ret
      exact ⟨rfl, rfl⟩

/-- a line's end found -/
theorem split_step {l : List UInt8} {xs : List (List UInt8)} {p i : Nat} (hpi : p ≤ i) (hi : i < l.length) (h : split10 l = xs ++ split10 (l.drop p)) (hn : 10 ∉ (l.drop p).take (i - p)) (h10 : l[i] = 10) : split10 l = (xs ++ [(l.take i).drop p]) ++ split10 (l.drop (i + 1)) := by
  have h1 : l.drop p = (l.drop p).take (i - p) ++ 10 :: l.drop (i + 1) := by
    conv => lhs; rw [← List.take_append_drop (i - p) (l.drop p)]
    rw [List.drop_drop, show p + (i - p) = i by omega, List.drop_eq_getElem_cons hi, h10]
  rw [h, h1, split10_app _ hn, List.append_assoc, List.drop_take]
  congr 1
theorem split_more {l : List UInt8} {p i : Nat} (hpi : p ≤ i) (hi : i < l.length) (hn : 10 ∉ (l.drop p).take (i - p)) (h10 : ¬ l[i] = 10) : 10 ∉ (l.drop p).take (i + 1 - p) := by
  rw [show i + 1 - p = (i - p) + 1 by omega, List.take_add_one, List.getElem?_drop, show p + (i - p) = i by omega, List.getElem?_eq_getElem hi]
  intro hm
  rcases List.mem_append.1 hm with hm | hm
  · exact hn hm
  · simp only [Option.toList_some, List.mem_singleton] at hm
    exact h10 hm.symm
theorem split_end {l : List UInt8} {xs : List ByteArray} (h : split10 l = xs.map L ++ split10 []) : (linesT l).map S = xs := by
  have h1 : linesT l = xs.map L := by
    unfold linesT
    rw [h]
    simp [split10]
  rw [h1, map_S_L]
theorem split_last {l : List UInt8} {xs : List ByteArray} {p : Nat} (hp : p < l.length) (h : split10 l = xs.map L ++ split10 (l.drop p)) (hn : 10 ∉ l.drop p) : (linesT l).map S = xs ++ [S (l.drop p)] := by
  have h1 : linesT l = xs.map L ++ [l.drop p] := by
    unfold linesT
    rw [h, split10_none hn, if_neg]
    rw [List.getLast?_concat]
    intro e
    injection e with e
    have := congrArg List.length e
    simp at this
    omega
  rw [h1, List.map_append, map_S_L]
  rfl

set_option maxHeartbeats 2000000 in
set_option maxRecDepth 100000 in
theorem refSplit_any (s : ByteArray) (w : World) (hs : s.size ≤ 1048576) :
    Calls Tryz.prog 9 #[.string s] w fun e w' => ∃ A n c, e = .returned (.slice A n c) ∧ Own w' w.heap.size 9 1 A n c (txCells (linesB s)) ∧ Below w.heap.size w w' := by
  go_enter Tryz.func9, Tryz.ntmps9
  go_wp2_with fail
  go_loopw [3, 4, 5] (fun s3 s4 s5 wr => ∃ (xs : List ByteArray) (n p i c : Nat) (A : Option Addr), n ≤ i ∧ p ≤ i ∧ i ≤ s.size ∧ s5 = .int .i64 (i : Int) ∧ s4 = .int .i64 (p : Int) ∧ s3 = .slice A n c ∧ Own wr w.heap.size 9 1 A n c (txCells xs) ∧
      Hid (split10 (L s) = xs.map L ++ split10 ((L s).drop p)) ∧ Hid (10 ∉ ((L s).drop p).take (i - p)) ∧ Below w.heap.size w wr) (fun _ _ s5 _ => s.size - (intOf s5).toNat)
  case atStart => exact ⟨[], 0, 0, 0, 0, none, by omega, by omega, by omega, rfl, rfl, rfl, Own.nil _ _ _ _, Lib.hid (by simp), Lib.hid (by simp), Below.refl _ _⟩
  case round =>
    obtain ⟨xs, n, p, i, c, A, hni, hpi, his, rfl, rfl, rfl, hO, H1, H2, hb⟩ := hrel
    have hz := hb.size
    by_cases hlt : i < s.size
    · have hil : i < (L s).length := by simpa using hlt
      by_cases h10 : (L s)[i]'hil = 10
      · have H3 := Lib.hid (split_step hpi hil H1.out H2.out h10)
        have q1 : (((s[i]'hlt).toNat : Int) == 10) = true := by rw [get_L s i hlt, h10]; rfl
        have H4 : Hid (10 ∉ ((L s).drop (i + 1)).take (i + 1 - (i + 1))) := Lib.hid (by simp)
        have HX : Hid (L (s.extract p i) = ((L s).take i).drop p) := Lib.hid (L_extract s p i)
        clear h10
        go_wp2_with (at_builtin; refine wpList_app1 Tryz.elTexts rfl (.tmp 16) (.tmp 21) rfl rfl (by exact hO.alloc _) rfl (Blk.new' _ _ _ _ (by simp)) rfl (by simp [Value.oneCell']) (by simp only [maxLen]; omega) (by omega) (by simp; omega) ?_
                     intro A2 c2 w2 hO2 ho2 hm2)
        go_roundw
        case rel =>
          refine ⟨xs ++ [s.extract p i], n + 1, i + 1, i + 1, c2, A2, by omega, by omega, by omega, by go_num, by go_num, rfl, by simpa [txCells] using hO2, Lib.hid ?_, H4, hb.trans (ho2.of_alloc.below (fun a ha => (hO.lt ha).1) hz)⟩
          rw [List.map_append, List.map_cons, List.map_nil, HX.out]
          exact H3.out
        case measure => simp [intOf]; omega
      · have H3 := Lib.hid (split_more hpi hil H2.out h10)
        have q1 : (((s[i]'hlt).toNat : Int) == 10) = false := by rw [get_L s i hlt]; exact byte_ne (n := 10) (by omega) (by intro e; exact h10 e)
        clear h10
        go_wp2_with fail
        go_roundw
        case rel => exact ⟨xs, n, p, i + 1, c, A, by omega, by omega, by omega, by go_num, rfl, rfl, hO, H1, H3, hb⟩
        case measure => simp [intOf]; omega
    · have his2 : i = s.size := by omega
      subst his2
      by_cases hp : p < s.size
      · have hE : Hid (linesB s = xs ++ [s.extract p s.size]) := Lib.hid (by
          have h2 := H2.out
          rw [List.take_of_length_le (by simp)] at h2
          have h3 := split_last (xs := xs) (p := p) (by simpa using hp) H1.out h2
          rw [linesB, h3]
          congr 1
          rw [← S_L (s.extract p s.size), L_extract, List.take_of_length_le (by simp)])
        go_wp2_with (at_builtin; refine wpList_app1 Tryz.elTexts rfl (.tmp 29) (.tmp 33) rfl rfl (by exact hO.alloc _) rfl (Blk.new' _ _ _ _ (by simp)) rfl (by simp [Value.oneCell']) (by simp only [maxLen]; omega) (by omega) (by simp; omega) ?_
                     intro A2 c2 w2 hO2 ho2 hm2)
        go_ret
        refine ⟨A2, n + 1, c2, rfl, ?_, hb.trans (ho2.of_alloc.below (fun a ha => (hO.lt ha).1) hz)⟩
        rw [hE.out]
        simpa [txCells] using hO2
      · have hps : p = s.size := by omega
        subst hps
        have hE : Hid (linesB s = xs) := Lib.hid (by
          have h1 := H1.out
          rw [List.drop_of_length_le (by simp)] at h1
          rw [linesB]
          exact split_end h1)
        go_wp2_with fail
        go_ret
        refine ⟨A, n, c, rfl, ?_, hb⟩
        rw [hE.out]
        exact hO

set_option maxHeartbeats 2000000 in
set_option maxRecDepth 100000 in
theorem refJoin_any (A : Option Addr) (n c K : Nat) (xs : List ByteArray) (w : World) (hr : Reads w K 1 A n (txCells xs)) (hn : n ≤ 1099511627776) (hb : (joinT (xs.map L)).length ≤ 140737488355328) :
    Calls Tryz.prog 11 #[.slice A n c] w fun e w' => e = .returned (.string (S (joinT (xs.map L)))) ∧ w' = w := by
  have hlen : xs.length = n := by have := hr.1; simpa using this
  have HL := Lib.hid hlen
  clear hlen
  go_enter Tryz.func11, Tryz.ntmps11
  go_wp2_with fail
  go_loop [3, 4] (fun s3 s4 => ∃ (k : Nat) (acc : ByteArray), k ≤ n ∧ s4 = .int .i64 (k : Int) ∧ s3 = .string acc ∧ Hid (acc = S (joinT ((xs.take k).map L)))) (fun _ s4 => n - (intOf s4).toNat)
  case atStart => exact ⟨0, ⟨#[]⟩, Nat.zero_le _, rfl, rfl, Lib.hid rfl⟩
  case round =>
    obtain ⟨k, acc, hk, rfl, rfl, HA⟩ := hrel
    by_cases hlt : k < n
    · obtain ⟨ad, u, rfl, _, hx0, hc⟩ := hr.at_ hlt
      obtain ⟨x, hx, rfl⟩ : ∃ x, xs[k]? = some x ∧ Value.string x = u := by simpa using hx0
      have hT := joinT_take xs hx
      have hle := joinT_take_le xs (k + 1)
      rw [hT, List.length_append, List.length_append] at hle
      simp only [length_L, List.length_singleton] at hle
      have hacc : acc.size = (joinT ((xs.take k).map L)).length := by rw [HA.out, size_S]
      have p1 : ¬ 9223372036854775807 < acc.size + x.size := by omega
      have p2 : ¬ 9223372036854775807 < (acc ++ x).size + 1 := by rw [ByteArray.size_append]; omega
      have p3 : ¬ 9223372036854775807 < acc.size + x.size + 1 := by omega
      have HT : Hid (acc ++ x ++ ⟨#[10]⟩ = S (joinT ((xs.take (k + 1)).map L))) := Lib.hid (by
        rw [hT, HA.out]
        apply L_inj
        rw [L_append, L_append, L_S, L_S, List.append_assoc]
        rfl)
      clear hle hacc hT hx hx0
      go_wp2_with fail
      go_round
      case rel => exact ⟨k + 1, _, by omega, by go_num, rfl, HT⟩
      case measure => simp [intOf]; omega
    · have hkn : k = n := by omega
      subst hkn
      have hE : Hid (acc = S (joinT (xs.map L))) := Lib.hid (by rw [HA.out, List.take_of_length_le (by rw [HL.out]; omega)])
      go_wp2_with fail
      go_ret
      rw [hE.out]
      exact ⟨rfl, rfl⟩

set_option maxHeartbeats 2000000 in
set_option maxRecDepth 100000 in
theorem refBlank_any (s : ByteArray) (w : World) (hs : s.size ≤ 1099511627776) :
    Calls Tryz.prog 14 #[.string s] w fun e w' => e = .returned (.bool (blankT (L s))) ∧ w' = w := by
  go_enter Tryz.func14, Tryz.ntmps14
  go_wp2_with fail
  go_loop [3] (fun s3 => ∃ k : Nat, k ≤ s.size ∧ s3 = .int .i64 (k : Int) ∧ Hid (∀ b ∈ (L s).take k, gapT b = true)) (fun s3 => s.size - (intOf s3).toNat)
  case atStart => exact ⟨0, Nat.zero_le _, rfl, Lib.hid (by simp)⟩
  case round =>
    obtain ⟨k, hk, rfl, H1⟩ := hrel
    by_cases hlt : k < s.size
    · have hil : k < (L s).length := by simpa using hlt
      have hgb : s[k]'hlt = (L s)[k]'hil := get_L s k hlt
      have HG := Lib.hid (gap_any (s[k]'hlt) w)
      cases hv : gapT ((L s)[k]'hil)
      · have hB : Hid (blankT (L s) = false) := Lib.hid (by
          rw [Bool.eq_false_iff]
          intro h
          unfold blankT at h
          rw [List.all_eq_true] at h
          have := h _ (List.getElem_mem hil)
          unfold gapT at hv
          rw [hv] at this
          cases this)
        rw [hgb, hv] at HG
        rw [← hgb] at HG
        clear hv
        go_wp2_with (go_at_call 27; refine HG.out.mono ?_; rintro e w1 ⟨rfl, rfl⟩)
        go_ret
        rw [hB.out]
        exact ⟨rfl, rfl⟩
      · have H2 : Hid (∀ b ∈ (L s).take (k + 1), gapT b = true) := Lib.hid (by
          intro b hb
          rw [List.take_add_one, List.getElem?_eq_getElem hil] at hb
          rcases List.mem_append.1 hb with hb | hb
          · exact H1.out b hb
          · simp only [Option.toList_some, List.mem_singleton] at hb
            rw [hb]
            exact hv)
        rw [hgb, hv] at HG
        rw [← hgb] at HG
        clear hv
        go_wp2_with (go_at_call 27; refine HG.out.mono ?_; rintro e w1 ⟨rfl, rfl⟩)
        go_round
        case rel => exact ⟨k + 1, by omega, by go_num, H2⟩
        case measure => simp [intOf]; omega
    · have hks : k = s.size := by omega
      subst hks
      have hB : Hid (blankT (L s) = true) := Lib.hid (by
        unfold blankT
        rw [List.all_eq_true]
        intro b hb
        have h1 := H1.out b
        rw [List.take_of_length_le (by simp)] at h1
        exact h1 hb)
      go_wp2_with fail
      go_ret
      rw [hB.out]
      exact ⟨rfl, rfl⟩
end Go.Proofs.YtfjapjoomnallaaGreatDoor
