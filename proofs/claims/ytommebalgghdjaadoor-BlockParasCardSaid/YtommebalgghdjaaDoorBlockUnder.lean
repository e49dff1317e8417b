/-
  bowdlerlaw9.BlockUnder: its walk: it answers true, and turns nothing that was there.
-/
import Derived.Test.YtommebalgghdjaaDoorBlockStart
import Derived.Test.YtommebalgghdjaaDoorBlockWords
namespace Go.Proofs.YtommebalgghdjaaDoor
open Go.RowKit

theorem letter_take (x : ByteArray) {j : Nat} (h : j < x.size) (hn : 97 ≤ (x[j]'h).toNat ∧ (x[j]'h).toNat ≤ 122) (ih : ∀ b ∈ (L x).take j, isLetter b = true) : ∀ b ∈ (L x).take (j + 1), isLetter b = true := by
  have hl : j < (L x).length := by simpa using h
  intro b hb
  rw [List.take_add_one, List.getElem?_eq_getElem hl, Option.toList_some, List.mem_append, List.mem_singleton] at hb
  rcases hb with hb | rfl
  · exact ih b hb
  · unfold isLetter
    rw [Bool.and_eq_true, decide_eq_true_eq, decide_eq_true_eq]
    exact hn
theorem z_parse : parseT [[122]] = [⟨1, 0, 0, false, [122], []⟩] := by decide +kernel
theorem under_two {x : Ln} (hx : Wd x) {n : Nat} {c : UInt8} (h1 : 1 ≤ n) (h9 : n ≤ 9) (hc : c = 61 ∨ c = 45) : (parseT [x, List.replicate n c, [122]] = [⟨2, 0, ((if c = 61 then 1 else 2 : Nat) : Int), false, x, []⟩, ⟨1, 0, 0, false, [122], []⟩]) ∧
    ∃ b l, parseT [x, [], List.replicate n c] = ⟨1, 0, 0, false, x, []⟩ :: b :: l ∧ b.kind ≠ 2 := by
  constructor
  · rw [under_heads hx (under_row' h1 hc) (by split <;> decide), z_parse]
  · obtain ⟨b, l, e, hb⟩ := under_alone n (by omega) h1 c (by rcases hc with rfl | rfl <;> simp)
    exact ⟨b, l, by rw [under_blank hx (s := []) rfl, e], hb⟩
theorem rep_S (k : Nat) (c : UInt8) : S (List.replicate k c) ++ (⟨#[c]⟩ : ByteArray) = S (List.replicate (k + 1) c) := by rw [S_append, List.replicate_succ']; rfl

set_option maxHeartbeats 6000000 in
set_option maxRecDepth 100000 in
theorem blockUnder_walk (text : ByteArray) (nn : Int) (dash : Bool) (w : World) (_ : Glb w) (htx : text.size ≤ 140737488351232) (_ : (Lit.int .i64 nn).wf = true) :
    Calls Tryd.prog 10 #[.string text, .int .i64 nn, .bool dash] w fun e w' => e = .returned (.bool true) ∧ Below w.heap.size w w' := by
  by_cases hin : 1 ≤ nn ∧ nn ≤ 9 ∧ ¬ text.size = 0 ∧ text.size ≤ 40
  · obtain ⟨h1, h9, h0, h40⟩ := hin
    obtain ⟨n, rfl⟩ := Int.eq_ofNat_of_zero_le (a := nn) (by omega)
    obtain ⟨t1, t2, t3⟩ := bytes_some h0
    go_enter Tryd.func10, Tryd.ntmps10
    go_wp2_with (go_at_call 16; refine (aliveB_any _).mono ?_; rintro e w1 ⟨rfl, b1⟩)
    have z1 := b1.size
    go_loop [7] (fun s7 => ∃ j : Nat, j ≤ text.size ∧ s7 = .int .i64 j ∧ ∀ b ∈ (L text).take j, isLetter b = true) (fun s7 => text.size - (intOf s7).toNat)
    case atStart => exact ⟨0, Nat.zero_le _, rfl, by simp⟩
    case round =>
      obtain ⟨j, hj, rfl, hno⟩ := hrel
      have HNO := Lib.hid hno
      clear hno
      by_cases hjl : j < text.size
      · obtain ⟨b, hb⟩ : ∃ b, text[j]'hjl = b := ⟨_, rfl⟩
        by_cases c1 : b.toNat < 97
        · have q1 : decide ((b.toNat : Int) < 97) = true := decide_eq_true (by omega)
          go_wp2_with fail
          go_ret
          exact ⟨rfl, b1⟩
        · have q1 : decide ((b.toNat : Int) < 97) = false := decide_eq_false (by omega)
          by_cases c2 : 122 < b.toNat
          · have q2 : decide ((122 : Int) < (b.toNat : Int)) = true := decide_eq_true (by omega)
            go_wp2_with fail
            go_ret
            exact ⟨rfl, b1⟩
          · have q2 : decide ((122 : Int) < (b.toNat : Int)) = false := decide_eq_false (by omega)
            have HT := Lib.hid (letter_take text hjl (by rw [hb]; omega) HNO.out)
            go_wp2_with fail
            go_round
            case rel => exact ⟨j + 1, by omega, by go_num, HT.out⟩
            case measure => simp [intOf]; omega
      · have hwd : Wd (L text) := ⟨fun h => h0 (by have := congrArg List.length h; simpa using this), by
          have := HNO.out
          rwa [List.take_of_length_le (by simp; omega)] at this⟩
        have HWD := Lib.hid hwd
        clear hwd HNO h0 t1 t2 t3
        cases dash
        · have HLAW := Lib.hid (under_two HWD.out (n := n) (c := 61) (by omega) (by omega) (by decide))
          go_wp2_with fail
          go_loop [10, 11] (fun s10 s11 => ∃ k : Nat, k ≤ n ∧ s11 = .int .i64 k ∧ s10 = .string (S (List.replicate k 61))) (fun _ s11 => n - (intOf s11).toNat)
          case atStart => exact ⟨0, Nat.zero_le _, rfl, rfl⟩
          case round =>
            obtain ⟨k, hkn, rfl, rfl⟩ := hrel
            by_cases hlt : k < n
            · have hsz : (S (List.replicate k (61 : UInt8))).size ≤ 9 := by rw [size_S, List.length_replicate]; omega
              have HS := Lib.hid (rep_S k 61)
              generalize S (List.replicate k (61 : UInt8)) = X at *
              have r1 : ¬ 9223372036854775807 < X.size + (⟨#[61]⟩ : ByteArray).size := by have : (⟨#[61]⟩ : ByteArray).size = 1 := rfl; omega
              go_wp2_with fail
              go_round
              case rel => exact ⟨k + 1, by omega, by go_num, by rw [HS.out]⟩
              case measure => simp [intOf]; omega
            · have hkn : k = n := by omega
              subst hkn
              have hL : L (S (List.replicate k (61 : UInt8))) = List.replicate k 61 := L_S _
              have hsz : (S (List.replicate k (61 : UInt8))).size ≤ 9 := by rw [size_S, List.length_replicate]; omega
              obtain ⟨X, hX⟩ : ∃ X, S (List.replicate k (61 : UInt8)) = X := ⟨_, rfl⟩
              rw [hX] at hL hsz ⊢
              have hp1 := parse_any (w1.heap.size + 1) [text, X, ⟨#[122]⟩] (some ⟨w1.heap.size, 0, none⟩) 3 3 (w1.alloc (.cells #[.string text, .string X, .string ⟨#[122]⟩] 9)) (reads_fresh w1 _ _ 1 3 _ rfl rfl) (by simp) (lnOk_of (by
                intro x hx
                simp only [List.mem_cons, List.not_mem_nil, or_false] at hx
                rcases hx with rfl | rfl | rfl
                · omega
                · omega
                · decide)) (by decide) (by decide)
              rw [show ([text, X, ⟨#[122]⟩] : List ByteArray).map L = [L text, L X, [122]] from rfl, hL, HLAW.out.1] at hp1
              have HP1 := Lib.hid hp1
              obtain ⟨b, l', hl', hbk⟩ := HLAW.out.2
              have HL2 := Lib.hid hl'
              have HLX := Lib.hid hL
              clear hp1 hX hL hl'
              have b2 : Below w.heap.size w (w1.alloc (.cells #[.string text, .string X, .string ⟨#[122]⟩] 9)) := b1.alloc z1 _
              go_upto_region 17 with (go_at_call 17; refine HP1.out.mono ?_; rintro e w3 ⟨Ao, mm, co, rfl, hmm, hO, b3⟩)
              have b4 := b2.trans (b3.mono (by simp; omega))
              have z4 := b4.size
              have hm2 : mm = 2 := hmm.symm
              subst hm2
              obtain ⟨g, rfl, _, hgl⟩ := hO.some_ (by omega)
              have hp2 := parse_any (w3.heap.size + 1) [text, ⟨#[]⟩, X] (some ⟨w3.heap.size, 0, none⟩) 3 3 (w3.alloc (.cells #[.string text, .string ⟨#[]⟩, .string X] 9)) (reads_fresh w3 _ _ 1 3 _ rfl rfl) (by simp) (lnOk_of (by
                intro x hx
                simp only [List.mem_cons, List.not_mem_nil, or_false] at hx
                rcases hx with rfl | rfl | rfl
                · omega
                · decide
                · omega)) (by decide) (by decide)
              rw [show ([text, ⟨#[]⟩, X] : List ByteArray).map L = [L text, [], L X] from rfl, HLX.out, HL2.out] at hp2
              have HP2 := Lib.hid hp2
              clear hp2 b2 b3 hmm
              have b5 : Below w3.heap.size w3 (w3.alloc (.cells #[.string text, .string ⟨#[]⟩, .string X] 9)) := (Below.refl _ _).alloc (Nat.le_refl _) _
              go_upto_region 18 with (go_at_call 17; refine HP2.out.mono ?_; rintro e w5 ⟨Ap, m2, c2, rfl, hm2, hO2, b6⟩)
              have b7 : Below w3.heap.size w3 w5 := b5.trans (b6.mono (by simp))
              have b8 := b4.trans (b7.mono z4)
              have hOx := hO.below b7 (Nat.le_refl _)
              obtain ⟨m3, rfl⟩ : ∃ m3, m2 = m3 + 2 := ⟨m2 - 2, by simp at hm2; omega⟩
              obtain ⟨g2, rfl, _, _⟩ := hO2.some_ (by omega)
              have k0 := hOx.cell (j := 0) rfl
              have k1 := hOx.cell (j := 1) rfl
              have k2 : w5.cell? ⟨g, 2, none⟩ = some (.int .i64 1) := hOx.cell (j := 2) rfl
              have k3 := hOx.cell (j := 3) rfl
              have k4 : w5.cell? ⟨g, 4, none⟩ = some (.string text) := hOx.cell (j := 4) rfl
              have k5 : w5.cell? ⟨g, 5, none⟩ = some (.string ⟨#[]⟩) := hOx.cell (j := 5) rfl
              have k6 := hOx.cell (j := 6) rfl
              have f0 := hO2.cell (j := 0) rfl
              have f6 := hO2.cell (j := 6) rfl
              have hbq : (b.kind != 2) = true := by simpa using hbk
              have hmm3 : m3 ≤ 1000 := by
                have := parse_len [L text, [], List.replicate k 61]
                rw [HL2.out] at this
                simp at this hm2
                omega
              have r5 : decide ((2 : Int) ≤ ((m3 + 2 : Nat) : Int)) = true := decide_eq_true (by omega)
              have r6 : (1 : Int) < ((m3 + 2 : Nat) : Int) := by omega
              have r7 : (1 : Int) < (m3 : Int) + 2 := by omega
              have r8 : (0 : Int) < (m3 : Int) + 2 := by omega
              have r9 : decide ((2 : Int) ≤ (m3 : Int) + 2) = true := decide_eq_true (by omega)
              clear hO hO2 hOx b6 b7 b5 hm2 hbk
              go_wp2_with fail
              go_ret
              exact ⟨rfl, b8⟩
        · have HLAW := Lib.hid (under_two HWD.out (n := n) (c := 45) (by omega) (by omega) (by decide))
          go_wp2_with fail
          go_loop [10, 11] (fun s10 s11 => ∃ k : Nat, k ≤ n ∧ s11 = .int .i64 k ∧ s10 = .string (S (List.replicate k 45))) (fun _ s11 => n - (intOf s11).toNat)
          case atStart => exact ⟨0, Nat.zero_le _, rfl, rfl⟩
          case round =>
            obtain ⟨k, hkn, rfl, rfl⟩ := hrel
            by_cases hlt : k < n
            · have hsz : (S (List.replicate k (45 : UInt8))).size ≤ 9 := by rw [size_S, List.length_replicate]; omega
              have HS := Lib.hid (rep_S k 45)
              generalize S (List.replicate k (45 : UInt8)) = X at *
              have r1 : ¬ 9223372036854775807 < X.size + (⟨#[45]⟩ : ByteArray).size := by have : (⟨#[45]⟩ : ByteArray).size = 1 := rfl; omega
              go_wp2_with fail
              go_round
              case rel => exact ⟨k + 1, by omega, by go_num, by rw [HS.out]⟩
              case measure => simp [intOf]; omega
            · have hkn : k = n := by omega
              subst hkn
              have hL : L (S (List.replicate k (45 : UInt8))) = List.replicate k 45 := L_S _
              have hsz : (S (List.replicate k (45 : UInt8))).size ≤ 9 := by rw [size_S, List.length_replicate]; omega
              obtain ⟨X, hX⟩ : ∃ X, S (List.replicate k (45 : UInt8)) = X := ⟨_, rfl⟩
              rw [hX] at hL hsz ⊢
              have hp1 := parse_any (w1.heap.size + 1) [text, X, ⟨#[122]⟩] (some ⟨w1.heap.size, 0, none⟩) 3 3 (w1.alloc (.cells #[.string text, .string X, .string ⟨#[122]⟩] 9)) (reads_fresh w1 _ _ 1 3 _ rfl rfl) (by simp) (lnOk_of (by
                intro x hx
                simp only [List.mem_cons, List.not_mem_nil, or_false] at hx
                rcases hx with rfl | rfl | rfl
                · omega
                · omega
                · decide)) (by decide) (by decide)
              rw [show ([text, X, ⟨#[122]⟩] : List ByteArray).map L = [L text, L X, [122]] from rfl, hL, HLAW.out.1] at hp1
              have HP1 := Lib.hid hp1
              obtain ⟨b, l', hl', hbk⟩ := HLAW.out.2
              have HL2 := Lib.hid hl'
              have HLX := Lib.hid hL
              clear hp1 hX hL hl'
              have b2 : Below w.heap.size w (w1.alloc (.cells #[.string text, .string X, .string ⟨#[122]⟩] 9)) := b1.alloc z1 _
              go_upto_region 17 with (go_at_call 17; refine HP1.out.mono ?_; rintro e w3 ⟨Ao, mm, co, rfl, hmm, hO, b3⟩)
              have b4 := b2.trans (b3.mono (by simp; omega))
              have z4 := b4.size
              have hm2 : mm = 2 := hmm.symm
              subst hm2
              obtain ⟨g, rfl, _, hgl⟩ := hO.some_ (by omega)
              have hp2 := parse_any (w3.heap.size + 1) [text, ⟨#[]⟩, X] (some ⟨w3.heap.size, 0, none⟩) 3 3 (w3.alloc (.cells #[.string text, .string ⟨#[]⟩, .string X] 9)) (reads_fresh w3 _ _ 1 3 _ rfl rfl) (by simp) (lnOk_of (by
                intro x hx
                simp only [List.mem_cons, List.not_mem_nil, or_false] at hx
                rcases hx with rfl | rfl | rfl
                · omega
                · decide
                · omega)) (by decide) (by decide)
              rw [show ([text, ⟨#[]⟩, X] : List ByteArray).map L = [L text, [], L X] from rfl, HLX.out, HL2.out] at hp2
              have HP2 := Lib.hid hp2
              clear hp2 b2 b3 hmm
              have b5 : Below w3.heap.size w3 (w3.alloc (.cells #[.string text, .string ⟨#[]⟩, .string X] 9)) := (Below.refl _ _).alloc (Nat.le_refl _) _
              go_upto_region 18 with (go_at_call 17; refine HP2.out.mono ?_; rintro e w5 ⟨Ap, m2, c2, rfl, hm2, hO2, b6⟩)
              have b7 : Below w3.heap.size w3 w5 := b5.trans (b6.mono (by simp))
              have b8 := b4.trans (b7.mono z4)
              have hOx := hO.below b7 (Nat.le_refl _)
              obtain ⟨m3, rfl⟩ : ∃ m3, m2 = m3 + 2 := ⟨m2 - 2, by simp at hm2; omega⟩
              obtain ⟨g2, rfl, _, _⟩ := hO2.some_ (by omega)
              have k0 := hOx.cell (j := 0) rfl
              have k1 := hOx.cell (j := 1) rfl
              have k2 : w5.cell? ⟨g, 2, none⟩ = some (.int .i64 2) := hOx.cell (j := 2) rfl
              have k3 := hOx.cell (j := 3) rfl
              have k4 : w5.cell? ⟨g, 4, none⟩ = some (.string text) := hOx.cell (j := 4) rfl
              have k5 : w5.cell? ⟨g, 5, none⟩ = some (.string ⟨#[]⟩) := hOx.cell (j := 5) rfl
              have k6 := hOx.cell (j := 6) rfl
              have f0 := hO2.cell (j := 0) rfl
              have f6 := hO2.cell (j := 6) rfl
              have hbq : (b.kind != 2) = true := by simpa using hbk
              have hmm3 : m3 ≤ 1000 := by
                have := parse_len [L text, [], List.replicate k 45]
                rw [HL2.out] at this
                simp at this hm2
                omega
              have r5 : decide ((2 : Int) ≤ ((m3 + 2 : Nat) : Int)) = true := decide_eq_true (by omega)
              have r6 : (1 : Int) < ((m3 + 2 : Nat) : Int) := by omega
              have r7 : (1 : Int) < (m3 : Int) + 2 := by omega
              have r8 : (0 : Int) < (m3 : Int) + 2 := by omega
              have r9 : decide ((2 : Int) ≤ (m3 : Int) + 2) = true := decide_eq_true (by omega)
              clear hO hO2 hOx b6 b7 b5 hm2 hbk
              go_wp2_with fail
              go_ret
              exact ⟨rfl, b8⟩
  · have hcs : nn < 1 ∨ (¬ nn < 1 ∧ 9 < nn) ∨ (1 ≤ nn ∧ nn ≤ 9 ∧ text.size = 0) ∨ (1 ≤ nn ∧ nn ≤ 9 ∧ ¬ text.size = 0 ∧ 40 < text.size) := by omega
    rcases hcs with h | ⟨h, h'⟩ | ⟨h, h', h''⟩ | ⟨h, h', h'', h3⟩
    case' inr.inr.inl => have he := bytes_none h''; subst he
    case' inr.inr.inr => obtain ⟨t1, t2, t3⟩ := bytes_some h''
    all_goals
      clear hin
      go_enter Tryd.func10, Tryd.ntmps10
      go_wp2_with (go_at_call 16; refine (aliveB_any _).mono ?_; rintro e w1 ⟨rfl, b1⟩)
      go_ret
      exact ⟨rfl, b1⟩
end Go.Proofs.YtommebalgghdjaaDoor
