/-
  bowdlerlaw8.MarkRules: its walk: it answers true, and turns nothing that was there.
-/
import Derived.Test.YtclhgbokhbfnbaaDoorMarkUnders
import Derived.Test.YtclhgbokhbfnbaaDoorRuneHi
import Derived.Test.YtclhgbokhbfnbaaDoorMarkItems
namespace Go.Proofs.YtclhgbokhbfnbaaDoor
open Go.RowKit Go.ChangeShapes Go.WideShapes

theorem i64_and3 (n : Int) : bits .and .i64 n 3 = n % 4 := by
  have h3 : (BitVec.ofInt 64 3).toNat = 2 ^ 2 - 1 := by decide
  have key : (BitVec.ofInt 64 n &&& BitVec.ofInt 64 3).toNat = (n % ((2 ^ 64 : Nat) : Int)).toNat % 2 ^ 2 := by
    rw [BitVec.toNat_and, BitVec.toNat_ofInt, h3, Nat.and_two_pow_sub_one_eq_mod]
  show IntKind.i64.wrap ((BitVec.ofInt 64 n &&& BitVec.ofInt 64 3).toNat : Nat) = n % 4
  rw [key, IntKind.wrap_i64]
  omega

/-- a row of signs with blanks between -/
def RowL (c : UInt8) (i : Nat) (l : List UInt8) : Prop := l.count c = i ∧ (∀ b ∈ l, b = c ∨ b = 32 ∨ b = 9) ∧ (1 ≤ i → ∃ r, l = c :: r) ∧ (i = 0 → l = [])
theorem RowL.sign {c : UInt8} {i : Nat} {l : List UInt8} (h : RowL c i l) : RowL c (i + 1) (l ++ [c]) := by
  obtain ⟨h1, h2, h3, h4⟩ := h
  refine ⟨by rw [List.count_append, h1]; simp, fun b hb => ?_, fun _ => ?_, fun e => by omega⟩
  · rcases List.mem_append.1 hb with hb | hb
    · exact h2 b hb
    · simp at hb; exact .inl hb
  · rcases Nat.eq_zero_or_pos i with h0 | h0
    · rw [h4 h0]; exact ⟨[], rfl⟩
    · obtain ⟨r, rfl⟩ := h3 h0
      exact ⟨r ++ [c], rfl⟩
theorem RowL.gap {c : UInt8} {i : Nat} {l g : List UInt8} (h : RowL c (i + 1) l) (hc : c ≠ 32 ∧ c ≠ 9) (hg : ∀ b ∈ g, b = 32 ∨ b = 9) : RowL c (i + 1) (l ++ g) := by
  obtain ⟨h1, h2, h3, h4⟩ := h
  have h0 : g.count c = 0 := List.count_eq_zero.2 fun hm => by
    rcases hg c hm with e | e
    · exact hc.1 e
    · exact hc.2 e
  refine ⟨by rw [List.count_append, h1, h0], fun b hb => ?_, fun _ => ?_, fun e => by omega⟩
  · rcases List.mem_append.1 hb with hb | hb
    · exact h2 b hb
    · exact .inr (hg b hb)
  · obtain ⟨r, rfl⟩ := h3 (by omega)
    exact ⟨r ++ g, rfl⟩
theorem ruleT_cons {c : UInt8} {r : List UInt8} (hc : c ≠ 32 ∧ c ≠ 9) : ruleT (c :: r) = ([45, 42, 95].contains c && decide (3 ≤ (c :: r).count c) && decide (Lib.trimS (c :: r) [32, 9, c] = [])) := by
  have hn : NoBlank (c :: r) := by intro x hx; simp at hx; subst hx; exact hc
  unfold ruleT
  rw [colT_no hn, restT_of_no hn, decide_eq_true (by omega)]
  rfl
theorem rule_row {c : UInt8} {n : Nat} {l : List UInt8} (h : RowL c n l) (hc : c = 45 ∨ c = 42 ∨ c = 95) : ruleT l = decide (3 ≤ n) := by
  obtain ⟨h1, h2, h3, h4⟩ := h
  have hc2 : c ≠ 32 ∧ c ≠ 9 := by rcases hc with rfl | rfl | rfl <;> decide
  rcases Nat.eq_zero_or_pos n with h0 | h0
  · rw [h4 h0, h0]; decide
  · obtain ⟨r, rfl⟩ := h3 h0
    rw [ruleT_cons hc2, h1, decide_eq_true ((trimS_nil _ _).2 fun b hb => by rcases h2 b hb with e | e | e <;> simp [e]), Bool.and_true]
    rw [show ([45, 42, 95] : List UInt8).contains c = true by rcases hc with rfl | rfl | rfl <;> decide, Bool.true_and]
theorem rule_other {c o : UInt8} {n : Nat} {l : List UInt8} (h : RowL c n l) (hc : c = 45 ∨ c = 42 ∨ c = 95) (ho : o ≠ c ∧ o ≠ 32 ∧ o ≠ 9) : ruleT (l ++ [o]) = false := by
  obtain ⟨h1, h2, h3, h4⟩ := h
  have hc2 : c ≠ 32 ∧ c ≠ 9 := by rcases hc with rfl | rfl | rfl <;> decide
  rcases Nat.eq_zero_or_pos n with h0 | h0
  · rw [h4 h0, List.nil_append, ruleT_cons ⟨ho.2.1, ho.2.2⟩]
    simp
  · obtain ⟨r, rfl⟩ := h3 h0
    rw [List.cons_append, ruleT_cons hc2]
    have : ¬ Lib.trimS (c :: (r ++ [o])) [32, 9, c] = [] := fun e => by
      have := (trimS_nil _ _).1 e o (by simp)
      simp [ho.1, ho.2.1, ho.2.2] at this
    rw [decide_eq_false this, Bool.and_false]
theorem item_of_rule {l : List UInt8} (h : ruleT l = true) : itemT l = none := by
  unfold itemT; dsimp only; exact if_neg fun hh => hh.2 h
theorem tmod3 (k : Int) : ∃ i : Nat, i < 3 ∧ (k.tmod 3 + 3).tmod 3 = (i : Int) := by
  have h1 := Int.tmod_lt_of_pos k (b := 3) (by omega)
  have h2 := Int.tmod_lt_of_pos (-k) (b := 3) (by omega)
  rw [Int.neg_tmod] at h2
  have h3 := Int.tmod_lt_of_pos (k.tmod 3 + 3) (b := 3) (by omega)
  have h4 := Int.tmod_nonneg (a := k.tmod 3 + 3) (3 : Int) (by omega)
  exact ⟨((k.tmod 3 + 3).tmod 3).toNat, by omega, by omega⟩
theorem tmod_bd3 (k : Int) : -2 ≤ k.tmod 3 ∧ k.tmod 3 ≤ 2 := by
  have h1 := Int.tmod_lt_of_pos k (b := 3) (by omega)
  have h2 := Int.tmod_lt_of_pos (-k) (b := 3) (by omega)
  rw [Int.neg_tmod] at h2
  omega
theorem row_ascii {c : UInt8} {n : Nat} {l : List UInt8} (h : RowL c n l) (hc : c = 45 ∨ c = 42 ∨ c = 95) : ∀ b ∈ l, b.toNat < 128 := fun b hb => by
  rcases h.2.1 b hb with e | e | e
  · rw [e]; rcases hc with rfl | rfl | rfl <;> decide
  · rw [e]; decide
  · rw [e]; decide

set_option maxHeartbeats 4000000 in
set_option maxRecDepth 100000 in
theorem markRules_walk (kk n : Int) (A : Option Addr) (gl gc : Nat) (zs : List Int) (oi : Int) (w : World) (_ : (Lit.int .i64 kk).wf = true) (_ : (Lit.int .i64 n).wf = true) (hz : IsRow .i64 w A gl gc zs) (hoi : (Lit.int .u8 oi).wf = true) :
    Calls Tryd.prog 4 #[.int .i64 kk, .int .i64 n, .slice A gl gc, .int .u8 oi] w fun e w' => e = .returned (.bool true) ∧ Below w.heap.size w w' := by
  obtain ⟨o, rfl⟩ := byte_of hoi
  have hr := hz.reads
  have hgl : gl ≤ 9223372036854775807 := by
    rcases hz with ⟨_, h, _⟩ | ⟨_, _, h1, h2, _⟩
    · omega
    · unfold maxLen at h2; omega
  clear hz
  by_cases hin : 0 ≤ n ∧ n ≤ 12 ∧ gl ≤ 12
  · obtain ⟨h1, h2, h3⟩ := hin
    obtain ⟨n, rfl⟩ := Int.eq_ofNat_of_zero_le (a := n) (by omega)
    obtain ⟨i, hi3, hmod⟩ := tmod3 kk
    obtain ⟨c, hc⟩ : ∃ c : UInt8, [(45 : UInt8), 42, 95][i]? = some c := ⟨_, List.getElem?_eq_getElem (by simpa using hi3)⟩
    have hc2 : c = 45 ∨ c = 42 ∨ c = 95 := by
      have := List.mem_of_getElem? hc
      simpa using this
    have HC := Lib.hid hc
    have HC2 := Lib.hid hc2
    clear hc hc2
    go_enter Tryd.func4, Tryd.ntmps4
    go_wp2_with fail
    refine (alive_any _).mono ?_
    rintro e w1 ⟨rfl, b1⟩
    have z1 := b1.size
    go_upto_region 3 with fail
    go_cut [9] (fun s9 wx => s9 = .int .u8 (c.toNat : Int) ∧ wx = w1)
    case first =>
      have hb := tmod_bd3 kk
      have hc := HC.out
      rcases (by omega : i = 0 ∨ i = 1 ∨ i = 2) with rfl | rfl | rfl
      all_goals
        simp at hc
        subst hc
        go_wp2_with fail
        go_meet
        exact ⟨rfl, rfl⟩
    case rest =>
      obtain ⟨rfl, rfl⟩ := hcut
      generalize wc = w1 at *
      have hc2 := HC2.out
      have hc32 : c ≠ 32 ∧ c ≠ 9 := by rcases hc2 with h | h | h <;> rw [h] <;> decide
      have HC32 := Lib.hid hc32
      clear hc2 hc32 hmod HC
      go_wp2_with fail
      go_loopw [10, 11] (fun s10 s11 wr => ∃ (k : Nat) (l : List UInt8), k ≤ n ∧ s11 = .int .i64 k ∧ s10 = .string (S l) ∧ RowL c k l ∧ l.length ≤ 3 * k ∧ Below w.heap.size w wr) (fun _ s11 _ => n - (intOf s11).toNat)
      case atStart => exact ⟨0, [], Nat.zero_le _, rfl, rfl, ⟨rfl, by simp, fun h => by omega, fun _ => rfl⟩, by simp, b1⟩
      case round =>
        obtain ⟨k, l, hk, rfl, rfl, hrow, hll, hbw⟩ := hrel
        have hzw := hbw.size
        by_cases hlt : k < n
        · have hcv := convert_byte c wr
          have HR1 := Lib.hid hrow.sign
          have hxs : (S l).size ≤ 36 := by rw [size_S]; omega
          have hbs : (S [c]).size = 1 := rfl
          have HS1 : Hid (S l ++ S [c] = S (l ++ [c])) := Lib.hid (by apply L_inj; rw [L_append, L_S, L_S, L_S])
          rcases (by omega : gl ≤ k ∨ k < gl) with hg | hg
          · generalize hx : S l = x at *
            generalize hB : S [c] = B at *
            have HX := Lib.hid hx
            have HB := Lib.hid hB
            clear hx hB hrow
            go_wp2_with fail
            go_roundw
            case rel => exact ⟨k + 1, l ++ [c], by omega, by go_num, by rw [← HS1.out], HR1.out, by simp; omega, hbw.alloc hzw _⟩
            case measure => simp [intOf]; omega
          · obtain ⟨ad, u, rfl, hadl, hx0, hcell⟩ := (hr.below hbw).at_ hg
            obtain ⟨z, rfl⟩ : ∃ z, u = .int .i64 z := by
              rw [List.getElem?_map] at hx0
              obtain ⟨z, _, rfl⟩ := Option.map_eq_some_iff.1 hx0
              exact ⟨z, rfl⟩
            obtain ⟨g, hg4, hgz⟩ : ∃ g : Nat, g < 4 ∧ bits .and .i64 z 3 = (g : Int) := ⟨(z % 4).toNat, by omega, by rw [i64_and3]; omega⟩
            have hcell2 : ((wr.alloc (.cells #[.int .u8 (c.toNat : Int)] 5)).alloc (.cells #[.string ⟨#[]⟩, .string ⟨#[32]⟩, .string ⟨#[32, 32]⟩, .string ⟨#[9]⟩] 9)).cell? (ad.add k) = some (.int .i64 z) := by
              rw [World.cell?_alloc_lt _ _ _ (by rw [block_of_add]; simp; omega), World.cell?_alloc_lt _ _ _ (by rw [block_of_add]; omega)]
              exact hcell
            have hst := fun j => (Blk.new' (wr.alloc (.cells #[.int .u8 (c.toNat : Int)] 5)) 9 #[.string ⟨#[]⟩, .string ⟨#[32]⟩, .string ⟨#[32, 32]⟩, .string ⟨#[9]⟩] (wr.heap.size + 1) (by simp)).cell j
            have HG : ∀ gg : List UInt8, (∀ b ∈ gg, b = 32 ∨ b = 9) → Hid (RowL c (k + 1) (l ++ [c] ++ gg)) := fun gg hgg => Lib.hid (HR1.out.gap HC32.out hgg)
            have HS2 : ∀ gg : List UInt8, Hid (S l ++ S [c] ++ S gg = S (l ++ [c] ++ gg)) := fun gg => Lib.hid (by apply L_inj; rw [L_append, L_append, L_S, L_S, L_S, L_S])
            rcases (by omega : g = 0 ∨ g = 1 ∨ g = 2 ∨ g = 3) with rfl | rfl | rfl | rfl
            · have s0 := hst 0
              have HGG := HG [] (by simp)
              have HSS := HS2 []
              rw [show S ([] : List UInt8) = ⟨#[]⟩ from rfl] at HSS
              generalize hx : S l = x at *
              generalize hB : S [c] = B at *
              have HX := Lib.hid hx
              have HB := Lib.hid hB
              clear hx hB hrow HG HS2 hst hx0
              go_wp2_with fail
              go_roundw
              case rel => exact ⟨k + 1, l ++ [c] ++ [], by omega, by go_num, by rw [← HSS.out], HGG.out, by simp; omega, (hbw.alloc hzw _).alloc (by simp; omega) _⟩
              case measure => simp [intOf]; omega
            · have s0 := hst 1
              have HGG := HG [32] (by simp)
              have HSS := HS2 [32]
              rw [show S ([32] : List UInt8) = ⟨#[32]⟩ from rfl] at HSS
              generalize hx : S l = x at *
              generalize hB : S [c] = B at *
              have HX := Lib.hid hx
              have HB := Lib.hid hB
              clear hx hB hrow HG HS2 hst hx0
              go_wp2_with fail
              go_roundw
              case rel => exact ⟨k + 1, l ++ [c] ++ [32], by omega, by go_num, by rw [← HSS.out], HGG.out, by simp; omega, (hbw.alloc hzw _).alloc (by simp; omega) _⟩
              case measure => simp [intOf]; omega
            · have s0 := hst 2
              have HGG := HG [32, 32] (by simp)
              have HSS := HS2 [32, 32]
              rw [show S ([32, 32] : List UInt8) = ⟨#[32, 32]⟩ from rfl] at HSS
              generalize hx : S l = x at *
              generalize hB : S [c] = B at *
              have HX := Lib.hid hx
              have HB := Lib.hid hB
              clear hx hB hrow HG HS2 hst hx0
              go_wp2_with fail
              go_roundw
              case rel => exact ⟨k + 1, l ++ [c] ++ [32, 32], by omega, by go_num, by rw [← HSS.out], HGG.out, by simp; omega, (hbw.alloc hzw _).alloc (by simp; omega) _⟩
              case measure => simp [intOf]; omega
            · have s0 := hst 3
              have HGG := HG [9] (by simp)
              have HSS := HS2 [9]
              rw [show S ([9] : List UInt8) = ⟨#[9]⟩ from rfl] at HSS
              generalize hx : S l = x at *
              generalize hB : S [c] = B at *
              have HX := Lib.hid hx
              have HB := Lib.hid hB
              clear hx hB hrow HG HS2 hst hx0
              go_wp2_with fail
              go_roundw
              case rel => exact ⟨k + 1, l ++ [c] ++ [9], by omega, by go_num, by rw [← HSS.out], HGG.out, by simp; omega, (hbw.alloc hzw _).alloc (by simp; omega) _⟩
              case measure => simp [intOf]; omega
        · have hkn : k = n := by omega
          subst hkn
          generalize wr = w2 at *
          have hc2 := HC2.out
          have HRT : Hid (ruleT (L (S l)) = decide (3 ≤ k)) := Lib.hid (by rw [L_S]; exact rule_row hrow hc2)
          have HA : Hid (∀ c' r, restT (L (S l)) = c' :: r → c'.toNat < 128) := Lib.hid (fun c' r e => row_ascii hrow hc2 c' (by have := rest_mem (l := L (S l)) (b := c') (by rw [e]; simp); simpa using this))
          have HO : Hid (o ≠ c → o ≠ 32 → o ≠ 9 → (ruleT (L (S l ++ S [o])) = false ∧ ∀ c' r, restT (L (S l ++ S [o])) = c' :: r → c'.toNat < 128) ∨ (S l = ⟨#[]⟩ ∧ 128 ≤ o.toNat)) := Lib.hid (fun ho1 ho2 ho3 => by
            by_cases hhi : 128 ≤ o.toNat ∧ k = 0
            · exact .inr ⟨by rw [hrow.2.2.2 hhi.2]; rfl, hhi.1⟩
            · left
              rw [L_append, L_S, L_S]
              refine ⟨rule_other hrow hc2 ⟨ho1, ho2, ho3⟩, fun c' r e => ?_⟩
              rcases Nat.eq_zero_or_pos k with h0 | h0
              · have hlo : o.toNat < 128 := by
                  rcases Nat.lt_or_ge o.toNat 128 with h | h
                  · exact h
                  · exact absurd ⟨h, h0⟩ hhi
                rw [hrow.2.2.2 h0] at e
                have hm := rest_mem (l := [] ++ [o]) (b := c') (by rw [e]; simp)
                simp at hm
                rw [hm]; exact hlo
              · obtain ⟨r0, hl⟩ := hrow.2.2.1 h0
                have hc32 := HC32.out
                have hn : NoBlank (l ++ [o]) := by
                  rw [hl]; intro x hx; simp at hx; subst hx; exact hc32
                rw [restT_of_no hn, hl] at e
                injection e with e1 _
                rw [← e1]
                exact row_ascii hrow hc2 c (by rw [hl]; simp))
          have hus : (S l).size ≤ 36 := by rw [size_S]; omega
          obtain ⟨u, hu⟩ : ∃ u, S l = u := ⟨_, rfl⟩
          have h1' := HRT.out
          have h2' := HA.out
          have h3' := HO.out
          rw [hu] at h1' h2' h3' hus ⊢
          clear HRT HA HO
          have HRT := Lib.hid h1'
          have HA := Lib.hid h2'
          have HO := Lib.hid h3'
          have hq : ((o.toNat : Int) == (c.toNat : Int)) = true ∨ (((o.toNat : Int) == (c.toNat : Int)) = false ∧ ((o.toNat : Int) == 32) = true) ∨ (((o.toNat : Int) == (c.toNat : Int)) = false ∧ ((o.toNat : Int) == 32) = false ∧ ((o.toNat : Int) == 9) = true) ∨
              (((o.toNat : Int) == (c.toNat : Int)) = false ∧ ((o.toNat : Int) == 32) = false ∧ ((o.toNat : Int) == 9) = false ∧ o ≠ c ∧ o ≠ 32 ∧ o ≠ 9) := by
            by_cases q1 : o = c
            · exact .inl (by rw [q1]; simp)
            · have e1 : ((o.toNat : Int) == (c.toNat : Int)) = false := beq_eq_false_iff_ne.2 fun e => q1 (UInt8.toNat_inj.1 (by omega))
              by_cases q2 : o = 32
              · exact .inr (.inl ⟨e1, by rw [q2]; rfl⟩)
              · have e2 : ((o.toNat : Int) == 32) = false := byte_ne (n := 32) (by decide) q2
                by_cases q3 : o = 9
                · exact .inr (.inr (.inl ⟨e1, e2, by rw [q3]; rfl⟩))
                · exact .inr (.inr (.inr ⟨e1, e2, byte_ne (n := 9) (by decide) q3, q1, q2, q3⟩))
          clear h1' h2' h3' hu hc2 hrow hll hlt hr
          go_wp2_with fail
          refine (rule_any u _ (by omega) (fun _ => HA.out)).mono ?_
          rintro e w3 ⟨rfl, b3⟩
          rw [HRT.out]
          have bb3 := hbw.trans (b3.mono hzw)
          have z3 := bb3.size
          clear b3
          have hit : Hid (3 ≤ k → itemT (L u) = none) := Lib.hid (fun h => item_of_rule (by rw [HRT.out]; exact decide_eq_true h))
          by_cases h3k : 3 ≤ k
          · rw [decide_eq_true h3k]
            have q0 : decide (3 ≤ (k : Int)) = true := decide_eq_true (by omega)
            have HIT := Lib.hid (hit.out h3k)
            go_wp2_with fail
            refine (item_any u _ (by omega) (fun _ => HA.out)).mono ?_
            rintro e w4 ⟨rfl, b4⟩
            rw [HIT.out]
            simp only [itemV]
            have bb4 := bb3.trans (b4.mono z3)
            clear b4 bb3
            rcases hq with q1 | ⟨q1, q2⟩ | ⟨q1, q2, q3⟩ | ⟨q1, q2, q3, q4, q5, q6⟩
            · go_wp2_with fail
              go_ret
              exact ⟨rfl, bb4⟩
            · go_wp2_with fail
              go_ret
              exact ⟨rfl, bb4⟩
            · go_wp2_with fail
              go_ret
              exact ⟨rfl, bb4⟩
            · have hcv := convert_byte o w4
              have zz := bb4.size
              rcases HO.out q4 q5 q6 with ⟨hr1, hr2⟩ | ⟨hu0, ho⟩
              · have HRR := Lib.hid hr1
                have HRA := Lib.hid hr2
                clear hr1 hr2 HO q4 q5 q6
                generalize hB : S [o] = B at *
                have HB := Lib.hid hB
                have hbs : B.size = 1 := by rw [← hB]; rfl
                clear hB
                go_wp2_with fail
                refine (rule_any _ _ (by simp [ByteArray.size_append]; omega) (fun _ => HRA.out)).mono ?_
                rintro e w9 ⟨rfl, b9⟩
                rw [HRR.out]
                have bb9 := (bb4.alloc zz _).trans (b9.mono (by simp; omega))
                clear b9
                go_wp2_with fail
                go_ret
                exact ⟨rfl, bb9⟩
              · have HUO : Hid (u ++ S [o] = S [o]) := Lib.hid (by rw [hu0]; apply L_inj; rw [L_append]; rfl)
                have hbs : (S [o]).size = 1 := rfl
                clear HO q4 q5 q6 hu0
                go_wp2_with fail
                rw [HUO.out]
                refine (rule_hi o _ ho).mono ?_
                rintro e w9 ⟨rfl, b9⟩
                have bb9 := (bb4.alloc zz _).trans (b9.mono (by simp; omega))
                clear b9
                go_wp2_with fail
                go_ret
                exact ⟨rfl, bb9⟩
          · rw [decide_eq_false h3k]
            have q0 : decide (3 ≤ (k : Int)) = false := decide_eq_false (by omega)
            obtain ⟨V, hV⟩ : ∃ V, itemT (L u) = V := ⟨_, rfl⟩
            have HVV := Lib.hid hV
            clear hV h3k
            go_wp2_with fail
            refine (item_any u _ (by omega) (fun _ => HA.out)).mono ?_
            rintro e w4 ⟨rfl, b4⟩
            rw [HVV.out]
            have bb4 := bb3.trans (b4.mono z3)
            clear b4 bb3 HVV
            rcases V with _ | ⟨va, vb, vc, vd⟩
            all_goals
              simp only [itemV]
              rcases hq with q1 | ⟨q1, q2⟩ | ⟨q1, q2, q3⟩ | ⟨q1, q2, q3, q4, q5, q6⟩
              · go_wp2_with fail
                go_ret
                exact ⟨rfl, bb4⟩
              · go_wp2_with fail
                go_ret
                exact ⟨rfl, bb4⟩
              · go_wp2_with fail
                go_ret
                exact ⟨rfl, bb4⟩
              · have hcv := convert_byte o w4
                have zz := bb4.size
                rcases HO.out q4 q5 q6 with ⟨hr1, hr2⟩ | ⟨hu0, ho⟩
                · have HRR := Lib.hid hr1
                  have HRA := Lib.hid hr2
                  clear hr1 hr2 HO q4 q5 q6
                  generalize hB : S [o] = B at *
                  have HB := Lib.hid hB
                  have hbs : B.size = 1 := by rw [← hB]; rfl
                  clear hB
                  go_wp2_with fail
                  refine (rule_any _ _ (by simp [ByteArray.size_append]; omega) (fun _ => HRA.out)).mono ?_
                  rintro e w9 ⟨rfl, b9⟩
                  rw [HRR.out]
                  have bb9 := (bb4.alloc zz _).trans (b9.mono (by simp; omega))
                  clear b9
                  go_wp2_with fail
                  go_ret
                  exact ⟨rfl, bb9⟩
                · have HUO : Hid (u ++ S [o] = S [o]) := Lib.hid (by rw [hu0]; apply L_inj; rw [L_append]; rfl)
                  have hbs : (S [o]).size = 1 := rfl
                  clear HO q4 q5 q6 hu0
                  go_wp2_with fail
                  rw [HUO.out]
                  refine (rule_hi o _ ho).mono ?_
                  rintro e w9 ⟨rfl, b9⟩
                  have bb9 := (bb4.alloc zz _).trans (b9.mono (by simp; omega))
                  clear b9
                  go_wp2_with fail
                  go_ret
                  exact ⟨rfl, bb9⟩
  · rcases (by omega : n < 0 ∨ (0 ≤ n ∧ 12 < n) ∨ (0 ≤ n ∧ n ≤ 12 ∧ 12 < gl)) with h | ⟨h1, h2⟩ | ⟨h1, h2, h3⟩
    all_goals
      clear hin
      go_enter Tryd.func4, Tryd.ntmps4
      go_wp2_with fail
      refine (alive_any _).mono ?_
      rintro e w1 ⟨rfl, b1⟩
      go_wp2_with fail
      go_ret
      exact ⟨rfl, b1⟩
end Go.Proofs.YtclhgbokhbfnbaaDoor
