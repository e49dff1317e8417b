/-
  bowdlerlaw9.BlockBlanks: its walk: it answers true, and turns nothing that was there.
-/
import Derived.Test.YtommebalgghdjaaDoorBlockStart
import Derived.Test.YtommebalgghdjaaDoorSameBlocks
import Derived.Test.YtommebalgghdjaaDoorBlockApartLaw
namespace Go.Proofs.YtommebalgghdjaaDoor
open Go.RowKit

theorem blanks_a (a : Nat) (l : List ByteArray) : parseT ((List.replicate a (⟨#[32]⟩ : ByteArray) ++ l).map L) = parseT (l.map L) := by
  rw [List.map_append, List.map_replicate]
  exact blanks_ahead (fun x hx => by rw [List.eq_of_mem_replicate hx]; rfl) _
theorem blanks_b (a b : Nat) (l : List ByteArray) : parseT ((List.replicate a (⟨#[32]⟩ : ByteArray) ++ l ++ List.replicate b (⟨#[]⟩ : ByteArray)).map L) = parseT (l.map L) ∨
    (∃ x, (parseT (l.map L)).getLast? = some x ∧ x.kind = 6 ∧ (parseT ((List.replicate a (⟨#[32]⟩ : ByteArray) ++ l ++ List.replicate b (⟨#[]⟩ : ByteArray)).map L)).length = (parseT (l.map L)).length) := by
  rw [List.append_assoc, blanks_a, List.map_append, List.map_replicate]
  exact blanks_law 13 0 (R := List.replicate b (L ⟨#[]⟩)) (fun x hx => by rw [List.eq_of_mem_replicate hx]; rfl) (l.map L).length (l.map L) (Nat.le_refl _)

set_option maxHeartbeats 4000000 in
set_option maxRecDepth 100000 in
theorem blockBlanks_walk (A : Option Addr) (n cap : Nat) (l : List ByteArray) (na nb : Int) (w : World) (_ : Glb w) (hl : IsTexts w A n cap l) (_ : (Lit.int .i64 na).wf = true) (_ : (Lit.int .i64 nb).wf = true) :
    Calls Tryd.prog 5 #[.slice A n cap, .int .i64 na, .int .i64 nb] w fun e w' => e = .returned (.bool true) ∧ Below w.heap.size w w' := by
  obtain ⟨hr, hnc, hcm, hz⟩ := hl
  have hmax : maxLen = 9223372036854775807 := rfl
  have hln : l.length = n := by have := hr.1; simpa using this
  have HPL := Lib.hid (plain_any A n cap w.heap.size l w hr (by omega) (fun x hx => by have := hz x hx; omega))
  by_cases hin : plainT l = true ∧ 0 ≤ na ∧ na ≤ 5 ∧ 0 ≤ nb ∧ nb ≤ 5
  · obtain ⟨hpt, ha0, ha5, hb0, hb5⟩ := hin
    rw [hpt] at HPL
    obtain ⟨h40, hsz⟩ := plain_facts hpt
    have hn40 : n ≤ 40 := by omega
    obtain ⟨a, rfl⟩ := Int.eq_ofNat_of_zero_le (a := na) (by omega)
    obtain ⟨b, rfl⟩ := Int.eq_ofNat_of_zero_le (a := nb) (by omega)
    have HLN := Lib.hid hln
    have HSZ := Lib.hid hsz
    clear hln hsz h40 hz hpt
    go_enter Tryd.func5, Tryd.ntmps5
    go_wp2_with (first | (go_at_call 15; refine HPL.out.mono ?_; rintro e w0 ⟨rfl, hw0⟩; subst w0) | (go_at_call 16; refine (aliveB_any _).mono ?_; rintro e w1 ⟨rfl, b1⟩))
    clear HPL
    go_loopw [7, 8] (fun s7 s8 wr => ∃ (k : Nat) (A3 : Option Addr) (c3 : Nat), k ≤ a ∧ s8 = .int .i64 k ∧ s7 = .slice A3 k c3 ∧ Own wr w.heap.size 9 1 A3 k c3 (txCells (List.replicate k (⟨#[32]⟩ : ByteArray))) ∧ Below w.heap.size w wr) (fun _ s8 _ => a - (intOf s8).toNat)
    case atStart => exact ⟨0, none, 0, Nat.zero_le _, rfl, rfl, Own.nil _ _ _ _, b1⟩
    case round =>
      clear b1
      obtain ⟨k, A3, c3, hk, rfl, rfl, hown, hb⟩ := hrel
      have hzw := hb.size
      by_cases hlt : k < a
      · go_wp2_with (at_builtin; refine wpList_app1 Tryd.elTexts rfl (.tmp 41) (.tmp 42) rfl rfl (by exact hown.alloc _) rfl (Blk.new' _ _ _ _ (by simp)) rfl (by simp [Value.oneCell']) (by simp only [maxLen]; omega) (by omega) (by simp; omega) ?_
                     intro A4 c4 w5 hown4 ho4 hm4)
        go_roundw
        case rel =>
          refine ⟨k + 1, A4, c4, by omega, by go_num, by rfl, ?_, hb.trans (ho4.of_alloc.below (fun a ha => (hown.lt ha).1) hzw)⟩
          rw [List.replicate_succ']
          simpa [txCells] using hown4
        case measure => simp [intOf]; omega
      · have hkn : k = a := by omega
        subst hkn
        have hrk := hr.below hb
        go_upto_region 9 with (at_builtin; refine wpList_app Tryd.elTexts rfl (.tmp 44) (.tmp 45) rfl rfl (by exact hown) rfl (by exact hrk) (tx_one _) (by simp only [maxLen]; omega) (by omega) hzw ?_
                               intro A4 c4 w5 hown4 ho4 hm4)
        have hb5 := hb.trans (ho4.below (fun a ha => (hown.lt ha).1) hzw)
        have hz5 := hb5.size
        have hown5 : Own w5 w.heap.size 9 1 A4 (k + n) c4 (txCells (List.replicate k (⟨#[32]⟩ : ByteArray) ++ l)) := by simpa [txCells] using hown4
        have hp1 := parse_any w.heap.size l A n cap w5 (hr.below hb5) hz5 (lnOk_of fun x hx => by have := HSZ.out x hx; omega) (by omega) hnc
        have hok2 : ∀ j, LnOk (List.replicate k (⟨#[32]⟩ : ByteArray) ++ l ++ List.replicate j (⟨#[]⟩ : ByteArray)) := fun j => lnOk_of (by
          intro y hy
          rcases List.mem_append.1 hy with hy | hy
          · rcases List.mem_append.1 hy with hy | hy
            · rw [List.eq_of_mem_replicate hy]; decide
            · have := HSZ.out y hy; omega
          · rw [List.eq_of_mem_replicate hy]; decide)
        have hp2 := fun W (hW : Below w5.heap.size w5 W) => parse_any W.heap.size (List.replicate k (⟨#[32]⟩ : ByteArray) ++ l) A4 (k + n) c4 W ((hown5.below hW (Nat.le_refl _)).reads) (Nat.le_refl _) (by have := hok2 0; simpa using this) (by omega) hown5.cap
        have hle : (parseT (l.map L)).length ≤ 1120 := by have := parse_len (l.map L); rw [List.length_map, HLN.out] at this; omega
        have hbb := blanks_b k b l
        rw [blanks_a] at hp2
        have HP1 := Lib.hid hp1
        have HP2 := Lib.hid hp2
        have HBB := Lib.hid hbb
        have HOK := Lib.hid hok2
        have hlen2 : (parseT ((List.replicate k (⟨#[32]⟩ : ByteArray) ++ l ++ List.replicate b (⟨#[]⟩ : ByteArray)).map L)).length ≤ 1400 := by
          have := parse_len ((List.replicate k (⟨#[32]⟩ : ByteArray) ++ l ++ List.replicate b (⟨#[]⟩ : ByteArray)).map L)
          rw [List.length_map, List.length_append, List.length_append, List.length_replicate, List.length_replicate, HLN.out] at this
          omega
        have HL2 := Lib.hid hlen2
        clear hp1 hp2 hown hown4 ho4 hm4 hb hrk hbb hok2 hlen2
        generalize parseT (l.map L) = aa at *
        go_upto_region 10 with (go_at_call 17; refine HP1.out.mono ?_; rintro e w6 ⟨Ao, m, co, rfl, hm, hO, b6⟩)
        have hb6 := hb5.trans (b6.mono hz5)
        have hz6 := hb6.size
        have HM := Lib.hid hm
        have hm1120 : m ≤ 1120 := by omega
        clear hm hle HP1
        go_upto_region 12 with (first
          | (go_at_call 17; refine (HP2.out _ b6).mono ?_; rintro e w7 ⟨Ap, m2, cp, rfl, hm2, hO2, b7⟩
             have HSB := Lib.hid (sameBlocks_any Ap Ao m2 m cp co w7.heap.size aa aa w7 hO2.reads ((hO.below b7 (Nat.le_refl _)).reads) (by have := HM.out; omega) (by omega))
             rw [decide_eq_true rfl] at HSB)
          | (go_at_call 19; refine HSB.out.mono ?_; rintro e w8 ⟨rfl, b8⟩))
        have b68 := b7.trans (b8.mono b7.size)
        have hb8 := hb6.trans (b68.mono hz6)
        have hz8 := hb8.size
        have hO8 := hO.below b68 (Nat.le_refl _)
        have hown8 := hown5.below (b6.trans (b68.mono b6.size)) (Nat.le_refl _)
        clear hO hO2 hown5 b6 b7 b8 b68 HSB HP2 hm2 hb6 hz6 hb5 hz5
        go_wp2_with fail
        go_loopw [7, 10] (fun s7 s10 wr2 => ∃ (q : Nat) (A5 : Option Addr) (c5 : Nat), q ≤ b ∧ s10 = .int .i64 q ∧ s7 = .slice A5 (k + n + q) c5 ∧ Own wr2 w.heap.size 9 1 A5 (k + n + q) c5 (txCells (List.replicate k (⟨#[32]⟩ : ByteArray) ++ l ++ List.replicate q (⟨#[]⟩ : ByteArray))) ∧ Below w.heap.size w wr2 ∧ Own wr2 w5.heap.size 28 6 Ao m co (blkCells aa)) (fun _ s10 _ => b - (intOf s10).toNat)
        case atStart => exact ⟨0, A4, c4, Nat.zero_le _, rfl, rfl, by simpa using hown8, hb8, hO8⟩
        case round =>
          clear hown8 hb8 hO8 hz8
          obtain ⟨q, A5, c5, hq, rfl, rfl, hown, hb, hO⟩ := hrel
          have hzw2 := hb.size
          by_cases hlt2 : q < b
          · go_wp2_with (at_builtin; refine wpList_app1 Tryd.elTexts rfl (.tmp 59) (.tmp 60) rfl rfl (by exact hown.alloc _) rfl (Blk.new' _ _ _ _ (by simp)) rfl (by simp [Value.oneCell']) (by simp only [maxLen]; omega) (by omega) (by simp; omega) ?_
                         intro A6 c6 w9 hown9 ho9 hm9)
            have hO9 : Own w9 w5.heap.size 28 6 Ao m co (blkCells aa) := (hO.alloc _).only ho9 (hO.sep_ne hown (by decide))
            go_roundw
            case rel =>
              refine ⟨q + 1, A6, c6, by omega, by go_num, by rfl, ?_, hb.trans (ho9.of_alloc.below (fun a ha => (hown.lt ha).1) hzw2), hO9⟩
              rw [List.replicate_succ', ← List.append_assoc]
              simpa [txCells, Nat.add_assoc] using hown9
            case measure => simp [intOf]; omega
          · have hqn : q = b := by omega
            subst hqn
            have hp3 := parse_any wr.heap.size (List.replicate k (⟨#[32]⟩ : ByteArray) ++ l ++ List.replicate q (⟨#[]⟩ : ByteArray)) A5 (k + n + q) c5 wr hown.reads (Nat.le_refl _) (HOK.out q) (by omega) hown.cap
            have HP3 := Lib.hid hp3
            clear hp3 HOK
            generalize parseT ((List.replicate k (⟨#[32]⟩ : ByteArray) ++ l ++ List.replicate q (⟨#[]⟩ : ByteArray)).map L) = bs at *
            go_upto_region 17 with (go_at_call 17; refine HP3.out.mono ?_; rintro e w10 ⟨Ap, m2, cp, rfl, hm2, hO2, b10⟩)
            have hb10 := hb.trans (b10.mono hzw2)
            have hz10 := hb10.size
            have hO10 := hO.below b10 (Nat.le_refl _)
            have hm2s : m2 ≤ 1400 := by have := HL2.out; omega
            have HM2 := Lib.hid hm2
            clear hO b10 HP3 hb hown hm2
            by_cases hbe : bs = aa
            · subst hbe
              have hmm : m2 = m := by rw [← HM2.out, HM.out]
              subst hmm
              have HSB := Lib.hid (sameBlocks_any Ap Ao m2 m2 cp co w10.heap.size bs bs w10 hO2.reads hO10.reads (by omega) (by omega))
              rw [decide_eq_true rfl] at HSB
              by_cases hm0 : m2 = 0
              · subst hm0
                go_wp2_with (go_at_call 19; refine HSB.out.mono ?_; rintro e w11 ⟨rfl, b11⟩)
                go_ret
                exact ⟨rfl, hb10.trans (b11.mono hz10)⟩
              · obtain ⟨j, rfl⟩ : ∃ j, m2 = j + 1 := ⟨m2 - 1, by omega⟩
                obtain ⟨x, hx⟩ : ∃ x, bs[j]? = some x := ⟨_, List.getElem?_eq_getElem (by rw [HM.out]; omega)⟩
                obtain ⟨ad, rfl, _, c0, _⟩ := hO10.reads.blk hx (by omega)
                have x1 : IntKind.wrap .i64 (((j + 1 : Nat) : Int) - 1) = (j : Int) := by rw [IntWalk.i64_in _ (by omega)]; omega
                have x2 : IntKind.wrap .i64 ((j : Int) + 1 - 1) = (j : Int) := by rw [IntWalk.i64_in _ (by omega)]; omega
                have x3 : (0 : Int) < (j : Int) + 1 := by omega
                clear hx hO2 hO10
                by_cases hk6 : x.kind = 6
                · have q6 : (x.kind == 6) = true := by simpa using hk6
                  go_wp2_with fail
                  go_ret
                  exact ⟨rfl, hb10⟩
                · have q6 : (x.kind == 6) = false := by simpa using hk6
                  go_wp2_with (go_at_call 19; refine HSB.out.mono ?_; rintro e w11 ⟨rfl, b11⟩)
                  go_ret
                  exact ⟨rfl, hb10.trans (b11.mono hz10)⟩
            · have hex : ∃ x, aa.getLast? = some x ∧ x.kind = 6 ∧ bs.length = aa.length := by
                rcases HBB.out with h | h
                · exact absurd h hbe
                · exact h
              obtain ⟨x, hx, hk6, hlen⟩ := hex
              have hmm : m2 = m := by rw [← HM2.out, ← HM.out, hlen]
              subst hmm
              have hm0 : 0 < m2 := by
                rw [← HM.out]
                cases aa with
                | nil => cases hx
                | cons _ _ => simp
              obtain ⟨j, rfl⟩ : ∃ j, m2 = j + 1 := ⟨m2 - 1, by omega⟩
              rw [List.getLast?_eq_getElem?, HM.out, Nat.add_sub_cancel] at hx
              obtain ⟨ad, rfl, _, c0, _⟩ := hO10.reads.blk hx (by omega)
              have x1 : IntKind.wrap .i64 (((j + 1 : Nat) : Int) - 1) = (j : Int) := by rw [IntWalk.i64_in _ (by omega)]; omega
              have x2 : IntKind.wrap .i64 ((j : Int) + 1 - 1) = (j : Int) := by rw [IntWalk.i64_in _ (by omega)]; omega
              have x3 : (0 : Int) < (j : Int) + 1 := by omega
              have q6 : (x.kind == 6) = true := by simpa using hk6
              clear hx hO2 hO10 hbe hlen
              go_wp2_with fail
              go_ret
              exact ⟨rfl, hb10⟩
  · have hcs : plainT l = false ∨ (plainT l = true ∧ na < 0) ∨ (plainT l = true ∧ ¬ na < 0 ∧ 5 < na) ∨ (plainT l = true ∧ ¬ na < 0 ∧ ¬ 5 < na ∧ nb < 0) ∨ (plainT l = true ∧ ¬ na < 0 ∧ ¬ 5 < na ∧ ¬ nb < 0 ∧ 5 < nb) := by
      cases hp : plainT l
      · exact .inl rfl
      · right
        have : ¬ (0 ≤ na ∧ na ≤ 5 ∧ 0 ≤ nb ∧ nb ≤ 5) := fun h => hin ⟨hp, h⟩
        simp only [true_and]
        omega
    clear hin hln hz
    rcases hcs with h | ⟨h, h1⟩ | ⟨h, h1, h2⟩ | ⟨h, h1, h2, h3⟩ | ⟨h, h1, h2, h3, h4⟩
    all_goals
      rw [h] at HPL
      go_enter Tryd.func5, Tryd.ntmps5
      go_wp2_with (first | (go_at_call 15; refine HPL.out.mono ?_; rintro e w0 ⟨rfl, hw0⟩; subst w0) | (go_at_call 16; refine (aliveB_any _).mono ?_; rintro e w1 ⟨rfl, b1⟩))
      go_ret
      exact ⟨rfl, b1⟩
end Go.Proofs.YtommebalgghdjaaDoor
