/-
  bowdlerlaw6.FrameNests: its walk: it answers true, and turns nothing that was there.
-/
import Derived.Test.YtofloedgclodnaaDoorNestsLaw
namespace Go.Proofs.YtofloedgclodnaaDoor
open Go.RowKit

theorem take58 (x : ByteArray) {j : Nat} (h : j < x.size) (hn : ¬ x[j]'h = 58) (ih : 58 ∉ (L x).take j) : 58 ∉ (L x).take (j + 1) := by
  have hl : j < (L x).length := by simpa using h
  rw [List.take_add_one, List.getElem?_eq_getElem hl, Option.toList_some, List.mem_append, List.mem_singleton]
  rintro (hb | hb)
  · exact ih hb
  · exact hn hb.symm

set_option maxHeartbeats 2500000 in
set_option maxRecDepth 100000 in
theorem frameNests_walk (n c : Int) (text : ByteArray) (w : World) (hg : Glb w) (_ : (Lit.int .i64 n).wf = true) (_ : (Lit.int .i64 c).wf = true) (_ : text.size ≤ 140737488351232) :
    Calls Tryd.prog 7 #[.int .i64 n, .int .i64 c, .string text] w fun e w' => e = .returned (.bool true) ∧ Below w.heap.size w w' := by
  by_cases hin : 1 ≤ n ∧ n ≤ 15 ∧ 0 ≤ c ∧ c ≤ n ∧ text.size ≤ 40
  · obtain ⟨i1, i2, i3, i4, i5⟩ := hin
    obtain ⟨n, rfl⟩ := Int.eq_ofNat_of_zero_le (a := n) (by omega)
    obtain ⟨c, rfl⟩ := Int.eq_ofNat_of_zero_le (a := c) (by omega)
    go_enter Tryd.func7, Tryd.ntmps7
    go_wp2_with (go_at_call 22; refine (alive6_any _ hg).mono ?_; rintro e w1 ⟨rfl, b1⟩)
    have z1 := b1.size
    go_loop [7] (fun s7 => ∃ j : Nat, j ≤ text.size ∧ s7 = .int .i64 j ∧ 58 ∉ (L text).take j) (fun s7 => text.size - (intOf s7).toNat)
    case atStart => exact ⟨0, Nat.zero_le _, rfl, by simp⟩
    case round =>
      obtain ⟨j, hj, rfl, hno⟩ := hrel
      have HNO := Lib.hid hno
      clear hno
      by_cases hjl : j < text.size
      · by_cases hb : text[j]'hjl = 58
        · go_wp2_with fail
          go_ret
          exact ⟨rfl, b1⟩
        · have HT := Lib.hid (take58 text hjl hb HNO.out)
          have q : ((text[j].toNat : Int) == 58) = false := byte_ne (n := 58) (by decide) hb
          clear hb
          have c1 : decide ((text[j].toNat : Int) < 32) = true ∨ decide ((text[j].toNat : Int) < 32) = false := by cases decide ((text[j].toNat : Int) < 32) <;> simp
          rcases c1 with q1 | q1
          · go_wp2_with fail
            go_ret
            exact ⟨rfl, b1⟩
          · go_wp2_with fail
            go_round
            case rel => exact ⟨j + 1, by omega, by go_num, HT.out⟩
            case measure => simp [intOf]; omega
      · have h58 : 58 ∉ L text := by
          have := HNO.out
          rwa [List.take_of_length_le (by simp; omega)] at this
        have HLAW := Lib.hid (nest_law n c text (by omega) h58)
        clear HNO h58
        go_wp2_with fail
        go_loopw [8, 9] (fun s8 s9 wr => ∃ (k : Nat) (A1 : Option Addr) (c1 : Nat), k ≤ n ∧ s9 = .int .i64 k ∧ s8 = .slice A1 k c1 ∧ Own wr w.heap.size 9 1 A1 k c1 (txCells (List.replicate k opB)) ∧ Below w.heap.size w wr) (fun _ s9 _ => n - (intOf s9).toNat)
        case atStart => exact ⟨0, none, 0, Nat.zero_le _, rfl, rfl, Own.nil _ _ _ _, b1⟩
        case round =>
          obtain ⟨k, A1, c1, hk, rfl, rfl, hown, hb⟩ := hrel
          have hbs := hb.size
          by_cases hlt : k < n
          · go_wp2_with (at_builtin; refine wpList_app1 Tryd.elTexts rfl (.tmp 59) (.tmp 60) rfl rfl (by exact hown.alloc _) rfl (Blk.new' _ _ _ _ (by simp)) rfl (by simp [Value.oneCell']) (by simp only [maxLen]; omega) (by omega) (by simp; omega) ?_
                         intro A2 c2 w3 hown2 ho2 hm2)
            go_roundw
            case rel =>
              refine ⟨k + 1, A2, c2, by omega, by go_num, rfl, ?_, hb.trans (ho2.of_alloc.below (fun a ha => (hown.lt ha).1) hbs)⟩
              rw [List.replicate_succ']
              simpa [txCells, opB] using hown2
            case measure => simp [intOf]; omega
          · have hkn : k = n := by omega
            subst hkn
            go_wp2_with (at_builtin; refine wpList_app1 Tryd.elTexts rfl (.tmp 62) (.tmp 64) rfl rfl (by exact hown.alloc _) rfl (Blk.new' _ _ _ _ (by simp)) rfl (by simp [Value.oneCell']) (by simp only [maxLen]; omega) (by omega) (by simp; omega) ?_
                         intro A2 c2 w3 hown2 ho2 hm2)
            have hb2 := hb.trans (ho2.of_alloc.below (fun a ha => (hown.lt ha).1) hbs)
            have hown3 : Own w3 w.heap.size 9 1 A2 (k + 1) c2 (txCells (List.replicate k opB ++ [text] ++ List.replicate 0 shB)) := by simpa [txCells] using hown2
            clear hown hb hown2 ho2 hm2 hbs
            go_loopw [8, 10] (fun s8 s10 wr2 => ∃ (m : Nat) (A3 : Option Addr) (c3 : Nat), m ≤ c ∧ s10 = .int .i64 m ∧ s8 = .slice A3 (k + 1 + m) c3 ∧ Own wr2 w.heap.size 9 1 A3 (k + 1 + m) c3 (txCells (List.replicate k opB ++ [text] ++ List.replicate m shB)) ∧ Below w.heap.size w wr2) (fun _ s10 _ => c - (intOf s10).toNat)
            case atStart => exact ⟨0, A2, c2, Nat.zero_le _, rfl, rfl, hown3, hb2⟩
            case round =>
              clear hown3 hb2
              obtain ⟨m, A3, c3, hmc, rfl, rfl, hown, hb⟩ := hrel
              have hbs := hb.size
              by_cases hlt2 : m < c
              · go_wp2_with (at_builtin; refine wpList_app1 Tryd.elTexts rfl (.tmp 71) (.tmp 72) rfl rfl (by exact hown.alloc _) rfl (Blk.new' _ _ _ _ (by simp)) rfl (by simp [Value.oneCell']) (by simp only [maxLen]; omega) (by omega) (by simp; omega) ?_
                             intro A4 c4 w5 hown4 ho4 hm4)
                go_roundw
                case rel =>
                  refine ⟨m + 1, A4, c4, by omega, by go_num, by rfl, ?_, hb.trans (ho4.of_alloc.below (fun a ha => (hown.lt ha).1) hbs)⟩
                  rw [List.replicate_succ']
                  simpa [txCells, shB, Nat.add_assoc] using hown4
                case measure => simp [intOf]; omega
              · have hmn : m = c := by omega
                subst hmn
                have hp := frParse_any A3 (k + 1 + m) c3 wr.heap.size (List.replicate k opB ++ [text] ++ List.replicate m shB) wr hown.reads (Nat.le_refl _) (by omega) (by
                  intro y hy
                  rcases List.mem_append.1 hy with hy | hy
                  · rcases List.mem_append.1 hy with hy | hy
                    · rw [List.eq_of_mem_replicate hy]; decide
                    · rw [List.mem_singleton.1 hy]; omega
                  · rw [List.eq_of_mem_replicate hy]; decide)
                rw [HLAW.out] at hp
                have HP := Lib.hid hp
                clear hp HLAW hown
                go_wp2_with fail
                refine HP.out.mono ?_
                rintro e w6 ⟨A, np, cp, ps, rfl, hP, hout, b6⟩
                have hb6 := hb.trans (b6.mono hbs)
                have hnp := hP.len
                have hpl : ps.length = k + 1 := by
                  have := congrArg List.length hout
                  simpa [nestOut] using this
                have hnp2 : np = k + 1 := by omega
                subst hnp2
                obtain ⟨g, rfl, _, _⟩ := hP.1.some_ (by omega)
                have hat : ∀ (i : Nat) (p : PartR), ps[i]? = some p → (nestOut k (k - m) text)[i]? = some p.t := fun i p h => by rw [← hout, List.getElem?_map, h]; rfl
                obtain ⟨pn, hpn⟩ : ∃ pn, ps[k]? = some pn := ⟨_, List.getElem?_eq_getElem (by omega)⟩
                have htn : pn.t = ⟨(k : Int), false, ⟨#[]⟩, false, [text]⟩ := by
                  have := hat k pn hpn
                  unfold nestOut at this
                  rw [List.getElem?_append_right (by simp)] at this
                  simpa using this.symm
                obtain ⟨d0, d1, _, _, _⟩ := hP.cells_at hpn
                rw [htn] at d0 d1
                simp only at d0 d1
                have HAT := Lib.hid hat
                have HPL := Lib.hid hpl
                have HPP := Lib.hid hP
                clear HP hat hpl hP hpn htn hout hnp
                go_wp2_with fail
                go_loop [12] (fun s12 => ∃ q : Nat, q ≤ k ∧ s12 = .int .i64 q) (fun s12 => k - (intOf s12).toNat)
                case atStart => exact ⟨0, Nat.zero_le _, rfl⟩
                case round =>
                  clear d0 d1
                  obtain ⟨q, hq, rfl⟩ := hrel
                  by_cases hqk : q < k
                  · obtain ⟨pq, hpq⟩ : ∃ pq, ps[q]? = some pq := ⟨_, List.getElem?_eq_getElem (by have := HPL.out; omega)⟩
                    have htq : pq.t = nestP (k - m) q := by
                      have := HAT.out q pq hpq
                      unfold nestOut at this
                      rw [List.getElem?_append_left (by simpa using hqk), List.getElem?_map, List.getElem?_range hqk] at this
                      simpa using this.symm
                    obtain ⟨e0, e1, _, e3, _⟩ := HPP.out.cells_at hpq
                    rw [htq] at e0 e1 e3
                    unfold nestP at e0 e1 e3
                    simp only at e0 e1 e3
                    obtain ⟨bb, hbb⟩ : ∃ bb, decide (q < k - m) = bb := ⟨_, rfl⟩
                    have dq : decide ((q : Int) < (k : Int) - (m : Int)) = bb := by
                      rw [← hbb]
                      by_cases h : q < k - m
                      · rw [decide_eq_true h, decide_eq_true (by omega)]
                      · rw [decide_eq_false h, decide_eq_false (by omega)]
                    rw [hbb] at e3
                    have hbn : (bb != bb) = false := by simp
                    clear hpq htq hbb
                    go_wp2_with fail
                    go_round
                    case rel => exact ⟨q + 1, by omega, by go_num⟩
                    case measure => simp [intOf]; omega
                  · go_wp2_with fail
                    go_ret
                    exact ⟨rfl, hb6⟩
  · have hcs : n < 1 ∨ 15 < n ∨ c < 0 ∨ n < c ∨ 40 < text.size := by omega
    clear hin
    rcases hcs with h | h | h | h | h
    all_goals
      go_enter Tryd.func7, Tryd.ntmps7
      go_wp2_with (go_at_call 22; refine (alive6_any _ hg).mono ?_; rintro e w1 ⟨rfl, b1⟩)
    all_goals
      go_ret
      exact ⟨rfl, b1⟩
end Go.Proofs.YtofloedgclodnaaDoor
