/-
  bowdlerlaw6.SpansBack: its walk: it answers true, and turns nothing that was there.
-/
import Derived.Test.YtgmkjjccnlnpoaaDoorUnspan
import Derived.Test.YtgmkjjccnlnpoaaDoorTakes
import Derived.Test.YtgmkjjccnlnpoaaDoorOpenTexts
namespace Go.Proofs.YtgmkjjccnlnpoaaDoor
open Go.RowKit

def OkP (b : Bool) (p : PieceT) : Prop := p.span = b ∧ 1 ≤ p.text.size ∧ 123 ∉ L p.text ∧ 124 ∉ L p.text ∧ (b = true → lowT (L p.label) = true ∧ 1 ≤ p.label.size ∧ p.label.size ≤ 40) ∧ (b = false → p.label = ⟨#[]⟩)
theorem alt_snoc {p : PieceT} : ∀ (b : Bool) (out : List PieceT), AltOk b out → OkP (b != decide (out.length % 2 = 1)) p → AltOk b (out ++ [p])
  | b, [], _, h => by
    have hb : (b != decide (([] : List PieceT).length % 2 = 1)) = b := by cases b <;> rfl
    rw [hb] at h
    obtain ⟨h1, h2, h3, h4, h5, h6⟩ := h
    exact ⟨h1, h2, h3, h4, h5, h6, trivial⟩
  | b, q :: t, ⟨h1, h2, h3, h4, h5, h6, h7⟩, h => by
    refine ⟨h1, h2, h3, h4, h5, h6, alt_snoc (!b) t h7 ?_⟩
    have hb : ((!b) != decide (t.length % 2 = 1)) = (b != decide ((q :: t).length % 2 = 1)) := by
      rw [List.length_cons]
      rcases Nat.mod_two_eq_zero_or_one t.length with e | e
      · rw [show (t.length + 1) % 2 = 1 by omega, e]; cases b <;> rfl
      · rw [show (t.length + 1) % 2 = 0 by omega, e]; cases b <;> rfl
    rw [hb]; exact h
theorem piece_len_le {b : Bool} {p : PieceT} (h : OkP b p) (ht : p.text.size ≤ 40) : (pieceB p).length ≤ 85 := by
  obtain ⟨h1, _, _, _, h5, _⟩ := h
  unfold pieceB
  cases b
  · rw [h1]; simp; omega
  · have := (h5 rfl).2.2
    rw [h1]; simp; omega
theorem pieces_one (ps : List PieceT) : ∀ u ∈ pieceCells ps, u.oneCell' = true := by
  intro u hu
  obtain ⟨x, _, hx⟩ := List.mem_flatMap.1 hu
  simp only [PieceT.cells, List.mem_cons, List.not_mem_nil, or_false] at hx
  rcases hx with rfl | rfl | rfl <;> rfl
theorem pieceCells_snoc (ps : List PieceT) (p : PieceT) : pieceCells (ps ++ [p]) = pieceCells ps ++ p.cells := by simp [pieceCells]

set_option maxHeartbeats 8000000 in
set_option maxRecDepth 100000 in
theorem spansBack_walk (A : Option Addr) (n cap : Nat) (xs : List ByteArray) (A' : Option Addr) (n' cap' : Nat) (ls : List ByteArray) (w : World) (hg : Glb w) (hl : IsTexts w A n cap xs) (hl' : IsTexts w A' n' cap' ls) :
    Calls Tryd.prog 4 #[.slice A n cap, .slice A' n' cap'] w fun e w' => e = .returned (.bool true) ∧ Below w.heap.size w w' := by
  obtain ⟨hr, hnc, hcm, hsz⟩ := hl
  obtain ⟨hr', hnc', hcm', hsz'⟩ := hl'
  have hmax : maxLen = 9223372036854775807 := rfl
  have hlen : xs.length = n := by have := hr.1; simpa using this
  have hlen' : ls.length = n' := by have := hr'.1; simpa using this
  have HL := Lib.hid hlen
  have HL' := Lib.hid hlen'
  clear hlen hlen' hsz hsz'
  by_cases hin : n ≤ 12 ∧ 1 ≤ n' ∧ n' ≤ 12
  · obtain ⟨i1, i2, i3⟩ := hin
    have z0 : ((n' : Int) == 0) = false := beq_eq_false_iff_ne.2 (by omega)
    go_enter Tryd.func4, Tryd.ntmps4
    go_wp2_with (go_at_call 7; refine (alive6_any _ hg).mono ?_; rintro e w1 ⟨rfl, b1⟩)
    have hr1 := hr.below b1
    have hr1' := hr'.below b1
    have hg1 := hg.below b1
    clear z0
    go_loopw [5, 34] (fun s5 s34 wr => ∃ (i : Nat) (A1 : Option Addr) (c1 : Nat) (out : List PieceT), i ≤ n ∧ s34 = .int .i64 i ∧ s5 = .slice A1 i c1 ∧ out.length = i ∧ AltOk false out ∧ (piecesB out).length ≤ i * 85 ∧ Own wr w.heap.size 30 3 A1 i c1 (pieceCells out) ∧ Below w.heap.size w wr) (fun _ s34 _ => n - (intOf s34).toNat)
    case atStart => exact ⟨0, none, 0, [], Nat.zero_le _, rfl, rfl, rfl, trivial, by simp [piecesB], Own.nil _ _ _ _, b1⟩
    case round =>
      obtain ⟨i, A1, c1, out, hi, rfl, rfl, hol, halt, hpb, hown, hbw⟩ := hrel
      have hzw := hbw.size
      have HOL := Lib.hid hol
      have HALT := Lib.hid halt
      have HPB := Lib.hid hpb
      clear hol halt hpb
      by_cases hlt : i < n
      · obtain ⟨ad, u, rfl, _, hx0, hc⟩ := (hr.below hbw).at_ hlt
        obtain ⟨x, hx, rfl⟩ : ∃ x, xs[i]? = some x ∧ Value.string x = u := by simpa using hx0
        have hml : i % n' < n' := Nat.mod_lt _ (by omega)
        obtain ⟨ad', u', rfl, _, hx0', hc'⟩ := (hr'.below hbw).at_ hml
        obtain ⟨l, hl, rfl⟩ : ∃ x, ls[i % n']? = some x ∧ Value.string x = u' := by simpa using hx0'
        have m1 : ((i : Int).tmod (n' : Int)) = ((i % n' : Nat) : Int) := Int.tmod_eq_emod_of_nonneg (by omega)
        have m3 : ((i % n' : Nat) : Int) < (n' : Int) := by omega
        have m4 : (0 : Int) ≤ ((i % n' : Nat) : Int) := by omega
        have m5 : (((i % n' : Nat) : Int)).toNat = i % n' := by omega
        clear hx hl hx0 hx0'
        generalize i % n' = r at *
        obtain ⟨d, hd⟩ : ∃ d, i % 2 = d := ⟨_, rfl⟩
        have m2 : ((i : Int).tmod 2) = (d : Int) := by rw [← hd]; exact Int.tmod_eq_emod_of_nonneg (by omega)
        have hd2 : d = 0 ∨ d = 1 := by omega
        have HD := Lib.hid hd
        clear hd
        by_cases hx0 : x.size = 0
        · have e0 := bytes_none hx0
          subst e0
          clear hx0
          go_wp2_with fail
          go_ret
          exact ⟨rfl, hbw⟩
        obtain ⟨e1, e2, e3⟩ := bytes_some hx0
        by_cases hx40 : 40 < x.size
        · go_wp2_with fail
          go_ret
          exact ⟨rfl, hbw⟩
        by_cases hl0 : l.size = 0
        · have e0 := bytes_none hl0
          subst e0
          clear hl0
          go_wp2_with fail
          go_ret
          exact ⟨rfl, hbw⟩
        obtain ⟨f1, f2, f3⟩ := bytes_some hl0
        by_cases hl40 : 40 < l.size
        · go_wp2_with fail
          go_ret
          exact ⟨rfl, hbw⟩
        go_wp2_with fail
        go_loop [9] (fun s9 => ∃ j : Nat, j ≤ x.size ∧ s9 = .int .i64 j ∧ 123 ∉ (L x).take j ∧ 124 ∉ (L x).take j) (fun s => x.size - (intOf s).toNat)
        case atStart => exact ⟨0, Nat.zero_le _, rfl, by simp, by simp⟩
        case round =>
          obtain ⟨j, hj, rfl, hn1, hn2⟩ := hrel
          have HN1 := Lib.hid hn1
          have HN2 := Lib.hid hn2
          clear hn1 hn2
          by_cases hjl : j < x.size
          · by_cases hb1 : x[j]'hjl = 123
            · go_wp2_with fail
              go_ret
              exact ⟨rfl, hbw⟩
            · have HT1 := Lib.hid (not_take x hjl hb1 HN1.out)
              have q1 : ((x[j].toNat : Int) == 123) = false := byte_ne (n := 123) (by decide) hb1
              clear hb1
              by_cases hb2 : x[j]'hjl = 124
              · go_wp2_with fail
                go_ret
                exact ⟨rfl, hbw⟩
              · have HT2 := Lib.hid (not_take x hjl hb2 HN2.out)
                have q2 : ((x[j].toNat : Int) == 124) = false := byte_ne (n := 124) (by decide) hb2
                clear hb2
                obtain ⟨v3, q3⟩ : ∃ v, ((x[j].toNat : Int) == 125) = v := ⟨_, rfl⟩
                cases v3
                · go_wp2_with fail
                  go_round
                  case rel => exact ⟨j + 1, by omega, by go_num, HT1.out, HT2.out⟩
                  case measure => simp [intOf]; omega
                · go_wp2_with fail
                  go_ret
                  exact ⟨rfl, hbw⟩
          · have hjx : j = x.size := by omega
            subst hjx
            have HX1 := Lib.hid (not_all x HN1.out)
            have HX2 := Lib.hid (not_all x HN2.out)
            clear HN1 HN2 hjl
            go_wp2_with fail
            go_loop [10] (fun s10 => ∃ j : Nat, j ≤ l.size ∧ s10 = .int .i64 j ∧ lowT ((L l).take j) = true) (fun s => l.size - (intOf s).toNat)
            case atStart => exact ⟨0, Nat.zero_le _, rfl, rfl⟩
            case round =>
              obtain ⟨j, hj, rfl, hlo⟩ := hrel
              have HLO := Lib.hid hlo
              clear hlo
              by_cases hjl : j < l.size
              · by_cases q1 : ((l[j]'hjl).toNat : Int) < 97
                · go_wp2_with fail
                  go_ret
                  exact ⟨rfl, hbw⟩
                · by_cases q2 : (122 : Int) < ((l[j]'hjl).toNat : Int)
                  · have q1' : decide (((l[j]'hjl).toNat : Int) < 97) = false := decide_eq_false q1
                    clear q1
                    go_wp2_with fail
                    go_ret
                    exact ⟨rfl, hbw⟩
                  · have HT := Lib.hid (low_take l hjl q1 q2 HLO.out)
                    have q1' : decide (((l[j]'hjl).toNat : Int) < 97) = false := decide_eq_false q1
                    have q2' : decide ((122 : Int) < ((l[j]'hjl).toNat : Int)) = false := decide_eq_false q2
                    clear q1 q2
                    go_wp2_with fail
                    go_round
                    case rel => exact ⟨j + 1, by omega, by go_num, HT.out⟩
                    case measure => simp [intOf]; omega
              · have hjx : j = l.size := by omega
                subst hjx
                have HLW := Lib.hid (low_all l HLO.out)
                clear HLO hjl
                rcases hd2 with rfl | rfl
                · have HOK : Hid (OkP false ⟨false, ⟨#[]⟩, x⟩) := Lib.hid ⟨rfl, by show 1 ≤ x.size; omega, HX1.out, HX2.out, fun h => (by cases h), fun _ => rfl⟩
                  go_wp2_with (at_builtin; refine wpList_app1 Tryd.elPieces rfl (.tmp 108) (.tmp 110) rfl rfl (by exact (hown.alloc _).alloc _) rfl (Blk.new' _ _ _ _ (by simp)) rfl (by simp [Value.oneCell']) (by simp only [maxLen]; omega) (by omega) (by simp; omega) ?_
                               intro A2 c2 w3 hown2 ho2 hm2)
                  go_roundw
                  case rel =>
                    refine ⟨i + 1, A2, c2, out ++ [⟨false, ⟨#[]⟩, x⟩], by omega, by go_num, rfl, by rw [List.length_append, HOL.out]; rfl, alt_snoc false out HALT.out ?_, ?_, ?_, hbw.trans (ho2.of_alloc.of_alloc.below (fun a ha => (hown.lt ha).1) hzw)⟩
                    · rw [HOL.out, HD.out]
                      exact HOK.out
                    · rw [piecesB_snoc, List.length_append]
                      have h1 := HPB.out
                      have h2 := piece_len_le HOK.out (by show x.size ≤ 40; omega)
                      omega
                    · rw [pieceCells_snoc]
                      exact hown2
                  case measure => simp [intOf]; omega
                · have HOK : Hid (OkP true ⟨true, l, x⟩) := Lib.hid ⟨rfl, by show 1 ≤ x.size; omega, HX1.out, HX2.out, fun _ => ⟨HLW.out, by show 1 ≤ l.size; omega, by show l.size ≤ 40; omega⟩, fun h => by cases h⟩
                  go_wp2_with (at_builtin; refine wpList_app1 Tryd.elPieces rfl (.tmp 108) (.tmp 110) rfl rfl (by exact (hown.alloc _).alloc _) rfl (Blk.new' _ _ _ _ (by simp)) rfl (by simp [Value.oneCell']) (by simp only [maxLen]; omega) (by omega) (by simp; omega) ?_
                               intro A2 c2 w3 hown2 ho2 hm2)
                  go_roundw
                  case rel =>
                    refine ⟨i + 1, A2, c2, out ++ [⟨true, l, x⟩], by omega, by go_num, rfl, by rw [List.length_append, HOL.out]; rfl, alt_snoc false out HALT.out ?_, ?_, ?_, hbw.trans (ho2.of_alloc.of_alloc.below (fun a ha => (hown.lt ha).1) hzw)⟩
                    · rw [HOL.out, HD.out]
                      exact HOK.out
                    · rw [piecesB_snoc, List.length_append]
                      have h1 := HPB.out
                      have h2 := piece_len_le HOK.out (by show x.size ≤ 40; omega)
                      omega
                    · rw [pieceCells_snoc]
                      exact hown2
                  case measure => simp [intOf]; omega
      · have hin : i = n := by omega
        subst hin
        have hg2 := hg.below hbw
        have hu := unspan_any A1 i c1 out wr hown.reads (by omega) (by have := HPB.out; omega)
        have HU := Lib.hid hu
        have hsp : ∀ w2, Glb w2 → Calls Tryd.prog 9 #[.string (S (piecesB out))] w2 fun e w' => ∃ A n c, e = .returned (.slice A n c) ∧ Own w' w2.heap.size 30 3 A n c (pieceCells out) ∧ Below w2.heap.size w2 w' := fun w2 hg2 => by
          have := spans_any (S (piecesB out)) w2 hg2 (by rw [size_S]; have := HPB.out; omega)
          rwa [spans_back (S (piecesB out)) out rfl HALT.out] at this
        have HSP := Lib.hid hsp
        clear hu hsp HALT HPB hr hr'
        go_wp2_with fail
        refine HU.out.mono ?_
        rintro e w3 ⟨rfl, c3⟩
        have hg3 := hg2.below c3
        have hbw3 := hbw.trans (c3.mono hzw)
        have hown3 := hown.below c3 (Nat.le_refl _)
        clear HU
        go_wp2_with fail
        refine (HSP.out _ hg3).mono ?_
        rintro e w4 ⟨A4, n4, c4, rfl, hown4, c5⟩
        have hbw4 := hbw3.trans (c5.mono hbw3.size)
        have hown5 := hown3.below c5 (Nat.le_refl _)
        have hn4 : n4 = i := by
          have h1 := hown4.len
          rw [pieces_length] at h1
          have h2 := HOL.out
          omega
        subst hn4
        have hr5 := hown5.reads
        have hr4 := hown4.reads
        clear HSP hown hown3 hown4 hown5 c3 c5 hbw3 hbw
        go_wp2_with fail
        go_loopw [123] (fun s wx => ∃ k m : Nat, k ≤ n4 ∧ s = .int .i64 k ∧ wx = w4.drewN m) (fun s _ => n4 - (intOf s).toNat)
        case atStart => exact ⟨0, 0, Nat.zero_le _, rfl, rfl⟩
        case round =>
          obtain ⟨k, m, hk, rfl, rfl⟩ := hrel
          by_cases hlt2 : k < n4
          · obtain ⟨q, hq⟩ : ∃ q, out[k]? = some q := ⟨_, List.getElem?_eq_getElem (by rw [HOL.out]; exact hlt2)⟩
            obtain ⟨ad, rfl, _, a0, a1, a2⟩ := hr5.piece hq hlt2
            obtain ⟨ad', rfl, _, a0', a1', a2'⟩ := hr4.piece hq hlt2
            clear hq
            obtain ⟨qs, ql, qt⟩ := q
            simp only at a0 a1 a2 a0' a1' a2'
            go_wp2_with fail
            go_quiet (fail)
            go_wp2_with fail
            go_roundw
            case rel => exact ⟨k + 1, m + nq, by omega, by go_num, rfl⟩
            case measure => simp [intOf]; omega
          · go_wp2_with fail
            go_ret
            exact ⟨rfl, below_drewN' hbw4 _⟩
  · have hcs : 12 < n ∨ (n ≤ 12 ∧ n' = 0) ∨ (n ≤ 12 ∧ 1 ≤ n' ∧ 12 < n') := by omega
    clear hin HL HL' hr hr'
    rcases hcs with h | ⟨h1, rfl⟩ | ⟨h1, h2, h⟩
    case' inr.inr => have z0 : ((n' : Int) == 0) = false := beq_eq_false_iff_ne.2 (by omega)
    all_goals
      go_enter Tryd.func4, Tryd.ntmps4
      go_wp2_with (go_at_call 7; refine (alive6_any _ hg).mono ?_; rintro e w1 ⟨rfl, b1⟩)
    all_goals
      go_ret
      exact ⟨rfl, b1⟩
end Go.Proofs.YtgmkjjccnlnpoaaDoor
