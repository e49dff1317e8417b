/-
  bowdlerlaw9.BlockIndents: its walk: it answers true, and turns nothing that was there.
-/
import Derived.Test.YtommebalgghdjaaDoorBlockStart
import Derived.Test.YtommebalgghdjaaDoorBlockCodeLaw
namespace Go.Proofs.YtommebalgghdjaaDoor
open Go.RowKit

def fourS (x : ByteArray) : ByteArray := ⟨#[32, 32, 32, 32]⟩ ++ x
theorem fourS_L (x : ByteArray) : L (fourS x) = four (L x) := by unfold fourS four; rw [L_append]; rfl
theorem indents_bs {l : List ByteArray} (hn : l ≠ []) (h9 : ∀ x ∈ l, 9 ∉ L x) (h1 : ∀ x, l.head? = some x → blankT (L x) = false) (h2 : ∀ x, l.getLast? = some x → blankT (L x) = false) : parseT ((l.map fourS).map L) = [⟨6, 0, 0, false, joinT ([] ++ l.map L), []⟩] := by
  have := indents_law (l := l.map L) (by simpa using hn) (fun x hx => by obtain ⟨y, hy, rfl⟩ := List.mem_map.1 hx; exact h9 y hy)
    (fun x hx => by
      rw [List.head?_map] at hx
      obtain ⟨y, hy, rfl⟩ := Option.map_eq_some_iff.1 hx
      exact h1 y hy)
    (fun x hx => by
      rw [List.getLast?_map] at hx
      obtain ⟨y, hy, rfl⟩ := Option.map_eq_some_iff.1 hx
      exact h2 y hy)
  rw [List.map_map] at this ⊢
  have e : (L ∘ fourS) = (four ∘ L) := funext fourS_L
  rw [e, this]
  rfl
theorem take_snoc' {α : Type} {l : List α} {k : Nat} {x : α} (hx : l[k]? = some x) : l.take (k + 1) = l.take k ++ [x] := by
  rw [List.take_add_one, hx]; rfl
theorem take9 (x : ByteArray) {j : Nat} (h : j < x.size) (hn : ¬ x[j]'h = 9) (ih : 9 ∉ (L x).take j) : 9 ∉ (L x).take (j + 1) := by
  have hl : j < (L x).length := by simpa using h
  rw [List.take_add_one, List.getElem?_eq_getElem hl, Option.toList_some, List.mem_append, List.mem_singleton]
  rintro (hb | hb)
  · exact ih hb
  · exact hn hb.symm

set_option maxHeartbeats 4000000 in
set_option maxRecDepth 100000 in
theorem blockIndents_walk (A : Option Addr) (n cap : Nat) (l : List ByteArray) (w : World) (_ : Glb w) (hl : IsTexts w A n cap l) :
    Calls Tryd.prog 14 #[.slice A n cap] w fun e w' => e = .returned (.bool true) ∧ Below w.heap.size w w' := by
  obtain ⟨hr, hnc, hcm, hz⟩ := hl
  have hmax : maxLen = 9223372036854775807 := rfl
  have hln : l.length = n := by have := hr.1; simpa using this
  have HLN := Lib.hid hln
  have HZ := Lib.hid hz
  clear hln hz
  have hcs : n < 1 ∨ 20 < n ∨ (1 ≤ n ∧ n ≤ 20) := by omega
  rcases hcs with h | h | ⟨h1, h20⟩
  · go_enter Tryd.func14, Tryd.ntmps14
    go_wp2_with (go_at_call 16; refine (aliveB_any _).mono ?_; rintro e w1 ⟨rfl, b1⟩)
    go_ret
    exact ⟨rfl, b1⟩
  · go_enter Tryd.func14, Tryd.ntmps14
    go_wp2_with (go_at_call 16; refine (aliveB_any _).mono ?_; rintro e w1 ⟨rfl, b1⟩)
    go_ret
    exact ⟨rfl, b1⟩
  go_enter Tryd.func14, Tryd.ntmps14
  go_wp2_with (go_at_call 16; refine (aliveB_any _).mono ?_; rintro e w1 ⟨rfl, b1⟩)
  go_loopw [3, 4, 24] (fun s3 s4 s24 wr => ∃ (k : Nat) (A3 : Option Addr) (c3 : Nat) (W : ByteArray), k ≤ n ∧ s24 = .int .i64 k ∧ s3 = .string W ∧ S (joinT ([] ++ (l.take k).map L)) = W ∧ W.size ≤ 61 * k ∧ s4 = .slice A3 k c3 ∧
    Own wr w.heap.size 9 1 A3 k c3 (txCells ((l.take k).map fourS)) ∧ Below w.heap.size w wr ∧ (∀ j x, j < k → l[j]? = some x → 9 ∉ L x ∧ x.size ≤ 60 ∧ ((j = 0 ∨ j + 1 = n) → blankT (L x) = false))) (fun _ _ s24 _ => n - (intOf s24).toNat)
  case atStart => exact ⟨0, none, 0, ⟨#[]⟩, Nat.zero_le _, rfl, rfl, rfl, by decide, rfl, Own.nil _ _ _ _, b1, fun j x hj => by omega⟩
  case round =>
    clear b1
    obtain ⟨k, A3, c3, W, hk, rfl, rfl, hW, hWs, rfl, hown, hb, hall⟩ := hrel
    have HW := Lib.hid hW
    have HALL := Lib.hid hall
    clear hW hall
    have hzw := hb.size
    by_cases hlt : k < n
    · obtain ⟨ad, u, rfl, _, hx0, hc⟩ := (hr.below hb).at_ hlt
      obtain ⟨x, hx, rfl⟩ : ∃ x, l[k]? = some x ∧ Value.string x = u := by simpa using hx0
      have hxz := HZ.out x (List.mem_of_getElem? hx)
      have HX := Lib.hid hx
      clear hx hx0
      by_cases h60 : 60 < x.size
      · go_wp2_with fail
        go_ret
        exact ⟨rfl, hb⟩
      · go_wp2_with fail
        go_loop [7] (fun s7 => ∃ j : Nat, j ≤ x.size ∧ s7 = .int .i64 j ∧ 9 ∉ (L x).take j) (fun s7 => x.size - (intOf s7).toNat)
        case atStart => exact ⟨0, Nat.zero_le _, rfl, by simp⟩
        case round =>
          clear hc
          obtain ⟨j, hj, rfl, hno⟩ := hrel
          have HNO := Lib.hid hno
          clear hno
          by_cases hjl : j < x.size
          · by_cases hq : x[j]'hjl = 10
            · go_wp2_with fail
              go_ret
              exact ⟨rfl, hb⟩
            · have q : ((x[j].toNat : Int) == 10) = false := byte_ne (n := 10) (by decide) hq
              by_cases hq9 : x[j]'hjl = 9
              · have q' : ((x[j].toNat : Int) == 9) = true := by rw [hq9]; decide
                clear hq hq9
                go_wp2_with fail
                go_ret
                exact ⟨rfl, hb⟩
              · have HT := Lib.hid (take9 x hjl hq9 HNO.out)
                have q' : ((x[j].toNat : Int) == 9) = false := byte_ne (n := 9) (by decide) hq9
                clear hq hq9
                go_wp2_with fail
                go_round
                case rel => exact ⟨j + 1, by omega, by go_num, HT.out⟩
                case measure => simp [intOf]; omega
          · have HN9 : Hid (9 ∉ L x) := Lib.hid (by
              have := HNO.out
              rwa [List.take_of_length_le (by simp; omega)] at this)
            clear HNO
            have hxs : (x ++ (⟨#[10]⟩ : ByteArray)).size = x.size + 1 := by rw [ByteArray.size_append]; rfl
            have r1 : ¬ 9223372036854775807 < x.size + (⟨#[10]⟩ : ByteArray).size := by have : (⟨#[10]⟩ : ByteArray).size = 1 := rfl; omega
            have r2 : ¬ 9223372036854775807 < W.size + (x ++ (⟨#[10]⟩ : ByteArray)).size := by omega
            have r3 : ¬ 9223372036854775807 < (⟨#[32, 32, 32, 32]⟩ : ByteArray).size + x.size := by have : (⟨#[32, 32, 32, 32]⟩ : ByteArray).size = 4 := rfl; omega
            have HXS := Lib.hid hxs
            clear hxs
            by_cases hed : k = 0 ∨ k + 1 = n
            · have HBL := Lib.hid (blank_any x wr (by omega))
              have HED := Lib.hid hed
              cases hbx : blankT (L x)
              case true =>
                rw [hbx] at HBL
                have q0 : ((k : Int) == 0) = true ∨ (((k : Int) == 0) = false ∧ ((k : Int) == (n : Int) - 1) = true) := by
                  by_cases h0 : k = 0
                  · left; subst h0; rfl
                  · right
                    refine ⟨by simp; omega, by simp; omega⟩
                clear hed
                rcases q0 with q0 | ⟨q0, q1⟩
                · go_wp2_with (go_at_call 22; refine HBL.out.mono ?_; rintro e w3 ⟨rfl, b3⟩)
                  go_ret
                  exact ⟨rfl, hb.trans (b3.mono hzw)⟩
                · go_wp2_with (go_at_call 22; refine HBL.out.mono ?_; rintro e w3 ⟨rfl, b3⟩)
                  go_ret
                  exact ⟨rfl, hb.trans (b3.mono hzw)⟩
              case false =>
                rw [hbx] at HBL
                have HBX := Lib.hid hbx
                have q0 : ((k : Int) == 0) = true ∨ (((k : Int) == 0) = false ∧ ((k : Int) == (n : Int) - 1) = true) := by
                  by_cases h0 : k = 0
                  · left; subst h0; rfl
                  · right
                    refine ⟨by simp; omega, by simp; omega⟩
                clear hed hbx
                rcases q0 with q0 | ⟨q0, q1⟩
                all_goals
                  go_upto_region 17 with (go_at_call 22; refine HBL.out.mono ?_; rintro e w3 ⟨rfl, b3⟩)
                  have hb3 := hb.trans (b3.mono hzw)
                  have hown3 := hown.below b3 (Nat.le_refl _)
                  have hz3 := hb3.size
                  clear hown hb b3 HBL q0
                  go_wp2_with (at_builtin; refine wpList_app1 Tryd.elTexts rfl (.tmp 61) (.tmp 64) rfl rfl (by exact hown3.alloc _) rfl (Blk.new' _ _ _ _ (by simp)) rfl (by simp [Value.oneCell']) (by simp only [maxLen]; omega) (by omega) (by simp; omega) ?_
                               intro A4 c4 w5 hown4 ho4 hm4)
                  go_roundw
                  case rel =>
                    refine ⟨k + 1, A4, c4, W ++ (x ++ ⟨#[10]⟩), by omega, by go_num, rfl, by rw [want_snoc _ l HX.out, HW.out], by rw [ByteArray.size_append, HXS.out]; omega, by rfl, ?_, hb3.trans (ho4.of_alloc.below (fun a ha => (hown3.lt ha).1) hz3), fun j y hj hy => ?_⟩
                    · rw [take_snoc' HX.out, List.map_append]
                      simpa [txCells, fourS] using hown4
                    · rcases Nat.lt_or_ge j k with h | h
                      · exact HALL.out j y h hy
                      · have : j = k := by omega
                        subst this
                        rw [HX.out] at hy
                        rw [← Option.some.inj hy]
                        exact ⟨HN9.out, by omega, fun _ => HBX.out⟩
                  case measure => simp [intOf]; omega
            · have q0 : ((k : Int) == 0) = false := by simp; omega
              have q1 : ((k : Int) == (n : Int) - 1) = false := by simp; omega
              have HED := Lib.hid hed
              clear hed
              go_wp2_with (at_builtin; refine wpList_app1 Tryd.elTexts rfl (.tmp 61) (.tmp 64) rfl rfl (by exact hown.alloc _) rfl (Blk.new' _ _ _ _ (by simp)) rfl (by simp [Value.oneCell']) (by simp only [maxLen]; omega) (by omega) (by simp; omega) ?_
                           intro A4 c4 w5 hown4 ho4 hm4)
              go_roundw
              case rel =>
                refine ⟨k + 1, A4, c4, W ++ (x ++ ⟨#[10]⟩), by omega, by go_num, rfl, by rw [want_snoc _ l HX.out, HW.out], by rw [ByteArray.size_append, HXS.out]; omega, by rfl, ?_, hb.trans (ho4.of_alloc.below (fun a ha => (hown.lt ha).1) hzw), fun j y hj hy => ?_⟩
                · rw [take_snoc' HX.out, List.map_append]
                  simpa [txCells, fourS] using hown4
                · rcases Nat.lt_or_ge j k with h | h
                  · exact HALL.out j y h hy
                  · have : j = k := by omega
                    subst this
                    rw [HX.out] at hy
                    rw [← Option.some.inj hy]
                    exact ⟨HN9.out, by omega, fun h => absurd h HED.out⟩
              case measure => simp [intOf]; omega
    · have hkn : k = n := by omega
      subst hkn
      have hta : l.take k = l := List.take_of_length_le (by rw [HLN.out]; exact Nat.le_refl _)
      rw [hta] at HW hown
      clear hta
      have hmem : ∀ x ∈ l, 9 ∉ L x ∧ x.size ≤ 60 := fun x hx => by
        obtain ⟨j, hj, e⟩ := List.getElem_of_mem hx
        have := HALL.out j x (by rw [← HLN.out]; exact hj) (by rw [List.getElem?_eq_getElem hj, e])
        exact ⟨this.1, this.2.1⟩
      have hbs := indents_bs (l := l) (fun h => by have := HLN.out; rw [h] at this; simp at this; omega) (fun x hx => (hmem x hx).1)
        (fun x hx => by rw [List.head?_eq_getElem?] at hx; exact (HALL.out 0 x (by omega) hx).2.2 (.inl rfl))
        (fun x hx => by
          rw [List.getLast?_eq_getElem?, HLN.out] at hx
          exact (HALL.out (k - 1) x (by omega) hx).2.2 (.inr (by omega)))
      have hp := parse_any wr.heap.size (l.map fourS) A3 k c3 wr hown.reads (Nat.le_refl _) (lnOk_of (by
        intro y hy
        obtain ⟨x, hx, rfl⟩ := List.mem_map.1 hy
        have := (hmem x hx).2
        unfold fourS
        rw [ByteArray.size_append]
        have : (⟨#[32, 32, 32, 32]⟩ : ByteArray).size = 4 := rfl
        omega)) (by omega) hown.cap
      rw [hbs] at hp
      have HP := Lib.hid hp
      clear hp hbs hmem
      go_upto_region 21 with (go_at_call 17; refine HP.out.mono ?_; rintro e w6 ⟨Ao, m, co, rfl, hm, hO, b6⟩)
      have hb6 := hb.trans (b6.mono hzw)
      have hm2 : m = 1 := hm.symm
      subst hm2
      obtain ⟨g, rfl, _, _⟩ := hO.some_ (by omega)
      have k0 := hO.cell (j := 0) rfl
      have k1 := hO.cell (j := 1) rfl
      have k2 := hO.cell (j := 2) rfl
      have k3 := hO.cell (j := 3) rfl
      have k4 : w6.cell? ⟨g, 4, none⟩ = some (.string W) := by rw [← HW.out]; exact hO.cell (j := 4) rfl
      have k5 : w6.cell? ⟨g, 5, none⟩ = some (.string ⟨#[]⟩) := hO.cell (j := 5) rfl
      clear hO
      go_wp2_with fail
      go_ret
      exact ⟨rfl, hb6⟩
end Go.Proofs.YtommebalgghdjaaDoor
