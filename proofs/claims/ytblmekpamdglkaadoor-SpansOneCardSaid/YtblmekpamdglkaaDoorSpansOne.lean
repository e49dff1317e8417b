/-
  bowdlerlaw6.SpansOne: its walk: it answers true, and turns nothing that was there.
-/
import Derived.Test.YtblmekpamdglkaaDoorSpanLaw
import Derived.Test.YtblmekpamdglkaaDoorFramePlain
import Derived.Laws.StructEq
import Derived.Deep.DeepCutAuto
namespace Go.Proofs.YtblmekpamdglkaaDoor
open Go.RowKit

theorem add0 (g j : Nat) : (⟨g, 0, none⟩ : Addr).add j = ⟨g, j, none⟩ := by unfold Addr.add; split <;> simp_all
theorem not_take (x : ByteArray) {c : UInt8} {j : Nat} (h : j < x.size) (hn : ¬ x[j]'h = c) (ih : c ∉ (L x).take j) : c ∉ (L x).take (j + 1) := by
  have hl : j < (L x).length := by simpa using h
  rw [List.take_add_one, List.getElem?_eq_getElem hl, Option.toList_some, List.mem_append, List.mem_singleton]
  rintro (hb | hb)
  · exact ih hb
  · exact hn hb.symm
theorem not_all (x : ByteArray) {c : UInt8} (h : c ∉ (L x).take x.size) : c ∉ L x := by
  rwa [List.take_of_length_le (by simp)] at h
theorem low_take (x : ByteArray) {j : Nat} (h : j < x.size) (h1 : ¬ ((x[j]'h).toNat : Int) < 97) (h2 : ¬ (122 : Int) < ((x[j]'h).toNat : Int)) (ih : lowT ((L x).take j) = true) : lowT ((L x).take (j + 1)) = true := by
  have hl : j < (L x).length := by simpa using h
  unfold lowT at ih ⊢
  rw [List.take_add_one, List.getElem?_eq_getElem hl, Option.toList_some, List.all_append, ih]
  simp only [List.all_cons, List.all_nil, Bool.and_true, Bool.true_and, Bool.and_eq_true, decide_eq_true_eq]
  have : (L x)[j] = x[j] := rfl
  rw [this]
  omega
theorem low_all (x : ByteArray) (h : lowT ((L x).take x.size) = true) : lowT (L x) = true := by
  rwa [List.take_of_length_le (by simp)] at h
def Clean (x : ByteArray) : Prop := 123 ∉ L x ∧ 124 ∉ L x
def Clean3 (a b c : ByteArray) (k : Nat) : Prop := (1 ≤ k → Clean a) ∧ (2 ≤ k → Clean b) ∧ (3 ≤ k → Clean c)
theorem clean_next {a b c x : ByteArray} {k : Nat} (hk : k < 3) (h : Clean3 a b c k) (hx : [a, b, c][k]? = some x) (hc : Clean x) : Clean3 a b c (k + 1) := by
  obtain ⟨h1, h2, h3⟩ := h
  match k, hk with
  | 0, _ =>
    injection hx with hx; subst hx
    exact ⟨fun _ => hc, fun _ => by omega, fun _ => by omega⟩
  | 1, _ =>
    injection hx with hx; subst hx
    exact ⟨fun _ => h1 (by omega), fun _ => hc, fun _ => by omega⟩
  | 2, _ =>
    injection hx with hx; subst hx
    exact ⟨fun _ => h1 (by omega), fun _ => h2 (by omega), fun _ => hc⟩
set_option maxHeartbeats 2500000 in
set_option maxRecDepth 100000 in
theorem spansOne_walk (ahead label text behind : ByteArray) (w : World) (hg : Glb w) (_ : ahead.size ≤ 140737488351232) (_ : label.size ≤ 140737488351232) (_ : text.size ≤ 140737488351232) (_ : behind.size ≤ 140737488351232) :
    Calls Tryd.prog 3 #[.string ahead, .string label, .string text, .string behind] w fun e w' => e = .returned (.bool true) ∧ Below w.heap.size w w' := by
  by_cases hin : ahead.size ≤ 60 ∧ text.size ≤ 60 ∧ behind.size ≤ 60
  · obtain ⟨i1, i2, i3⟩ := hin
    go_enter Tryd.func3, Tryd.ntmps3
    go_upto_region 3 with (go_at_call 9; refine (alive6_any _ hg).mono ?_; rintro e w1 ⟨rfl, b1⟩)
    have z1 := b1.size
    have hr : Reads (w1.alloc (.cells #[.string ahead, .string text, .string behind] 9)) (w1.heap.size + 1) 1 (some ⟨w1.heap.size, 0, none⟩) 3 (txCells [ahead, text, behind]) := reads_fresh w1 9 #[.string ahead, .string text, .string behind] 1 3 w1.heap.size rfl rfl
    have b2 : Below w.heap.size w (w1.alloc (.cells #[.string ahead, .string text, .string behind] 9)) := b1.alloc z1 _
    go_upto_region 4 with fail
    generalize w1.alloc (.cells #[.string ahead, .string text, .string behind] 9) = w2 at *
    have hg2 := hg.below b2
    clear b1
    go_loop [39] (fun s39 => ∃ k : Nat, k ≤ 3 ∧ s39 = .int .i64 k ∧ Clean3 ahead text behind k) (fun s => 3 - (intOf s).toNat)
    case atStart => exact ⟨0, by omega, rfl, by unfold Clean3; exact ⟨fun _ => by omega, fun _ => by omega, fun _ => by omega⟩⟩
    case round =>
      obtain ⟨k, hk, rfl, hcl⟩ := hrel
      have HCL := Lib.hid hcl
      clear hcl
      by_cases hlt : k < 3
      · obtain ⟨ad, u, he, _, hx0, hc⟩ := hr.at_ hlt
        injection he with he
        subst he
        obtain ⟨x, hx, rfl⟩ : ∃ x, [ahead, text, behind][k]? = some x ∧ Value.string x = u := by
          have : ([ahead, text, behind].map Value.string)[k]? = some u := hx0
          simpa only [List.getElem?_map, Option.map_eq_some_iff] using this
        have hxs : x.size ≤ 60 := by
          have := List.mem_of_getElem? hx
          simp only [List.mem_cons, List.not_mem_nil, or_false] at this
          rcases this with rfl | rfl | rfl <;> omega
        have HN : Hid (Clean x → Clean3 ahead text behind (k + 1)) := Lib.hid (clean_next hlt HCL.out hx)
        clear hx hx0
        rw [add0] at hc
        go_wp2_with fail
        go_loop [11] (fun s11 => ∃ j : Nat, j ≤ x.size ∧ s11 = .int .i64 j ∧ 123 ∉ (L x).take j ∧ 124 ∉ (L x).take j) (fun s => x.size - (intOf s).toNat)
        case atStart => exact ⟨0, Nat.zero_le _, rfl, by simp, by simp⟩
        case round =>
          obtain ⟨j, hj, rfl, hn1, hn2⟩ := hrel
          have HN1 := Lib.hid hn1
          have HN2 := Lib.hid hn2
          clear hn1 hn2
          by_cases hjl : j < x.size
          · by_cases hb1 : x[j]'hjl = 123
            · go_wp2_with fail
              go_ret
              exact ⟨rfl, b2⟩
            · have HT1 := Lib.hid (not_take x hjl hb1 HN1.out)
              have q1 : ((x[j].toNat : Int) == 123) = false := byte_ne (n := 123) (by decide) hb1
              clear hb1
              by_cases hb2 : x[j]'hjl = 124
              · go_wp2_with fail
                go_ret
                exact ⟨rfl, b2⟩
              · have HT2 := Lib.hid (not_take x hjl hb2 HN2.out)
                have q2 : ((x[j].toNat : Int) == 124) = false := byte_ne (n := 124) (by decide) hb2
                clear hb2
                obtain ⟨v3, q3⟩ : ∃ v, ((x[j].toNat : Int) == 125) = v := ⟨_, rfl⟩
                obtain ⟨v4, q4⟩ : ∃ v, ((x[j].toNat : Int) == 10) = v := ⟨_, rfl⟩
                cases v3
                · cases v4
                  · go_wp2_with fail
                    go_round
                    case rel => exact ⟨j + 1, by omega, by go_num, HT1.out, HT2.out⟩
                    case measure => simp [intOf]; omega
                  · go_wp2_with fail
                    go_ret
                    exact ⟨rfl, b2⟩
                · go_wp2_with fail
                  go_ret
                  exact ⟨rfl, b2⟩
          · have hjx : j = x.size := by omega
            subst hjx
            have HC3 := Lib.hid (HN.out ⟨not_all x HN1.out, not_all x HN2.out⟩)
            go_wp2_with fail
            go_round
            case rel => exact ⟨k + 1, by omega, by go_num, HC3.out⟩
            case measure => simp [intOf]; omega
      · have hk3 : k = 3 := by omega
        subst hk3
        by_cases hlb : 1 ≤ label.size ∧ label.size ≤ 40
        · obtain ⟨l1, l2⟩ := hlb
          go_wp2_with fail
          go_loop [12] (fun s12 => ∃ j : Nat, j ≤ label.size ∧ s12 = .int .i64 j ∧ lowT ((L label).take j) = true) (fun s => label.size - (intOf s).toNat)
          case atStart => exact ⟨0, Nat.zero_le _, rfl, rfl⟩
          case round =>
            obtain ⟨j, hj, rfl, hlo⟩ := hrel
            have HLO := Lib.hid hlo
            clear hlo
            by_cases hjl : j < label.size
            · by_cases q1 : ((label[j]'hjl).toNat : Int) < 97
              · go_wp2_with fail
                go_ret
                exact ⟨rfl, b2⟩
              · by_cases q2 : (122 : Int) < ((label[j]'hjl).toNat : Int)
                · have q1' : decide (((label[j]'hjl).toNat : Int) < 97) = false := decide_eq_false q1
                  clear q1
                  go_wp2_with fail
                  go_ret
                  exact ⟨rfl, b2⟩
                · have HT := Lib.hid (low_take label hjl q1 q2 HLO.out)
                  have q1' : decide (((label[j]'hjl).toNat : Int) < 97) = false := decide_eq_false q1
                  have q2' : decide ((122 : Int) < ((label[j]'hjl).toNat : Int)) = false := decide_eq_false q2
                  clear q1 q2
                  go_wp2_with fail
                  go_round
                  case rel => exact ⟨j + 1, by omega, by go_num, HT.out⟩
                  case measure => simp [intOf]; omega
            · have hjx : j = label.size := by omega
              subst hjx
              obtain ⟨s, hs⟩ : ∃ s, ahead ++ (⟨#[123, 124]⟩ : ByteArray) ++ label ++ (⟨#[58]⟩ : ByteArray) ++ text ++ (⟨#[124, 125]⟩ : ByteArray) ++ behind = s := ⟨_, rfl⟩
              have hss : s.size ≤ 1048576 := by
                rw [← hs]
                simp only [ByteArray.size_append]
                have : (⟨#[123, 124]⟩ : ByteArray).size = 2 := rfl
                have : (⟨#[58]⟩ : ByteArray).size = 1 := rfl
                have : (⟨#[124, 125]⟩ : ByteArray).size = 2 := rfl
                omega
              have hlaw := spans_one s (L ahead) (L label) (L text) (L behind) (by rw [← hs]; simp [L_append]; rfl) (HCL.out.1 (by omega)).1 (HCL.out.2.2 (by omega)).1 (low_all label HLO.out) (by simpa using l1) (by simpa using l2) (HCL.out.2.1 (by omega)).2
              have hsp := spans_any s w2 hg2 hss
              rw [hlaw] at hsp
              simp only [S_L] at hsp
              have HSP := Lib.hid hsp
              have z2 := b2.size
              clear hsp hlaw hss HLO
              go_wp2_with fail
              refine HSP.out.mono ?_
              rintro e w3 ⟨A, n, c, rfl, hown, b3⟩
              have b4 := b2.trans (b3.mono z2)
              clear HSP b3
              have hb1 : 0 < behind.size ∨ behind = ⟨#[]⟩ := by
                rcases Nat.eq_zero_or_pos behind.size with h | h
                · exact .inr (L_inj (List.eq_nil_of_length_eq_zero (by simpa using h)))
                · exact .inl h
              have ha1 : 0 < ahead.size ∨ ahead = ⟨#[]⟩ := by
                rcases Nat.eq_zero_or_pos ahead.size with h | h
                · exact .inr (L_inj (List.eq_nil_of_length_eq_zero (by simpa using h)))
                · exact .inl h
              rcases ha1 with ha1 | ha1
              · rcases hb1 with hb1 | hb1
                · rw [if_pos (by rw [length_L]; exact ha1), if_pos (by rw [length_L]; exact hb1)] at hown
                  have hn : n = 3 := by have := hown.len; rw [pieces_length] at this; simp at this; omega
                  subst hn
                  obtain ⟨g, rfl, _, _⟩ := hown.some_ (by omega)
                  have c2 : w3.cell? ⟨g, 2, none⟩ = some (.string ahead) := hown.cell (j := 2) rfl
                  obtain ⟨e1, e2, e3⟩ := bytes_some (a := ahead) (by omega)
                  have c3 : w3.cell? ⟨g, 3, none⟩ = some (.bool true) := hown.cell (j := 3) rfl
                  have c4 : w3.cell? ⟨g, 4, none⟩ = some (.string label) := hown.cell (j := 4) rfl
                  have c5 : w3.cell? ⟨g, 5, none⟩ = some (.string text) := hown.cell (j := 5) rfl
                  have c8 : w3.cell? ⟨g, 8, none⟩ = some (.string behind) := hown.cell (j := 8) rfl
                  obtain ⟨f1, f2, f3⟩ := bytes_some (a := behind) (by omega)
                  clear hown ha1 hb1 hs
                  go_wp2_with fail
                  go_ret
                  exact ⟨rfl, b4⟩
                · subst hb1
                  rw [if_pos (by rw [length_L]; exact ha1), if_neg (by simp)] at hown
                  have hn : n = 2 := by have := hown.len; rw [pieces_length] at this; simp at this; omega
                  subst hn
                  obtain ⟨g, rfl, _, _⟩ := hown.some_ (by omega)
                  have c2 : w3.cell? ⟨g, 2, none⟩ = some (.string ahead) := hown.cell (j := 2) rfl
                  obtain ⟨e1, e2, e3⟩ := bytes_some (a := ahead) (by omega)
                  have c3 : w3.cell? ⟨g, 3, none⟩ = some (.bool true) := hown.cell (j := 3) rfl
                  have c4 : w3.cell? ⟨g, 4, none⟩ = some (.string label) := hown.cell (j := 4) rfl
                  have c5 : w3.cell? ⟨g, 5, none⟩ = some (.string text) := hown.cell (j := 5) rfl
                  clear hown ha1 hs
                  go_wp2_with fail
                  go_ret
                  exact ⟨rfl, b4⟩
              · rcases hb1 with hb1 | hb1
                · subst ha1
                  rw [if_neg (by simp), if_pos (by rw [length_L]; exact hb1)] at hown
                  have hn : n = 2 := by have := hown.len; rw [pieces_length] at this; simp at this; omega
                  subst hn
                  obtain ⟨g, rfl, _, _⟩ := hown.some_ (by omega)
                  have c3 : w3.cell? ⟨g, 0, none⟩ = some (.bool true) := hown.cell (j := 0) rfl
                  have c4 : w3.cell? ⟨g, 1, none⟩ = some (.string label) := hown.cell (j := 1) rfl
                  have c5 : w3.cell? ⟨g, 2, none⟩ = some (.string text) := hown.cell (j := 2) rfl
                  have c8 : w3.cell? ⟨g, 5, none⟩ = some (.string behind) := hown.cell (j := 5) rfl
                  obtain ⟨f1, f2, f3⟩ := bytes_some (a := behind) (by omega)
                  clear hown hb1 hs
                  go_wp2_with fail
                  go_ret
                  exact ⟨rfl, b4⟩
                · subst ha1
                  subst hb1
                  rw [if_neg (by simp)] at hown
                  have hn : n = 1 := by have := hown.len; rw [pieces_length] at this; simp at this; omega
                  subst hn
                  obtain ⟨g, rfl, _, _⟩ := hown.some_ (by omega)
                  have c3 : w3.cell? ⟨g, 0, none⟩ = some (.bool true) := hown.cell (j := 0) rfl
                  have c4 : w3.cell? ⟨g, 1, none⟩ = some (.string label) := hown.cell (j := 1) rfl
                  have c5 : w3.cell? ⟨g, 2, none⟩ = some (.string text) := hown.cell (j := 2) rfl
                  clear hown hs
                  go_wp2_with fail
                  go_ret
                  exact ⟨rfl, b4⟩
        · have hc2 : label.size < 1 ∨ 40 < label.size := by omega
          clear hlb
          rcases hc2 with h | h
          · have q1 : decide ((label.size : Int) < 1) = true := decide_eq_true (by omega)
            clear h
            go_wp2_with fail
            go_ret
            exact ⟨rfl, b2⟩
          · have q1 : decide ((label.size : Int) < 1) = false := decide_eq_false (by omega)
            have q2 : decide ((40 : Int) < (label.size : Int)) = true := decide_eq_true (by omega)
            clear h
            go_wp2_with fail
            go_ret
            exact ⟨rfl, b2⟩
  · have hcs : 60 < ahead.size ∨ (¬ 60 < ahead.size ∧ 60 < text.size) ∨ (¬ 60 < ahead.size ∧ ¬ 60 < text.size ∧ 60 < behind.size) := by omega
    clear hin
    rcases hcs with h | ⟨h1, h⟩ | ⟨h1, h2, h⟩
    all_goals
      go_enter Tryd.func3, Tryd.ntmps3
      go_wp2_with (go_at_call 9; refine (alive6_any _ hg).mono ?_; rintro e w1 ⟨rfl, b1⟩)
    all_goals
      go_ret
      exact ⟨rfl, b1⟩
end Go.Proofs.YtblmekpamdglkaaDoor
