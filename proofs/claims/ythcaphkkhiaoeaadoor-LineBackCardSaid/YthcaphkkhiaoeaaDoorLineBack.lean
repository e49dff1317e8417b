/-
  bowdlerlaw2.LineBack: its walk: it answers true, and turns nothing that was there.
-/
import Derived.Test.YthcaphkkhiaoeaaDoorLineCounts
import Derived.Test.YthcaphkkhiaoeaaDoorOpenTexts
namespace Go.Proofs.YthcaphkkhiaoeaaDoor
open Go.RowKit

theorem map_L_S (xs : List (List UInt8)) : (xs.map S).map L = xs := by
  rw [List.map_map]
  conv => rhs; rw [← List.map_id xs]
  congr 1
theorem linesB_join {l : List ByteArray} (h : ∀ x ∈ l, 10 ∉ L x) : linesB (S (joinT (l.map L))) = l := by
  unfold linesB
  rw [L_S, lines_join (fun x hx => by obtain ⟨y, hy, rfl⟩ := List.mem_map.1 hx; exact h y hy), map_S_L]
theorem take_no (x : ByteArray) {j : Nat} (h : j < x.size) (hn : ¬ x[j]'h = 10) (ih : 10 ∉ (L x).take j) : 10 ∉ (L x).take (j + 1) := by
  have hl : j < (L x).length := by simpa using h
  rw [List.take_add_one, List.getElem?_eq_getElem hl, Option.toList_some, List.mem_append, List.mem_singleton]
  rintro (e | e)
  · exact ih e
  · rw [get_L] at hn; exact hn e.symm
theorem joinT_le60 (l : List ByteArray) (h : ∀ x ∈ l, x.size ≤ 60) : (joinT (l.map L)).length ≤ 61 * l.length := by
  induction l with
  | nil => simp [joinT]
  | cons x l ih =>
    have h1 := ih fun y hy => h y (by simp [hy])
    have h2 := h x (by simp)
    have e : (joinT ((x :: l).map L)).length = x.size + 1 + (joinT (l.map L)).length := by simp [joinT, Nat.add_assoc]; omega
    rw [e, List.length_cons]; omega

set_option maxHeartbeats 2000000 in
set_option maxRecDepth 100000 in
theorem lineBack_walk (A : Option Addr) (n cap : Nat) (l : List ByteArray) (s : ByteArray) (w : World) (hg : Glb w) (hl : IsTexts w A n cap l) (_ : s.size ≤ 140737488351232) :
    Calls Tryd.prog 3 #[.slice A n cap, .string s] w fun e w' => e = .returned (.bool true) ∧ Below w.heap.size w w' := by
  obtain ⟨hr, hnc, hcm, hxs⟩ := hl
  unfold maxLen at hcm
  have hlen : l.length = n := by have := hr.1; simpa using this
  by_cases hin : n ≤ 40 ∧ s.size ≤ 300
  · obtain ⟨h40, h300⟩ := hin
    have HLEN := Lib.hid hlen
    clear hlen
    go_enter Tryd.func3, Tryd.ntmps3
    go_wp2_with fail
    refine (alive_any _ hg).mono ?_
    rintro e w1 ⟨rfl, b1⟩
    have z1 := b1.size
    have hg1 := hg.below b1
    have hr1 := hr.below b1
    clear hr
    go_wp2_with fail
    go_loop [24] (fun s24 => ∃ k : Nat, k ≤ n ∧ s24 = .int .i64 k ∧ ∀ x ∈ l.take k, x.size ≤ 60 ∧ 10 ∉ L x) (fun s24 => n - (intOf s24).toNat)
    case atStart => exact ⟨0, Nat.zero_le _, rfl, by simp⟩
    case round =>
      obtain ⟨k, hk, rfl, hall⟩ := hrel
      have HALL := Lib.hid hall
      clear hall
      by_cases hlt : k < n
      · obtain ⟨ad, u, rfl, _, hx0, hc⟩ := hr1.at_ hlt
        obtain ⟨x, hx, rfl⟩ : ∃ x, l[k]? = some x ∧ Value.string x = u := by simpa using hx0
        have hxm := hxs x (List.mem_of_getElem? hx)
        unfold maxLen at hxm
        have HX := Lib.hid hx
        clear hx hx0
        by_cases h60 : x.size ≤ 60
        · go_wp2_with fail
          go_loop [7] (fun s7 => ∃ j : Nat, j ≤ x.size ∧ s7 = .int .i64 j ∧ 10 ∉ (L x).take j) (fun s7 => x.size - (intOf s7).toNat)
          case atStart => exact ⟨0, Nat.zero_le _, rfl, by simp⟩
          case round =>
            obtain ⟨j, hj, rfl, hno⟩ := hrel
            have HNO := Lib.hid hno
            clear hno
            by_cases hjl : j < x.size
            · by_cases hb : x[j]'hjl = 10
              · go_wp2_with fail
                go_ret
                exact ⟨rfl, b1⟩
              · have HT := Lib.hid (take_no x hjl hb HNO.out)
                have q := byte_ne (n := 10) (by decide) hb
                clear hb
                go_wp2_with fail
                go_round
                case rel => exact ⟨j + 1, by omega, by go_num, HT.out⟩
                case measure => simp [intOf]; omega
            · go_wp2_with fail
              go_round
              case rel =>
                refine ⟨k + 1, by omega, by go_num, ?_⟩
                intro y hy
                rw [List.take_add_one, HX.out, Option.toList_some, List.mem_append, List.mem_singleton] at hy
                rcases hy with hy | rfl
                · exact HALL.out y hy
                · refine ⟨h60, ?_⟩
                  have := HNO.out
                  rwa [List.take_of_length_le (by simp; omega)] at this
              case measure => simp [intOf]; omega
        · go_wp2_with fail
          go_ret
          exact ⟨rfl, b1⟩
      · have hkn : k = n := by omega
        subst hkn
        have hall := HALL.out
        rw [List.take_of_length_le (by rw [HLEN.out]; omega)] at hall
        have HLB := Lib.hid (linesB_join fun x hx => (hall x hx).2)
        have hjl := joinT_le60 l fun x hx => (hall x hx).1
        rw [HLEN.out] at hjl
        have hJs := join_lines (L s)
        have hJl : (joinT ((linesB s).map L)).length ≤ s.size + 1 := by
          unfold linesB
          rw [map_L_S]
          rcases hJs with h | h <;> rw [h] <;> simp
        have hJc : S (joinT ((linesB s).map L)) = s ∨ (S (joinT ((linesB s).map L)) = s ++ ⟨#[10]⟩ ∧ ¬ (s ++ ⟨#[10]⟩ = s)) := by
          unfold linesB
          rw [map_L_S]
          rcases hJs with h | h
          · left; rw [h, S_L]
          · right
            refine ⟨by rw [h]; apply L_inj; rw [L_S, L_append]; rfl, fun e => ?_⟩
            have := congrArg ByteArray.size e
            rw [ByteArray.size_append, size_lit] at this
            simp at this
        have HJC := Lib.hid hJc
        clear hall HALL hJs hJc hxs
        go_wp2_with fail
        refine (split_any _ _ hg1 (by omega)).mono ?_
        rintro e w2 ⟨A1, n1, c1, rfl, hown, b2⟩
        have bb2 := b1.trans (b2.mono z1)
        have z2 := bb2.size
        have hr2 := hr1.below (b2.mono z1)
        have hg2 := hg1.below b2
        clear hr1 hg1 b1 b2
        go_wp2_with fail
        refine (join_any A1 n1 c1 w2.heap.size (linesB s) _ hown.reads (Nat.le_refl _) (by omega)).mono ?_
        rintro e w3 ⟨rfl, b3⟩
        have bb3 := bb2.trans (b3.mono z2)
        have z3 := bb3.size
        have hr3 := hr2.below (b3.mono z2)
        have hg3 := hg2.below b3
        clear hown hr2 hg2 bb2 b3
        obtain ⟨J, hJ⟩ : ∃ J, S (joinT ((linesB s).map L)) = J := ⟨_, rfl⟩
        have hJc := HJC.out
        rw [hJ] at hJc ⊢
        clear hJ HJC
        have HJC := Lib.hid hJc
        clear hJc
        go_wp2_with fail
        refine (join_any A k cap w.heap.size l _ hr3 z3 (by omega)).mono ?_
        rintro e w4 ⟨rfl, b4⟩
        have bb4 := bb3.trans (b4.mono z3)
        have z4 := bb4.size
        have hr4 := hr3.below (b4.mono z3)
        have hg4 := hg3.below b4
        clear hr3 hg3 bb3 b4
        obtain ⟨Q, hQ⟩ : ∃ Q, S (joinT (l.map L)) = Q := ⟨_, rfl⟩
        have hQs : Q.size ≤ 2440 := by rw [← hQ, size_S]; omega
        have hLB := HLB.out
        rw [hQ] at hLB ⊢
        clear hQ HLB
        have HLB := Lib.hid hLB
        clear hLB
        go_wp2_with fail
        refine (split_any Q _ hg4 (by omega)).mono ?_
        rintro e w5 ⟨A2, n2, c2, rfl, hown, b5⟩
        have bb5 := bb4.trans (b5.mono z4)
        have hr5 := hr4.below (b5.mono z4)
        have hn2 : n2 = k := by have := hown.len; rw [HLB.out] at this; have h2 := HLEN.out; simp [txCells] at this; omega
        rw [HLB.out] at hown
        have hR := hown.reads
        clear hown hr4 hg4 bb4 b5
        subst hn2
        go_wp2_with fail
        refine (sameTexts_any A2 A n2 n2 c2 cap w5.heap.size l l _ hR (hr5.more bb5.size) (by omega) (by omega)).mono ?_
        rintro e w6 ⟨rfl, m6, hw6⟩
        rw [decide_eq_true rfl]
        have bb6 : Below w.heap.size w w6 := by rw [hw6]; exact below_drewN' bb5 m6
        clear hR hr5 hw6 bb5
        rcases HJC.out with rfl | ⟨rfl, hne⟩
        case' inr => obtain ⟨t1, t2, t3⟩ := bytes_ne hne
        case' inr => clear hne
        all_goals clear HJC
        all_goals go_wp2_with fail
        all_goals go_ret
        all_goals exact ⟨rfl, bb6⟩
  · rcases (by omega : 40 < n ∨ (n ≤ 40 ∧ 300 < s.size)) with h | ⟨h1, h2⟩
    all_goals
      clear hin
      go_enter Tryd.func3, Tryd.ntmps3
      go_wp2_with fail
      refine (alive_any _ hg).mono ?_
      rintro e w1 ⟨rfl, b1⟩
      go_wp2_with fail
      go_ret
      exact ⟨rfl, b1⟩
end Go.Proofs.YthcaphkkhiaoeaaDoor
