/-
  bowdlerlaw9.BlockRight: its walk: it answers true, and turns nothing that was there.
-/
import Derived.Test.YtommebalgghdjaaDoorBlockStart
import Derived.Test.YtommebalgghdjaaDoorBlockRightLaw
namespace Go.Proofs.YtommebalgghdjaaDoor
open Go.RowKit

set_option maxHeartbeats 2000000 in
set_option maxRecDepth 100000 in
theorem blockRight_walk (A : Option Addr) (n cap : Nat) (l : List ByteArray) (w : World) (_ : Glb w) (hl : IsTexts w A n cap l) :
    Calls Tryd.prog 3 #[.slice A n cap] w fun e w' => e = .returned (.bool true) ∧ Below w.heap.size w w' := by
  obtain ⟨hr, hnc, hcm, hz⟩ := hl
  have hmax : maxLen = 9223372036854775807 := rfl
  have HPL := Lib.hid (plain_any A n cap w.heap.size l w hr (by omega) (fun x hx => by have := hz x hx; omega))
  cases hpt : plainT l
  · rw [hpt] at HPL
    go_enter Tryd.func3, Tryd.ntmps3
    go_wp2_with (first | (go_at_call 15; refine HPL.out.mono ?_; rintro e w0 ⟨rfl, hw0⟩; subst w0) | (go_at_call 16; refine (aliveB_any _).mono ?_; rintro e w1 ⟨rfl, b1⟩))
    go_ret
    exact ⟨rfl, b1⟩
  · rw [hpt] at HPL
    obtain ⟨h40, hsz⟩ := plain_facts hpt
    have hln : l.length = n := by have := hr.1; simpa using this
    have hbl := parse_len (l.map L)
    rw [List.length_map] at hbl
    have HLAW := Lib.hid (right_law (l.map L))
    go_enter Tryd.func3, Tryd.ntmps3
    go_upto_region 3 with (first | (go_at_call 15; refine HPL.out.mono ?_; rintro e w0 ⟨rfl, hw0⟩; subst w0) | (go_at_call 16; refine (aliveB_any _).mono ?_; rintro e w1 ⟨rfl, b1⟩))
    have z1 := b1.size
    have HP := Lib.hid (parse_any w.heap.size l A n cap w1 (hr.below b1) z1 (lnOk_of fun x hx => by have := hsz x hx; omega) (by omega) hnc)
    have hbl2 : (parseT (l.map L)).length ≤ 1120 := by omega
    clear hbl hln
    generalize parseT (l.map L) = bs at *
    go_upto_region 4 with (go_at_call 17; refine HP.out.mono ?_; rintro e w2 ⟨Ao, m, co, rfl, hm, hO, b2⟩)
    have bb2 := b1.trans (b2.mono z1)
    have hz2 := bb2.size
    have HM := Lib.hid hm
    have HRT := Lib.hid (right_any Ao m co w2.heap.size bs w2 hO.reads (by omega) (Nat.le_refl _))
    rw [HLAW.out.1] at HRT
    have hm2 : m ≤ 1120 := by omega
    clear hm HP hbl2 b2 b1 HPL
    go_wp2_with fail
    go_loop [17] (fun s => ∃ k : Nat, k ≤ m ∧ s = .int .i64 k) (fun s => m - (intOf s).toNat)
    case atStart => exact ⟨0, Nat.zero_le _, rfl⟩
    case round =>
      obtain ⟨k, hk, rfl⟩ := hrel
      by_cases hlt : k < m
      · obtain ⟨x, hx⟩ : ∃ x, bs[k]? = some x := ⟨_, List.getElem?_eq_getElem (by rw [HM.out]; exact hlt)⟩
        obtain ⟨f1, f2, f3⟩ := HLAW.out.2 x (List.mem_of_getElem? hx)
        obtain ⟨ad, rfl, _, c0, c1, _, _, c4, _⟩ := hO.reads.blk hx hlt
        clear hx hO
        obtain ⟨xk, xd, xn, xt, xs, xi⟩ := x
        simp only at f1 f2 f3 c0 c1 c4
        have q1 : decide ((13 : Int) < xd) = false := decide_eq_false (by omega)
        have q2 : (xk == 9) = false := by simpa using f2
        by_cases h1 : xk = 1
        · have hs : ¬ (S xs).size = 0 := by
            rw [size_S]
            exact fun h => f3 h1 (List.eq_nil_of_length_eq_zero h)
          obtain ⟨t1, t2, t3⟩ := bytes_some hs
          clear f3 hs
          generalize S xs = X at *
          subst h1
          go_wp2_with fail
          go_round
          case rel => exact ⟨k + 1, by omega, by go_num⟩
          case measure => simp [intOf]; omega
        · have q3 : (xk == 1) = false := by simpa using h1
          clear f3
          generalize S xs = X at *
          go_wp2_with fail
          go_round
          case rel => exact ⟨k + 1, by omega, by go_num⟩
          case measure => simp [intOf]; omega
      · go_wp2_with (go_at_call 18; refine HRT.out.mono ?_; rintro e w3 ⟨rfl, b3⟩)
        go_ret
        exact ⟨rfl, bb2.trans (b3.mono hz2)⟩
end Go.Proofs.YtommebalgghdjaaDoor
