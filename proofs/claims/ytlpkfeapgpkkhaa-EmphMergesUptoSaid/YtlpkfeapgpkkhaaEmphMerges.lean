/-
  bowdlerlaw14.EmphMerges: its walk (of small bulk): it answers true, and turns nothing that was there.
-/
import Derived.Test.YtlpkfeapgpkkhaaEmphNests
namespace Go.Proofs.Ytlpkfeapgpkkhaa
open Go.RowKit

set_option maxHeartbeats 8000000 in
set_option maxRecDepth 100000 in
theorem emphMerges_walk (A : Option Addr) (n c : Nat) (l : List Inl) (w : World) (hw : Reads w w.heap.size 5 A n (inlCells l) ∧ (∀ x ∈ l, inlWf x) ∧ txtLen l + l.length ≤ 1048576) :
    Calls Try.prog 7 #[.slice A n c] w fun e w' => e = .returned (.bool true) ∧ Below w.heap.size w w' := by
  obtain ⟨hr, _, hsm⟩ := hw
  have hlen : l.length = n := by have := hr.1; rw [inls_length] at this; omega
  have HL := Lib.hid hlen
  by_cases hbig : 60 < n
  · clear hlen hsm
    go_enter Try.func7, Try.ntmps7
    go_wp2_with fail
    refine (alive_any _).mono ?_
    rintro e w1 ⟨rfl, b1⟩
    go_wp2_with fail
    go_ret
    exact ⟨rfl, b1⟩
  · have htx : txtLen l ≤ 1048576 := by omega
    clear hlen hsm
    go_enter Try.func7, Try.ntmps7
    go_wp2_with fail
    refine (alive_any _).mono ?_
    rintro e w1 ⟨rfl, b1⟩
    have z1 := b1.size
    go_wp2_with fail
    refine (merge_any A n c l _ ((hr.below b1).more z1) (by omega) (by omega)).mono ?_
    rintro e w2 ⟨A2, c2, rfl, hown, b2⟩
    have bb2 := b1.trans (b2.mono z1)
    have z2 := bb2.size
    have hml : (mergeT l).length ≤ 60 := Nat.le_trans (mergeT_len l) (by rw [HL.out]; omega)
    have hmt := mergeT_txt l
    have HM := Lib.hid (Merged.of l)
    have HMM := Lib.hid (mergeT_mergeT l)
    have HT := Lib.hid (textT_merge l)
    have htl : (textT l).length ≤ 2097152 := by have := textT_len l; have := HL.out; omega
    generalize mergeT l = m at *
    clear b2 b1 z1
    go_wp2_with fail
    go_loopw [17] (fun i wr => ∃ k : Nat, k ≤ m.length ∧ i = .int .i64 k ∧ ∃ q, wr = w2.drewN q) (fun i _ => m.length - (intOf i).toNat)
    case atStart => exact ⟨0, Nat.zero_le _, rfl, 0, rfl⟩
    case round =>
      obtain ⟨k, hk, rfl, q, rfl⟩ := hrel
      by_cases hlt : k < m.length
      · obtain ⟨x, hx⟩ : ∃ x, m[k]? = some x := ⟨_, List.getElem?_eq_getElem hlt⟩
        obtain ⟨g, rfl, _, _⟩ := hown.some_ (by omega)
        obtain ⟨g0, g1, g2, _, _⟩ := hown.inl hx
        have hm1 := (HM.out.1 x (List.mem_of_getElem? hx)).1
        by_cases h1 : x.kind = 1
        · have hte : ¬ x.text = ⟨#[]⟩ := fun e => hm1 ⟨h1, by rw [e]; rfl⟩
          obtain ⟨t1, t2, t3⟩ := bytes_ne hte
          have t4 : ¬ x.text.toList = [] := fun e => hte (by rw [ByteArray.toList_eq] at e; exact L_inj e)
          have t5 : x.text.toList.isEmpty = false := by simpa using t4
          have q1 : (x.kind == 1) = true := beq_iff_eq.2 h1
          rcases Nat.eq_zero_or_pos k with h0 | h0
          · subst h0
            rw [Nat.zero_mul] at g0 g1 g2
            rw [Nat.zero_add] at g1 g2
            have s13 : 0 < m.length := by omega
            clear hx hm1 h1 hte
            go_wp2_with fail
            go_quiet (fail)
            go_wp2_with fail
            go_roundw
            case rel => exact ⟨1, by omega, by go_num, _, rfl⟩
            case measure => simp [intOf]; omega
          · obtain ⟨p, rfl⟩ : ∃ p, k = p + 1 := ⟨k - 1, by omega⟩
            obtain ⟨y, hy⟩ : ∃ x, m[p]? = some x := ⟨_, List.getElem?_eq_getElem (by omega)⟩
            obtain ⟨f0, f1, _, _, _⟩ := hown.inl hy
            have hne := HM.out.2 p y x hy hx
            have hcs : (y.kind == 1) = false ∨ ((y.kind == 1) = true ∧ (y.depth == x.depth) = false) := by
              by_cases h2 : y.kind = 1
              · exact .inr ⟨beq_iff_eq.2 h2, beq_eq_false_iff_ne.2 fun h3 => hne ⟨h1, h2, h3⟩⟩
              · exact .inl (beq_eq_false_iff_ne.2 h2)
            have s0 : (((p + 1 : Nat) : Int) - 1) = p := by omega
            have s1 : IntKind.i64.wrap ((p : Int) + 1 - 1) = p := IntWalk.i64_in _ (by omega) |>.trans (by omega)
            have s2 : IntKind.i64.wrap (p : Int) = p := IntWalk.i64_in _ (by omega)
            have s3 : decide (0 ≤ (p : Int)) = true := decide_eq_true (by omega)
            have s6 : 0 ≤ (p : Int) := by omega
            have s9 : (p : Int).toNat = p := by omega
            have s10 : p < m.length := by omega
            have s11 : (0 : Int) < (p : Int) + 1 := by omega
            have s12 : decide ((0 : Int) < (p : Int) + 1) = true := decide_eq_true (by omega)
            have s14 : (0 : Int) ≤ (p : Int) + 1 := by omega
            have s15 : ((p : Int) + 1).toNat = p + 1 := by omega
            have s16 : p + 1 < m.length := by omega
            clear hx hm1 h1 hte hne hy s0
            rcases hcs with c1 | ⟨c1, c3⟩
            all_goals
              go_wp2_with fail
              go_quiet (fail)
              clear s1 s2 s3 s6 s9 s10 s11 s12 s14 s15
              go_wp2_with fail
              go_roundw
              case rel => exact ⟨p + 1 + 1, by omega, by go_num, _, rfl⟩
              case measure => simp [intOf]; omega
        · have q1 : (x.kind == 1) = false := beq_eq_false_iff_ne.2 h1
          clear hx hm1 h1
          go_wp2_with fail
          go_quiet (fail)
          go_wp2_with fail
          go_roundw
          case rel => exact ⟨k + 1, by omega, by go_num, _, rfl⟩
          case measure => simp [intOf]; omega
      · have hkl : k = m.length := by omega
        subst hkl
        have hown' := hown.drewN q
        go_wp2_with fail
        refine (merge_any A2 m.length c2 m _ hown'.reads (by omega) (by omega)).mono ?_
        rintro e w3 ⟨A3, c3, rfl, hown3, b3⟩
        rw [HMM.out] at hown3 ⊢
        have r2 := (hown'.below b3 (Nat.le_refl _)).reads
        have bb3 := bb2.trans (below_of_drewN (b3.mono z2))
        have z3 := bb3.size
        clear b3 hown hown'
        go_wp2_with fail
        refine (sameInls_any A3 A2 m.length m.length c3 c2 w3.heap.size m m _ hown3.reads r2 (by omega) (by omega)).mono ?_
        rintro e w4 ⟨rfl, q4, rfl⟩
        rw [decide_eq_true rfl]
        go_wp2_with fail
        refine (text_any A2 m.length c2 m _ (r2.drewN q4) (by omega) (by rw [HT.out]; omega)).mono ?_
        rintro e w5 ⟨rfl, b5⟩
        have bb5 := bb3.trans ((below_of_drewN b5).mono z3)
        have z5 := bb5.size
        clear b5 r2 hown3
        rw [HT.out]
        go_wp2_with fail
        refine (text_any A n c l _ ((hr.below bb5).more z5) (by omega) (by omega)).mono ?_
        rintro e w6 ⟨rfl, b6⟩
        have bb6 := bb5.trans (b6.mono z5)
        clear b6
        generalize S (textT l) = xs at *
        go_wp2_with fail
        go_ret
        exact ⟨rfl, bb6⟩
end Go.Proofs.Ytlpkfeapgpkkhaa
