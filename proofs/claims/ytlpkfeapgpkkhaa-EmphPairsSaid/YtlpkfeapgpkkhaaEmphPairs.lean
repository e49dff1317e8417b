/-
  bowdlerlaw14.EmphPairs: its walk: it answers true, and turns nothing that was there.
-/
import Derived.Test.YtlpkfeapgpkkhaaEmphNests
import Derived.Test.YtlpkfeapgpkkhaaEmphThrees
import Derived.Test.YtlpkfeapgpkkhaaPairsLaw
namespace Go.Proofs.Ytlpkfeapgpkkhaa
open Go.RowKit

set_option maxHeartbeats 8000000 in
set_option maxRecDepth 100000 in
theorem emphPairs_walk (n m : Int) (under : Bool) (wd : ByteArray) (w : World) (_ : (Lit.int .i64 n).wf = true) (_ : (Lit.int .i64 m).wf = true) (hwd : wd.size ≤ maxLen) :
    Calls Try.prog 5 #[.int .i64 n, .int .i64 m, .bool under, .string wd] w fun e w' => e = .returned (.bool true) ∧ Below w.heap.size w w' := by
  unfold maxLen at hwd
  by_cases hin : 1 ≤ n ∧ n ≤ 12 ∧ 1 ≤ m ∧ m ≤ 12 ∧ ¬ wd = ⟨#[]⟩ ∧ wd.size ≤ 20
  · obtain ⟨h1, h2, h3, h4, h5, h6⟩ := hin
    obtain ⟨n, rfl⟩ := Int.eq_ofNat_of_zero_le (a := n) (by omega)
    obtain ⟨m, rfl⟩ := Int.eq_ofNat_of_zero_le (a := m) (by omega)
    have q1 : decide ((n : Int) < 1) = false := decide_eq_false (by omega)
    have q2 : decide (12 < (n : Int)) = false := decide_eq_false (by omega)
    have q3 : decide ((m : Int) < 1) = false := decide_eq_false (by omega)
    have q4 : decide (12 < (m : Int)) = false := decide_eq_false (by omega)
    have q5 : decide (20 < (wd.size : Int)) = false := decide_eq_false (by omega)
    have hw0 : ¬ wd.size = 0 := fun e => h5 (L_inj (List.eq_nil_of_length_eq_zero (by simpa using e)))
    obtain ⟨t1, t2, t3⟩ := bytes_ne h5
    have t4 : ¬ wd.toList = [] := fun e => h5 (by rw [ByteArray.toList_eq] at e; exact L_inj e)
    have t5 : wd.toList.isEmpty = false := by simpa using t4
    have hws : 0 < wd.size := by omega
    have HG := Lib.hid (fun c hc => pairs_g wd hw0 c hc n m (by omega))
    have HC := Lib.hid (fun c => pairs_count wd c n m (by omega))
    clear h5 hw0
    obtain ⟨c, hc⟩ : ∃ c : UInt8, c = if under then 95 else 42 := ⟨_, rfl⟩
    have hc2 : c = 42 ∨ c = 95 := by cases under <;> simp_all
    have HCC := Lib.hid hc
    have HC2 := Lib.hid hc2
    clear hc hc2
    go_enter Try.func5, Try.ntmps5
    go_wp2_with fail
    refine (alive_any _).mono ?_
    rintro e w1 ⟨rfl, b1⟩
    have z1 := b1.size
    go_upto_if 44 with fail
    go_cut [9] (fun s9 wx => s9 = .int .u8 (c.toNat : Int) ∧ wx = w1)
    case first =>
      have e1 := HCC.out
      cases under
      all_goals
        simp only [if_true, if_false, Bool.false_eq_true] at e1
        subst e1
        go_wp2_with fail
        go_meet
        exact ⟨rfl, rfl⟩
    case rest =>
      obtain ⟨rfl, rfl⟩ := hcut
      go_wp2_with fail
      refine (group3_any (wc.heap.size + 1) wc.heap.size c c n m true false false true 1 (wordL wd) _ (by omega) (by omega) (by omega) (by simp [wordL, txtLen]; omega) (Blk.new' _ _ _ _ (by simp)) ?_).mono ?_
      · exact ((reads_new wc _ _ 5 1 _ rfl rfl).alloc (by simp) _).more (by simp)
      rintro e w2 ⟨A1, c1, rfl, hown, b2⟩
      have bb2 : Below w.heap.size w w2 := ((b1.alloc z1 _).alloc (by simp; omega) _).trans (b2.mono (by simp; omega))
      have hge : groupT [rowPc c n true false, nodePc none 0 0 (wordL wd), rowPc c m false true] = pairsR c n m wd := HG.out c HC2.out
      rw [hge] at hown ⊢
      have hgl := group_len (small3 (p := rowPc c n true false) (q := nodePc none 0 0 (wordL wd)) (r := rowPc c m false true) ⟨small_row _ _ _ _ (by omega) (by omega), rfl⟩ ⟨small_node _ _ _ (by simp [wordL]) (by simp [wordL, txtLen]; omega), rfl⟩ ⟨small_row _ _ _ _ (by omega) (by omega), rfl⟩).2
      rw [hge] at hgl
      obtain ⟨hgl1, hgl2⟩ := hgl
      have HCO := Lib.hid (HC.out c)
      generalize pairsR c n m wd = l at *
      clear hge b2 b1 z1 HG HC
      have HO := Lib.hid hown.reads
      clear hown
      go_wp2_with fail
      go_loop [12, 13, 14, 62] (fun s12 s13 s14 i => ∃ k : Nat, k ≤ l.length ∧ i = .int .i64 k ∧ s12 = .int .i64 ((pf wd (l.take k)).1 : Int) ∧ s13 = .int .i64 ((pf wd (l.take k)).2.1 : Int) ∧ s14 = .int .i64 ((pf wd (l.take k)).2.2 : Int)) (fun _ _ _ i => l.length - (intOf i).toNat)
      case atStart => exact ⟨0, Nat.zero_le _, rfl, rfl, rfl, rfl⟩
      case round =>
        obtain ⟨k, hk, rfl, rfl, rfl, rfl⟩ := hrel
        by_cases hlt : k < l.length
        · obtain ⟨x, hx⟩ : ∃ x, l[k]? = some x := ⟨_, List.getElem?_eq_getElem hlt⟩
          obtain ⟨ad, rfl, _, _, g0, g1, g2, _, _⟩ := HO.out.inl hx
          have hpb := pf_bound wd (l.take k)
          have hpb2 := pf_bound wd (l.take (k + 1))
          have hpt := pf_take wd l hx
          have hlk := List.length_take_le k l
          have hlk2 := List.length_take_le (k + 1) l
          have htk := txtLen_take l k
          have htk2 := txtLen_take l (k + 1)
          rw [hpt] at hpb2
          have HP := Lib.hid hpt
          clear hpt hx
          obtain ⟨s, hs⟩ : ∃ s, (pf wd (l.take k)).1 = s := ⟨_, rfl⟩
          obtain ⟨e, he⟩ : ∃ e, (pf wd (l.take k)).2.1 = e := ⟨_, rfl⟩
          obtain ⟨f, hf⟩ : ∃ f, (pf wd (l.take k)).2.2 = f := ⟨_, rfl⟩
          have hpe : pf wd (l.take k) = (s, e, f) := by rw [← hs, ← he, ← hf]
          have HP2 := Lib.hid hpe
          rw [hs, he, hf]
          rw [hpe] at hpb hpb2
          simp only at hpb
          clear hpe hs he hf
          by_cases k4 : x.kind = 4
          · have hv : pfStep wd (s, e, f) x = (s + 1, e, f) := by unfold pfStep; rw [if_pos k4]
            rw [hv] at hpb2
            simp only at hpb2
            have HV := Lib.hid hv
            rw [k4] at g0
            clear hv k4
            go_wp2_with fail
            go_round
            case rel => exact ⟨k + 1, by omega, by go_num, by rw [HP.out, HP2.out, HV.out]; go_num, by rw [HP.out, HP2.out, HV.out], by rw [HP.out, HP2.out, HV.out]⟩
            case measure => simp [intOf]; omega
          · by_cases k3 : x.kind = 3
            · have hv : pfStep wd (s, e, f) x = (s, e + 1, f) := by unfold pfStep; rw [if_neg k4, if_pos k3]
              rw [hv] at hpb2
              simp only at hpb2
              have HV := Lib.hid hv
              rw [k3] at g0
              clear hv k4 k3
              go_wp2_with fail
              go_round
              case rel => exact ⟨k + 1, by omega, by go_num, by rw [HP.out, HP2.out, HV.out], by rw [HP.out, HP2.out, HV.out]; go_num, by rw [HP.out, HP2.out, HV.out]⟩
              case measure => simp [intOf]; omega
            · by_cases k1 : x.kind = 1
              · have hv : pfStep wd (s, e, f) x = (s, e, if x.text = wd ∧ x.depth = ((s : Int) + (e : Int)) then f else f + x.text.size) := by unfold pfStep; rw [if_neg k4, if_neg k3, if_pos k1]
                rw [hv] at hpb2
                simp only at hpb2
                have HV := Lib.hid hv
                rw [k1] at g0
                clear hv k4 k3 k1
                by_cases hx1 : x.text = wd
                · by_cases hx2 : x.depth = (s : Int) + (e : Int)
                  · have HS := Lib.hid (show (if x.text = wd ∧ x.depth = ((s : Int) + (e : Int)) then f else f + x.text.size) = f from if_pos ⟨hx1, hx2⟩)
                    rw [hx1] at g2
                    rw [hx2] at g1
                    clear hx1 hx2
                    go_wp2_with fail
                    go_round
                    case rel => exact ⟨k + 1, by omega, by go_num, by rw [HP.out, HP2.out, HV.out], by rw [HP.out, HP2.out, HV.out], by rw [HP.out, HP2.out, HV.out, HS.out]⟩
                    case measure => simp [intOf]; omega
                  · have hs := (show (if x.text = wd ∧ x.depth = ((s : Int) + (e : Int)) then f else f + x.text.size) = f + x.text.size from if_neg fun h => hx2 h.2)
                    rw [hs] at hpb2
                    have HS := Lib.hid hs
                    have hxs : x.text.size = wd.size := by rw [hx1]
                    rw [hx1] at g2
                    have r1 : (x.depth != ((s : Int) + (e : Int))) = true := by rw [bne_iff_ne]; exact hx2
                    have HXS := Lib.hid hxs
                    rw [hxs] at hpb2
                    clear hx1 hx2 hs hxs
                    go_wp2_with fail
                    go_round
                    case rel => exact ⟨k + 1, by omega, by go_num, by rw [HP.out, HP2.out, HV.out], by rw [HP.out, HP2.out, HV.out], by rw [HP.out, HP2.out, HV.out, HS.out, HXS.out]; go_num⟩
                    case measure => simp [intOf]; omega
                · obtain ⟨r1, r2, r3⟩ := bytes_ne hx1
                  have hs := (show (if x.text = wd ∧ x.depth = ((s : Int) + (e : Int)) then f else f + x.text.size) = f + x.text.size from if_neg fun h => hx1 h.1)
                  rw [hs] at hpb2
                  have HS := Lib.hid hs
                  clear hx1 hs
                  go_wp2_with fail
                  go_round
                  case rel => exact ⟨k + 1, by omega, by go_num, by rw [HP.out, HP2.out, HV.out], by rw [HP.out, HP2.out, HV.out], by rw [HP.out, HP2.out, HV.out, HS.out]; go_num⟩
                  case measure => simp [intOf]; omega
              · have hv : pfStep wd (s, e, f) x = (s, e, f) := by unfold pfStep; rw [if_neg k4, if_neg k3, if_neg k1]
                have HV := Lib.hid hv
                have r1 : (x.kind == 4) = false := beq_eq_false_iff_ne.2 k4
                have r2 : (x.kind == 3) = false := beq_eq_false_iff_ne.2 k3
                have r3 : (x.kind == 1) = false := beq_eq_false_iff_ne.2 k1
                clear hv k4 k3 k1
                go_wp2_with fail
                go_round
                case rel => exact ⟨k + 1, by omega, by go_num, by rw [HP.out, HP2.out, HV.out], by rw [HP.out, HP2.out, HV.out], by rw [HP.out, HP2.out, HV.out]⟩
                case measure => simp [intOf]; omega
        · have hkl : k = l.length := by omega
          subst hkl
          rw [List.take_length]
          obtain ⟨hc1, hc2, hc3⟩ := HCO.out
          have e1 : ((min n m / 2 : Nat) : Int) = min (n : Int) (m : Int) / 2 := by omega
          have e2 : ((min n m % 2 : Nat) : Int) = min (n : Int) (m : Int) % 2 := by omega
          rw [hc1, hc2, e1, e2]
          have hb : ∀ b r, L wd = b :: r → wd[0]'hws = b := fun b r hh => by
            rw [get_L]
            have : (L wd)[0]? = some b := by rw [hh]; rfl
            rw [List.getElem?_eq_getElem (by simpa using hws)] at this
            injection this
          generalize (pf wd l).2.2 = f at *
          have hcs : ((n = m) ∧ ((f : Int) == (m : Int) + (m : Int) - 2 * (m : Int)) = true) ∨ (((n : Int) == (m : Int)) = false ∧ ((c.toNat : Int) != ((wd[0]'hws).toNat : Int)) = true ∧ ((f : Int) == (n : Int) + (m : Int) - 2 * min (n : Int) (m : Int)) = true) ∨
              (((n : Int) == (m : Int)) = false ∧ ((c.toNat : Int) != ((wd[0]'hws).toNat : Int)) = false) := by
            by_cases hnm : n = m
            · have hf := hc3 (.inl hnm)
              exact .inl ⟨hnm, beq_iff_eq.2 (by omega)⟩
            · have hnm' : ((n : Int) == (m : Int)) = false := beq_eq_false_iff_ne.2 (by omega)
              by_cases hcb : c = wd[0]'hws
              · exact .inr (.inr ⟨hnm', by rw [← hcb]; simp⟩)
              · have hf := hc3 (.inr fun b r hh e => hcb (by rw [hb b r hh, e]))
                exact .inr (.inl ⟨hnm', by rw [bne_iff_ne]; intro e; exact hcb (UInt8.toNat_inj.1 (by omega)), beq_iff_eq.2 (by omega)⟩)
          clear hc1 hc2 hc3 HCO hb e1 e2
          rcases hcs with ⟨rfl, r1⟩ | ⟨r1, r2, r3⟩ | ⟨r1, r2⟩
          all_goals
            go_wp2_with fail
            go_ret
            exact ⟨rfl, bb2⟩
  · have hcs : n < 1 ∨ (1 ≤ n ∧ m < 1) ∨ (1 ≤ n ∧ 1 ≤ m ∧ 12 < n) ∨ (1 ≤ n ∧ 1 ≤ m ∧ n ≤ 12 ∧ 12 < m) ∨ (1 ≤ n ∧ 1 ≤ m ∧ n ≤ 12 ∧ m ≤ 12 ∧ wd = ⟨#[]⟩) ∨ (1 ≤ n ∧ 1 ≤ m ∧ n ≤ 12 ∧ m ≤ 12 ∧ ¬ wd = ⟨#[]⟩ ∧ 20 < wd.size) := by
      rcases (by omega : n < 1 ∨ (1 ≤ n ∧ m < 1) ∨ (1 ≤ n ∧ 1 ≤ m ∧ 12 < n) ∨ (1 ≤ n ∧ 1 ≤ m ∧ n ≤ 12 ∧ 12 < m) ∨ (1 ≤ n ∧ 1 ≤ m ∧ n ≤ 12 ∧ m ≤ 12)) with h | h | h | h | ⟨a1, a2, a3, a4⟩
      · exact .inl h
      · exact .inr (.inl h)
      · exact .inr (.inr (.inl h))
      · exact .inr (.inr (.inr (.inl h)))
      · by_cases hw : wd = ⟨#[]⟩
        · exact .inr (.inr (.inr (.inr (.inl ⟨a1, a2, a3, a4, hw⟩))))
        · by_cases hs : 20 < wd.size
          · exact .inr (.inr (.inr (.inr (.inr ⟨a1, a2, a3, a4, hw, hs⟩))))
          · exact absurd ⟨a1, a3, a2, a4, hw, by omega⟩ hin
    clear hin
    rcases hcs with h | ⟨h1, h2⟩ | ⟨h1, h2, h3⟩ | ⟨h1, h2, h3, h4⟩ | ⟨h1, h2, h3, h4, rfl⟩ | ⟨h1, h2, h3, h4, h5, h6⟩
    case' inr.inr.inr.inr.inr =>
      obtain ⟨t1, t2, t3⟩ := bytes_ne h5
      have t4 : ¬ wd.toList = [] := fun e => h5 (by rw [ByteArray.toList_eq] at e; exact L_inj e)
      have t5 : wd.toList.isEmpty = false := by simpa using t4
      clear h5
    all_goals
      go_enter Try.func5, Try.ntmps5
      go_wp2_with fail
      refine (alive_any _).mono ?_
      rintro e w1 ⟨rfl, b1⟩
      go_wp2_with fail
      go_ret
      exact ⟨rfl, b1⟩
end Go.Proofs.Ytlpkfeapgpkkhaa
