/-
  bowdlerlaw7.VeilDivs: its walk.
-/
import Derived.Test.YteeoohnkfdffnaaGreatDoorVeilUnknowns
import Derived.Test.YteeoohnkfdffnaaGreatDoorVeilDivsLaw
import Derived.Test.YteeoohnkfdffnaaGreatDoorFrameL
import Derived.Test.YteeoohnkfdffnaaGreatDoorOpenTexts
import Derived.Test.YteeoohnkfdffnaaGreatDoorHeadLaw
import Derived.Deep.DeepCutAuto
import Derived.Deep.CutBlock
namespace Go.Proofs.YteeoohnkfdffnaaGreatDoor
open Go.RowKit
set_option linter.unusedVariables false

theorem not_take7 (x : ByteArray) {c : UInt8} {j : Nat} (h : j < x.size) (hn : ¬ x[j]'h = c) (ih : c ∉ (L x).take j) : c ∉ (L x).take (j + 1) := by
  have hl : j < (L x).length := by simpa using h
  rw [List.take_add_one, List.getElem?_eq_getElem hl, Option.toList_some, List.mem_append, List.mem_singleton]
  rintro (hb | hb)
  · exact ih hb
  · exact hn hb.symm
theorem not_all7 (x : ByteArray) {c : UInt8} (h : c ∉ (L x).take x.size) : c ∉ L x := by
  rwa [List.take_of_length_le (by simp)] at h
theorem low_take7 (x : ByteArray) {j : Nat} (h : j < x.size) (h1 : ¬ ((x[j]'h).toNat : Int) < 97) (h2 : ¬ (122 : Int) < ((x[j]'h).toNat : Int)) (ih : lowT ((L x).take j) = true) : lowT ((L x).take (j + 1)) = true := by
  have hl : j < (L x).length := by simpa using h
  unfold lowT at ih ⊢
  rw [List.take_add_one, List.getElem?_eq_getElem hl, Option.toList_some, List.all_append, ih]
  simp only [List.all_cons, List.all_nil, Bool.and_true, Bool.true_and, Bool.and_eq_true, decide_eq_true_eq]
  have : (L x)[j] = x[j] := rfl
  rw [this]
  omega
theorem low_all7 (x : ByteArray) (h : lowT ((L x).take x.size) = true) : lowT (L x) = true := by
  rwa [List.take_of_length_le (by simp)] at h

def endT (s : ByteArray) : ByteArray := if s.size = 0 then ⟨#[]⟩ else s ++ ⟨#[10]⟩
set_option maxHeartbeats 1000000 in
set_option maxRecDepth 100000 in
theorem endV_any (s : ByteArray) (w : World) (hs : s.size ≤ 1048576) : Calls Tryz.prog 28 #[.string s] w fun e w' => e = .returned (.string (endT s)) ∧ w' = w := by
  by_cases h0 : s.size = 0
  · have he : endT s = ⟨#[]⟩ := by unfold endT; rw [if_pos h0]
    rw [he]
    obtain rfl := bytes_none h0
    go_enter Tryz.func28, Tryz.ntmps28
    go_wp2_with fail
    go_ret
    exact ⟨rfl, rfl⟩
  · have he : endT s = s ++ ⟨#[10]⟩ := by unfold endT; rw [if_neg h0]
    rw [he]
    obtain ⟨q1, q2, q3⟩ := bytes_some h0
    have q4 : ¬ 9223372036854775807 < s.size + 1 := by omega
    go_enter Tryz.func28, Tryz.ntmps28
    go_wp2_with fail
    go_ret
    exact ⟨rfl, rfl⟩
/-- the document so far -/
def docS (xs : List ByteArray) (k j : Nat) : ByteArray := S (joinT ([L rightL] ++ (xs.take k).map (fun x => L (divB x)) ++ List.replicate j (L shutB)))
theorem docS_k (xs : List ByteArray) {k : Nat} {x : ByteArray} (h : xs[k]? = some x) : docS xs (k + 1) 0 = docS xs k 0 ++ (divB x ++ ⟨#[10]⟩) := by
  apply L_inj
  unfold docS
  rw [List.take_add_one, h, Option.toList_some, L_append, L_append, L_S, L_S]
  simp [joinT, L_lit]
theorem docS_j (xs : List ByteArray) (k j : Nat) : docS xs k (j + 1) = docS xs k j ++ ⟨#[58, 58, 58, 10]⟩ := by
  apply L_inj
  unfold docS
  rw [L_append, L_S, L_S, List.replicate_succ', ← List.append_assoc, joinT_app]
  rfl
theorem opnN_take (xs : List ByteArray) {k : Nat} {x : ByteArray} (h : xs[k]? = some x) : opnN (xs.take (k + 1)) = opnN (xs.take k) + if opnB x then 1 else 0 := by
  unfold opnN
  rw [List.take_add_one, h, Option.toList_some, List.filter_append, List.length_append]
  cases ho : opnB x <;> simp [ho]
theorem divB_size (x : ByteArray) (h : x.size ≤ 60) : (divB x).size ≤ 60 := by
  unfold divB
  split
  · decide
  · rw [size_S]; have := trimR_le (L x); rw [length_L] at this; omega
theorem trimR_stop (l : List UInt8) (m : Nat) (hm : m ≤ l.length) (h : m = 0 ∨ l[m - 1]? ≠ some 32) : Lib.trimRightB (l.take m) 32 = l.take m := by
  rcases Nat.eq_zero_or_pos m with rfl | h0
  · rfl
  · obtain ⟨k, rfl⟩ : ∃ k, m = k + 1 := ⟨m - 1, by omega⟩
    obtain ⟨b, hb⟩ : ∃ b, l[k]? = some b := ⟨_, List.getElem?_eq_getElem (by omega)⟩
    have hb32 : b ≠ 32 := fun e => by
      rcases h with h | h
      · omega
      · rw [Nat.add_sub_cancel, hb, e] at h; exact h rfl
    rw [List.take_add_one, hb, Option.toList_some]
    have := trimR_snoc (l.take k) b hb32 0
    simpa using this
theorem trimR_go (l : List UInt8) (m : Nat) (hm : m + 1 ≤ l.length) (h : l[m]? = some 32) : Lib.trimRightB (l.take (m + 1)) 32 = Lib.trimRightB (l.take m) 32 := by
  rw [List.take_add_one, h, Option.toList_some]
  unfold Lib.trimRightB
  rw [List.reverse_append]
  simp
def strLen : Value → Nat
  | .string s => s.size
  | _ => 0

set_option maxHeartbeats 4000000 in
set_option maxRecDepth 100000 in
theorem veilDivs_walk (C : Option Addr) (n cap : Nat) (xs : List ByteArray) (text : ByteArray) (w : World) (hg : Glb w) (hl : IsTexts w C n cap xs) (_ : text.size ≤ 140737488351232) :
    Calls Tryz.prog 9 #[.slice C n cap, .string text] w fun e w' => e = .returned (.bool true) ∧ Below w.heap.size w w' := by
  have HG := Lib.hid hg
  obtain ⟨hrC, hnc, hcm, hxs⟩ := hl
  have HLN : Hid (xs.length = n) := Lib.hid (by have := hrC.1; simpa using this)
  by_cases h1 : 12 < n
  · go_enter Tryz.func9, Tryz.ntmps9
    go_wp2_with (go_at_call 11; refine (alive7_any w HG.out).mono ?_; rintro e w1 ⟨rfl, b1⟩)
    go_ret
    exact ⟨rfl, b1⟩
  by_cases h2 : 40 < text.size
  · go_enter Tryz.func9, Tryz.ntmps9
    go_wp2_with (go_at_call 11; refine (alive7_any w HG.out).mono ?_; rintro e w1 ⟨rfl, b1⟩)
    go_ret
    exact ⟨rfl, b1⟩
  go_enter Tryz.func9, Tryz.ntmps9
  go_upto_region 3 with (go_at_call 11; refine (alive7_any w HG.out).mono ?_; rintro e w1 ⟨rfl, b1⟩)
  have hz1 := b1.size
  go_wp2_with fail
  go_loop [5] (fun s5 => ∃ j : Nat, j ≤ text.size ∧ s5 = .int .i64 (j : Int) ∧ Hid (lowT ((L text).take j) = true)) (fun s5 => text.size - (intOf s5).toNat)
  case atStart => exact ⟨0, Nat.zero_le _, rfl, Lib.hid rfl⟩
  case round =>
    obtain ⟨j, hj, rfl, HLO⟩ := hrel
    by_cases hjl : j < text.size
    · by_cases q1 : ((text[j]'hjl).toNat : Int) < 97
      · go_wp2_with fail
        go_ret
        exact ⟨rfl, b1⟩
      · by_cases q2 : (122 : Int) < ((text[j]'hjl).toNat : Int)
        · go_wp2_with fail
          go_ret
          exact ⟨rfl, b1⟩
        · go_wp2_with fail
          go_round
          case rel => exact ⟨j + 1, by omega, by go_num, Lib.hid (low_take7 text hjl q1 q2 HLO.out)⟩
          case measure => simp [intOf]; omega
    · have hjt : j = text.size := by omega
      subst hjt
      have HLOW := Lib.hid (low_all7 text HLO.out)
      clear hjl hj
      go_upto_region 9 with (first
        | (go_at_call 25; refine (diamond_any w1).mono ?_; rintro e w2 ⟨A, B, rfl, hA, hB, b2⟩)
        | (go_at_call 12; refine (newDia_any 1 (by omega) A B w2.heap.size w2 ((HG.out.below b1).below b2) hA hB (Nat.le_refl _)).mono ?_; rintro e w3 ⟨g, rfl, kt, hg3, b3⟩))
      have bb3 : Below w.heap.size w w3 := b1.trans ((b2.trans (b3.mono b2.size)).mono hz1)
      have KT := Lib.hid kt
      have hrC3 := (hrC.below bb3).up bb3.size
      have hzz := bb3.size
      clear hA hB b2 b3 kt hrC
      go_wp2_with fail
      go_loop [8, 9, 52] (fun s8 s9 s52 => ∃ k : Nat, k ≤ n ∧ s52 = .int .i64 (k : Int) ∧ s8 = .string (docS xs k 0) ∧ s9 = .int .i64 (opnN (xs.take k) : Int) ∧ (docS xs k 0).size ≤ 11 + 61 * k ∧ opnN (xs.take k) ≤ k ∧ Hid (∀ x ∈ xs.take k, (10 : UInt8) ∉ L x ∧ (13 : UInt8) ∉ L x)) (fun _ _ s52 => n - (intOf s52).toNat)
      case atStart =>
        refine ⟨0, Nat.zero_le _, rfl, rfl, rfl, ?_, by simp [opnN], Lib.hid (by simp)⟩
        unfold docS
        rw [List.take_zero, List.map_nil, List.append_nil, List.replicate_zero, List.append_nil]
        decide
      case round =>
        obtain ⟨k, hk, rfl, rfl, rfl, hds, hop, HAL⟩ := hrel
        obtain ⟨dk, hdk⟩ : ∃ dk, docS xs k 0 = dk := ⟨_, rfl⟩
        obtain ⟨ok, hok⟩ : ∃ ok, opnN (xs.take k) = ok := ⟨_, rfl⟩
        rw [hdk] at hds
        rw [hok] at hop
        rw [hdk, hok]
        by_cases hlt2 : k < n
        · obtain ⟨ad, u, rfl, _, hx0, hc⟩ := hrC3.at_ hlt2
          obtain ⟨x, hx, rfl⟩ : ∃ x, xs[k]? = some x ∧ Value.string x = u := by simpa using hx0
          have hxm := hxs x (List.mem_of_getElem? hx)
          unfold maxLen at hxm
          have HDN : Hid (docS xs (k + 1) 0 = dk ++ (divB x ++ ⟨#[10]⟩)) := Lib.hid (by rw [docS_k xs hx, hdk])
          have HON : Hid (opnN (xs.take (k + 1)) = ok + if opnB x then 1 else 0) := Lib.hid (by rw [opnN_take xs hx, hok])
          have HTK : Hid (xs.take (k + 1) = xs.take k ++ [x]) := Lib.hid (by rw [List.take_add_one, hx]; rfl)
          clear hx hx0 hdk hok
          by_cases h60 : 60 < x.size
          · go_wp2_with fail
            go_ret
            exact ⟨rfl, bb3⟩
          · have hdiv := divB_size x (by omega)
            go_wp2_with fail
            go_loop [12] (fun s12 => ∃ j : Nat, j ≤ x.size ∧ s12 = .int .i64 (j : Int) ∧ Hid ((10 : UInt8) ∉ (L x).take j ∧ (13 : UInt8) ∉ (L x).take j)) (fun s12 => x.size - (intOf s12).toNat)
            case atStart => exact ⟨0, Nat.zero_le _, rfl, Lib.hid ⟨by simp, by simp⟩⟩
            case round =>
              obtain ⟨j, hj, rfl, HNO⟩ := hrel
              by_cases hjl : j < x.size
              · by_cases q1 : x[j]'hjl = 10
                · go_wp2_with fail
                  go_ret
                  exact ⟨rfl, bb3⟩
                · have p1 : ((x[j].toNat : Int) == 10) = false := byte_ne (n := 10) (by decide) q1
                  by_cases q2 : x[j]'hjl = 13
                  · go_wp2_with fail
                    go_ret
                    exact ⟨rfl, bb3⟩
                  · have p2 : ((x[j].toNat : Int) == 13) = false := byte_ne (n := 13) (by decide) q2
                    go_wp2_with fail
                    go_round
                    case rel => exact ⟨j + 1, by omega, by go_num, Lib.hid ⟨not_take7 x hjl q1 HNO.out.1, not_take7 x hjl q2 HNO.out.2⟩⟩
                    case measure => simp [intOf]; omega
              · have hjx : j = x.size := by omega
                subst hjx
                have HNX : Hid ((10 : UInt8) ∉ L x ∧ (13 : UInt8) ∉ L x) := Lib.hid ⟨not_all7 x HNO.out.1, not_all7 x HNO.out.2⟩
                clear hjl hj
                obtain ⟨tr, htr⟩ : ∃ tr, Lib.trimRightB (L x) 32 = tr := ⟨_, rfl⟩
                have HTR := Lib.hid htr
                have htl : tr.length ≤ 60 := by rw [← htr]; have := trimR_le (L x); rw [length_L] at this; omega
                clear htr
                go_upto_block 6 with fail
                go_cut [11] (fun s11 wx => s11 = .string (S tr) ∧ wx = w3)
                case first =>
                  go_wp2_with fail
                  go_loop [11] (fun s11 => ∃ y : ByteArray, s11 = .string y ∧ y.size ≤ 60 ∧ Hid (L y = (L x).take y.size ∧ Lib.trimRightB (L y) 32 = tr ∧ y.size ≤ x.size)) (fun s11 => strLen s11)
                  case atStart => exact ⟨x, rfl, by omega, Lib.hid ⟨by rw [List.take_of_length_le (by rw [length_L]; exact Nat.le_refl _)], HTR.out, Nat.le_refl _⟩⟩
                  case round =>
                    obtain ⟨y, rfl, hy60, HY⟩ := hrel
                    by_cases h0 : y.size = 0
                    · obtain rfl := bytes_none h0
                      have HE : Hid (S tr = ⟨#[]⟩) := Lib.hid (by rw [← HY.out.2.1]; rfl)
                      go_wp2_with fail
                      go_meet
                      exact ⟨by rw [HE.out], rfl⟩
                    · obtain ⟨p1, p2, p3⟩ := bytes_some h0
                      have x5 : ((y.size : Int) - 1).toNat = y.size - 1 := by omega
                      have x6 : (0 : Int) ≤ (y.size : Int) - 1 := by omega
                      have x7 : IntKind.i64.wrap ((y.size : Int) - 1) = ((y.size - 1 : Nat) : Int) := (IntWalk.i64_in _ (by omega)).trans (by omega)
                      have x8 : y.size - 1 < y.size := by omega
                      have hget : (L y)[y.size - 1]? = some (y[y.size - 1]'x8) := by rw [List.getElem?_eq_getElem (by rw [length_L]; exact x8)]; rfl
                      have HGT := Lib.hid hget
                      clear hget
                      by_cases hb : y[y.size - 1]'x8 = 32
                      · go_wp2_with fail
                        go_round
                        case rel =>
                          refine ⟨_, rfl, by simp; omega, Lib.hid ?_⟩
                          have hL : L (y.extract 0 (y.size - 1)) = (L y).take (y.size - 1) := by rw [L_extract, List.drop_zero]
                          have hsz : (y.extract 0 (y.size - 1)).size = y.size - 1 := by simp
                          rw [hsz, hL]
                          refine ⟨?_, ?_, by have := HY.out.2.2; omega⟩
                          · rw [HY.out.1, List.take_take, Nat.min_eq_left (by omega)]
                          · rw [← HY.out.2.1]
                            have := trimR_go (L y) (y.size - 1) (by rw [length_L]; omega) (by rw [HGT.out, hb])
                            rw [show y.size - 1 + 1 = y.size by omega, List.take_of_length_le (by rw [length_L]; exact Nat.le_refl _)] at this
                            exact this.symm
                        case measure => simp [strLen]; omega
                      · have p5 : ((y[y.size - 1].toNat : Int) == 32) = false := byte_ne (n := 32) (by decide) hb
                        have HE : Hid (S tr = y) := Lib.hid (by
                          rw [← HY.out.2.1]
                          have := trimR_stop (L y) y.size (by rw [length_L]; exact Nat.le_refl _) (.inr (by rw [HGT.out]; simpa using hb))
                          rw [List.take_of_length_le (by rw [length_L]; exact Nat.le_refl _)] at this
                          rw [this, S_L])
                        go_wp2_with fail
                        go_meet
                        exact ⟨by rw [HE.out], rfl⟩
                case rest =>
                obtain ⟨rfl, hwx⟩ := hcut
                rw [hwx]
                clear hwx
                apply_assumption
                have HALL : Hid (∀ y ∈ xs.take (k + 1), (10 : UInt8) ∉ L y ∧ (13 : UInt8) ∉ L y) := Lib.hid (fun y hy => by
                  rw [HTK.out] at hy
                  rcases List.mem_append.1 hy with h | h
                  · exact HAL.out y h
                  · rw [List.mem_singleton.1 h]; exact HNX.out)
                cases hob : opnB x
                · have HD : Hid (divB x = S tr) := Lib.hid (by unfold divB; rw [hob, HTR.out]; rfl)
                  have HO2 : Hid (opnN (xs.take (k + 1)) = ok) := Lib.hid (by rw [HON.out, hob]; rfl)
                  have hnp : Lib.hasPrefix tr [58, 58, 58] = false := by rw [← HTR.out]; exact hob
                  obtain ⟨y, hy⟩ : ∃ y, S tr = y := ⟨_, rfl⟩
                  have hys : y.size ≤ 60 := by rw [← hy, size_S]; exact htl
                  rw [hy] at HD
                  rw [hy]
                  have r1 : ¬ 9223372036854775807 < y.size + 1 := by omega
                  have r2 : ¬ 9223372036854775807 < dk.size + (y.size + 1) := by omega
                  have hrel2 : (dk ++ (y ++ ⟨#[10]⟩)).size ≤ 11 + 61 * (k + 1) := by
                    rw [ByteArray.size_append, ByteArray.size_append]
                    have : (⟨#[10]⟩ : ByteArray).size = 1 := rfl
                    omega
                  by_cases h3 : y.size < 3
                  · clear hnp hob
                    have h3' : ¬ (3 : Int) ≤ (y.size : Int) := by omega
                    go_wp2_with fail
                    go_round
                    case rel => exact ⟨k + 1, by omega, by go_num, by rw [HDN.out, HD.out], by rw [HO2.out], by rw [HDN.out, HD.out]; exact hrel2, by rw [HO2.out]; omega, HALL⟩
                    case measure => simp [intOf]; omega
                  · have hne : ¬ y.extract 0 3 = ⟨#[58, 58, 58]⟩ := fun e => by
                      have e2 := congrArg L e
                      rw [L_extract, List.drop_zero, ← hy, L_S] at e2
                      have : Lib.hasPrefix tr [58, 58, 58] = true := List.isPrefixOf_iff_prefix.2 ⟨tr.drop 3, by
                        have := List.take_append_drop 3 tr
                        rw [e2] at this; exact this⟩
                      rw [this] at hnp; cases hnp
                    have h3' : (3 : Int) ≤ (y.size : Int) := by omega
                    obtain ⟨z3, hz3⟩ : ∃ z3, y.extract 0 3 = z3 := ⟨_, rfl⟩
                    rw [hz3] at hne
                    obtain ⟨p1, p2, p3⟩ := bytes_ne hne
                    have p4 : (z3.toList == [58, 58, 58]) = false := by
                      have h4 : (⟨#[58, 58, 58]⟩ : ByteArray).toList = [58, 58, 58] := by decide +kernel
                      rw [← h4]; exact p2
                    clear hnp hob
                    go_wp2_with fail
                    go_round
                    case rel => exact ⟨k + 1, by omega, by go_num, by rw [HDN.out, HD.out], by rw [HO2.out], by rw [HDN.out, HD.out]; exact hrel2, by rw [HO2.out]; omega, HALL⟩
                    case measure => simp [intOf]; omega
                · have HD : Hid (divB x = lowB) := Lib.hid (by unfold divB; rw [hob]; rfl)
                  have HO2 : Hid (opnN (xs.take (k + 1)) = ok + 1) := Lib.hid (by rw [HON.out, hob]; rfl)
                  have hnp : Lib.hasPrefix tr [58, 58, 58] = true := by rw [← HTR.out]; exact hob
                  obtain ⟨z, hz⟩ := List.isPrefixOf_iff_prefix.1 hnp
                  obtain ⟨y, hy⟩ : ∃ y, S tr = y := ⟨_, rfl⟩
                  have hys : y.size ≤ 60 := by rw [← hy, size_S]; exact htl
                  have h3' : (3 : Int) ≤ (y.size : Int) := by rw [← hy, size_S, ← hz]; simp; omega
                  have heq : y.extract 0 3 = ⟨#[58, 58, 58]⟩ := by
                    apply L_inj
                    rw [L_extract, List.drop_zero, ← hy, L_S, ← hz]; rfl
                  rw [hy]
                  have hls : lowB.size = 8 := rfl
                  have r2 : ¬ 9223372036854775807 < dk.size + 9 := by omega
                  have hrel2 : (dk ++ (lowB ++ ⟨#[10]⟩)).size ≤ 11 + 61 * (k + 1) := by
                    rw [ByteArray.size_append, ByteArray.size_append]
                    have : (⟨#[10]⟩ : ByteArray).size = 1 := rfl
                    omega
                  clear hnp hob hz hls
                  go_wp2_with fail
                  go_round
                  case rel => exact ⟨k + 1, by omega, by go_num, by rw [HDN.out, HD.out]; rfl, by rw [HO2.out]; go_num, by rw [HDN.out, HD.out]; exact hrel2, by rw [HO2.out]; omega, HALL⟩
                  case measure => simp [intOf]; omega
        · have hkn : k = n := by omega
          subst hkn
          have hta : xs.take k = xs := List.take_of_length_le (by rw [HLN.out]; exact Nat.le_refl _)
          rw [hta] at HAL hok
          have HOK := Lib.hid hok
          have HDK := Lib.hid hdk
          clear hta hok hdk
          go_wp2_with fail
          go_loop [8, 13] (fun s8 s13 => ∃ j : Nat, j ≤ ok ∧ s13 = .int .i64 (j : Int) ∧ s8 = .string (docS xs k j) ∧ (docS xs k j).size ≤ 743 + 4 * j) (fun _ s13 => ok - (intOf s13).toNat)
          case atStart => exact ⟨0, Nat.zero_le _, rfl, by rw [HDK.out], by rw [HDK.out]; omega⟩
          case round =>
            obtain ⟨j, hj, rfl, rfl, hdj⟩ := hrel
            have HDJ := Lib.hid (docS_j xs k j)
            obtain ⟨dj, hdj2⟩ : ∃ dj, docS xs k j = dj := ⟨_, rfl⟩
            rw [hdj2] at HDJ hdj
            rw [hdj2]
            have r1 : ¬ 9223372036854775807 < dj.size + 4 := by omega
            by_cases hjl : j < ok
            · clear hdj2
              go_wp2_with fail
              go_round
              case rel => exact ⟨j + 1, by omega, by go_num, by rw [HDJ.out], by rw [HDJ.out, ByteArray.size_append]; have : (⟨#[58, 58, 58, 10]⟩ : ByteArray).size = 4 := rfl; omega⟩
              case measure => simp [intOf]; omega
            · have hjo : j = ok := by omega
              subst hjo
              have hv : seesT (diaS 1) [⟨#[114, 105, 103, 104, 116]⟩] = false := by decide +kernel
              have hlaw := divs_law (seesT (diaS 1)) hv xs text (fun x hx => HAL.out x hx) HLOW.out
              have hdoc : dj ++ ⟨#[58, 58, 58, 10]⟩ ++ text = docD xs text := by
                apply L_inj
                unfold docD
                rw [HOK.out, List.replicate_succ', ← List.append_assoc, joinT_app, L_append, L_append, ← hdj2]
                unfold docS
                rw [List.take_of_length_le (by rw [HLN.out]; exact Nat.le_refl _), L_S, L_S]
                rfl
              rw [← hdoc, ← veilT_eq] at hlaw
              have hres : S (joinT ([L rightL, L shutB] ++ if L text = [] then [] else [L text])) = ⟨#[58, 58, 58, 123, 114, 105, 103, 104, 116, 125, 10, 58, 58, 58, 10]⟩ ++ endT text := by
                apply L_inj
                unfold endT
                rw [L_append]
                by_cases h0 : text.size = 0
                · rw [if_pos h0, if_pos (List.eq_nil_of_length_eq_zero (by rw [length_L]; exact h0))]; rfl
                · rw [if_neg h0, if_neg (fun e => h0 (by rw [← length_L, e]; rfl)), L_append]
                  simp [joinT, L_lit]
                  rfl
              rw [hres] at hlaw
              have HVE := Lib.hid hlaw
              have HEN := Lib.hid (fun W => endV_any text W (by omega))
              obtain ⟨et, het⟩ : ∃ et, endT text = et := ⟨_, rfl⟩
              have hes : et.size ≤ 41 := by rw [← het]; unfold endT; split; decide; rw [ByteArray.size_append]; have : (⟨#[10]⟩ : ByteArray).size = 1 := rfl; omega
              rw [het] at HVE HEN
              have r2 : ¬ 9223372036854775807 < dj.size + 4 + text.size := by omega
              have r3 : ¬ 9223372036854775807 < 15 + et.size := by omega
              have hsz : (dj ++ ⟨#[58, 58, 58, 10]⟩ ++ text).size ≤ 200000 := by
                rw [ByteArray.size_append, ByteArray.size_append]
                have : (⟨#[58, 58, 58, 10]⟩ : ByteArray).size = 4 := rfl
                omega
              have HSZ := Lib.hid hsz
              clear hlaw hdoc hres hv hsz hdj2 het
              go_wp2_with (first
                | (go_at_call 17; refine (KT.out.veil _ _ (Below.refl _ _) HSZ.out).mono ?_; rw [HVE.out]; rintro e w5 ⟨rfl, b5⟩)
                | (go_at_call 28; refine (HEN.out _).mono ?_; rintro e w6 ⟨rfl, hw6⟩; subst hw6))
              go_ret
              exact ⟨by simp, bb3.trans (b5.mono hzz)⟩
end Go.Proofs.YteeoohnkfdffnaaGreatDoor
