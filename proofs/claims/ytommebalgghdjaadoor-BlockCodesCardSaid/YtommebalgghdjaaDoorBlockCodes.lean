/-
  bowdlerlaw9.BlockCodes: its walk: it answers true, and turns nothing that was there.
-/
import Derived.Test.YtommebalgghdjaaDoorBlockStart
import Derived.Test.YtommebalgghdjaaDoorBlockCodeLaw
import Derived.Test.YtommebalgghdjaaDoorBlockUnder
namespace Go.Proofs.YtommebalgghdjaaDoor
open Go.RowKit

def tilS (info : ByteArray) : ByteArray := ⟨#[126, 126, 126, 126, 126, 32]⟩ ++ info
def fiveS : ByteArray := ⟨#[126, 126, 126, 126, 126]⟩
def endC : ByteArray := ⟨#[101, 110, 100]⟩
theorem tilS_L (info : ByteArray) : L (tilS info) = tildes (L info) := by unfold tilS tildes; rw [L_append]; rfl
theorem codes_a {info : ByteArray} {l : List ByteArray} (hi : ∀ b ∈ L info, isLetter b = true) (h : ∀ x ∈ l, closesT (L x) 126 (5 : Nat) = false) :
    parseT ((tilS info :: l ++ [fiveS, endC]).map L) = [⟨6, 0, 0, false, joinT ((l.map L).map expandT), L info⟩, ⟨1, 0, 0, false, endB, []⟩] := by
  have := codes_shut (info := L info) (l := l.map L) hi (fun x hx => by obtain ⟨y, hy, rfl⟩ := List.mem_map.1 hx; exact h y hy)
  rw [List.map_append, List.map_cons, tilS_L]
  exact this
theorem codes_b {info : ByteArray} {l : List ByteArray} (hi : ∀ b ∈ L info, isLetter b = true) (h : ∀ x ∈ l, closesT (L x) 126 (5 : Nat) = false) :
    parseT ((tilS info :: l).map L) = [⟨6, 0, 0, false, joinT ((l.map L).map expandT), L info⟩] := by
  have := codes_open (info := L info) (l := l.map L) hi (fun x hx => by obtain ⟨y, hy, rfl⟩ := List.mem_map.1 hx; exact h y hy)
  rw [List.map_cons, tilS_L]
  exact this
theorem codes_want (l : List ByteArray) {k : Nat} {x : ByteArray} (hx : l[k]? = some x) : S (joinT (((l.take (k + 1)).map L).map expandT)) = S (joinT (((l.take k).map L).map expandT)) ++ (S (expandT (L x)) ++ ⟨#[10]⟩) := by
  rw [List.take_add_one, hx, Option.toList_some, List.map_append, List.map_append, joinT_app, S_append, L_append, show joinT (([x].map L).map expandT) = expandT (L x) ++ [10] by simp [joinT]]
  rfl
theorem five_at {x : ByteArray} {i : Nat} (h : ¬ x.extract i (i + 5) = fiveS) : ((L x).drop i).take 5 ≠ [126, 126, 126, 126, 126] := by
  intro e
  refine h (L_inj ?_)
  rw [L_extract, List.drop_take, Nat.add_sub_cancel_left, e]
  rfl

set_option maxHeartbeats 6000000 in
set_option maxRecDepth 100000 in
theorem blockCodes_walk (A : Option Addr) (n cap : Nat) (l : List ByteArray) (info : ByteArray) (w : World) (_ : Glb w) (hl : IsTexts w A n cap l) (hif : info.size ≤ 140737488351232) :
    Calls Tryd.prog 6 #[.slice A n cap, .string info] w fun e w' => e = .returned (.bool true) ∧ Below w.heap.size w w' := by
  obtain ⟨hr, hnc, hcm, hz⟩ := hl
  have hmax : maxLen = 9223372036854775807 := rfl
  have hln : l.length = n := by have := hr.1; simpa using this
  have HPL := Lib.hid (plain_any A n cap w.heap.size l w hr (by omega) (fun x hx => by have := hz x hx; omega))
  cases hpt : plainT l
  · rw [hpt] at HPL
    go_enter Tryd.func6, Tryd.ntmps6
    go_wp2_with (first | (go_at_call 15; refine HPL.out.mono ?_; rintro e w0 ⟨rfl, hw0⟩; subst w0) | (go_at_call 16; refine (aliveB_any _).mono ?_; rintro e w1 ⟨rfl, b1⟩))
    go_ret
    exact ⟨rfl, b1⟩
  rw [hpt] at HPL
  obtain ⟨h40, hsz⟩ := plain_facts hpt
  have hn40 : n ≤ 40 := by omega
  have HLN := Lib.hid hln
  have HSZ := Lib.hid hsz
  clear hln hsz h40 hz hpt
  by_cases h20 : 20 < info.size
  · go_enter Tryd.func6, Tryd.ntmps6
    go_wp2_with (first | (go_at_call 15; refine HPL.out.mono ?_; rintro e w0 ⟨rfl, hw0⟩; subst w0) | (go_at_call 16; refine (aliveB_any _).mono ?_; rintro e w1 ⟨rfl, b1⟩))
    go_ret
    exact ⟨rfl, b1⟩
  go_enter Tryd.func6, Tryd.ntmps6
  go_wp2_with (first | (go_at_call 15; refine HPL.out.mono ?_; rintro e w0 ⟨rfl, hw0⟩; subst w0) | (go_at_call 16; refine (aliveB_any _).mono ?_; rintro e w1 ⟨rfl, b1⟩))
  have z1 := b1.size
  clear HPL
  go_loop [5] (fun s => ∃ j : Nat, j ≤ info.size ∧ s = .int .i64 j ∧ ∀ b ∈ (L info).take j, isLetter b = true) (fun s => info.size - (intOf s).toNat)
  case atStart => exact ⟨0, Nat.zero_le _, rfl, by simp⟩
  case round =>
    obtain ⟨j, hj, rfl, hno⟩ := hrel
    have HNO := Lib.hid hno
    clear hno
    by_cases hjl : j < info.size
    · obtain ⟨b, hb⟩ : ∃ b, info[j]'hjl = b := ⟨_, rfl⟩
      by_cases c1 : b.toNat < 97
      · have q1 : decide ((b.toNat : Int) < 97) = true := decide_eq_true (by omega)
        go_wp2_with fail
        go_ret
        exact ⟨rfl, b1⟩
      · have q1 : decide ((b.toNat : Int) < 97) = false := decide_eq_false (by omega)
        by_cases c2 : 122 < b.toNat
        · have q2 : decide ((122 : Int) < (b.toNat : Int)) = true := decide_eq_true (by omega)
          go_wp2_with fail
          go_ret
          exact ⟨rfl, b1⟩
        · have q2 : decide ((122 : Int) < (b.toNat : Int)) = false := decide_eq_false (by omega)
          have HT := Lib.hid (letter_take info hjl (by rw [hb]; omega) HNO.out)
          go_wp2_with fail
          go_round
          case rel => exact ⟨j + 1, by omega, by go_num, HT.out⟩
          case measure => simp [intOf]; omega
    · have HLET : Hid (∀ b ∈ L info, isLetter b = true) := Lib.hid (by
        have := HNO.out
        rwa [List.take_of_length_le (by simp; omega)] at this)
      clear HNO
      have r1 : ¬ 9223372036854775807 < (⟨#[126, 126, 126, 126, 126, 32]⟩ : ByteArray).size + info.size := by have : (⟨#[126, 126, 126, 126, 126, 32]⟩ : ByteArray).size = 6 := rfl; omega
      have hown0 : Own (w1.alloc (.cells #[.string (⟨#[126, 126, 126, 126, 126, 32]⟩ ++ info)] 9)) w.heap.size 9 1 (some ⟨w1.heap.size, 0, none⟩) 1 1 (txCells (tilS info :: l.take 0)) := by
        have := World.ownsRow_lit (base := w.heap.size) (e := 9) (size := 1) w1 #[.string (⟨#[126, 126, 126, 126, 126, 32]⟩ ++ info)] 1 z1 (by unfold maxLen; omega) (by simp)
        simpa [Own, txCells, tilS] using this
      have b2 : Below w.heap.size w (w1.alloc (.cells #[.string (⟨#[126, 126, 126, 126, 126, 32]⟩ ++ info)] 9)) := b1.alloc z1 _
      go_upto_region 10 with fail
      generalize w1.alloc (.cells #[.string (⟨#[126, 126, 126, 126, 126, 32]⟩ ++ info)] 9) = w2 at *
      clear r1
      go_wp2_with fail
      go_loopw [6, 7, 48] (fun s6 s7 s48 wr => ∃ (k : Nat) (A3 : Option Addr) (c3 : Nat) (W : ByteArray), k ≤ n ∧ s48 = .int .i64 k ∧ s6 = .string W ∧ S (joinT (((l.take k).map L).map expandT)) = W ∧ W.size ≤ 501 * k ∧ s7 = .slice A3 (k + 1) c3 ∧
        Own wr w.heap.size 9 1 A3 (k + 1) c3 (txCells (tilS info :: l.take k)) ∧ Below w.heap.size w wr ∧ (∀ x ∈ l.take k, closesT (L x) 126 (5 : Nat) = false)) (fun _ _ s48 _ => n - (intOf s48).toNat)
      case atStart => exact ⟨0, _, 1, ⟨#[]⟩, Nat.zero_le _, rfl, rfl, rfl, by decide, rfl, hown0, b2, by simp⟩
      case round =>
        clear hown0 b2
        obtain ⟨k, A3, c3, W, hk, rfl, rfl, hW, hWs, rfl, hown, hb, hall⟩ := hrel
        have HW := Lib.hid hW
        have HALL := Lib.hid hall
        clear hW hall
        have hzw := hb.size
        by_cases hlt : k < n
        · obtain ⟨ad, u, rfl, _, hx0, hc⟩ := (hr.below hb).at_ hlt
          obtain ⟨x, hx, rfl⟩ : ∃ x, l[k]? = some x ∧ Value.string x = u := by simpa using hx0
          have hxz := HSZ.out x (List.mem_of_getElem? hx)
          have HX := Lib.hid hx
          clear hx hx0
          go_wp2_with fail
          go_loop [10] (fun s => ∃ i : Nat, i ≤ x.size ∧ s = .int .i64 i ∧ ∀ i', i' < i → i' + 4 < x.size → ((L x).drop i').take 5 ≠ [126, 126, 126, 126, 126]) (fun s => x.size - (intOf s).toNat)
          case atStart => exact ⟨0, Nat.zero_le _, rfl, fun i' h => by omega⟩
          case round =>
            clear hc
            obtain ⟨i, hi, rfl, hno⟩ := hrel
            have HNO := Lib.hid hno
            clear hno
            have y0 : IntKind.wrap .i64 ((i : Int) + 4) = (i : Int) + 4 := IntWalk.i64_in _ (by omega)
            by_cases hil : i + 4 < x.size
            · have y1 : IntKind.wrap .i64 ((i : Int) + 5) = (i : Int) + 5 := IntWalk.i64_in _ (by omega)
              have q0 : decide ((i : Int) + 4 < (x.size : Int)) = true := decide_eq_true (by omega)
              have y2 : (i : Int) ≤ (i : Int) + 5 := by omega
              have y3 : (i : Int) + 5 ≤ (x.size : Int) := by omega
              have y4 : ((i : Int) + 5).toNat = i + 5 := by omega
              have y5 : (0 : Int) ≤ (i : Int) + 5 := by omega
              by_cases he : x.extract i (i + 5) = (⟨#[126, 126, 126, 126, 126]⟩ : ByteArray)
              · go_wp2_with fail
                go_ret
                exact ⟨rfl, hb⟩
              · have HT : Hid (∀ i', i' < i + 1 → i' + 4 < x.size → ((L x).drop i').take 5 ≠ [126, 126, 126, 126, 126]) := Lib.hid (fun i' h1 h2 => by
                  rcases Nat.lt_or_ge i' i with h | h
                  · exact HNO.out i' h h2
                  · rw [show i' = i by omega]; exact five_at he)
                obtain ⟨t1, t2, t3⟩ := bytes_ne (a := x.extract i (i + 5)) (b := ⟨#[126, 126, 126, 126, 126]⟩) he
                have t4 : ((x.extract i (i + 5)).toList == [126, 126, 126, 126, 126]) = false := by
                  have := t2
                  rwa [show (⟨#[126, 126, 126, 126, 126]⟩ : ByteArray).toList = [126, 126, 126, 126, 126] by rw [ByteArray.toList_eq]] at this
                go_wp2_with fail
                go_round
                case rel => exact ⟨i + 1, by omega, by go_num, HT.out⟩
                case measure => simp [intOf]; omega
            · have q0 : decide ((i : Int) + 4 < (x.size : Int)) = false := decide_eq_false (by omega)
              have HCL : Hid (closesT (L x) 126 (5 : Nat) = false) := Lib.hid (closes_five fun i' h => HNO.out i' (by simp at h; omega) (by simpa using h))
              clear HNO
              have hes : (S (expandT (L x))).size ≤ 500 := by rw [size_S]; have := expandT_le (L x); simp at this; omega
              have HEX := Lib.hid (fun W => expand_any x W (by omega))
              have HWA := Lib.hid (codes_want l HX.out)
              generalize S (expandT (L x)) = E at *
              have r1 : ¬ 9223372036854775807 < E.size + (⟨#[10]⟩ : ByteArray).size := by have : (⟨#[10]⟩ : ByteArray).size = 1 := rfl; omega
              have hxs : (E ++ (⟨#[10]⟩ : ByteArray)).size = E.size + 1 := by rw [ByteArray.size_append]; rfl
              have r2 : ¬ 9223372036854775807 < W.size + (E ++ (⟨#[10]⟩ : ByteArray)).size := by omega
              have HXS := Lib.hid hxs
              clear hxs
              go_wp2_with (first
                | (at_builtin; refine wpList_app1 Tryd.elTexts rfl (.tmp 65) (.tmp 67) rfl rfl (by exact hown.alloc _) rfl (Blk.new' _ _ _ _ (by simp)) rfl (by simp [Value.oneCell']) (by simp only [maxLen]; omega) (by omega) (by simp; omega) ?_
                   intro A4 c4 w5 hown4 ho4 hm4
                   have hb5 := hb.trans (ho4.of_alloc.below (fun a ha => (hown.lt ha).1) hzw)
                   have hz5 := hb5.size)
                | (go_at_call 20; refine (HEX.out _).mono ?_; rintro e w6 ⟨rfl, b6⟩))
              go_roundw
              case rel =>
                refine ⟨k + 1, A4, c4, W ++ (E ++ ⟨#[10]⟩), by omega, by go_num, rfl, by rw [HWA.out, HW.out], by rw [ByteArray.size_append, HXS.out]; omega, by rfl, ?_, hb5.trans (b6.mono hz5), ?_⟩
                · have h6 := hown4.below b6 (Nat.le_refl _)
                  rw [List.take_add_one, HX.out]
                  simpa [txCells] using h6
                · intro y hy
                  rw [List.take_add_one, HX.out, Option.toList_some, List.mem_append, List.mem_singleton] at hy
                  rcases hy with hy | rfl
                  · exact HALL.out y hy
                  · exact HCL.out
              case measure => simp [intOf]; omega
        · have hkn : k = n := by omega
          subst hkn
          have hta : l.take k = l := List.take_of_length_le (by rw [HLN.out]; exact Nat.le_refl _)
          rw [hta] at HW HALL hown
          clear hta
          have htz : (tilS info).size ≤ 26 := by unfold tilS; rw [ByteArray.size_append]; have : (⟨#[126, 126, 126, 126, 126, 32]⟩ : ByteArray).size = 6 := rfl; omega
          have HOK : Hid (LnOk (tilS info :: l ++ [fiveS, endC]) ∧ LnOk (tilS info :: l)) := Lib.hid ⟨lnOk_of (by
            intro y hy
            rcases List.mem_append.1 hy with hy | hy
            · rcases List.mem_cons.1 hy with rfl | hy
              · omega
              · have := HSZ.out y hy; omega
            · simp only [List.mem_cons, List.not_mem_nil, or_false] at hy
              rcases hy with rfl | rfl <;> decide), lnOk_of (by
            intro y hy
            rcases List.mem_cons.1 hy with rfl | hy
            · omega
            · have := HSZ.out y hy; omega)⟩
          have HA := Lib.hid (codes_a HLET.out HALL.out)
          have HB := Lib.hid (codes_b HLET.out HALL.out)
          have HWL : Hid (S (joinT ((l.map L).map expandT)) = W ∧ S (L info) = info) := Lib.hid ⟨HW.out, S_L _⟩
          clear htz
          go_upto_region 23 with (first
            | (at_builtin; refine wpList_app Tryd.elTexts rfl (.const (.slice none 0 0)) (.tmp 75) rfl rfl (Own.nil _ wr.heap.size _ _) rfl hown.reads (tx_one _) (by simp only [maxLen]; omega) (by omega) (Nat.le_refl _) ?_
               intro A6 c6 w6 hown6 ho6 hm6
               rw [Nat.zero_add, List.nil_append] at hown6
               have b6 : Below wr.heap.size wr w6 := ho6.below (fun a ha => by cases ha) (Nat.le_refl _)
               have hz6 := b6.size)
            | (at_builtin; refine wpList_app Tryd.elTexts rfl (.tmp 76) (.tmp 77) rfl rfl (by exact hown6.alloc _) rfl (reads_fresh w6 _ _ 1 2 _ rfl rfl) (by simp [Value.oneCell']) (by simp only [maxLen]; omega) (by omega) (by simp; omega) ?_
               intro A7 c7 w7 hown7 ho7 hm7
               have b7 : Below wr.heap.size wr w7 := b6.trans (ho7.of_alloc.below (fun a ha => (hown6.lt ha).1) hz6)
               have hz7 := b7.size
               have hown8 : Own w7 wr.heap.size 9 1 A7 (k + 1 + 2) c7 (txCells (tilS info :: l ++ [fiveS, endC])) := by simpa [txCells, fiveS, endC] using hown7
               have hp3 := parse_any w7.heap.size (tilS info :: l ++ [fiveS, endC]) A7 (k + 1 + 2) c7 w7 hown8.reads (Nat.le_refl _) HOK.out.1 (by omega) hown8.cap
               rw [HA.out] at hp3
               have HP3 := Lib.hid hp3
               clear hp3)
            | (go_at_call 17; refine HP4.out.mono ?_; rintro e w11 ⟨Ar, m4, cr, rfl, hm4, hO4, b11⟩)
            | (go_at_call 17; refine HP3.out.mono ?_; rintro e w9 ⟨Aq, m3, cq, rfl, hm3, hO3, b9⟩
               have b10 := b7.trans (b9.mono hz7)
               have hz10 := b10.size
               have hownq := hown.below b10 (Nat.le_refl _)
               have hp4 := parse_any w9.heap.size (tilS info :: l) A3 (k + 1) c3 w9 hownq.reads (Nat.le_refl _) HOK.out.2 (by omega) hownq.cap
               rw [HB.out] at hp4
               have HP4 := Lib.hid hp4
               clear hp4))
          have hO11 := hO3.below b11 (Nat.le_refl _)
          have hb11 := (hb.trans (b10.mono hzw)).trans (b11.mono (by omega))
          have hz11 := hb11.size
          have hm3' : m3 = 2 := hm3.symm
          have hm4' : m4 = 1 := hm4.symm
          subst hm3' hm4'
          obtain ⟨g, rfl, _, _⟩ := hO11.some_ (by omega)
          obtain ⟨g2, rfl, _, _⟩ := hO4.some_ (by omega)
          have hb12 := hb11.alloc hz11 (.cells #[.int .i64 6, .int .i64 0, .int .i64 0, .bool false, .string W, .string info] 28)
          have BX : Blk (w11.alloc (.cells #[.int .i64 6, .int .i64 0, .int .i64 0, .bool false, .string W, .string info] 28)) w11.heap.size 28 #[.int .i64 6, .int .i64 0, .int .i64 0, .bool false, .string W, .string info] := Blk.new _ _ _
          have hOa := hO11.alloc (.cells #[.int .i64 6, .int .i64 0, .int .i64 0, .bool false, .string W, .string info] 28)
          have hOb := hO4.alloc (.cells #[.int .i64 6, .int .i64 0, .int .i64 0, .bool false, .string W, .string info] 28)
          clear hO11 hO4 hO3 b11 b10 hown6 hown7 hown8 hownq hown b9 b7 b6 HP3 HP4 hm3 hm4
          go_upto_region 24 with fail
          generalize w11.alloc (.cells #[.int .i64 6, .int .i64 0, .int .i64 0, .bool false, .string W, .string info] 28) = w12 at *
          have e0 := BX.cell 0
          have e1 := BX.cell 1
          have e2 := BX.cell 2
          have e3 := BX.cell 3
          have e4 := BX.cell 4
          have e5 := BX.cell 5
          have k0 := hOa.cell (j := 0) rfl
          have k1 := hOa.cell (j := 1) rfl
          have k2 := hOa.cell (j := 2) rfl
          have k3 := hOa.cell (j := 3) rfl
          have k4 : w12.cell? ⟨g, 4, none⟩ = some (.string W) := by rw [← HWL.out.1]; exact hOa.cell (j := 4) rfl
          have k5 : w12.cell? ⟨g, 5, none⟩ = some (.string info) := by have := hOa.cell (j := 5) rfl; rwa [HWL.out.2] at this
          have k6 := hOa.cell (j := 6) rfl
          have k7 := hOa.cell (j := 7) rfl
          have k8 := hOa.cell (j := 8) rfl
          have k9 := hOa.cell (j := 9) rfl
          have k10 : w12.cell? ⟨g, 10, none⟩ = some (.string ⟨#[101, 110, 100]⟩) := hOa.cell (j := 10) rfl
          have k11 : w12.cell? ⟨g, 11, none⟩ = some (.string ⟨#[]⟩) := hOa.cell (j := 11) rfl
          have f0 := hOb.cell (j := 0) rfl
          have f1 := hOb.cell (j := 1) rfl
          have f2 := hOb.cell (j := 2) rfl
          have f3 := hOb.cell (j := 3) rfl
          have f4 : w12.cell? ⟨g2, 4, none⟩ = some (.string W) := by rw [← HWL.out.1]; exact hOb.cell (j := 4) rfl
          have f5 : w12.cell? ⟨g2, 5, none⟩ = some (.string info) := by have := hOb.cell (j := 5) rfl; rwa [HWL.out.2] at this
          clear hOa hOb BX
          go_quiet (fail)
          go_wp2_with fail
          go_ret
          exact ⟨rfl, below_drewN' hb12 _⟩
end Go.Proofs.YtommebalgghdjaaDoor
