/-
  bowdlerlaw9.BlockApart: its walk: it answers true, and turns nothing that was there.
-/
import Derived.Test.YtommebalgghdjaaDoorBlockStart
import Derived.Test.YtommebalgghdjaaDoorSameBlocks
import Derived.Test.YtommebalgghdjaaDoorBlockApartLaw
namespace Go.Proofs.YtommebalgghdjaaDoor
open Go.RowKit

theorem apart_bs {a b : List ByteArray} {x : BlockT} (hx : (parseT (a.map L)).getLast? = some x) (hs : Shut x) (hd : x.depth = 0) : parseT ((a ++ [(⟨#[]⟩ : ByteArray)] ++ b).map L) = parseT (a.map L) ++ parseT (b.map L) := by
  have := apart_p (a := a.map L) (b := b.map L) (fun y hy => by rw [hx] at hy; rw [← Option.some.inj hy]; exact ⟨hs, hd⟩)
  rw [List.append_assoc, List.map_append, List.map_append]
  exact this

set_option maxHeartbeats 6000000 in
set_option maxRecDepth 100000 in
theorem blockApart_walk (A : Option Addr) (n cap : Nat) (l : List ByteArray) (B : Option Addr) (n' cap' : Nat) (l' : List ByteArray) (w : World) (_ : Glb w) (hl : IsTexts w A n cap l) (hl' : IsTexts w B n' cap' l') :
    Calls Tryd.prog 12 #[.slice A n cap, .slice B n' cap'] w fun e w' => e = .returned (.bool true) ∧ Below w.heap.size w w' := by
  obtain ⟨hr, hnc, hcm, hz⟩ := hl
  obtain ⟨hr', hnc', hcm', hz'⟩ := hl'
  have hmax : maxLen = 9223372036854775807 := rfl
  have hln : l.length = n := by have := hr.1; simpa using this
  have hln' : l'.length = n' := by have := hr'.1; simpa using this
  have HPL := Lib.hid (plain_any A n cap w.heap.size l w hr (by omega) (fun x hx => by have := hz x hx; omega))
  have HPL' := Lib.hid (plain_any B n' cap' w.heap.size l' w hr' (by omega) (fun x hx => by have := hz' x hx; omega))
  cases hpt : plainT l
  · rw [hpt] at HPL
    go_enter Tryd.func12, Tryd.ntmps12
    go_wp2_with (first | (go_at_call 15; refine HPL.out.mono ?_; rintro e w0 ⟨rfl, hw0⟩; subst w0) | (go_at_call 16; refine (aliveB_any _).mono ?_; rintro e w1 ⟨rfl, b1⟩))
    go_ret
    exact ⟨rfl, b1⟩
  cases hpt' : plainT l'
  · rw [hpt] at HPL
    rw [hpt'] at HPL'
    go_enter Tryd.func12, Tryd.ntmps12
    go_wp2_with (first
      | (go_at_call_of 15 (Value.slice A n cap); refine HPL.out.mono ?_; rintro e w0 ⟨rfl, hw0⟩; subst w0)
      | (go_at_call 15; refine HPL'.out.mono ?_; rintro e w0 ⟨rfl, hw0⟩; subst w0)
      | (go_at_call 16; refine (aliveB_any _).mono ?_; rintro e w1 ⟨rfl, b1⟩))
    go_ret
    exact ⟨rfl, b1⟩
  rw [hpt] at HPL
  rw [hpt'] at HPL'
  obtain ⟨h40, hsz⟩ := plain_facts hpt
  obtain ⟨h40', hsz'⟩ := plain_facts hpt'
  have hn40 : n ≤ 40 := by omega
  have hn40' : n' ≤ 40 := by omega
  have HSZ := Lib.hid hsz
  have HSZ' := Lib.hid hsz'
  have hle : (parseT (l.map L)).length ≤ 1120 := by have := parse_len (l.map L); rw [List.length_map] at this; omega
  have hle' : (parseT (l'.map L)).length ≤ 1120 := by have := parse_len (l'.map L); rw [List.length_map] at this; omega
  have HLAW := Lib.hid (fun x => apart_bs (a := l) (b := l') (x := x))
  have HDEP := Lib.hid (allT_depth 14 0 (l.map L))
  clear hsz hsz' h40 h40' hz hz' hln hln' hpt hpt'
  change Hid (∀ b ∈ parseT (l.map L), ((0 : Nat) : Int) ≤ b.depth) at HDEP
  go_enter Tryd.func12, Tryd.ntmps12
  go_upto_region 3 with (first
      | (go_at_call_of 15 (Value.slice A n cap); refine HPL.out.mono ?_; rintro e w0 ⟨rfl, hw0⟩; subst w0)
      | (go_at_call 15; refine HPL'.out.mono ?_; rintro e w0 ⟨rfl, hw0⟩; subst w0)
      | (go_at_call 16; refine (aliveB_any _).mono ?_; rintro e w1 ⟨rfl, b1⟩))
  clear HPL HPL'
  have z1 := b1.size
  have HP1 := Lib.hid (parse_any w.heap.size l A n cap w1 (hr.below b1) z1 (lnOk_of fun x hx => by have := HSZ.out x hx; omega) (by omega) hnc)
  have HP2 := Lib.hid (fun W (hW : Below w.heap.size w W) => parse_any w.heap.size l' B n' cap' W (hr'.below hW) hW.size (lnOk_of fun x hx => by have := HSZ'.out x hx; omega) (by omega) hnc')
  generalize parseT (l.map L) = xs at *
  generalize parseT (l'.map L) = ys at *
  go_upto_region 4 with (first
    | (go_at_call_of 17 (Value.slice A n cap); refine HP1.out.mono ?_; rintro e w3 ⟨Ao, m, co, rfl, hm, hO, b3⟩; have hb3 := b1.trans (b3.mono z1))
    | (go_at_call 17; refine (HP2.out _ hb3).mono ?_; rintro e w4 ⟨Ap, m2, cp, rfl, hm2, hO2, b4⟩))
  have hz3 := hb3.size
  have hb4 := hb3.trans (b4.mono hz3)
  have hz4 := hb4.size
  have hO4 := hO.below b4 (Nat.le_refl _)
  have hms : m ≤ 1120 := by omega
  have hms2 : m2 ≤ 1120 := by omega
  have HM := Lib.hid hm
  have HM2 := Lib.hid hm2
  clear hO b3 b4 HP1 HP2 hm hm2 hle hle' hb3 hz3 b1
  by_cases hm0 : m = 0
  · subst hm0
    go_wp2_with fail
    go_ret
    exact ⟨rfl, hb4⟩
  by_cases hm20 : m2 = 0
  · subst hm20
    have q0 : ((m : Int) == 0) = false := by simp; omega
    go_wp2_with fail
    go_ret
    exact ⟨rfl, hb4⟩
  have q0 : ((m : Int) == 0) = false := by simp; omega
  have q2 : ((m2 : Int) == 0) = false := by simp; omega
  obtain ⟨j, hj⟩ : ∃ j, m = j + 1 := ⟨m - 1, by omega⟩
  obtain ⟨x, hx⟩ : ∃ x, xs[j]? = some x := ⟨_, List.getElem?_eq_getElem (by rw [HM.out]; omega)⟩
  have hxl : xs.getLast? = some x := by rw [List.getLast?_eq_getElem?, HM.out, hj, Nat.add_sub_cancel, hx]
  obtain ⟨ad, rfl, _, c0, c1, c2, c3, c4, c5⟩ := hO4.reads.blk hx (by omega)
  have hxd := HDEP.out x (List.mem_of_getElem? hx)
  have HXL := Lib.hid hxl
  have HJ := Lib.hid hj
  have x1 : IntKind.wrap .i64 ((m : Int) - 1) = (j : Int) := by rw [IntWalk.i64_in _ (by omega)]; omega
  have x3 : (j : Int) < (m : Int) := by omega
  have HO4 := Lib.hid hO4
  have HO2 := Lib.hid hO2
  clear hx hxl hj hO4 hO2
  have HSHUT := Lib.hid (fun (h1 : Shut x) (h2 : x.depth = 0) => HLAW.out x HXL.out h1 h2)
  obtain ⟨xk, xd, xn, xt, xs', xi⟩ := x
  simp only at c0 c1 c2 c3 c4 c5 hxd
  generalize S xs' = TX at *
  generalize S xi = TI at *
  have BX : Blk (w4.alloc (.cells #[.int .i64 xk, .int .i64 xd, .int .i64 xn, .bool xt, .string TX, .string TI] 28)) w4.heap.size 28 #[.int .i64 xk, .int .i64 xd, .int .i64 xn, .bool xt, .string TX, .string TI] := Blk.new _ _ _
  have hb5 := hb4.alloc hz4 (.cells #[.int .i64 xk, .int .i64 xd, .int .i64 xn, .bool xt, .string TX, .string TI] 28)
  have b5 : Below w4.heap.size w4 (w4.alloc (.cells #[.int .i64 xk, .int .i64 xd, .int .i64 xn, .bool xt, .string TX, .string TI] 28)) := (Below.refl _ _).alloc (Nat.le_refl _) _
  go_upto_region 7 with fail
  clear c0 c1 c2 c3 c4 c5 x1 x3 q0 q2
  have g0 : (w4.alloc (.cells #[.int .i64 xk, .int .i64 xd, .int .i64 xn, .bool xt, .string TX, .string TI] 28)).cell? ⟨w4.heap.size, 0, none⟩ = some (.int .i64 xk) := BX.cell 0
  have g1 : (w4.alloc (.cells #[.int .i64 xk, .int .i64 xd, .int .i64 xn, .bool xt, .string TX, .string TI] 28)).cell? ⟨w4.heap.size, 0 + 1, none⟩ = some (.int .i64 xd) := BX.cell 1
  generalize hgs : w4.heap.size = gs at *
  generalize w4.alloc (.cells #[.int .i64 xk, .int .i64 xd, .int .i64 xn, .bool xt, .string TX, .string TI] 28) = w5 at *
  clear BX
  have HGS := Lib.hid hgs
  clear hgs
  by_cases hd0 : 0 < xd
  · have q1 : decide ((0 : Int) < xd) = true := decide_eq_true hd0
    go_wp2_with fail
    go_ret
    exact ⟨rfl, hb5⟩
  have q1 : decide ((0 : Int) < xd) = false := decide_eq_false hd0
  have hxd0 : xd = 0 := by omega
  by_cases hsh : xk = 1 ∨ xk = 7 ∨ xk = 2 ∨ xk = 8
  · have hlaw := HSHUT.out (by unfold Shut; simp only; rcases hsh with h | h | h | h <;> simp [h]) hxd0
    have HL := Lib.hid hlaw
    have HXD := Lib.hid hxd0
    have HSH := Lib.hid hsh
    clear hlaw hxd0 hxd
    go_upto_region 7 with fail
    go_cut [62] (fun s62 wx => s62 = .bool false ∧ wx = w5)
    case first =>
      clear hsh
      rcases HSH.out with rfl | rfl | rfl | rfl
      all_goals
        go_wp2_with fail
        go_meet
        exact ⟨rfl, rfl⟩
    case rest =>
    obtain ⟨rfl, hwx⟩ := hcut
    rw [hwx]
    clear hwx hsh g0 g1 q1 hd0
    apply_assumption
    have hz5 := hb5.size
    have hO4 := HO4.out.below b5 (by rw [HGS.out]; exact Nat.le_refl _)
    have hO2 := HO2.out.below b5 (by rw [HGS.out]; exact Nat.le_refl _)
    have HOK : Hid (LnOk (l ++ [(⟨#[]⟩ : ByteArray)] ++ l')) := Lib.hid (lnOk_of (by
      intro y hy
      rcases List.mem_append.1 hy with hy | hy
      · rcases List.mem_append.1 hy with hy | hy
        · have := HSZ.out y hy; omega
        · rw [List.mem_singleton.1 hy]; decide
      · have := HSZ'.out y hy; omega))
    go_upto_region 10 with (first
      | (at_builtin; refine wpList_app Tryd.elTexts rfl (.const (.slice none 0 0)) (.tmp 63) rfl rfl (Own.nil _ w.heap.size _ _) rfl (hr.below hb5) (tx_one _) (by simp only [maxLen]; omega) (by omega) hz5 ?_
         intro A6 c6 w6 hown6 ho6 hm6
         rw [Nat.zero_add, List.nil_append] at hown6
         have hb6 := hb5.trans (ho6.below (fun a ha => by cases ha) hz5)
         have hz6 := hb6.size
         have b56 : Below w5.heap.size w5 w6 := ho6.below (fun a ha => by cases ha) (Nat.le_refl _))
      | (at_builtin; refine wpList_app1 Tryd.elTexts rfl (.tmp 64) (.tmp 65) rfl rfl (by exact hown6.alloc _) rfl (Blk.new' _ _ _ _ (by simp)) rfl (by simp [Value.oneCell']) (by simp only [maxLen]; omega) (by omega) (by simp; omega) ?_
         intro A7 c7 w7 hown7 ho7 hm7
         have hb7 := hb6.trans (ho7.of_alloc.below (fun a ha => (hown6.lt ha).1) hz6)
         have hz7 := hb7.size)
      | (at_builtin; refine wpList_app Tryd.elTexts rfl (.tmp 66) (.tmp 67) rfl rfl hown7 rfl (hr'.below hb7) (tx_one _) (by simp only [maxLen]; omega) (by omega) hz7 ?_
         intro A8 c8 w8 hown8 ho8 hm8
         have hb8 := hb7.trans (ho8.below (fun a ha => (hown7.lt ha).1) hz7)
         have hz8 := hb8.size
         have hown9 : Own w8 w.heap.size 9 1 A8 (n + 1 + n') c8 (txCells (l ++ [(⟨#[]⟩ : ByteArray)] ++ l')) := by simpa [txCells] using hown8
         have hO6 := (hO4.below b56 (Nat.le_refl _))
         have hO62 := (hO2.below b56 (Nat.le_refl _))
         have hO7 : Own w7 w1.heap.size 28 6 (some ad) m co (blkCells xs) := (hO6.alloc _).only ho7 (hO6.sep_ne hown6 (by decide))
         have hO72 : Own w7 w3.heap.size 28 6 Ap m2 cp (blkCells ys) := (hO62.alloc _).only ho7 (hO62.sep_ne hown6 (by decide))
         have hO8 : Own w8 w1.heap.size 28 6 (some ad) m co (blkCells xs) := hO7.only ho8 (hO7.sep_ne hown7 (by decide))
         have hO82 : Own w8 w3.heap.size 28 6 Ap m2 cp (blkCells ys) := hO72.only ho8 (hO72.sep_ne hown7 (by decide))
         have hp3 := parse_any w8.heap.size (l ++ [(⟨#[]⟩ : ByteArray)] ++ l') A8 (n + 1 + n') c8 w8 hown9.reads (Nat.le_refl _) HOK.out (by omega) hown9.cap
         rw [HL.out] at hp3
         have HP3 := Lib.hid hp3
         clear hp3)
      | (go_at_call 17; refine HP3.out.mono ?_; rintro e w9 ⟨Aq, m3, cq, rfl, hm3, hO3, b9⟩))
    have hb9 := hb8.trans (b9.mono hz8)
    have hz9 := hb9.size
    have hO9 := hO8.below b9 (Nat.le_refl _)
    have hO92 := hO82.below b9 (Nat.le_refl _)
    have hm3' : m3 = m + m2 := by rw [← hm3, List.length_append, HM.out, HM2.out]
    subst hm3'
    clear hO8 hO82 hO7 hO72 hO6 hO62 hO4 hO2 hown6 hown7 hown8 hown9 HP3 HOK hb8 b9 hz8 hb7 hz7 hb6 hz6 b56 hb5 hz5 b5 hm3
    go_wp2_with (first
      | (at_builtin; refine wpList_app Tryd.elBlocks rfl (.const (.slice none 0 0)) (.tmp 71) rfl rfl (Own.nil _ w9.heap.size _ _) rfl hO9.reads (blk_one _) (by simp only [maxLen]; omega) (by omega) (Nat.le_refl _) ?_
         intro A10 c10 w10 hown10 ho10 hm10
         rw [Nat.zero_add, List.nil_append] at hown10
         have b10 : Below w9.heap.size w9 w10 := ho10.below (fun a ha => by cases ha) (Nat.le_refl _)
         have hz10 := b10.size
         have hO102 := hO92.below b10 (Nat.le_refl _)
         have hO103 := hO3.below b10 (Nat.le_refl _))
      | (at_builtin; refine wpList_app Tryd.elBlocks rfl (.tmp 72) (.tmp 73) rfl rfl hown10 rfl hO102.reads (blk_one _) (by simp only [maxLen]; omega) (by omega) hz10 ?_
         intro A11 c11 w11 hown11 ho11 hm11
         have b11 : Below w9.heap.size w9 w11 := b10.trans (ho11.below (fun a ha => (hown10.lt ha).1) hz10)
         have hown12 : Own w11 w9.heap.size 28 6 A11 (m + m2) c11 (blkCells (xs ++ ys)) := by rw [blkCells_app]; simpa using hown11
         have hO113 := hO3.below b11 (Nat.le_refl _)
         have HSB := Lib.hid (sameBlocks_any Aq A11 (m + m2) (m + m2) cq c11 w11.heap.size (xs ++ ys) (xs ++ ys) w11 hO113.reads hown12.reads (by omega) (by omega))
         rw [decide_eq_true rfl] at HSB)
      | (go_at_call 19; refine HSB.out.mono ?_; rintro e w12 ⟨rfl, b12⟩))
    go_ret
    exact ⟨rfl, (hb9.trans (b11.mono hz9)).trans (b12.mono (by have := b11.size; omega))⟩
  · have k1 : (xk != 1) = true := by simp; omega
    have k2 : (xk != 7) = true := by simp; omega
    have k3 : (xk != 2) = true := by simp; omega
    have k4 : (xk != 8) = true := by simp; omega
    clear hsh
    go_wp2_with fail
    go_ret
    exact ⟨rfl, hb5⟩
end Go.Proofs.YtommebalgghdjaaDoor
