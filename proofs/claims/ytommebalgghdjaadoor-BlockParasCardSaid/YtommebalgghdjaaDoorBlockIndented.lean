/-
  block: the contract of indented.
-/
import Derived.Test.YtommebalgghdjaaDoorBlockFenced
namespace Go.Proofs.YtommebalgghdjaaDoor
open Go.RowKit
set_option linter.unusedVariables false

/-- without the blank lines at the end -/
def lastNB (q : List Ln) : List Ln := (q.reverse.dropWhile blankT).reverse
theorem lastNB_blank (q : List Ln) {x : Ln} (h : blankT x = true) : lastNB (q ++ [x]) = lastNB q := by
  unfold lastNB
  rw [List.reverse_append, List.reverse_singleton, List.singleton_append, List.dropWhile_cons, if_pos h]
theorem lastNB_word (q : List Ln) {x : Ln} (h : blankT x = false) : lastNB (q ++ [x]) = q ++ [x] := by
  unfold lastNB
  rw [List.reverse_append, List.reverse_singleton, List.singleton_append, List.dropWhile_cons, if_neg (by rw [h]; decide), List.reverse_cons, List.reverse_reverse]
theorem span_last {cols : Nat} {xs : List ByteArray} {i k : Nat} (hi : i ≤ k) (hk : k ≤ xs.length) (hall : ∀ j, i ≤ j → j < k → ∃ x, xs[j]? = some x ∧ wideT cols (L x) = true) (hend : ∀ x, xs[k]? = some x → wideT cols (L x) = false) :
    spanLines cols ((xs.map L).drop i) = lastNB (((xs.drop i).take (k - i)).map L) := by
  unfold spanLines lastNB
  rw [(span_take hi hk hall hend).1]
/-- one line more -/
theorem mid_snoc {xs : List ByteArray} {i k : Nat} {x : ByteArray} (hi : i ≤ k) (hx : xs[k]? = some x) : (xs.drop i).take (k + 1 - i) = (xs.drop i).take (k - i) ++ [x] := by
  rw [show k + 1 - i = k - i + 1 by omega, List.take_add_one, List.getElem?_drop, show i + (k - i) = k by omega, hx]
  rfl
theorem mid_len {xs : List ByteArray} {i k : Nat} (hi : i ≤ k) (hk : k ≤ xs.length) : ((xs.drop i).take (k - i)).length = k - i := by rw [List.length_take, List.length_drop]; omega

set_option maxHeartbeats 2000000 in
set_option maxRecDepth 100000 in
theorem indented_any (K : Nat) (xs : List ByteArray) (base g : Nat) (A : Option Addr) (n c at_ depth : Nat) (out : List BlockT) (w : World) (h : PSt w base g A n c at_ depth out) (hN : out.length ≤ 1099511627776)
    (hr : Reads w K 1 A n (txCells xs)) (hK : K ≤ base) (hok : LnOk xs) (hn : n ≤ 1048576) (hat : at_ < n) (hnc : n ≤ c) :
    Calls Tryd.prog 44 #[.pointer (some ⟨g, 0, none⟩)] w
      fun e w' => e = .returned (.tuple #[]) ∧ PSt w' base g A n c (at_ + (spanLines 4 ((xs.map L).drop at_)).length) depth (out ++ [codeB depth [] (spanLines 4 ((xs.map L).drop at_)) 4]) ∧ Below base w w' := by
  have hlen : xs.length = n := by have := hr.1; simpa using this
  have HL := Lib.hid hlen
  have HOK := Lib.hid hok
  have hbase := h.size
  clear hlen hok
  obtain ⟨ad, rfl, hadK, _⟩ := hr.2 (by omega)
  obtain ⟨e0, e1, e2, ef⟩ := h.cells
  go_enter Tryd.func44, Tryd.ntmps44
  go_wp2_with fail
  clear e0 e1 e2 ef
  go_loopw [2, 3] (fun s2 s3 wr => ∃ k e : Nat, at_ ≤ e ∧ e ≤ k ∧ k ≤ n ∧ s2 = .int .i64 e ∧ s3 = .int .i64 k ∧ (∀ j, at_ ≤ j → j < k → ∃ x, xs[j]? = some x ∧ wideT 4 (L x) = true) ∧
    lastNB (((xs.drop at_).take (k - at_)).map L) = ((xs.drop at_).take (e - at_)).map L ∧ Below w.heap.size w wr) (fun _ s3 _ => n - (intOf s3).toNat)
  case atStart => exact ⟨at_, at_, Nat.le_refl _, Nat.le_refl _, Nat.le_of_lt hat, rfl, rfl, fun j h1 h2 => by omega, by simp [lastNB], Below.refl _ _⟩
  case round =>
    obtain ⟨k, en, he1, he2, hk2, rfl, rfl, hall, hlast, hb⟩ := hrel
    have hk1 : at_ ≤ k := by omega
    have HALL := Lib.hid hall
    have HLAST := Lib.hid hlast
    clear hall hlast
    have hP := h.below hb (Nat.le_refl _)
    obtain ⟨e0, e1, e2, ef⟩ := hP.cells
    have hgl := hP.lt
    have hzw := hb.size
    by_cases hlt : k < n
    · obtain ⟨ad', u, had', _, hx0, hcx⟩ := (hr.below (hb.mono (by omega))).at_ hlt
      have had'' : ad = ad' := Option.some.inj had'
      subst had''
      obtain ⟨x, hx, rfl⟩ : ∃ x, xs[k]? = some x ∧ Value.string x = u := by simpa using hx0
      have hxs := HOK.out.size x (List.mem_of_getElem? hx)
      have hadl : ad.block < wr.heap.size := by omega
      have HX := Lib.hid hx
      have HSN := Lib.hid (mid_snoc hk1 hx)
      have HBL := Lib.hid (fun W => blank_any x W (by omega))
      have HIN := Lib.hid (fun W => indent_any x W hxs)
      obtain ⟨v, hv⟩ : ∃ v, blankT (L x) = v := ⟨_, rfl⟩
      rw [hv] at HBL
      have HV := Lib.hid hv
      clear hx hx0 hv had'
      cases v
      · by_cases hc4 : 4 ≤ colT 0 (L x)
        · have HW : Hid (wideT 4 (L x) = true) := Lib.hid (by unfold wideT; rw [decide_eq_true hc4, Bool.or_true])
          generalize colT 0 (L x) = cx at *
          go_wp2_with (first
            | (go_at_call 22; refine (HBL.out _).mono ?_; rintro e w3 ⟨rfl, b3⟩; have hb3 := hb2.trans (b3.mono hz2))
            | (go_at_call 22
               refine (HBL.out _).mono ?_
               rintro e w1 ⟨rfl, b1⟩
               have hb1 := hb.trans (b1.mono hzw)
               have hz1 := hb1.size
               have hP1 := h.below hb1 (Nat.le_refl _)
               obtain ⟨z0, z1, _, _⟩ := hP1.cells
               have hgl1 := hP1.lt
               have z2 := (b1.cell (p := ad.add k) (by rw [block_of_add]; exact hadl)).trans hcx)
            | (go_at_call 43
               refine (HIN.out _).mono ?_
               rintro e w2 ⟨rfl, b2⟩
               have hb2 := hb1.trans (b2.mono hz1)
               have hz2 := hb2.size
               have hP2 := h.below hb2 (Nat.le_refl _)
               obtain ⟨y0, y1, _, _⟩ := hP2.cells
               have hgl2 := hP2.lt
               have y2 := (b2.cell (p := ad.add k) (by rw [block_of_add]; omega)).trans z2))
          go_roundw
          case rel =>
            refine ⟨k + 1, k + 1, by omega, by omega, by omega, by go_num, by go_num, fun j h1 h2 => ?_, ?_, hb3⟩
            · rcases Nat.lt_or_ge j k with h | h
              · exact HALL.out j h1 h
              · rw [show j = k by omega]; exact ⟨x, HX.out, HW.out⟩
            · rw [HSN.out, List.map_append]
              rw [List.map_singleton, lastNB_word _ HV.out]
          case measure => simp [intOf]; omega
        · skip
          have HEND : Hid (∀ x', xs[k]? = some x' → wideT 4 (L x') = false) := Lib.hid fun x' hx' => by rw [HX.out] at hx'; rw [← Option.some.inj hx']; unfold wideT; rw [HV.out, decide_eq_false hc4]; rfl
          have hsp := span_last hk1 (by rw [HL.out]; exact hk2) HALL.out HEND.out
          rw [HLAST.out] at hsp
          have hok2 : LnOk ((xs.drop at_).take (en - at_)) := fun x hx => HOK.out x (List.mem_of_mem_drop (List.mem_of_mem_take hx))
          have hln : ((xs.drop at_).take (en - at_)).length = en - at_ := mid_len he1 (by rw [HL.out]; omega)
          have hcd := fun W (hW : Below w.heap.size w W) => code_any [] 4 (if c = at_ then some ad else some (ad.add at_)) (en - at_) (c - at_) K ((xs.drop at_).take (en - at_)) base g (some ad) n c at_ depth out W (h.below hW (Nat.le_refl _)) hN ((hr.below (hW.mono (by omega))).mid he1 (by omega) hnc) (by have := hW.size; omega) hok2 (by omega) (by omega)
          have HCD := Lib.hid hcd
          have HSPL : Hid (spanLines 4 ((xs.map L).drop at_) = ((xs.drop at_).take (en - at_)).map L) := Lib.hid hsp
          have HGO : Hid (at_ + (((xs.drop at_).take (en - at_)).map L).length = en) := Lib.hid (by rw [List.length_map, hln]; omega)
          have hT : (S ([] : List UInt8)) = ⟨#[]⟩ := rfl
          rw [hT, show ((4 : Nat) : Int) = 4 from rfl, if_neg (by omega : ¬ c = at_)] at HCD
          clear hsp hok2 hln hcd hT
          generalize ((xs.drop at_).take (en - at_)).map L = body at *
          have q1 : (at_ : Int) ≤ (en : Int) := by omega
          have q2 : (en : Int) ≤ (c : Int) := by omega
          have hnc4 : ¬ (4 : Int) ≤ (colT 0 (L x) : Int) := by omega
          generalize colT 0 (L x) = cx at *
          go_upto_region 6 with (first
            | (go_at_call 22
               refine (HBL.out _).mono ?_
               rintro e w1 ⟨rfl, b1⟩
               have hb1 := hb.trans (b1.mono hzw)
               have hz1 := hb1.size
               have hP1 := h.below hb1 (Nat.le_refl _)
               obtain ⟨z0, z1, _, _⟩ := hP1.cells
               have hgl1 := hP1.lt
               have z2 := (b1.cell (p := ad.add k) (by rw [block_of_add]; exact hadl)).trans hcx)
            | (go_at_call 43
               refine (HIN.out _).mono ?_
               rintro e w2 ⟨rfl, b2⟩
               have hb2 := hb1.trans (b2.mono hz1)
               have hz2 := hb2.size
               have hP2 := h.below hb2 (Nat.le_refl _)
               obtain ⟨y0, y1, _, _⟩ := hP2.cells
               have hgl2 := hP2.lt
               have y2 := (b2.cell (p := ad.add k) (by rw [block_of_add]; omega)).trans z2))
          go_still_tail 11, (by kernel_rfl)
          change wpList _ _ _ _ _ (World.drew w2)
          go_upto_region 7 with (go_at_call 69; refine (HCD.out _ (hb2.drew)).mono ?_; rintro e w5 ⟨rfl, hP5, b5⟩)
          obtain ⟨_, x1, _, x3⟩ := hP5.cells
          obtain ⟨hP6, b6⟩ := hP5.goto_ en
          go_wp2_with fail
          go_end0
          rw [HSPL.out, HGO.out]
          exact ⟨rfl, hP6, (Below.mono hb2.drew hbase).trans (b5.trans b6)⟩
      · skip
        have HW : Hid (wideT 4 (L x) = true) := Lib.hid (by unfold wideT; rw [HV.out]; rfl)
        go_wp2_with (first
          | (go_at_call 22; refine (HBL.out _).mono ?_; rintro e w3 ⟨rfl, b3⟩; have hb3 := hb1.trans (b3.mono hz1))
          | (go_at_call 22
             refine (HBL.out _).mono ?_
             rintro e w1 ⟨rfl, b1⟩
             have hb1 := hb.trans (b1.mono hzw)
             have hz1 := hb1.size
             have hP1 := h.below hb1 (Nat.le_refl _)
             obtain ⟨z0, z1, _, _⟩ := hP1.cells
             have hgl1 := hP1.lt
             have z2 := (b1.cell (p := ad.add k) (by rw [block_of_add]; exact hadl)).trans hcx))
        go_roundw
        case rel =>
          refine ⟨k + 1, en, by omega, by omega, by omega, by go_num, by go_num, fun j h1 h2 => ?_, ?_, hb3⟩
          · rcases Nat.lt_or_ge j k with h | h
            · exact HALL.out j h1 h
            · rw [show j = k by omega]; exact ⟨x, HX.out, HW.out⟩
          · rw [HSN.out, List.map_append]
            rw [List.map_singleton, lastNB_blank _ HV.out]; exact HLAST.out
        case measure => simp [intOf]; omega
    · skip
      have HEND : Hid (∀ x', xs[k]? = some x' → wideT 4 (L x') = false) := Lib.hid fun x' hx' => by have := (List.getElem?_eq_some_iff.1 hx').1; rw [HL.out] at this; omega
      have hsp := span_last hk1 (by rw [HL.out]; exact hk2) HALL.out HEND.out
      rw [HLAST.out] at hsp
      have hok2 : LnOk ((xs.drop at_).take (en - at_)) := fun x hx => HOK.out x (List.mem_of_mem_drop (List.mem_of_mem_take hx))
      have hln : ((xs.drop at_).take (en - at_)).length = en - at_ := mid_len he1 (by rw [HL.out]; omega)
      have hcd := fun W (hW : Below w.heap.size w W) => code_any [] 4 (if c = at_ then some ad else some (ad.add at_)) (en - at_) (c - at_) K ((xs.drop at_).take (en - at_)) base g (some ad) n c at_ depth out W (h.below hW (Nat.le_refl _)) hN ((hr.below (hW.mono (by omega))).mid he1 (by omega) hnc) (by have := hW.size; omega) hok2 (by omega) (by omega)
      have HCD := Lib.hid hcd
      have HSPL : Hid (spanLines 4 ((xs.map L).drop at_) = ((xs.drop at_).take (en - at_)).map L) := Lib.hid hsp
      have HGO : Hid (at_ + (((xs.drop at_).take (en - at_)).map L).length = en) := Lib.hid (by rw [List.length_map, hln]; omega)
      have hT : (S ([] : List UInt8)) = ⟨#[]⟩ := rfl
      rw [hT, show ((4 : Nat) : Int) = 4 from rfl, if_neg (by omega : ¬ c = at_)] at HCD
      clear hsp hok2 hln hcd hT
      generalize ((xs.drop at_).take (en - at_)).map L = body at *
      have q1 : (at_ : Int) ≤ (en : Int) := by omega
      have q2 : (en : Int) ≤ (c : Int) := by omega
      go_upto_region 6 with fail
      go_still_tail 11, (by kernel_rfl)
      change wpList _ _ _ _ _ (World.drew wr)
      go_upto_region 7 with (go_at_call 69; refine (HCD.out _ hb.drew).mono ?_; rintro e w5 ⟨rfl, hP5, b5⟩)
      obtain ⟨_, x1, _, x3⟩ := hP5.cells
      obtain ⟨hP6, b6⟩ := hP5.goto_ en
      go_wp2_with fail
      go_end0
      rw [HSPL.out, HGO.out]
      exact ⟨rfl, hP6, (Below.mono hb.drew hbase).trans (b5.trans b6)⟩
end Go.Proofs.YtommebalgghdjaaDoor
