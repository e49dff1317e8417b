/-
  block: the contract of fenced.
-/
import Derived.Test.YtommebalgghdjaaDoorBlockRaw
namespace Go.Proofs.YtommebalgghdjaaDoor
open Go.RowKit
set_option linter.unusedVariables false

set_option maxHeartbeats 2000000 in
set_option maxRecDepth 100000 in
theorem fenced_any (ch : UInt8) (q : Nat) (info : List UInt8) (cols : Nat) (hch : ch.toNat < 128) (hq : q ≤ 1048576) (hcols : cols ≤ 1073741824) (K : Nat) (xs : List ByteArray) (base g : Nat) (A : Option Addr) (n c at_ depth : Nat) (out : List BlockT) (w : World) (h : PSt w base g A n c at_ depth out) (hN : out.length ≤ 1099511627776)
    (hr : Reads w K 1 A n (txCells xs)) (hK : K ≤ base) (hok : LnOk xs) (hn : n ≤ 1048576) (hat : at_ ≤ n) (hn0 : 0 < n) (hnc : n ≤ c) :
    Calls Tryd.prog 45 #[.pointer (some ⟨g, 0, none⟩), .int .u8 (ch.toNat : Int), .int .i64 (q : Int), .string (S info), .int .i64 (cols : Int)] w
      fun e w' => e = .returned (.tuple #[]) ∧ PSt w' base g A n c (at_ + (((xs.map L).drop at_).takeWhile fun x => !closesT x ch (q : Int)).length + 1) depth (out ++ [codeB depth info (((xs.map L).drop at_).takeWhile fun x => !closesT x ch (q : Int)) cols]) ∧ Below base w w' := by
  have hlen : xs.length = n := by have := hr.1; simpa using this
  have HL := Lib.hid hlen
  have HOK := Lib.hid hok
  clear hlen hok
  obtain ⟨e0, e1, e2, ef⟩ := h.cells
  go_enter Tryd.func45, Tryd.ntmps45
  go_wp2_with fail
  clear e0 e1 e2 ef
  go_loopw [15] (fun _ wr => ∃ k : Nat, at_ ≤ k ∧ k ≤ n ∧ (∀ j, at_ ≤ j → j < k → ∃ x, xs[j]? = some x ∧ closesT (L x) ch (q : Int) = false) ∧ PSt wr base g A n c k depth out ∧ Below base w wr) (fun _ wr => n - intAt wr ⟨g, 1, none⟩)
  case atStart => exact ⟨at_, Nat.le_refl _, hat, fun j h1 h2 => by omega, h, Below.refl _ _⟩
  case round =>
    obtain ⟨k, hk1, hk2, hall, hP, hb⟩ := hrel
    have HALL := Lib.hid hall
    clear hall
    have HM := Lib.hid hP.intAt
    obtain ⟨e0, e1, e2, ef⟩ := hP.cells
    have hgl := hP.lt
    by_cases hlt : k < n
    · obtain ⟨ad, u, rfl, had, hx0, hcx⟩ := (hr.below (hb.mono hK)).at_ hlt
      obtain ⟨x, hx, rfl⟩ : ∃ x, xs[k]? = some x ∧ Value.string x = u := by simpa using hx0
      have hxs := HOK.out.size x (List.mem_of_getElem? hx)
      have hadl : ad.block < wr.heap.size := by have := hP.size; omega
      have HX := Lib.hid hx
      have HBL := Lib.hid (fun W => closes_any x ch (q : Int) W hxs hch (by omega))
      obtain ⟨v, hv⟩ : ∃ v, closesT (L x) ch (q : Int) = v := ⟨_, rfl⟩
      rw [hv] at HBL
      have HV := Lib.hid hv
      clear hx hx0 hv
      cases v
      · go_upto_region 1 with fail
        go_region_held3 (fun w' => w'.cell? ⟨g, 0, none⟩ = some (.slice (some ad) n c) ∧ w'.cell? ⟨g, 0 + 1, none⟩ = some (.int .i64 (k : Int)) ∧ w'.cell? (ad.add k) = some (.string x)) (go_keep)
          ((go_at_call 70; refine (HBL.out _).mono ?_; rintro e w1 ⟨rfl, b1⟩; have z0 := (b1.cell (p := ⟨g, 0, none⟩) hgl).trans e0; have z1 := (b1.cell (p := ⟨g, 0 + 1, none⟩) hgl).trans e1; have z2 := (b1.cell (p := ad.add k) (by rw [block_of_add]; exact hadl)).trans hcx))
        have hP1 := hP.below (below_of_drew b1) (Nat.le_refl _)
        have hb1 := hb.trans ((below_of_drew b1).mono hP.size)
        obtain ⟨hP2, hb2⟩ := hP1.goto_ (k + 1)
        obtain ⟨g0, g1, g2, gf⟩ := hP1.cells
        go_wp2_with fail
        go_roundw
        case rel =>
          refine ⟨k + 1, by omega, by omega, fun j h1 h2 => ?_, by simpa using hP2, by simpa using hb1.trans hb2⟩
          rcases Nat.lt_or_ge j k with h | h
          · exact HALL.out j h1 h
          · rw [show j = k by omega]; exact ⟨x, HX.out, HV.out⟩
        case measure =>
          have h1 := HM.out
          have h2 := hP2.intAt
          simp at h2 ⊢
          rw [h1]
          omega
      · go_upto_region 1 with fail
        go_region_held3 (fun w' => w'.cell? ⟨g, 0, none⟩ = some (.slice (some ad) n c) ∧ w'.cell? ⟨g, 0 + 1, none⟩ = some (.int .i64 (k : Int)) ∧ w'.cell? (ad.add k) = some (.string x)) (go_keep)
          ((go_at_call 70; refine (HBL.out _).mono ?_; rintro e w1 ⟨rfl, b1⟩; have z0 := (b1.cell (p := ⟨g, 0, none⟩) hgl).trans e0; have z1 := (b1.cell (p := ⟨g, 0 + 1, none⟩) hgl).trans e1; have z2 := (b1.cell (p := ad.add k) (by rw [block_of_add]; exact hadl)).trans hcx))
        have hP1 := hP.below (below_of_drew b1) (Nat.le_refl _)
        have hb1 := hb.trans ((below_of_drew b1).mono hP.size)
        have HEND : Hid (∀ x', xs[k]? = some x' → (!closesT (L x') ch (q : Int)) = false) := Lib.hid fun x' hx' => by rw [HX.out] at hx'; rw [← Option.some.inj hx', HV.out]; rfl
        have hrd := hk2
        have hsp := span_take (p := fun x => !closesT x ch (q : Int)) (xs := xs) hk1 (by rw [HL.out]; exact hk2) (fun j h1 h2 => by
          obtain ⟨x', hx', hv'⟩ := HALL.out j h1 h2
          exact ⟨x', hx', by rw [hv']; rfl⟩) HEND.out
        obtain ⟨hsp1, hsp2⟩ := hsp
        have hok2 : LnOk ((xs.drop at_).take (k - at_)) := fun x hx => HOK.out x (List.mem_of_mem_drop (List.mem_of_mem_take hx))
        have HGO : Hid (at_ + (((xs.map L).drop at_).takeWhile fun x => !closesT x ch (q : Int)).length = k) := Lib.hid (by rw [hsp2]; omega)
        have hcd := fun W (hW : Below K w W) (hKW : K ≤ W.heap.size) (hP : PSt W base g (some ad) n c k depth out) => code_any info cols (if c = at_ then some ad else some (ad.add at_)) (k - at_) (c - at_) K ((xs.drop at_).take (k - at_)) base g (some ad) n c k depth out W hP hN ((hr.below hW).mid hk1 hk2 hnc) hKW hok2 (by omega) hcols
        rw [← hsp1] at hcd
        have HCD := Lib.hid hcd
        clear hsp1 hsp2 hok2 hrd hcd
        obtain ⟨T, hTe⟩ : ∃ T, (((xs.map L).drop at_).takeWhile fun x => !closesT x ch (q : Int)) = T := ⟨_, rfl⟩
        rw [hTe] at HCD HGO
        have HTE := Lib.hid hTe
        clear hTe
        have q1 : (at_ : Int) ≤ (k : Int) := by omega
        have q2 : (k : Int) ≤ (c : Int) := by omega
        obtain ⟨g0, g1, g2, gf⟩ := hP1.cells
        have hKW : K ≤ w1.heap.size := by have := hP1.size; omega
        have hgl1 := hP1.lt
        go_upto_region 3 with fail
        go_region_held3 (fun w' => w'.cell? ⟨g, 0, none⟩ = some (.slice (some ad) n c) ∧ w'.cell? ⟨g, 0 + 1, none⟩ = some (.int .i64 (k : Int))) (go_keep)
          ((first
            | (go_at_call 69; refine (HCD.out _ (hb1.mono hK).drew hKW (hP1.drewN 1)).mono ?_; rintro e w3 ⟨rfl, hP3, b3⟩; obtain ⟨z2, z3, _, _⟩ := hP3.cells)))
        obtain ⟨z4, z5, _, z6⟩ := hP3.cells
        go_wp2_with fail
        go_end0
        rw [HTE.out, HGO.out]
        obtain ⟨hP4, b4⟩ := hP3.goto_ (k + 1)
        exact ⟨rfl, by simpa using hP4, by simpa using hb1.trans ((below_of_drew b3).trans b4)⟩
    · have HEND : Hid (∀ x', xs[k]? = some x' → (!closesT (L x') ch (q : Int)) = false) := Lib.hid fun x' hx' => by
        have := (List.getElem?_eq_some_iff.1 hx').1
        rw [HL.out] at this; omega
      obtain ⟨ad, rfl, _⟩ := hr.2 hn0
      go_upto_region 1 with fail
      go_quiet (fail)
      have hP1 := hP.drewN nq
      have hb1 := below_drewN' hb nq
      generalize wr.drewN nq = w1 at *
      have hrd := hk2
      have hsp := span_take (p := fun x => !closesT x ch (q : Int)) (xs := xs) hk1 (by rw [HL.out]; exact hk2) (fun j h1 h2 => by
        obtain ⟨x', hx', hv'⟩ := HALL.out j h1 h2
        exact ⟨x', hx', by rw [hv']; rfl⟩) HEND.out
      obtain ⟨hsp1, hsp2⟩ := hsp
      have hok2 : LnOk ((xs.drop at_).take (k - at_)) := fun x hx => HOK.out x (List.mem_of_mem_drop (List.mem_of_mem_take hx))
      have HGO : Hid (at_ + (((xs.map L).drop at_).takeWhile fun x => !closesT x ch (q : Int)).length = k) := Lib.hid (by rw [hsp2]; omega)
      have hcd := fun W (hW : Below K w W) (hKW : K ≤ W.heap.size) (hP : PSt W base g (some ad) n c k depth out) => code_any info cols (if c = at_ then some ad else some (ad.add at_)) (k - at_) (c - at_) K ((xs.drop at_).take (k - at_)) base g (some ad) n c k depth out W hP hN ((hr.below hW).mid hk1 hk2 hnc) hKW hok2 (by omega) hcols
      rw [← hsp1] at hcd
      have HCD := Lib.hid hcd
      clear hsp1 hsp2 hok2 hrd hcd
      obtain ⟨T, hTe⟩ : ∃ T, (((xs.map L).drop at_).takeWhile fun x => !closesT x ch (q : Int)) = T := ⟨_, rfl⟩
      rw [hTe] at HCD HGO
      have HTE := Lib.hid hTe
      clear hTe
      have q1 : (at_ : Int) ≤ (k : Int) := by omega
      have q2 : (k : Int) ≤ (c : Int) := by omega
      obtain ⟨g0, g1, g2, gf⟩ := hP1.cells
      have hKW : K ≤ w1.heap.size := by have := hP1.size; omega
      have hgl1 := hP1.lt
      by_cases hca : c = at_
      · subst hca
        rw [if_pos rfl, Nat.sub_self] at HCD
        go_upto_region 3 with fail
        go_still_tail 13, (by kernel_rfl)
        change wpList _ _ _ _ _ w1.drew
        go_upto_region 4 with (go_at_call 69; refine (HCD.out _ (hb1.mono hK).drew hKW (hP1.drewN 1)).mono ?_; rintro e w3 ⟨rfl, hP3, b3⟩)
        obtain ⟨z4, z5, _, z6⟩ := hP3.cells
        go_wp2_with fail
        go_end0
        rw [HTE.out, HGO.out]
        obtain ⟨hP4, b4⟩ := hP3.goto_ (k + 1)
        exact ⟨rfl, by simpa using hP4, by simpa using hb1.trans ((below_of_drew b3).trans b4)⟩
      · rw [if_neg hca] at HCD
        go_upto_region 3 with fail
        go_still_tail 13, (by kernel_rfl)
        change wpList _ _ _ _ _ w1.drew
        go_upto_region 4 with (go_at_call 69; refine (HCD.out _ (hb1.mono hK).drew hKW (hP1.drewN 1)).mono ?_; rintro e w3 ⟨rfl, hP3, b3⟩)
        obtain ⟨z4, z5, _, z6⟩ := hP3.cells
        go_wp2_with fail
        go_end0
        rw [HTE.out, HGO.out]
        obtain ⟨hP4, b4⟩ := hP3.goto_ (k + 1)
        exact ⟨rfl, by simpa using hP4, by simpa using hb1.trans ((below_of_drew b3).trans b4)⟩
end Go.Proofs.YtommebalgghdjaaDoor
