/-
  block: the contract of raw.
-/
import Derived.Test.YtommebalgghdjaaDoorBlockCode
import Derived.Test.YtommebalgghdjaaDoorOpenTexts
namespace Go.Proofs.YtommebalgghdjaaDoor
open Go.RowKit
set_option linter.unusedVariables false

def intAt (w : World) (p : Addr) : Nat := match w.cell? p with
  | some (.int _ v) => v.toNat
  | _ => 0
theorem PSt.intAt {w : World} {base g n c at_ depth : Nat} {A : Option Addr} {out : List BlockT} (h : PSt w base g A n c at_ depth out) : intAt w ⟨g, 1, none⟩ = at_ := by
  obtain ⟨_, _, Ao, co, hB, _⟩ := h
  unfold Go.Proofs.YtommebalgghdjaaDoor.intAt
  rw [show w.cell? ⟨g, 1, none⟩ = some (.int .i64 (at_ : Int)) from hB.cell 1]
  simp
theorem PSt.cells {w : World} {base g n c at_ depth : Nat} {A : Option Addr} {out : List BlockT} (h : PSt w base g A n c at_ depth out) :
    w.cell? ⟨g, 0, none⟩ = some (.slice A n c) ∧ w.cell? ⟨g, 0 + 1, none⟩ = some (.int .i64 (at_ : Int)) ∧ w.cell? ⟨g, 0 + 2, none⟩ = some (.int .i64 (depth : Int)) ∧ w.frozen? ⟨g, 0 + 1, none⟩ = false := by
  obtain ⟨_, _, Ao, co, hB, _⟩ := h
  exact ⟨hB.cell 0, hB.cell 1, hB.cell 2, hB.frozen 1⟩

/-- lines out of the middle -/
theorem Reads.mid {w : World} {K n c i k : Nat} {ad : Addr} {xs : List ByteArray} (h : Reads w K 1 (some ad) n (txCells xs)) (hi : i ≤ k) (hk : k ≤ n) (hc : n ≤ c) :
    Reads w K 1 (if c = i then some ad else some (ad.add i)) (k - i) (txCells ((xs.drop i).take (k - i))) := by
  have h1 := (h.suf (k := i) (cap := c) (by omega) hc).pre (k := k - i) (by omega)
  have e : (if c = i then some ad else (some ad).map (·.add i)) = (if c = i then some ad else some (ad.add i)) := by split <;> rfl
  rw [e] at h1
  rw [txCells, List.map_take, List.map_drop]
  exact h1
/-- a span of lines, as the loop finds its end -/
theorem span_take {p : Ln → Bool} {xs : List ByteArray} {i k : Nat} (hi : i ≤ k) (hk : k ≤ xs.length) (hall : ∀ j, i ≤ j → j < k → ∃ x, xs[j]? = some x ∧ p (L x) = true) (hend : ∀ x, xs[k]? = some x → p (L x) = false) :
    ((xs.map L).drop i).takeWhile p = ((xs.drop i).take (k - i)).map L ∧ (((xs.map L).drop i).takeWhile p).length = k - i := by
  have hsplit : (xs.map L).drop i = ((xs.drop i).take (k - i)).map L ++ (xs.drop k).map L := by
    rw [← List.map_append, ← List.map_drop]
    congr 1
    have := List.take_append_drop (k - i) (xs.drop i)
    rw [List.drop_drop, show i + (k - i) = k by omega] at this
    exact this.symm
  have hl : ((xs.drop i).take (k - i)).length = k - i := by rw [List.length_take, List.length_drop]; omega
  have h1 : ∀ x ∈ ((xs.drop i).take (k - i)).map L, p x = true := by
    intro y hy
    obtain ⟨x, hx, rfl⟩ := List.mem_map.1 hy
    obtain ⟨j, hj⟩ := List.mem_iff_getElem?.1 hx
    rw [List.getElem?_take] at hj
    split at hj
    · rw [List.getElem?_drop] at hj
      obtain ⟨x', hx', hp⟩ := hall (i + j) (by omega) (by omega)
      rw [hj] at hx'
      rw [Option.some.inj hx']; exact hp
    · cases hj
  have h2 : ((xs.drop k).map L).takeWhile p = [] := by
    rcases hd : xs[k]? with _ | x
    · rw [List.drop_eq_nil_of_le (List.getElem?_eq_none_iff.1 hd)]; rfl
    · obtain ⟨hkl, hx⟩ := List.getElem?_eq_some_iff.1 hd
      rw [List.drop_eq_getElem_cons hkl, hx, List.map_cons, List.takeWhile_cons, hend x hd]
      rfl
  have h3 : ((xs.map L).drop i).takeWhile p = ((xs.drop i).take (k - i)).map L := by
    rw [hsplit, List.takeWhile_append_of_pos h1, h2, List.append_nil]
  exact ⟨h3, by rw [h3, List.length_map, hl]⟩

set_option maxHeartbeats 2000000 in
set_option maxRecDepth 100000 in
theorem raw_any (K : Nat) (xs : List ByteArray) (base g : Nat) (A : Option Addr) (n c at_ depth : Nat) (out : List BlockT) (w : World) (h : PSt w base g A n c at_ depth out) (hN : out.length ≤ 1099511627776)
    (hr : Reads w K 1 A n (txCells xs)) (hK : K ≤ base) (hok : LnOk xs) (hn : n ≤ 1048576) (hat : at_ < n) (hnc : n ≤ c) :
    Calls Tryd.prog 53 #[.pointer (some ⟨g, 0, none⟩)] w
      fun e w' => e = .returned (.tuple #[]) ∧ PSt w' base g A n c (at_ + (((xs.map L).drop at_).takeWhile fun x => !blankT x).length) depth (out ++ [⟨8, depth, 0, false, joinT (((xs.map L).drop at_).takeWhile fun x => !blankT x), []⟩]) ∧ Below base w w' := by
  have hlen : xs.length = n := by have := hr.1; simpa using this
  have HL := Lib.hid hlen
  have HOK := Lib.hid hok
  clear hlen hok
  obtain ⟨e0, e1, e2, ef⟩ := h.cells
  go_enter Tryd.func53, Tryd.ntmps53
  go_wp2_with fail
  clear e0 e1 e2 ef
  go_loopw [7] (fun _ wr => ∃ k : Nat, at_ ≤ k ∧ k ≤ n ∧ (∀ j, at_ ≤ j → j < k → ∃ x, xs[j]? = some x ∧ blankT (L x) = false) ∧ PSt wr base g A n c k depth out ∧ Below base w wr) (fun _ wr => n - intAt wr ⟨g, 1, none⟩)
  case atStart => exact ⟨at_, Nat.le_refl _, Nat.le_of_lt hat, fun j h1 h2 => by omega, h, Below.refl _ _⟩
  case round =>
    obtain ⟨k, hk1, hk2, hall, hP, hb⟩ := hrel
    have HALL := Lib.hid hall
    clear hall
    have HM := Lib.hid hP.intAt
    obtain ⟨e0, e1, e2, ef⟩ := hP.cells
    have hgl := hP.lt
    by_cases hlt : k < n
    · obtain ⟨ad, u, rfl, had, hx0, hcx⟩ := (hr.below (hb.mono hK)).at_ hlt
      obtain ⟨x, hx, rfl⟩ : ∃ x, xs[k]? = some x ∧ Value.string x = u := by simpa using hx0
      have hxs := HOK.out.size x (List.mem_of_getElem? hx)
      have hadl : ad.block < wr.heap.size := by have := hP.size; omega
      have HX := Lib.hid hx
      have HBL := Lib.hid (fun W => blank_any x W (by omega))
      obtain ⟨v, hv⟩ : ∃ v, blankT (L x) = v := ⟨_, rfl⟩
      rw [hv] at HBL
      have HV := Lib.hid hv
      clear hx hx0 hv
      cases v
      · go_upto_region 1 with fail
        go_region_held3 (fun w' => w'.cell? ⟨g, 0, none⟩ = some (.slice (some ad) n c) ∧ w'.cell? ⟨g, 0 + 1, none⟩ = some (.int .i64 (k : Int)) ∧ w'.cell? (ad.add k) = some (.string x)) (go_keep)
          ((go_at_call 22; refine (HBL.out _).mono ?_; rintro e w1 ⟨rfl, b1⟩; have z0 := (b1.cell (p := ⟨g, 0, none⟩) hgl).trans e0; have z1 := (b1.cell (p := ⟨g, 0 + 1, none⟩) hgl).trans e1; have z2 := (b1.cell (p := ad.add k) (by rw [block_of_add]; exact hadl)).trans hcx))
        have hP1 := hP.below (below_of_drew b1) (Nat.le_refl _)
        have hb1 := hb.trans ((below_of_drew b1).mono hP.size)
        obtain ⟨hP2, hb2⟩ := hP1.goto_ (k + 1)
        obtain ⟨g0, g1, g2, gf⟩ := hP1.cells
        go_wp2_with fail
        go_roundw
        case rel =>
          refine ⟨k + 1, by omega, by omega, fun j h1 h2 => ?_, by simpa using hP2, by simpa using hb1.trans hb2⟩
          rcases Nat.lt_or_ge j k with h | h
          · exact HALL.out j h1 h
          · rw [show j = k by omega]; exact ⟨x, HX.out, HV.out⟩
        case measure =>
          have h1 := HM.out
          have h2 := hP2.intAt
          simp at h2 ⊢
          rw [h1]
          omega
      · go_upto_region 1 with fail
        go_region_held3 (fun w' => w'.cell? ⟨g, 0, none⟩ = some (.slice (some ad) n c) ∧ w'.cell? ⟨g, 0 + 1, none⟩ = some (.int .i64 (k : Int)) ∧ w'.cell? (ad.add k) = some (.string x)) (go_keep)
          ((go_at_call 22; refine (HBL.out _).mono ?_; rintro e w1 ⟨rfl, b1⟩; have z0 := (b1.cell (p := ⟨g, 0, none⟩) hgl).trans e0; have z1 := (b1.cell (p := ⟨g, 0 + 1, none⟩) hgl).trans e1; have z2 := (b1.cell (p := ad.add k) (by rw [block_of_add]; exact hadl)).trans hcx))
        have hP1 := hP.below (below_of_drew b1) (Nat.le_refl _)
        have hb1 := hb.trans ((below_of_drew b1).mono hP.size)
        have HEND : Hid (∀ x', xs[k]? = some x' → (!blankT (L x')) = false) := Lib.hid fun x' hx' => by rw [HX.out] at hx'; rw [← Option.some.inj hx', HV.out]; rfl
        have hrd := (hr.below (hb1.mono hK)).mid hk1 hk2 hnc
        have hsp := span_take (p := fun x => !blankT x) (xs := xs) hk1 (by rw [HL.out]; exact hk2) (fun j h1 h2 => by
          obtain ⟨x', hx', hv'⟩ := HALL.out j h1 h2
          exact ⟨x', hx', by rw [hv']; rfl⟩) HEND.out
        obtain ⟨hsp1, hsp2⟩ := hsp
        have hok2 : LnOk ((xs.drop at_).take (k - at_)) := fun x hx => HOK.out x (List.mem_of_mem_drop (List.mem_of_mem_take hx))
        have hjo := join_ok hok2 (by rw [List.length_take]; omega)
        have HGO : Hid (at_ + (((xs.map L).drop at_).takeWhile fun x => !blankT x).length = k) := Lib.hid (by rw [hsp2]; omega)
        have HJN := Lib.hid (fun W hW hKW => join_any (if c = at_ then some ad else some (ad.add at_)) (k - at_) (c - at_) K ((xs.drop at_).take (k - at_)) W (hrd.below hW) hKW hjo)
        rw [← hsp1] at HJN
        have HPUT := Lib.hid (fun W (hW : PSt W base g (some ad) n c k depth out) => put_any ⟨8, 0, 0, false, joinT (((xs.map L).drop at_).takeWhile fun x => !blankT x), []⟩ base g (some ad) n c k depth out W hW hN)
        clear hsp1 hsp2 hok2 hjo hrd
        obtain ⟨T, hTe⟩ : ∃ T, joinT (((xs.map L).drop at_).takeWhile fun x => !blankT x) = T := ⟨_, rfl⟩
        rw [hTe] at HJN HPUT
        have HTE := Lib.hid hTe
        clear hTe
        have q1 : (at_ : Int) ≤ (k : Int) := by omega
        have q2 : (k : Int) ≤ (c : Int) := by omega
        obtain ⟨g0, g1, g2, gf⟩ := hP1.cells
        have hKW : K ≤ w1.heap.size := by have := hP1.size; omega
        have hgl1 := hP1.lt
        have hT : (S ([] : List UInt8)) = ⟨#[]⟩ := rfl
        unfold BlockT.val at HPUT
        simp only [hT] at HPUT
        go_upto_region 3 with fail
        go_region_held3 (fun w' => w'.cell? ⟨g, 0, none⟩ = some (.slice (some ad) n c) ∧ w'.cell? ⟨g, 0 + 1, none⟩ = some (.int .i64 (k : Int))) (go_keep)
          ((first
            | (go_at_call 77; refine (HJN.out _ (Below.refl _ _).drew hKW).mono ?_; rintro e w2 ⟨rfl, b2⟩; have z0 := (b2.cell (p := ⟨g, 0, none⟩) hgl1).trans g0; have z1 := (b2.cell (p := ⟨g, 0 + 1, none⟩) hgl1).trans g1; have hP2 := hP1.below (below_of_drew b2) (Nat.le_refl _))
            | (go_at_call 46; refine (HPUT.out _ hP2).mono ?_; rintro e w3 ⟨rfl, hP3, b3, _⟩; obtain ⟨z2, z3, _, _⟩ := hP3.cells)))
        go_wp2_with fail
        go_end0
        rw [HGO.out, HTE.out]
        exact ⟨rfl, hP3, hb1.trans (((below_of_drew b2).mono hP1.size).trans b3)⟩
    · have HEND : Hid (∀ x', xs[k]? = some x' → (!blankT (L x')) = false) := Lib.hid fun x' hx' => by
        have := (List.getElem?_eq_some_iff.1 hx').1
        rw [HL.out] at this; omega
      obtain ⟨ad, rfl, _⟩ := hr.2 (by omega)
      go_upto_region 1 with fail
      go_quiet (fail)
      have hP1 := hP.drewN nq
      have hb1 := below_drewN' hb nq
      generalize wr.drewN nq = w1 at *
      have hrd := (hr.below (hb1.mono hK)).mid hk1 hk2 hnc
      have hsp := span_take (p := fun x => !blankT x) (xs := xs) hk1 (by rw [HL.out]; exact hk2) (fun j h1 h2 => by
        obtain ⟨x', hx', hv'⟩ := HALL.out j h1 h2
        exact ⟨x', hx', by rw [hv']; rfl⟩) HEND.out
      obtain ⟨hsp1, hsp2⟩ := hsp
      have hok2 : LnOk ((xs.drop at_).take (k - at_)) := fun x hx => HOK.out x (List.mem_of_mem_drop (List.mem_of_mem_take hx))
      have hjo := join_ok hok2 (by rw [List.length_take]; omega)
      have HGO : Hid (at_ + (((xs.map L).drop at_).takeWhile fun x => !blankT x).length = k) := Lib.hid (by rw [hsp2]; omega)
      have HJN := Lib.hid (fun W hW hKW => join_any (if c = at_ then some ad else some (ad.add at_)) (k - at_) (c - at_) K ((xs.drop at_).take (k - at_)) W (hrd.below hW) hKW hjo)
      rw [← hsp1] at HJN
      have HPUT := Lib.hid (fun W (hW : PSt W base g (some ad) n c k depth out) => put_any ⟨8, 0, 0, false, joinT (((xs.map L).drop at_).takeWhile fun x => !blankT x), []⟩ base g (some ad) n c k depth out W hW hN)
      clear hsp1 hsp2 hok2 hjo hrd
      obtain ⟨T, hTe⟩ : ∃ T, joinT (((xs.map L).drop at_).takeWhile fun x => !blankT x) = T := ⟨_, rfl⟩
      rw [hTe] at HJN HPUT
      have HTE := Lib.hid hTe
      clear hTe
      have q1 : (at_ : Int) ≤ (k : Int) := by omega
      have q2 : (k : Int) ≤ (c : Int) := by omega
      obtain ⟨g0, g1, g2, gf⟩ := hP1.cells
      have hKW : K ≤ w1.heap.size := by have := hP1.size; omega
      have hgl1 := hP1.lt
      have hT : (S ([] : List UInt8)) = ⟨#[]⟩ := rfl
      unfold BlockT.val at HPUT
      simp only [hT] at HPUT
      go_upto_region 3 with fail
      go_region_held3 (fun w' => w'.cell? ⟨g, 0, none⟩ = some (.slice (some ad) n c) ∧ w'.cell? ⟨g, 0 + 1, none⟩ = some (.int .i64 (k : Int))) (go_keep)
        ((first
          | (go_at_call 77; refine (HJN.out _ (Below.refl _ _).drew hKW).mono ?_; rintro e w2 ⟨rfl, b2⟩; have z0 := (b2.cell (p := ⟨g, 0, none⟩) hgl1).trans g0; have z1 := (b2.cell (p := ⟨g, 0 + 1, none⟩) hgl1).trans g1; have hP2 := hP1.below (below_of_drew b2) (Nat.le_refl _))
          | (go_at_call 46; refine (HPUT.out _ hP2).mono ?_; rintro e w3 ⟨rfl, hP3, b3, _⟩; obtain ⟨z2, z3, _, _⟩ := hP3.cells)))
      go_wp2_with fail
      go_end0
      rw [HGO.out, HTE.out]
      exact ⟨rfl, hP3, hb1.trans (((below_of_drew b2).mono hP1.size).trans b3)⟩
end Go.Proofs.YtommebalgghdjaaDoor
