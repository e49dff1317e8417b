/-
  bowdlerlaw14.EmphTells: its walk: it answers true, and turns nothing that was there.
-/
import Derived.Test.YtfdfpimilmhhoaaEmphLaw
namespace Go.Proofs.Ytfdfpimilmhhoaa
open Go.RowKit
set_option linter.unusedVariables false

set_option maxHeartbeats 8000000 in
set_option maxRecDepth 100000 in
theorem emphTells_walk (A : Option Addr) (m c : Nat) (its : List Pc) (B : Option Addr) (n d : Nat) (xs : List Inl) (w : World)
    (hw : Reads w w.heap.size 5 A m (its.flatMap itCells) ∧ ∀ x ∈ its, itemFit w x ∧ txtLen x.l + x.l.length ≤ 1048576)
    (hx : Reads w w.heap.size 5 B n (inlCells xs) ∧ (∀ x ∈ xs, inlWf x) ∧ txtLen xs + xs.length ≤ 1048576) :
    Calls Try.prog 5 #[.slice A m c, .slice B n d] w fun e w' => e = .returned (.bool true) ∧ Below w.heap.size w w' := by
  obtain ⟨hr, hfit⟩ := hw
  obtain ⟨hs, _, hsz⟩ := hx
  have hil : its.length = m := by have := hr.1; rw [items_length] at this; omega
  have hxl : xs.length = n := by have := hs.1; rw [inls_length] at this; omega
  by_cases hin : m ≤ 30 ∧ n ≤ 60
  · obtain ⟨h30, h60⟩ := hin
    have HIL := Lib.hid hil
    have HXL := Lib.hid hxl
    have HFT := Lib.hid hfit
    clear hil hxl hfit
    go_enter Try.func5, Try.ntmps5
    go_wp2_with fail
    refine (alive_any _).mono ?_
    rintro e w1 ⟨rfl, b1⟩
    have z1 := b1.size
    obtain ⟨G, hG⟩ : ∃ G, w1.heap.size = G := ⟨_, rfl⟩
    have hB2 : Blk (w1.alloc (.cells (lbkCells (.slice none 0 0) (.slice none 0 0)) 39)) w1.heap.size 39 (lbkCells (.slice none 0 0) (.slice none 0 0)) := Blk.new w1 _ _
    have b2 : Below w1.heap.size w1 (w1.alloc (.cells (lbkCells (.slice none 0 0) (.slice none 0 0)) 39)) := (Below.refl _ _).alloc (Nat.le_refl _) _
    have z2 : (w1.alloc (.cells (lbkCells (.slice none 0 0) (.slice none 0 0)) 39)).heap.size = G + 1 := by rw [← hG]; simp
    have hr2 := (hr.below b1).alloc z1 (.cells (lbkCells (.slice none 0 0) (.slice none 0 0)) 39)
    rw [hG] at hB2 b2
    have HG := Lib.hid hG
    go_upto_region 7 with (at_builtin; refine wpList_app Try.elIts rfl (.const (.slice none 0 0)) (.tmp 30) rfl rfl (Own.nil _ (G + 1) _ _) rfl (by exact hr2) (it_one _) (by simp only [maxLen]; omega) (by omega) (by exact Nat.le_of_eq z2.symm) ?_
                           intro Ai ci w3 hIn ho3 hm3
                           rw [Nat.zero_add, List.nil_append] at hIn)
    have b3 : Below (G + 1) _ w3 := ho3.below (fun a ha => by cases ha) (Nat.le_of_eq z2.symm)
    have hB3 := hB2.below b3 (Nat.lt_succ_self G)
    have bb3 : Below G w1 w3 := b2.trans (b3.mono (Nat.le_succ G))
    have z3 : G + 1 ≤ w3.heap.size := by have h1 := ho3.size; have h2 := z2; exact Nat.le_trans (Nat.le_of_eq h2.symm) h1
    have HR0 : Hid (TellR its G m 0 none 0 none 0 Ai ci its w1 w3) := Lib.hid ⟨by simp, hB3, Own.nil _ _ _ _, Own.nil _ _ _ _, hIn, rfl, fun i x y h => by omega, fun i _ => rfl, bb3, z3⟩
    clear hB2 b2 hr2 ho3 hm3 b3 hB3 bb3 z3 hIn z2 hG
    go_wp2_with fail
    go_loopw [5, 7, 34] (fun s5 s7 s34 wr => ∃ (k : Nat) (A5 : Option Addr) (c5 : Nat) (A7 : Option Addr) (c7 : Nat) (cur : List Pc), k ≤ m ∧ s34 = .int .i64 (k : Int) ∧ s5 = .slice A5 k c5 ∧ s7 = .slice A7 k c7 ∧ Hid (TellR its G m k A5 c5 A7 c7 Ai ci cur w1 wr)) (fun _ _ s34 _ => m - (intOf s34).toNat)
    case atStart => exact ⟨0, none, 0, none, 0, its, Nat.zero_le _, rfl, rfl, rfl, HR0⟩
    case round =>
      clear HR0
      obtain ⟨k, A5, c5, A7, c7, cur, hk, rfl, rfl, rfl, HR⟩ := hrel
      have hbk := HR.out.bel
      have hzk := HR.out.size
      have hbw : Below w.heap.size w wr := b1.trans (hbk.mono (by rw [← HG.out]; exact z1))
      by_cases hlt : k < m
      · obtain ⟨x, hx⟩ : ∃ x, its[k]? = some x := ⟨_, List.getElem?_eq_getElem (by rw [HIL.out]; exact hlt)⟩
        obtain ⟨⟨hwf, hxl, hxs, hxr, _⟩, hxz⟩ := HFT.out x (List.mem_of_getElem? hx)
        have hln : x.l.length = x.ln := by have := hxr.1; rw [inls_length] at this; omega
        have hcx : cur[k]? = some x := by rw [HR.out.rest k (Nat.le_refl _)]; exact hx
        obtain ⟨ad, rfl, hab, _, g0, g1, g2, g3, g4⟩ := (hr.below hbw).it hx
        have HX := Lib.hid hx
        have HCX := Lib.hid hcx
        have HXR := Lib.hid hxr
        have HLN := Lib.hid hln
        have hadl : ad.block < wr.heap.size := by have := hbw.size; omega
        have hadG : ad.block < G := by have := HG.out; omega
        clear hx hcx hxr hwf hln
        by_cases h20 : 20 < x.ln
        · go_wp2_with fail
          go_ret
          exact ⟨rfl, hbw⟩
        · by_cases h40 : 40 < x.n
          · go_wp2_with fail
            go_ret
            exact ⟨rfl, hbw⟩
          · have hr5 := HR.out.r
            go_upto_region 12 with fail
            go_region_held3 (fun w' => w'.cell? (ad.add (k * 5)) = some (.int .u8 (x.sign.toNat : Int)) ∧ w'.cell? ⟨(ad.add (k * 5)).block, (ad.add (k * 5)).off + 1, none⟩ = some (.int .i64 x.n) ∧ w'.cell? ⟨(ad.add (k * 5)).block, (ad.add (k * 5)).off + 2, none⟩ = some (.bool x.opn) ∧ w'.cell? ⟨(ad.add (k * 5)).block, (ad.add (k * 5)).off + 3, none⟩ = some (.bool x.cls) ∧ w'.cell? ⟨(ad.add (k * 5)).block, (ad.add (k * 5)).off + 4, none⟩ = some (.slice x.A x.ln x.cp)) (go_keep)
              ((refine step_app1 Try.elRis (by rfl) (.tmp 52) (.tmp 85) (by rfl) (by rfl) (by exact Own.drew (hr5.alloc _)) (by rfl) (Blk.new' _ _ _ _ (by simp)) (by rfl) (by simp [Value.oneCell']) (by simp only [maxLen]; omega) (by omega) (by simp; omega) ?_; intro A5' c5' w4 h5 ho5 hm5
                have bx : Below (G + 1) wr w4 := (((Below.refl _ _).alloc hzk _).drew).trans (ho5.below (fun a ha => (hr5.lt ha).1) (by simp; omega))
                have e0 := (bx.cell (p := ad.add (k * 5)) (by rw [block_of_add]; omega)).trans g0
                have e1 := (bx.cell (p := ⟨(ad.add (k * 5)).block, (ad.add (k * 5)).off + 1, none⟩) (by show (ad.add (k * 5)).block < _; rw [block_of_add]; omega)).trans g1
                have e2 := (bx.cell (p := ⟨(ad.add (k * 5)).block, (ad.add (k * 5)).off + 2, none⟩) (by show (ad.add (k * 5)).block < _; rw [block_of_add]; omega)).trans g2
                have e3 := (bx.cell (p := ⟨(ad.add (k * 5)).block, (ad.add (k * 5)).off + 3, none⟩) (by show (ad.add (k * 5)).block < _; rw [block_of_add]; omega)).trans g3
                have e4 := (bx.cell (p := ⟨(ad.add (k * 5)).block, (ad.add (k * 5)).off + 4, none⟩) (by show (ad.add (k * 5)).block < _; rw [block_of_add]; omega)).trans g4))
            obtain ⟨gi, rfl, hgi1, hgi2⟩ := HR.out.inn.some_ (by omega)
            have keep4 : ∀ {e size n c : Nat} {X : Option Addr} {ys : List Value}, e ≠ 56 → Own wr (G + 1) e size X n c ys → Own w4 (G + 1) e size X n c ys := fun he h => Own.only (Own.drew (h.alloc _)) ho5 (h.sep_ne hr5 he)
            have hIn4 := keep4 (by decide) HR.out.inn
            have hWas4 := keep4 (by decide) HR.out.was
            have hLt4 : ∀ i p y, i < k → its[i]? = some p → cur[i]? = some y → y.ln = p.ln ∧ Own w4 (G + 1) 95 5 y.A (p.ln + 1) y.cp (inlCells (p.l ++ [markL])) := fun i p y h1 h2 h3 => ⟨(HR.out.lent i p y h1 h2 h3).1, keep4 (by decide) (HR.out.lent i p y h1 h2 h3).2⟩
            have hBk4 : Blk w4 G 39 (lbkCells (.slice none 0 0) (.slice none 0 0)) := Blk.only (Blk.drew (HR.out.book.alloc _)) ho5 (hr5.blk_ne HR.out.book (by decide))
            have hr4 : Own w4 (G + 1) 56 9 A5' (k + 1) c5' (rlCells (its.take (k + 1))) := by
              have e : rlCells (its.take (k + 1)) = rlCells (its.take k) ++ [.int .u8 (x.sign.toNat : Int), .int .i64 (max x.n 0), .int .i64 x.n, .bool x.opn, .bool x.cls, .slice x.A x.ln x.cp, .string ⟨#[]⟩, .int .i64 0, .bool false] := by
                rw [rlCells, flat_next HX.out, riCells, hxl, hxs]
              rw [e]
              exact h5
            have hz4 := bx.size
            have HXR4 : Hid (Reads w4 w4.heap.size 5 x.A x.ln (inlCells x.l)) := Lib.hid ((HXR.out.below (hbw.trans (bx.mono (by have := HG.out; omega)))).more (by have := hbw.size; omega))
            have HT4 := Lib.hid hLt4
            have HB1 := Lib.hid bx
            clear keep4 hLt4 h5 ho5 hm5 hr5 bx
            go_upto_region 14 with (go_at_call 20; refine (lentInls_any x.A x.ln x.cp _ x.l w4 HXR4.out (by omega)).mono ?_; rintro e w5 ⟨B5, d5, rfl, hL5, b5⟩
                                    have hIn5 := hIn4.below b5 (Nat.le_refl _)
                                    have c4 := (hIn5.it HCX.out).2.2.2.2
                                    have f4 := hIn5.frozen (k * 5 + 4))
            have b45 := HB1.out.trans (b5.mono (show G + 1 ≤ w4.heap.size by omega))
            have hz5 := b5.size
            have hIn6 := hIn5.stored (k * 5 + 4) (.slice B5 x.ln d5)
            rw [flat_set itCells 5 it_len cur k 4 (by omega) (x' := { x with A := B5, cp := d5 }) (v := Value.slice B5 x.ln d5) HCX.out rfl] at hIn6
            have keep6 : ∀ {e size n c : Nat} {X : Option Addr} {ys : List Value}, e ≠ 54 → Own w5 (G + 1) e size X n c ys → Own (w5.setCell ⟨gi, k * 5 + 4, none⟩ (.slice B5 x.ln d5)) (G + 1) e size X n c ys := fun he h => h.only (only_setCell w5 gi (k * 5 + 4) _) (h.sep_ne hIn5 he)
            have hr6 := keep6 (by decide) (hr4.below b5 (Nat.le_refl _))
            have hWas6 := keep6 (by decide) (hWas4.below b5 (Nat.le_refl _))
            have hL6 := keep6 (by decide) (hL5.base_le (base' := G + 1) (by omega))
            have hLt6 : ∀ i p y, i < k → its[i]? = some p → cur[i]? = some y → y.ln = p.ln ∧ Own (w5.setCell ⟨gi, k * 5 + 4, none⟩ (.slice B5 x.ln d5)) (G + 1) 95 5 y.A (p.ln + 1) y.cp (inlCells (p.l ++ [markL])) := fun i p y h1 h2 h3 => ⟨(HT4.out i p y h1 h2 h3).1, keep6 (by decide) ((HT4.out i p y h1 h2 h3).2.below b5 (Nat.le_refl _))⟩
            have hBk6 := (hBk4.below b5 (by omega)).only (only_setCell w5 gi (k * 5 + 4) (.slice B5 x.ln d5)) (hIn5.blk_ne (hBk4.below b5 (by omega)) (by decide))
            have b46 := b45.setCell (p := ⟨gi, k * 5 + 4, none⟩) hgi1 (.slice B5 x.ln d5)
            have hz6 : G + 1 ≤ (w5.setCell ⟨gi, k * 5 + 4, none⟩ (.slice B5 x.ln d5)).heap.size := by simp [World.setCell]; omega
            have q4 := (b46.cell (p := ⟨(ad.add (k * 5)).block, (ad.add (k * 5)).off + 4, none⟩) (by show (ad.add (k * 5)).block < _; rw [block_of_add]; omega)).trans g4
            have HT6 := Lib.hid hLt6
            clear hLt6 keep6 hIn4 hWas4 hBk4 hr4 hL5 hIn5 c4 f4 b45 e0 e1 e2 e3 e4
            generalize w5.setCell ⟨gi, k * 5 + 4, none⟩ (.slice B5 x.ln d5) = w6 at *
            go_wp2_with (at_builtin; refine wpList_app1 Try.elInlss rfl (.tmp 97) (.tmp 103) rfl rfl (by exact hWas6.alloc _) rfl (Blk.new' _ _ _ _ (by simp)) rfl (by simp [Value.oneCell']) (by simp only [maxLen]; omega) (by omega) (by simp; omega) ?_
                         intro A7' c7' w7 h7 ho7 hm7)
            have keep7 : ∀ {e size n c : Nat} {X : Option Addr} {ys : List Value}, e ≠ 51 → Own w6 (G + 1) e size X n c ys → Own w7 (G + 1) e size X n c ys := fun he h => (h.alloc _).only ho7 (h.sep_ne hWas6 he)
            have bx7 : Below (G + 1) wr w7 := b46.trans (ho7.of_alloc.below (fun a ha => (hWas6.lt ha).1) hz6)
            have hz7 := ho7.of_alloc.size
            have HN : Hid (TellR its G m (k + 1) A5' c5' A7' c7' (some ⟨gi, 0, none⟩) ci (cur.set k { x with A := B5, cp := d5 }) w1 w7) := Lib.hid (by
              have hkc : k < cur.length := (List.getElem?_eq_some_iff.1 HCX.out).1
              refine ⟨small_go HR.out.small HX.out ⟨by omega, by omega⟩, (hBk6.alloc _).only ho7 (hWas6.blk_ne hBk6 (by decide)), keep7 (by decide) hr6, ?_, keep7 (by decide) hIn6, ?_, ?_, ?_, HR.out.bel.trans (bx7.mono (Nat.le_succ G)), by omega⟩
              · have e : wasCells (its.take (k + 1)) = wasCells (its.take k) ++ [.slice x.A x.ln x.cp] := by
                  unfold wasCells
                  rw [List.take_add_one, HX.out]; simp
                rw [e]
                exact h7
              · rw [List.map_set, HR.out.era_]
                apply List.ext_getElem?
                intro i
                rw [List.getElem?_set]
                split
                · rename_i hi
                  subst hi
                  rw [List.getElem?_map, HX.out, List.length_map, if_pos (List.getElem?_eq_some_iff.1 HX.out).1]
                  rfl
                · rfl
              · intro i p y h1 h2 h3
                rw [List.getElem?_set] at h3
                split at h3
                · rename_i hi
                  subst hi
                  try rw [if_pos hkc] at h3
                  injection h3 with h3
                  rw [HX.out] at h2
                  injection h2 with h2
                  subst h2
                  subst h3
                  exact ⟨rfl, keep7 (by decide) hL6⟩
                · rename_i hi
                  obtain ⟨p1, p2⟩ := HT6.out i p y (by omega) h2 h3
                  exact ⟨p1, keep7 (by decide) p2⟩
              · intro i hi
                rw [List.getElem?_set_ne (by omega)]
                exact HR.out.rest i (by omega))
            clear keep7
            go_roundw
            case rel => exact ⟨k + 1, A5', c5', A7', c7', _, by omega, by go_num, rfl, rfl, HN⟩
            case measure => simp [intOf]; omega
      · have hkm : k = m := by omega
        subst hkm
        have hz : its.take k = its := by rw [List.take_of_length_le (by rw [HIL.out]; omega)]
        have R := HR.out
        have hr5 := R.r
        have hwas := R.was
        have hsm := R.small
        rw [hz] at hr5 hwas hsm
        have hbook := R.book
        have hTK : TellK its cur G k A5 c5 Ai ci wr := ⟨hr5, R.inn, fun i x y h1 h2 => R.lent i x y (by have := (List.getElem?_eq_some_iff.1 h1).1; rw [HIL.out] at this; exact this) h1 h2⟩
        have HER := Lib.hid R.era_
        have HSM : Hid (∀ p ∈ its, Small p) := Lib.hid fun p hp => by
          obtain ⟨⟨_, h1, _, h2, _⟩, h3⟩ := HFT.out p hp
          have h4 := hsm p hp
          have h5 : p.l.length = p.ln := by have := h2.1; rw [inls_length] at this; omega
          exact ⟨h1, h4.2, by omega, by omega⟩
        have HSC : Hid (∀ p ∈ cur, Small p ∧ p.shut = false) := Lib.hid fun p hp => by
          obtain ⟨i, hi⟩ := List.getElem?_of_mem hp
          obtain ⟨x, hx, e1, e2, e3, e4⟩ := era_at HER.out hi
          obtain ⟨s1, s2, s3, s4⟩ := HSM.out x (List.mem_of_getElem? hx)
          have h6 := (HFT.out x (List.mem_of_getElem? hx)).1.2.2.1
          exact ⟨⟨by rw [e3, e1]; exact s1, by rw [e1]; exact s2, by rw [e2]; exact s3, by rw [e2]; exact s4⟩, by rw [e4]; exact h6⟩
        have hcl : cur.length = k := by have := congrArg List.length R.era_; simp only [List.length_map] at this; rw [this]; exact HIL.out
        have hge : groupT cur = groupT its := by rw [groupT_era cur, R.era_, ← groupT_era]
        obtain ⟨gt, hgt⟩ : ∃ gt, groupT its = gt := ⟨_, rfl⟩
        obtain ⟨gl, hgl⟩ : ∃ gl, gt.length = gl := ⟨_, rfl⟩
        have hgl4 : gl ≤ 4000 := by rw [← hgl, ← hgt]; exact group_len HSM.out (by rw [HIL.out]; omega)
        have HGR : Hid (∀ W, Below wr.heap.size wr W → Calls Try.prog 21 #[.slice Ai k ci] W fun e w' => ∃ A' c', e = .returned (.slice A' gl c') ∧ Own w' W.heap.size 95 5 A' gl c' (inlCells gt) ∧ Below W.heap.size W w') := Lib.hid fun W hW => by
          have hT := hTK.below hW
          have h := group_any Ai k ci cur W hT.inn.reads (fun p hp => by
            obtain ⟨i, hi⟩ := List.getElem?_of_mem hp
            obtain ⟨x, hx, e1, e2, e3, e4⟩ := era_at HER.out hi
            obtain ⟨q1, q2⟩ := hT.lent i x p hx hi
            have h2 : x.l.length = x.ln := by have := (HFT.out x (List.mem_of_getElem? hx)).1.2.2.2.1.1; rw [inls_length] at this; omega
            rw [e2, q1]
            exact q2.readsTakeL h2) (fun p hp => ⟨(HSC.out p hp).1.1, (HSC.out p hp).2⟩) (ginv_of (fun p hp => (HSC.out p hp).1) (by omega))
          rw [hge, hgt, hgl] at h
          exact h
        have HRG : Hid (∀ W, TellK its cur G k A5 c5 Ai ci W → Below G w1 W → Calls Try.prog 26 #[.slice A5 k c5] W fun e w' => ∃ A' c', e = .returned (.slice A' gl c') ∧ Own w' W.heap.size 95 5 A' gl c' (inlCells gt) ∧ Below W.heap.size W w') := Lib.hid fun W hT hW => by
          have hbW : Below w.heap.size w W := b1.trans (hW.mono (by rw [← HG.out]; exact z1))
          have h := refGroup_any A5 k c5 1152921504606846976 its W hT.r.reads (fun p hp => ((HFT.out p hp).1.2.2.2.1.below hbW).more hbW.size) (rinv_of HSM.out (by rw [HIL.out]; omega)) (Nat.le_refl _)
          rw [hgt, hgl] at h
          exact h
        have HGL := Lib.hid hgl
        have HCL := Lib.hid hcl
        have HZ := Lib.hid hz
        clear hz R hr5 hsm HR hge hgt hgl hcl hlt hbw
        go_wp2_with fail
        refine (HGR.out wr (Below.refl _ _)).mono ?_
        rintro e w4 ⟨A4, c4, rfl, hO4, b4⟩
        have z4 := b4.size
        go_wp2_with fail
        refine (HGR.out w4 b4).mono ?_
        rintro e w5 ⟨A5b, c5b, rfl, hO5, b5⟩
        have z5 := b5.size
        have hS45 : Sep A4 A5b := fun p q hp hq => by have h1 := (hO4.lt hp).2; have h2 := (hO5.lt hq).1; omega
        have b45 := b4.trans (b5.mono z4)
        have hO45 := (hO4.below b5 (Nat.le_refl _)).base_le (base' := G) (by omega)
        have hO55 := hO5.base_le (base' := G) (by omega)
        have hK5 := hTK.below b45
        have hwas5 := hwas.below b45 (Nat.le_refl _)
        have hb5 : LBx w5 G G [] [] A7 := ⟨Nat.le_refl _, none, 0, none, 0, hbook.below b45 (by omega), Own.nil _ _ _ _, Own.nil _ _ _ _, Sep.none_l, Sep.none_l, Sep.none_l⟩
        have bb5 : Below G w1 w5 := hbk.trans (b45.mono (by omega))
        clear hO4 hO5 b4 b5 b45 hTK hwas hbook hbk HGR
        go_wp2_with fail
        refine (inlsX_any w5 G G [] [] A7 (G + 1) k c7 (wasCells its) A4 gl c4 gt hb5 hwas5 (by decide) (by decide) hO45 (by omega) (by omega)).mono ?_
        rintro e w6 ⟨rfl, A6, c6, hb6, hwas6, k6, hO6, b6, z6⟩
        have hK6 := hK5.any k6
        have hO46 := k6 _ _ _ _ _ _ _ (by decide) (by decide) hO45
        have hO56 := k6 _ _ _ _ _ _ _ (by decide) (by decide) hO55
        have bb6 := bb5.trans b6
        clear hb5 hwas5 hK5 hO45 hO55 k6 b6 bb5
        go_wp2_with fail
        refine (inlsX_any w6 G G _ _ A7 (G + 1) k c7 (wasCells its) A5b gl c5b gt hb6 hwas6 (by simp) (by simp) hO56 (by omega) (by omega)).mono ?_
        rintro e w7 ⟨rfl, A8, c8, hb7, hwas7, k7, hO7, b7, z7⟩
        have hK7 := hK6.any k7
        have hO47 := k7 _ _ _ _ _ _ _ (by decide) (by decide) hO46
        have hO57 := k7 _ _ _ _ _ _ _ (by decide) (by decide) hO56
        have hO67 := k7 _ _ _ _ _ _ _ (by decide) (by decide) hO6
        have bb7 := bb6.trans b7
        have hbw7 : Below w.heap.size w w7 := b1.trans (bb7.mono (by rw [← HG.out]; exact z1))
        clear hb6 hwas6 hK6 hO46 hO56 hO6 k7 b7 bb6
        go_wp2_with fail
        go_loopw [118] (fun s118 wr => ∃ (i q : Nat), i ≤ k ∧ s118 = .int .i64 (i : Int) ∧ wr = w7.drewN q) (fun s118 _ => k - (intOf s118).toNat)
        case atStart => exact ⟨0, 0, Nat.zero_le _, rfl, rfl⟩
        case round =>
          obtain ⟨i, q, hi, rfl, rfl⟩ := hrel
          by_cases hlt2 : i < k
          · obtain ⟨y, hy⟩ : ∃ y, cur[i]? = some y := ⟨_, List.getElem?_eq_getElem (by rw [HCL.out]; exact hlt2)⟩
            obtain ⟨x, hx, e1, e2, _, _⟩ := era_at HER.out hy
            obtain ⟨q1, q2⟩ := hK7.lent i x y hx hy
            obtain ⟨gi, hgi, _, _⟩ := hK7.inn.some_ (by omega)
            subst hgi
            obtain ⟨gw, hgw, _, _⟩ := hwas7.some_ (by omega)
            subst hgw
            obtain ⟨_, s1, _, _, s4⟩ := hK7.inn.it hy
            rw [q1] at s4
            rw [e1] at s1
            have sw : w7.cell? ⟨gw, i, none⟩ = some (.slice x.A x.ln x.cp) := hwas7.cell (by unfold wasCells; rw [List.getElem?_map, hx]; rfl)
            obtain ⟨ad, rfl, _, _, g0, g1, g2, g3, g4⟩ := (hr.below hbw7).it hx
            have hxr := (HFT.out x (List.mem_of_getElem? hx)).1.2.2.2.1
            have hln := hxr.1
            rw [inls_length] at hln
            obtain ⟨wq, hwq⟩ : ∃ wq, w7.drewN q = wq := ⟨_, rfl⟩
            have HSI : Hid (∀ mm, Calls Try.prog 23 #[.slice y.A x.ln y.cp, .slice x.A x.ln x.cp] (wq.drewN mm) fun e w' => e = .returned (.bool true) ∧ ∃ m, w' = (wq.drewN mm).drewN m) := Lib.hid fun mm => by
              rw [← hwq]
              exact staysInls_any y.A x.A x.ln y.cp x.cp w.heap.size (G + 1) x.l ((w7.drewN q).drewN mm) ((q2.drewN q).drewN mm) (((hxr.below hbw7).drewN q).drewN mm) (by have := (HSM.out x (List.mem_of_getElem? hx)).2.2.1; omega)
            have s1' : wq.cell? ⟨gi, i * 5 + 1, none⟩ = some (.int .i64 x.n) := by rw [← hwq]; exact s1
            have s4' : wq.cell? ⟨gi, i * 5 + 4, none⟩ = some (.slice y.A x.ln y.cp) := by rw [← hwq]; exact s4
            have sw' : wq.cell? ⟨gw, i, none⟩ = some (.slice x.A x.ln x.cp) := by rw [← hwq]; exact sw
            have g1' : wq.cell? ⟨(ad.add (i * 5)).block, (ad.add (i * 5)).off + 1, none⟩ = some (.int .i64 x.n) := by rw [← hwq]; exact g1
            rw [hwq]
            have HWQ := Lib.hid hwq
            clear hx hy q2 hxr hln e2 g0 g1 g2 g3 g4 e1 s1 s4 sw hwq q1
            go_upto_region 22 with fail
            go_quiet ((go_at_call 23; exact Calls.quiet_of (HSI.out _)))
            go_wp2_with fail
            go_roundw
            case rel => exact ⟨i + 1, q + nq, by omega, by go_num, by rw [← HWQ.out]; exact World.drewN_drewN _ _ _⟩
            case measure => simp [intOf]; omega
          · have hbq : Below w7.heap.size w7 (w7.drewN q) := below_drewN' (Below.refl _ _) q
            have hb8 := hb7.below hbq (Nat.le_refl _)
            have hK8 := hK7.below hbq
            have hwas8 := hwas7.drewN q
            have hO48 := hO47.drewN q
            have hO58 := hO57.drewN q
            have hO68 := hO67.drewN q
            have hO78 := hO7.drewN q
            have bb8 : Below G w1 (w7.drewN q) := below_drewN' bb7 q
            have z8 : w7.heap.size ≤ (w7.drewN q).heap.size := hbq.size
            have z8' : (w7.drewN q).heap.size = w7.heap.size := rfl
            clear hb7 hK7 hwas7 hO47 hO57 hO67 hO7 bb7 hbw7 hbq
            generalize w7.drewN q = w8 at *
            have hbw8 : Below w.heap.size w w8 := b1.trans (bb8.mono (by rw [← HG.out]; exact z1))
            go_wp2_with fail
            refine (lentInls_any B n d w.heap.size xs w8 (hs.below hbw8) (by omega)).mono ?_
            rintro e w9 ⟨Am, cm, rfl, hM9, b9⟩
            have z9 := b9.size
            have bb9 : Below G w1 w9 := bb8.trans (b9.mono (by omega))
            obtain ⟨mt, hmt⟩ : ∃ mt, mergeT xs = mt := ⟨_, rfl⟩
            obtain ⟨ml, hml⟩ : ∃ ml, mt.length = ml := ⟨_, rfl⟩
            have hmln : ml ≤ n := by rw [← hml, ← hmt, ← HXL.out]; exact mergeT_len xs
            have HMG : Hid (∀ W (A' : Option Addr) (c' : Nat), Reads W W.heap.size 5 A' n (inlCells xs) → Calls Try.prog 24 #[.slice A' n c'] W fun e w' => ∃ A2 c2, e = .returned (.slice A2 ml c2) ∧ Own w' W.heap.size 95 5 A2 ml c2 (inlCells mt) ∧ Below W.heap.size W w') := Lib.hid fun W A' c' h => by
              have h2 := merge_any A' n c' xs W h (by omega) (by omega)
              rw [hmt, hml] at h2
              exact h2
            have HRM : Hid (∀ W (A' : Option Addr) (c' : Nat), Reads W W.heap.size 5 A' n (inlCells xs) → Calls Try.prog 27 #[.slice A' n c'] W fun e w' => ∃ A2 c2, e = .returned (.slice A2 ml c2) ∧ Own w' W.heap.size 95 5 A2 ml c2 (inlCells mt) ∧ Below W.heap.size W w') := Lib.hid fun W A' c' h => by
              have h2 := refMerge_any A' n c' xs W h (by omega) (by omega)
              rw [hmt, hml] at h2
              exact h2
            have HML := Lib.hid hml
            clear hmt hml
            go_wp2_with fail
            refine (HMG.out w9 Am cm (hM9.readsTakeL HXL.out)).mono ?_
            rintro e w10 ⟨Ac, cc, rfl, hC10, b10⟩
            have z10 := b10.size
            have b810 := b9.trans (b10.mono z9)
            have bb10 : Below G w1 w10 := bb9.trans (b10.mono (by omega))
            have hM10 := hM9.below b10 (Nat.le_refl _)
            have hb10 := hb8.below b810 (Nat.le_refl _)
            have hK10 := hK8.below b810
            have hwas10 := hwas8.below b810 (Nat.le_refl _)
            have hO410 := hO48.below b810 (Nat.le_refl _)
            have hO510 := hO58.below b810 (Nat.le_refl _)
            have hO610 := hO68.below b810 (by omega)
            have hO710 := hO78.below b810 (by omega)
            have hS4C : Sep A4 Ac := fun p q hp hq => by have h1 := (hO48.lt hp).2; have h2 := (hC10.lt hq).1; omega
            have hS5C : Sep A5b Ac := fun p q hp hq => by have h1 := (hO58.lt hp).2; have h2 := (hC10.lt hq).1; omega
            have hC10' := hC10.base_le (base' := G) (by omega)
            clear hM9 hC10 b10 b9 hb8 hK8 hwas8 hO48 hO58 hO68 hO78 b810 bb9 bb8 HMG
            go_wp2_with fail
            refine (inlsX_any w10 G G _ _ A7 (G + 1) k c7 (wasCells its) Ac ml cc mt hb10 hwas10 (by simp) (by simp) hC10' (by omega) (by omega)).mono ?_
            rintro e w11 ⟨rfl, A9, c9, hb11, _, k11, hO911, b11, z11⟩
            have hK11 := hK10.any k11
            have hM11 := k11 _ _ _ _ _ _ _ (by decide) (by decide) hM10
            have hO411 := k11 _ _ _ _ _ _ _ (by decide) (by decide) hO410
            have hO511 := k11 _ _ _ _ _ _ _ (by decide) (by decide) hO510
            have hO611 := k11 _ _ _ _ _ _ _ (by decide) (by decide) hO610
            have hO711 := k11 _ _ _ _ _ _ _ (by decide) (by decide) hO710
            have hC11 := k11 _ _ _ _ _ _ _ (by decide) (by decide) hC10'
            have bb11 : Below G w1 w11 := bb10.trans b11
            have hT11 : LRows w11 G [⟨A4, c4, gt⟩, ⟨A5b, c5b, gt⟩, ⟨Ac, cc, mt⟩] := by
              refine ⟨?_, ?_⟩
              · intro r hr
                simp only [List.mem_cons, List.not_mem_nil, or_false] at hr
                rcases hr with rfl | rfl | rfl
                · rw [HGL.out]; exact hO411
                · rw [HGL.out]; exact hO511
                · rw [HML.out]; exact hC11
              · simp only [List.pairwise_cons, List.mem_cons, List.not_mem_nil, or_false, forall_eq_or_imp, forall_eq, List.Pairwise.nil, and_true, false_implies, implies_true]
                exact ⟨⟨hS45, hS4C⟩, hS5C⟩
            have hB11 : LBk w11 G G [⟨A4, c4, gt⟩, ⟨A5b, c5b, gt⟩, ⟨Ac, cc, mt⟩] [⟨A6, c6, gt⟩, ⟨A8, c8, gt⟩, ⟨A9, c9, mt⟩] := hb11.book
            clear hb10 hwas10 hK10 hM10 hO410 hO510 hO610 hO710 hC10' k11 b11 bb10 hb11 hS4C hS5C hS45
            have HST : Hid (∀ W, Below w11.heap.size w11 W → LBk W G G [⟨A4, c4, gt⟩, ⟨A5b, c5b, gt⟩, ⟨Ac, cc, mt⟩] [⟨A6, c6, gt⟩, ⟨A8, c8, gt⟩, ⟨A9, c9, mt⟩] ∧ LRows W G [⟨A4, c4, gt⟩, ⟨A5b, c5b, gt⟩, ⟨Ac, cc, mt⟩] ∧
                TellK its cur G k A5 c5 Ai ci W ∧ Below G w1 W ∧ Own W w8.heap.size 95 5 Am (n + 1) cm (inlCells (xs ++ [markL])) ∧ Reads W W.heap.size 5 B n (inlCells xs) ∧
                (Reads W W.heap.size 5 A4 gl (inlCells gt) ∧ Reads W W.heap.size 5 A5b gl (inlCells gt) ∧ Reads W W.heap.size 5 A6 gl (inlCells gt) ∧ Reads W W.heap.size 5 A8 gl (inlCells gt)) ∧ (Reads W W.heap.size 5 Ac ml (inlCells mt) ∧ Reads W W.heap.size 5 A9 ml (inlCells mt))) := Lib.hid fun W hW => by
              have hbW : Below G w1 W := bb11.trans (hW.mono (by omega))
              have hl : ∀ (A : Option Addr) b n c ys, Own w11 b 95 5 A n c (inlCells ys) → Reads W W.heap.size 5 A n (inlCells ys) := fun A b n c ys h => (h.below hW (Nat.le_refl _)).reads
              have hww : Below w.heap.size w W := b1.trans (hbW.mono (by rw [← HG.out]; exact z1))
              exact ⟨hB11.below hW (Nat.le_refl _), hT11.below hW (Nat.le_refl _), hK11.below hW, hbW, hM11.below hW (Nat.le_refl _), (hs.below hww).more hww.size, ⟨hl _ _ _ _ _ hO411, hl _ _ _ _ _ hO511, hl _ _ _ _ _ hO611, hl _ _ _ _ _ hO711⟩, hl _ _ _ _ _ hC11, hl _ _ _ _ _ hO911⟩
            clear hB11 hT11 hK11 hM11 hO411 hO511 hO611 hO711 hC11 hO911
            obtain ⟨_, _, tk, bg, _, _, _, _⟩ := HST.out w11 (Below.refl _ _)
            go_wp2_with fail
            refine (HRG.out w11 tk bg).mono ?_
            rintro e w12 ⟨A12, c12, rfl, hO12, b12⟩
            have z12 := b12.size
            have r12 := hO12.reads
            clear tk bg
            obtain ⟨_, _, _, _, _, _, ⟨r4, _, _, _⟩, _⟩ := HST.out w12 b12
            go_wp2_with fail
            refine (sameInls_true A4 A12 gl c4 c12 w12.heap.size gt w12 r4 r12 (by omega)).mono ?_
            rintro e w13 ⟨rfl, m13, hw13⟩
            have b13 : Below w11.heap.size w11 w13 := by rw [hw13]; exact below_drewN' b12 m13
            have z13 := b13.size
            clear hw13 r4 r12 hO12 b12
            obtain ⟨_, _, _, _, _, _, ⟨r4, r5, _, _⟩, _⟩ := HST.out w13 b13
            go_wp2_with fail
            refine (sameInls_true A4 A5b gl c4 c5b w13.heap.size gt w13 r4 r5 (by omega)).mono ?_
            rintro e w14 ⟨rfl, m14, hw14⟩
            have b14 : Below w11.heap.size w11 w14 := by rw [hw14]; exact below_drewN' b13 m14
            have z14 := b14.size
            clear hw14 r4 r5 b13
            obtain ⟨_, _, _, _, _, rB, _, _⟩ := HST.out w14 b14
            go_wp2_with fail
            refine (HRM.out w14 B d rB).mono ?_
            rintro e w15 ⟨A15, c15, rfl, hO15, b15⟩
            have b15 := b14.trans (b15.mono z14)
            have z15 := b15.size
            have r15 := hO15.reads
            clear rB b14
            obtain ⟨_, _, _, _, _, _, _, rc, _⟩ := HST.out w15 b15
            go_wp2_with fail
            refine (sameInls_true Ac A15 ml cc c15 w15.heap.size mt w15 rc r15 (by omega)).mono ?_
            rintro e w16 ⟨rfl, m16, hw16⟩
            have b16 : Below w11.heap.size w11 w16 := by rw [hw16]; exact below_drewN' b15 m16
            have z16 := b16.size
            clear hw16 rc r15 hO15 b15
            obtain ⟨_, _, _, _, oM, rB, _, _⟩ := HST.out w16 b16
            go_wp2_with fail
            refine (staysInls_any Am B n cm d w16.heap.size w8.heap.size xs w16 oM rB (by omega)).mono ?_
            rintro e w17 ⟨rfl, m17, hw17⟩
            have b17 : Below w11.heap.size w11 w17 := by rw [hw17]; exact below_drewN' b16 m17
            have z17 := b17.size
            clear hw17 oM rB b16
            obtain ⟨_, _, _, _, _, rB, _, _⟩ := HST.out w17 b17
            have htl := textT_len xs
            go_wp2_with fail
            refine (text_any B n d xs w17 rB (by omega) (by omega)).mono ?_
            rintro e w18 ⟨rfl, b18⟩
            have b18 := b17.trans (b18.mono z17)
            have z18 := b18.size
            clear rB b17
            obtain ⟨_, _, _, _, _, rB, _, _⟩ := HST.out w18 b18
            go_wp2_with fail
            refine (refPlain_any B n d xs w18 rB (by omega) (by omega)).mono ?_
            rintro e w19 ⟨rfl, rfl⟩
            generalize S (textT xs) = tx at *
            clear rB
            obtain ⟨hR, hT, _, bg, _, _, ⟨_, _, r6, r8⟩, _, r9⟩ := HST.out w19 b18
            have hG19 := bg.size
            go_wp2_with fail
            refine (apartInls_any _ G G 3 _ _ hR hT rfl rfl (by omega) ?_ (by have := HG.out; omega) ?_).mono ?_
            · intro r hr
              simp only [List.mem_cons, List.not_mem_nil, or_false] at hr
              have h1 := HGL.out
              have h2 := HML.out
              rcases hr with rfl | rfl | rfl <;> (simp only; omega)
            · intro i r q hr hq
              have : i = 0 ∨ i = 1 ∨ i = 2 := by
                have := (List.getElem?_eq_some_iff.1 hr).1
                simp at this
                omega
              have h1 := HGL.out
              have h2 := HML.out
              rcases this with rfl | rfl | rfl
              · simp at hr hq
                subst hr; subst hq
                exact ⟨rfl, by rw [h1]; exact r6⟩
              · simp at hr hq
                subst hr; subst hq
                exact ⟨rfl, by rw [h1]; exact r8⟩
              · simp at hr hq
                subst hr; subst hq
                exact ⟨rfl, by rw [h2]; exact r9⟩
            rintro e w20 ⟨rfl, b20⟩
            have bt : Below w.heap.size w w20 := b1.trans ((bg.trans b20).mono (by rw [← HG.out]; exact z1))
            go_wp2_with fail
            go_ret
            exact ⟨rfl, bt⟩
  · rcases (by omega : 30 < m ∨ (m ≤ 30 ∧ 60 < n)) with h | ⟨h1, h2⟩
    all_goals
      clear hin
      go_enter Try.func5, Try.ntmps5
      go_wp2_with fail
      refine (alive_any _).mono ?_
      rintro e w1 ⟨rfl, b1⟩
      go_wp2_with fail
      go_ret
      exact ⟨rfl, b1⟩
end Go.Proofs.Ytfdfpimilmhhoaa
