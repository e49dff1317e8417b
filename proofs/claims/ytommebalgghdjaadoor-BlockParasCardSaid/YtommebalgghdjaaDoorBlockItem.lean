/-
  block: the contract of item.
-/
import Derived.Test.YtommebalgghdjaaDoorBlockQuote
namespace Go.Proofs.YtommebalgghdjaaDoor
open Go.RowKit
set_option linter.unusedVariables false

set_option maxHeartbeats 4000000 in
set_option maxRecDepth 100000 in
theorem item_any' (rest : ByteArray) (cols : Nat) (hcols : cols ≤ 1073741824) (hrest : mu (L rest) ≤ 1048576) (depth : Nat) (K : Nat) (xs : List ByteArray) (base g : Nat) (A : Option Addr) (n c i : Nat) (out : List BlockT) (w : World) (h : PSt w base g A n c i depth out)
    (hr : Reads w K 1 A n (txCells xs)) (hK : K ≤ base) (hok : LnOk xs) (hn : n ≤ 1048576) (hin : i < n) (hnc : n ≤ c) :
    Calls Tryd.prog 75 #[.pointer (some ⟨g, 0, none⟩), .string rest, .int .i64 (cols : Int)] w
      fun e w' => ∃ (A' : Option Addr) (m' c' : Nat) (ls : List ByteArray), e = .returned (.slice A' m' c') ∧ Own w' w.heap.size 9 1 A' m' c' (txCells ls) ∧ LnOk ls ∧ m' ≤ n - i ∧
        ls.map L = L rest :: (spanLines cols ((xs.map L).drop (i + 1))).map (fun s => stripT s (cols : Int)) ∧ PSt w' base g A n c (i + 1 + (spanLines cols ((xs.map L).drop (i + 1))).length) depth out ∧ Below base w w' ∧ w.heap.size ≤ w'.heap.size := by
  have hlen : xs.length = n := by have := hr.1; simpa using this
  have HL := Lib.hid hlen
  have HOK := Lib.hid hok
  have HRS := Lib.hid hrest
  have hbase := h.size
  clear hlen hok hrest
  obtain ⟨ad, rfl, hadK, _⟩ := hr.2 (by omega)
  obtain ⟨e0, e1, e2, ef⟩ := h.cells
  obtain ⟨hP0, hb0⟩ := h.goto_ (i + 1)
  obtain ⟨s0, hs1⟩ : ∃ s0, w.heap.size = s0 := ⟨_, rfl⟩
  rw [hs1] at hbase ⊢
  have HS1 := Lib.hid hs1
  clear hs1
  go_enter Tryd.func75, Tryd.ntmps75
  go_upto_region 2 with fail
  rw [show ((i + 1 : Nat) : Int) = (i : Int) + 1 by omega] at hP0 hb0
  have hs0 : (w.setCell ⟨g, 1, none⟩ (.int .i64 ((i : Int) + 1))).heap.size = s0 := by rw [← HS1.out]; simp [World.setCell]
  clear e0 e1 e2 ef h
  have hr0 := hr.below (hb0.mono hK)
  have hb00 := hb0
  generalize w.setCell ⟨g, 1, none⟩ (.int .i64 ((i : Int) + 1)) = W0 at *
  have hrow : Own (W0.alloc (.cells #[.string rest] 9)) s0 9 1 (some ⟨s0, 0, none⟩) 1 1 (txCells [rest]) := by
    have := World.ownsRow_lit (base := s0) (e := 9) (size := 1) W0 #[.string rest] 1 (by omega) (by unfold maxLen; omega) (by simp)
    rwa [hs0] at this
  have hP1 := hP0.alloc (.cells #[.string rest] 9)
  have hb1 := hb0.alloc (by omega : base ≤ W0.heap.size) (.cells #[.string rest] 9)
  have hz1 : s0 ≤ (W0.alloc (.cells #[.string rest] 9)).heap.size := by simp; omega
  obtain ⟨e0, e1, e2, ef⟩ := hP1.cells
  have hgl := hP1.lt
  go_upto_region 6 with fail
  try simp only [hs0]
  generalize W0.alloc (.cells #[.string rest] 9) = W1 at *
  clear e0 e1 e2 ef hgl hP0 hb0 hb00 hs0 hr0
  go_loopw [7, 8, 9, 10] (fun s7 s8 s9 s10 wr => ∃ (k en : Nat) (A1 : Option Addr) (m1 c1 : Nat), i + 1 ≤ en ∧ en ≤ k ∧ k ≤ n ∧ m1 = k - i ∧ s10 = .int .i64 k ∧ s9 = .int .i64 en ∧ s8 = .int .i64 ((en - i : Nat) : Int) ∧ s7 = .slice A1 m1 c1 ∧
    (∀ j, i + 1 ≤ j → j < k → ∃ x, xs[j]? = some x ∧ wideT cols (L x) = true) ∧ lastNB (((xs.drop (i + 1)).take (k - (i + 1))).map L) = ((xs.drop (i + 1)).take (en - (i + 1))).map L ∧
    Own wr s0 9 1 A1 m1 c1 (txCells (rest :: ((xs.drop (i + 1)).take (k - (i + 1))).map (stripB cols))) ∧ PSt wr base g (some ad) n c (i + 1) depth out ∧ Below base w wr ∧ s0 ≤ wr.heap.size) (fun _ _ _ s10 _ => n - (intOf s10).toNat)
  case atStart => exact ⟨i + 1, i + 1, some ⟨s0, 0, none⟩, 1, 1, Nat.le_refl _, Nat.le_refl _, by omega, by omega, by go_num, by go_num, by rw [show i + 1 - i = 1 by omega]; rfl, rfl, fun j h1 h2 => by omega, by simp [lastNB], by simpa using hrow, hP1, hb1, hz1⟩
  case round =>
    clear hrow hP1 hb1 hz1
    obtain ⟨k, en, A1, m1, c1, he1, he2, hk2, hm1, rfl, rfl, rfl, rfl, hall, hlast, hown, hP, hb, hz⟩ := hrel
    have hk1 : i + 1 ≤ k := by omega
    have HALL := Lib.hid hall
    have HLAST := Lib.hid hlast
    have HM1 := Lib.hid hm1
    have hmn : m1 ≤ n := by omega
    clear hall hlast hm1
    obtain ⟨e0, e1, e2, ef⟩ := hP.cells
    have hgl := hP.lt
    by_cases hlt : k < n
    · obtain ⟨ad', u, had', _, hx0, hcx⟩ := (hr.below (hb.mono hK)).at_ hlt
      have had'' : ad = ad' := Option.some.inj had'
      subst had''
      obtain ⟨x, hx, rfl⟩ : ∃ x, xs[k]? = some x ∧ Value.string x = u := by simpa using hx0
      have hxs := HOK.out.size x (List.mem_of_getElem? hx)
      have hadl : ad.block < wr.heap.size := by omega
      have HX := Lib.hid hx
      have HSN := Lib.hid (mid_snoc hk1 hx)
      have HBL := Lib.hid (fun W => blank_any x W (by omega))
      have HIN := Lib.hid (fun W => indent_any x W hxs)
      have HST := Lib.hid (fun W => strip_any x (cols : Int) W hxs (by omega))
      obtain ⟨v, hv⟩ : ∃ v, blankT (L x) = v := ⟨_, rfl⟩
      rw [hv] at HBL
      have HV := Lib.hid hv
      have HSX : Hid (S (stripT (L x) (cols : Int)) = stripB cols x) := Lib.hid rfl
      rw [HSX.out] at HST
      clear hx hx0 hv had'
      cases v
      · by_cases hc4 : cols ≤ colT 0 (L x)
        · have HW : Hid (wideT cols (L x) = true) := Lib.hid (by unfold wideT; rw [decide_eq_true hc4, Bool.or_true])
          generalize colT 0 (L x) = cx at *
          have q9 : (cols : Int) ≤ (cx : Int) := by omega
          go_upto_region 8 with (first
            | (go_at_call 22
               refine (HBL.out _).mono ?_
               rintro e w1 ⟨rfl, b1⟩
               have hz1 : s0 ≤ w1.heap.size := by have := b1.size; omega
               have hb1 := hb.trans (b1.mono hP.size)
               have hP1 := hP.below b1 (Nat.le_refl _)
               have hown1 := hown.below b1 (Nat.le_refl _)
               obtain ⟨z0, z1, _, _⟩ := hP1.cells
               have z2 := (b1.cell (p := ad.add k) (by rw [block_of_add]; exact hadl)).trans hcx
               have hadl1 : ad.block < w1.heap.size := by omega)
            | (go_at_call 43
               refine (HIN.out _).mono ?_
               rintro e w2 ⟨rfl, b2⟩
               have hz2 : s0 ≤ w2.heap.size := by have := b2.size; omega
               have hb2 := hb1.trans (b2.mono hP1.size)
               have hP2 := hP1.below b2 (Nat.le_refl _)
               have hown2 := hown1.below b2 (Nat.le_refl _)
               obtain ⟨y0, y1, _, _⟩ := hP2.cells
               have y2 := (b2.cell (p := ad.add k) (by rw [block_of_add]; exact hadl1)).trans z2))
          have hcx8 := y2
          have hP8 := hP2
          have hown8 := hown2
          have hb8 := hb2
          have hz8 := hz2
          have hcut : Hid (w2.cell? ⟨g, 0, none⟩ = some (.slice (some ad) n c)) := Lib.hid hP2.cells.1
          have hadl8 : ad.block < w2.heap.size := by omega
          go_wp2_with (first
            | (go_at_call 86
               refine (HST.out _).mono ?_
               rintro e w3 ⟨rfl, b3⟩
               have hz3 : s0 ≤ w3.heap.size := by have := b3.size; omega
               have hb3 := hb8.trans (b3.mono hP8.size)
               have hP3 := hP8.below b3 (Nat.le_refl _)
               have hown3 := hown8.below b3 (Nat.le_refl _)
               have hcx3 := (b3.cell (p := ad.add k) (by rw [block_of_add]; exact hadl8)).trans hcx8)
            | (at_builtin; refine wpList_app1 Tryd.elTexts rfl (.tmp 59) (.tmp 69) rfl rfl (by exact hown3.alloc _) rfl (Blk.new' _ _ _ _ (by simp)) rfl (by simp [Value.oneCell']) (by simp only [maxLen]; omega) (by omega) (by simp; omega) ?_
               intro A2 c2 w4 hr4 ho4 hm4
               have hP4 := (hP3.alloc _).only (hown3.alloc _) ho4
               have hb4 := hb3.trans (ho4.of_alloc.below (K := base) (fun a ha => by have := (hown3.lt ha).1; omega) hP3.size)
               have hz4 : s0 ≤ w4.heap.size := by have := ho4.size; simp at this; omega
               obtain ⟨x0, x1, _, _⟩ := hP4.cells
               have hcx4 : w4.cell? (ad.add k) = some (.string x) := by
                 have := (hr.below (hb4.mono hK)).2 (by omega)
                 obtain ⟨a9, h9, _, h99⟩ := this
                 have h999 : ad = a9 := Option.some.inj h9
                 rw [h999]
                 exact h99 k _ (by rw [List.getElem?_map, HX.out]; rfl))
            | (go_at_call 22
               refine (HBL.out _).mono ?_
               rintro e w5 ⟨rfl, b5⟩
               have hP5 := hP4.below b5 (Nat.le_refl _)
               have hb5 := hb4.trans (b5.mono hP4.size)
               have hr5 := hr4.below b5 (Nat.le_refl _)
               have hz5 : s0 ≤ w5.heap.size := by have := b5.size; omega))
          go_roundw
          case rel =>
            refine ⟨k + 1, k + 1, A2, m1 + 1, c2, by omega, by omega, by omega, by have := HM1.out; omega, by go_num, by go_num, ?_, rfl, fun j h1 h2 => ?_, ?_, ?_, hP5, hb5, hz5⟩
            · have := HM1.out; rw [show k + 1 - i = m1 + 1 by omega]; go_num
            · rcases Nat.lt_or_ge j k with h | h
              · exact HALL.out j h1 h
              · rw [show j = k by omega]; exact ⟨x, HX.out, HW.out⟩
            · rw [HSN.out, List.map_append]
              rw [List.map_singleton, lastNB_word _ HV.out]
            · rw [HSN.out, List.map_append]
              simpa [txCells] using hr5
          case measure => simp [intOf]; omega
        · skip
          have HEND : Hid (∀ x', xs[k]? = some x' → wideT cols (L x') = false) := Lib.hid fun x' hx' => by rw [HX.out] at hx'; rw [← Option.some.inj hx']; unfold wideT; rw [HV.out, decide_eq_false hc4]; rfl
          have hsp := span_last hk1 (by rw [HL.out]; exact hk2) HALL.out HEND.out
          rw [HLAST.out] at hsp
          have hln : ((xs.drop (i + 1)).take (en - (i + 1))).length = en - (i + 1) := mid_len he1 (by rw [HL.out]; omega)
          have hspl : (spanLines cols ((xs.map L).drop (i + 1))).length = en - (i + 1) := by rw [hsp, List.length_map, hln]
          have HSPL : Hid ((rest :: ((xs.drop (i + 1)).take (en - (i + 1))).map (stripB cols)).map L = L rest :: (spanLines cols ((xs.map L).drop (i + 1))).map (fun s => stripT s (cols : Int))) := Lib.hid (by
            rw [List.map_cons, mapL_strip, hsp])
          have HGO : Hid (i + 1 + (spanLines cols ((xs.map L).drop (i + 1))).length = en) := Lib.hid (by rw [hspl]; omega)
          have HLO : Hid (LnOk (rest :: ((xs.drop (i + 1)).take (en - (i + 1))).map (stripB cols))) := Lib.hid (by
            intro y hy
            rcases List.mem_cons.1 hy with rfl | hy
            · exact HRS.out
            · exact (LnOk.strip (fun x hx => HOK.out x (List.mem_of_mem_drop (List.mem_of_mem_take hx))) cols) y hy)
          have HTX : Hid ((txCells (rest :: ((xs.drop (i + 1)).take (k - (i + 1))).map (stripB cols))).take ((en - i) * 1) = txCells (rest :: ((xs.drop (i + 1)).take (en - (i + 1))).map (stripB cols))) := Lib.hid (by
            rw [Nat.mul_one, show en - i = (en - (i + 1)) + 1 by omega, txCells, List.map_cons, List.take_succ_cons, txCells, List.map_cons]
            congr 1
            rw [← List.map_take, ← List.map_take, List.take_take, Nat.min_eq_left (by omega)])
          clear hsp hln hspl
          have hnc4 : ¬ (cols : Int) ≤ (colT 0 (L x) : Int) := by omega
          generalize colT 0 (L x) = cx at *
          go_upto_region 11 with (first
            | (go_at_call 22
               refine (HBL.out _).mono ?_
               rintro e w1 ⟨rfl, b1⟩
               have hz1 : s0 ≤ w1.heap.size := by have := b1.size; omega
               have hb1 := hb.trans (b1.mono hP.size)
               have hP1 := hP.below b1 (Nat.le_refl _)
               have hown1 := hown.below b1 (Nat.le_refl _)
               obtain ⟨z0, z1, _, _⟩ := hP1.cells
               have z2 := (b1.cell (p := ad.add k) (by rw [block_of_add]; exact hadl)).trans hcx
               have hadl1 : ad.block < w1.heap.size := by omega)
            | (go_at_call 43
               refine (HIN.out _).mono ?_
               rintro e w2 ⟨rfl, b2⟩
               have hz2 : s0 ≤ w2.heap.size := by have := b2.size; omega
               have hb2 := hb1.trans (b2.mono hP1.size)
               have hP2 := hP1.below b2 (Nat.le_refl _)
               have hown2 := hown1.below b2 (Nat.le_refl _)
               obtain ⟨y0, y1, _, _⟩ := hP2.cells
               have y2 := (b2.cell (p := ad.add k) (by rw [block_of_add]; exact hadl1)).trans z2))
          have hcap := hown2.cap
          have q1 : (0 : Int) ≤ ((en - i : Nat) : Int) := by omega
          have q2 : ((en - i : Nat) : Int) ≤ (c1 : Int) := by have := HM1.out; omega
          have q3 : (((en - i : Nat) : Int)).toNat = en - i := by omega
          have hen : en - i ≤ m1 := by have := HM1.out; omega
          obtain ⟨_, w11, _, w13⟩ := hP2.cells
          obtain ⟨hP6, hb6⟩ := hP2.goto_ en
          have hB : ∃ cs, Blk w2 g 44 cs := by
            obtain ⟨_, _, _, _, hB, _⟩ := hP2
            exact ⟨_, hB⟩
          obtain ⟨cs, hB⟩ := hB
          have hown6 := (hown2.setBlk (i := 1) hB (by decide) (.int .i64 (en : Int))).take hen
          rw [HTX.out] at hown6
          have hz6 : s0 ≤ (w2.setCell ⟨g, 1, none⟩ (.int .i64 (en : Int))).heap.size := by simp [World.setCell]; omega
          have hben := hb2.trans hb6
          clear hB
          generalize hWs : w2.setCell ⟨g, 1, none⟩ (.int .i64 (en : Int)) = W6 at *
          go_upto_region 12 with fail
          try rw [hWs]
          go_wp2_with fail
          go_ret
          rw [HGO.out]
          exact ⟨A1, en - i, c1, _, rfl, hown6, HLO.out, by omega, HSPL.out, hP6, hben, hz6⟩
      · skip
        have HW : Hid (wideT cols (L x) = true) := Lib.hid (by unfold wideT; rw [HV.out]; rfl)
        go_upto_region 8 with (first
          | (go_at_call 22
             refine (HBL.out _).mono ?_
             rintro e w1 ⟨rfl, b1⟩
             have hz1 : s0 ≤ w1.heap.size := by have := b1.size; omega
             have hb1 := hb.trans (b1.mono hP.size)
             have hP1 := hP.below b1 (Nat.le_refl _)
             have hown1 := hown.below b1 (Nat.le_refl _)
             obtain ⟨z0, z1, _, _⟩ := hP1.cells
             have z2 := (b1.cell (p := ad.add k) (by rw [block_of_add]; exact hadl)).trans hcx
             have hadl1 : ad.block < w1.heap.size := by omega))
        have hcx8 := z2
        have hP8 := hP1
        have hown8 := hown1
        have hb8 := hb1
        have hz8 := hz1
        have hcut : Hid (w1.cell? ⟨g, 0, none⟩ = some (.slice (some ad) n c)) := Lib.hid hP1.cells.1
        have hadl8 : ad.block < w1.heap.size := by omega
        go_wp2_with (first
          | (go_at_call 86
             refine (HST.out _).mono ?_
             rintro e w3 ⟨rfl, b3⟩
             have hz3 : s0 ≤ w3.heap.size := by have := b3.size; omega
             have hb3 := hb8.trans (b3.mono hP8.size)
             have hP3 := hP8.below b3 (Nat.le_refl _)
             have hown3 := hown8.below b3 (Nat.le_refl _)
             have hcx3 := (b3.cell (p := ad.add k) (by rw [block_of_add]; exact hadl8)).trans hcx8)
          | (at_builtin; refine wpList_app1 Tryd.elTexts rfl (.tmp 59) (.tmp 69) rfl rfl (by exact hown3.alloc _) rfl (Blk.new' _ _ _ _ (by simp)) rfl (by simp [Value.oneCell']) (by simp only [maxLen]; omega) (by omega) (by simp; omega) ?_
             intro A2 c2 w4 hr4 ho4 hm4
             have hP4 := (hP3.alloc _).only (hown3.alloc _) ho4
             have hb4 := hb3.trans (ho4.of_alloc.below (K := base) (fun a ha => by have := (hown3.lt ha).1; omega) hP3.size)
             have hz4 : s0 ≤ w4.heap.size := by have := ho4.size; simp at this; omega
             obtain ⟨x0, x1, _, _⟩ := hP4.cells
             have hcx4 : w4.cell? (ad.add k) = some (.string x) := by
               have := (hr.below (hb4.mono hK)).2 (by omega)
               obtain ⟨a9, h9, _, h99⟩ := this
               have h999 : ad = a9 := Option.some.inj h9
               rw [h999]
               exact h99 k _ (by rw [List.getElem?_map, HX.out]; rfl))
          | (go_at_call 22
             refine (HBL.out _).mono ?_
             rintro e w5 ⟨rfl, b5⟩
             have hP5 := hP4.below b5 (Nat.le_refl _)
             have hb5 := hb4.trans (b5.mono hP4.size)
             have hr5 := hr4.below b5 (Nat.le_refl _)
             have hz5 : s0 ≤ w5.heap.size := by have := b5.size; omega))
        go_roundw
        case rel =>
          refine ⟨k + 1, en, A2, m1 + 1, c2, by omega, by omega, by omega, by have := HM1.out; omega, by go_num, by go_num, ?_, rfl, fun j h1 h2 => ?_, ?_, ?_, hP5, hb5, hz5⟩
          · rfl
          · rcases Nat.lt_or_ge j k with h | h
            · exact HALL.out j h1 h
            · rw [show j = k by omega]; exact ⟨x, HX.out, HW.out⟩
          · rw [HSN.out, List.map_append]
            rw [List.map_singleton, lastNB_blank _ HV.out]; exact HLAST.out
          · rw [HSN.out, List.map_append]
            simpa [txCells] using hr5
        case measure => simp [intOf]; omega
    · skip
      have HEND : Hid (∀ x', xs[k]? = some x' → wideT cols (L x') = false) := Lib.hid fun x' hx' => by have := (List.getElem?_eq_some_iff.1 hx').1; rw [HL.out] at this; omega
      have hsp := span_last hk1 (by rw [HL.out]; exact hk2) HALL.out HEND.out
      rw [HLAST.out] at hsp
      have hln : ((xs.drop (i + 1)).take (en - (i + 1))).length = en - (i + 1) := mid_len he1 (by rw [HL.out]; omega)
      have hspl : (spanLines cols ((xs.map L).drop (i + 1))).length = en - (i + 1) := by rw [hsp, List.length_map, hln]
      have HSPL : Hid ((rest :: ((xs.drop (i + 1)).take (en - (i + 1))).map (stripB cols)).map L = L rest :: (spanLines cols ((xs.map L).drop (i + 1))).map (fun s => stripT s (cols : Int))) := Lib.hid (by
        rw [List.map_cons, mapL_strip, hsp])
      have HGO : Hid (i + 1 + (spanLines cols ((xs.map L).drop (i + 1))).length = en) := Lib.hid (by rw [hspl]; omega)
      have HLO : Hid (LnOk (rest :: ((xs.drop (i + 1)).take (en - (i + 1))).map (stripB cols))) := Lib.hid (by
        intro y hy
        rcases List.mem_cons.1 hy with rfl | hy
        · exact HRS.out
        · exact (LnOk.strip (fun x hx => HOK.out x (List.mem_of_mem_drop (List.mem_of_mem_take hx))) cols) y hy)
      have HTX : Hid ((txCells (rest :: ((xs.drop (i + 1)).take (k - (i + 1))).map (stripB cols))).take ((en - i) * 1) = txCells (rest :: ((xs.drop (i + 1)).take (en - (i + 1))).map (stripB cols))) := Lib.hid (by
        rw [Nat.mul_one, show en - i = (en - (i + 1)) + 1 by omega, txCells, List.map_cons, List.take_succ_cons, txCells, List.map_cons]
        congr 1
        rw [← List.map_take, ← List.map_take, List.take_take, Nat.min_eq_left (by omega)])
      clear hsp hln hspl
      go_upto_region 11 with fail
      have hcap := hown.cap
      have q1 : (0 : Int) ≤ ((en - i : Nat) : Int) := by omega
      have q2 : ((en - i : Nat) : Int) ≤ (c1 : Int) := by have := HM1.out; omega
      have q3 : (((en - i : Nat) : Int)).toNat = en - i := by omega
      have hen : en - i ≤ m1 := by have := HM1.out; omega
      obtain ⟨_, w11, _, w13⟩ := hP.cells
      obtain ⟨hP6, hb6⟩ := hP.goto_ en
      have hB : ∃ cs, Blk wr g 44 cs := by
        obtain ⟨_, _, _, _, hB, _⟩ := hP
        exact ⟨_, hB⟩
      obtain ⟨cs, hB⟩ := hB
      have hown6 := (hown.setBlk (i := 1) hB (by decide) (.int .i64 (en : Int))).take hen
      rw [HTX.out] at hown6
      have hz6 : s0 ≤ (wr.setCell ⟨g, 1, none⟩ (.int .i64 (en : Int))).heap.size := by simp [World.setCell]; omega
      have hben := hb.trans hb6
      clear hB
      generalize hWs : wr.setCell ⟨g, 1, none⟩ (.int .i64 (en : Int)) = W6 at *
      go_upto_region 12 with fail
      try rw [hWs]
      go_wp2_with fail
      go_ret
      rw [HGO.out]
      exact ⟨A1, en - i, c1, _, rfl, hown6, HLO.out, by omega, HSPL.out, hP6, hben, hz6⟩
end Go.Proofs.YtommebalgghdjaaDoor
