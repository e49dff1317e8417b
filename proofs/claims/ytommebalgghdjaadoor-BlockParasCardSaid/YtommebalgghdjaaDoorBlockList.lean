/-
  block: the contract of list.
-/
import Derived.Test.YtommebalgghdjaaDoorBlockItem
import Derived.Laws.IdiomStrings
namespace Go.Proofs.YtommebalgghdjaaDoor
open Go.RowKit
set_option linter.unusedVariables false

theorem convert_byte (b : UInt8) (w : World) : (convert 36 9 (.slice (some ⟨w.heap.size, 0, none⟩) 1 1)).run Tryd.prog (w.alloc (.cells #[.int .u8 (b.toNat : Int)] 5)) = .ok (.string (S [b])) (w.alloc (.cells #[.int .u8 (b.toNat : Int)] 5)) := by
  refine run_convert_bytes_back _ _ _ 5 _ 1 [b] Tryd.underlying36 Tryd.underlying5 Tryd.underlying9 (fun j hj => ?_)
  have : j = 0 := by simpa using hj
  subst this
  exact (Blk.new w 5 #[.int .u8 (b.toNat : Int)]).cell 0
theorem itemsT_more (rc : Nat → List Ln → List BlockT) (depth : Nat) (sign : UInt8) : ∀ (f g : Nat) (l : List Ln), l.length ≤ f → l.length ≤ g → itemsT rc depth sign f l = itemsT rc depth sign g l
  | 0, 0, _, _, _ => rfl
  | 0, g + 1, [], _, _ => rfl
  | f + 1, 0, [], _, _ => rfl
  | f + 1, g + 1, [], _, _ => rfl
  | f + 1, g + 1, s :: t, hf, hg => by
    unfold itemsT
    simp only [List.length_cons] at hf hg
    split
    · rfl
    · rename_i c num cols rest he
      split
      · simp only
        rw [itemsT_more rc depth sign f g _ (by rw [List.length_drop, List.length_drop]; omega) (by rw [List.length_drop, List.length_drop]; omega)]
      · rfl
  | 0, _ + 1, _ :: _, hf, _ => by simp at hf
  | _ + 1, 0, _ :: _, _, hg => by simp at hg
theorem itemsT_stop {rc : Nat → List Ln → List BlockT} {depth : Nat} {sign : UInt8} {n : Nat} {l : List Ln} (h : ∀ s t, l = s :: t → ∀ r, itemT s = some r → r.1 ≠ sign) : itemsT rc depth sign n l = ([], 0) := by
  cases n with
  | zero => rfl
  | succ n =>
    cases l with
    | nil => rfl
    | cons s t =>
      unfold itemsT
      split
      · rfl
      · rename_i c num cols rest he
        rw [if_neg (h s t rfl _ he)]
theorem item_cols {l r : Ln} {c : UInt8} {v : Int} {cols : Nat} (h : itemT l = some (c, v, cols, r)) : cols ≤ 1073741824 := by
  unfold itemT at h
  simp only at h
  split at h
  · rename_i hc
    split at h
    · cases h
    · rename_i c' rest he
      obtain ⟨_, h2⟩ := ite_some h
      simp only [Prod.mk.injEq] at h2
      rw [← h2.2.2.1]
      have h1 : (digT (restT l)).length ≤ 9 := by
        unfold digT
        have h1 := (List.takeWhile_sublist isD (l := (restT l).take 9)).length_le
        have h2 := List.length_take_le 9 (restT l)
        omega
      have h3 : gapT rest ≤ 4 := by unfold gapT; split <;> omega
      omega
  · cases h
/-- an item more -/
theorem list_step {rc : Nat → List Ln → List BlockT} {depth : Nat} {sign : UInt8} {n at_ k en cols : Nat} {D : Nat → List Ln} {bs : List BlockT} {s rest : Ln} {num : Int} (hD : ∀ j, D j = (D 0).drop j) (hl : (D 0).length = n)
    (hT : itemsT rc depth sign n (D at_) = (bs ++ (itemsT rc depth sign n (D k)).1, if (itemsT rc depth sign n (D k)).2 = 0 then en - at_ else k - at_ + (itemsT rc depth sign n (D k)).2)) (hk : at_ ≤ k)
    (hs : D k = s :: D (k + 1)) (hit : itemT s = some (sign, num, cols, rest)) (e' k' : Nat) (he : e' = k + 1 + (spanLines cols (D (k + 1))).length) (hk' : k' = e' + ((D e').takeWhile blankT).length) :
    itemsT rc depth sign n (D at_) = (bs ++ (⟨5, depth + 1, 0, false, [], []⟩ :: rc (depth + 2) (rest :: (spanLines cols (D (k + 1))).map fun s => stripT s (cols : Int))) ++ (itemsT rc depth sign n (D k')).1,
      if (itemsT rc depth sign n (D k')).2 = 0 then e' - at_ else k' - at_ + (itemsT rc depth sign n (D k')).2) := by
  have hlk : k < n := by
    have := congrArg List.length hs
    rw [hD k, List.length_drop, hl, List.length_cons] at this; omega
  obtain ⟨m, rfl⟩ : ∃ m, n = m + 1 := ⟨n - 1, by omega⟩
  have e1 : (D (k + 1)).drop (spanLines cols (D (k + 1))).length = D e' := by rw [hD (k + 1), List.drop_drop, he, hD (k + 1 + _), hD (k + 1)]
  have e2 : (D e').drop ((D e').takeWhile blankT).length = D k' := by rw [hD e', List.drop_drop, hk', hD (e' + _), hD e']
  have e3 : itemsT rc depth sign m (D k') = itemsT rc depth sign (m + 1) (D k') := itemsT_more _ _ _ _ _ _ (by rw [hD k', List.length_drop]; omega) (by rw [hD k', List.length_drop]; omega)
  have hK : itemsT rc depth sign (m + 1) (D k) = (⟨5, depth + 1, 0, false, [], []⟩ :: (rc (depth + 2) (rest :: (spanLines cols (D (k + 1))).map fun s => stripT s (cols : Int)) ++ (itemsT rc depth sign (m + 1) (D k')).1),
      if (itemsT rc depth sign (m + 1) (D k')).2 = 0 then (spanLines cols (D (k + 1))).length + 1 else (spanLines cols (D (k + 1))).length + 1 + ((D e').takeWhile blankT).length + (itemsT rc depth sign (m + 1) (D k')).2) := by
    rw [hs]
    conv => lhs; unfold itemsT
    rw [hit]
    simp only [if_true]
    rw [e1, e2, e3]
  rw [hT, hK]
  generalize itemsT rc depth sign (m + 1) (D k') = r
  refine Prod.ext (by simp) ?_
  simp only
  split
  · rename_i h0; rw [if_neg (by omega)]; omega
  · rename_i h0; rw [if_neg (by omega)]; omega

/-- a block that was put is marked tight -/
theorem PSt.tight {w : World} {base g n c at_ depth : Nat} {A : Option Addr} {out bs : List BlockT} {b : BlockT} (h : PSt w base g A n c at_ depth (out ++ b :: bs)) (v : Bool) :
    ∃ (ga co : Nat), w.cell? ⟨g, 0 + 3, none⟩ = some (.slice (some ⟨ga, 0, none⟩) (out ++ b :: bs).length co) ∧ w.cell? ⟨ga, out.length * 6 + 3, none⟩ = some (.bool b.tight) ∧ w.frozen? ⟨ga, out.length * 6 + 3, none⟩ = false ∧
      PSt (w.setCell ⟨ga, out.length * 6 + 3, none⟩ (.bool v)) base g A n c at_ depth (out ++ { b with tight := v } :: bs) ∧ Below base w (w.setCell ⟨ga, out.length * 6 + 3, none⟩ (.bool v)) := by
  obtain ⟨h1, h2, Ao, co, hB, hO⟩ := h
  obtain ⟨ga, rfl, hg1, hg2⟩ := hO.some_ (by rw [List.length_append, List.length_cons]; omega)
  have hget : (out ++ b :: bs)[out.length]? = some b := by simp
  have hset : (blkCells (out ++ b :: bs)).set (out.length * 6 + 3) (.bool v) = blkCells (out ++ { b with tight := v } :: bs) := by
    have := flat_set BlockT.cells 6 blk_len (out ++ b :: bs) out.length 3 (by omega) (x := b) (x' := { b with tight := v }) (v := .bool v) hget rfl
    unfold blkCells
    rw [this]
    simp
  have hst := hO.stored (out.length * 6 + 3) (.bool v)
  rw [hset] at hst
  refine ⟨ga, co, hB.cell 3, hO.cell ((flat_get BlockT.cells 6 blk_len _ out.length 3 (by omega) hget).trans rfl), hO.frozen _, ⟨h1, by simp [World.setCell]; omega, some ⟨ga, 0, none⟩, co, ?_, ?_⟩, (Below.refl _ _).setCell (p := ⟨ga, out.length * 6 + 3, none⟩) hg1 _⟩
  · have := hB.far (p := ⟨ga, out.length * 6 + 3, none⟩) (fun e => hO.blk_ne hB (by decide) _ rfl e.symm) (.bool v)
    simpa using this
  · simpa using hst

set_option maxHeartbeats 30000000 in
set_option maxRecDepth 100000 in
theorem list_any' (f depth : Nat) (hf : f ≤ 31) (IH : AllOk f (depth + 2)) (hdp : depth ≤ 1000) (K : Nat) (xs : List ByteArray) (base g : Nat) (A : Option Addr) (n c at_ : Nat) (out : List BlockT) (w : World) (h : PSt w base g A n c at_ depth out)
    (hN : out.length + 64 * (n - at_) ≤ 1099511600000) (hr : Reads w K 1 A n (txCells xs)) (hK : K ≤ base) (hok : LnOk xs) (hn : n ≤ 1048576) (hat : at_ < n) (hnc : n ≤ c)
    (c0 : UInt8) (num : Int) (cols0 : Nat) (rest0 : Ln) (x0 : ByteArray) (hx0 : xs[at_]? = some x0) (hi0 : itemT (L x0) = some (c0, num, cols0, rest0)) :
    Calls Tryd.prog 51 #[.pointer (some ⟨g, 0, none⟩)] w
      fun e w' => e = .returned (.tuple #[]) ∧ PSt w' base g A n c (at_ + (itemsT (allT f) depth c0 n ((xs.map L).drop at_)).2) depth
        (out ++ listB depth num ((((xs.map L).drop at_).take (itemsT (allT f) depth c0 n ((xs.map L).drop at_)).2).all fun x => !blankT x) c0 :: (itemsT (allT f) depth c0 n ((xs.map L).drop at_)).1) ∧ Below base w w' := by
  have hlen : xs.length = n := by have := hr.1; simpa using this
  have HL := Lib.hid hlen
  have HOK := Lib.hid hok
  have hbase := h.size
  clear hlen
  obtain ⟨ad, rfl, hadK, hadc⟩ := hr.2 (by omega)
  have hcx0 : w.cell? (ad.add at_) = some (.string x0) := hadc at_ _ (by rw [List.getElem?_map, hx0]; rfl)
  have hx0s := hok.size x0 (List.mem_of_getElem? hx0)
  have hit0 := fun W => item_any x0 W hx0s
  rw [hi0] at hit0
  unfold itemV at hit0
  simp only at hit0
  have HIT0 := Lib.hid hit0
  have hadl : ad.block < w.heap.size := by omega
  clear hx0 hok hadc hit0
  obtain ⟨e0, e1, e2, ef⟩ := h.cells
  have hgl := h.lt
  go_enter Tryd.func51, Tryd.ntmps51
  go_upto_region 1 with fail
  go_region_held3 (fun w' => w'.cell? ⟨g, 0, none⟩ = some (.slice (some ad) n c) ∧ w'.cell? ⟨g, 0 + 1, none⟩ = some (.int .i64 (at_ : Int)) ∧ w'.cell? (ad.add at_) = some (.string x0)) (go_keep)
    ((go_at_call 74; refine (HIT0.out _).mono ?_; rintro e w1 ⟨rfl, b1⟩; have z0 := (b1.cell (p := ⟨g, 0, none⟩) hgl).trans e0; have z1 := (b1.cell (p := ⟨g, 0 + 1, none⟩) hgl).trans e1; have z2 := (b1.cell (p := ad.add at_) (by rw [block_of_add]; exact hadl)).trans hcx0))
  have b1' := below_of_drew b1
  have hP1 := h.below b1' (Nat.le_refl _)
  have hb1 := b1'.mono hbase
  clear b1 z0 z1 z2 e0 e1 e2 ef hgl hcx0 h b1' HIT0
  have hcv := convert_byte c0 w1
  obtain ⟨Ao, co, y3⟩ : ∃ Ao co, w1.cell? ⟨g, 0 + 3, none⟩ = some (.slice Ao out.length co) := by
    obtain ⟨_, _, Ao, co, hB, _⟩ := hP1
    exact ⟨Ao, co, hB.cell 3⟩
  have HPUT := Lib.hid (put_any ⟨4, 0, num, false, [], [c0]⟩ base g (some ad) n c at_ depth out _ (hP1.alloc (.cells #[.int .u8 (c0.toNat : Int)] 5)) (by omega))
  have hT : (S ([] : List UInt8)) = ⟨#[]⟩ := rfl
  unfold BlockT.val at HPUT
  simp only [hT] at HPUT
  have hbA := hb1.alloc hP1.size (.cells #[.int .u8 (c0.toNat : Int)] 5)
  obtain ⟨ol, hol⟩ : ∃ ol, out.length = ol := ⟨_, rfl⟩
  rw [hol] at y3 hN
  have HOL := Lib.hid hol
  clear hol hT
  go_upto_region 4 with (go_at_call 46; refine HPUT.out.mono ?_; rintro e w2 ⟨rfl, hP2, b2, _⟩)
  have hb2 := hbA.trans b2
  obtain ⟨y0, y1, _, _⟩ := hP2.cells
  have HPUT2 : Hid (out ++ [⟨4, (depth : Int), num, false, [], [c0]⟩] = out ++ listB depth num false c0 :: []) := Lib.hid rfl
  rw [HPUT2.out] at hP2
  clear HPUT HPUT2 hcv hP1 hb1 hbA b2 y3
  go_upto_region 5 with fail
  go_loopw [9] (fun s9 wr => ∃ (k en : Nat) (bs : List BlockT), at_ ≤ en ∧ en ≤ k ∧ k ≤ n ∧ s9 = .int .i64 en ∧ bs.length ≤ 63 * (k - at_) ∧
    itemsT (allT f) depth c0 n ((xs.map L).drop at_) = (bs ++ (itemsT (allT f) depth c0 n ((xs.map L).drop k)).1, if (itemsT (allT f) depth c0 n ((xs.map L).drop k)).2 = 0 then en - at_ else k - at_ + (itemsT (allT f) depth c0 n ((xs.map L).drop k)).2) ∧
    PSt wr base g (some ad) n c k depth (out ++ listB depth num false c0 :: bs) ∧ Below base w wr) (fun _ wr => n - intAt wr ⟨g, 1, none⟩)
  case atStart =>
    refine ⟨at_, at_, [], Nat.le_refl _, Nat.le_refl _, by omega, rfl, by simp, ?_, hP2, hb2⟩
    refine Prod.ext (by simp) ?_
    simp only
    split <;> omega
  case round =>
    clear hP2 hb2 y0 y1
    obtain ⟨k, en, bs, he1, he2, hk2, rfl, hbs, hT, hP, hb⟩ := hrel
    have hk1 : at_ ≤ k := by omega
    have HT := Lib.hid hT
    have HM := Lib.hid hP.intAt
    clear hT
    obtain ⟨e0, e1, e2, ef⟩ := hP.cells
    have hgl := hP.lt
    by_cases hlt : k < n
    · obtain ⟨ad', u, had', _, hx0, hcx⟩ := (hr.below (hb.mono hK)).at_ hlt
      have had'' : ad = ad' := Option.some.inj had'
      subst had''
      obtain ⟨x, hx, rfl⟩ : ∃ x, xs[k]? = some x ∧ Value.string x = u := by simpa using hx0
      have hxs := HOK.out.size x (List.mem_of_getElem? hx)
      have hxm := HOK.out x (List.mem_of_getElem? hx)
      have HXM := Lib.hid hxm
      have hadl : ad.block < wr.heap.size := by have := hP.size; omega
      have HDK : Hid ((xs.map L).drop k = L x :: (xs.map L).drop (k + 1)) := Lib.hid (by
        have hkl : k < (xs.map L).length := by rw [List.length_map, HL.out]; exact hlt
        rw [List.drop_eq_getElem_cons hkl]
        congr 1
        rw [List.getElem_map]
        congr 1
        rw [List.getElem?_eq_getElem (by rw [HL.out]; exact hlt)] at hx
        exact Option.some.inj hx)
      have HIT := Lib.hid (fun W => item_any x W hxs)
      clear hx hx0 had' hxm
      go_upto_region 5 with fail
      go_quiet (fail)
      have hP0 := hP.drewN nq
      have hb0 := below_drewN' hb nq
      have hgl0 := hP0.lt
      have hadl0 : ad.block < (wr.drewN nq).heap.size := hadl
      have hcx0 : (wr.drewN nq).cell? (ad.add k) = some (.string x) := hcx
      obtain ⟨e0', e1', e2', ef'⟩ := hP0.cells
      clear hP hb e0 e1 e2 ef hgl hcx hadl
      generalize wr.drewN nq = w0 at *
      obtain ⟨q, hq⟩ : ∃ q, itemT (L x) = q := ⟨_, rfl⟩
      have HQX := Lib.hid hq
      rw [hq] at HIT
      clear hq
      unfold itemV at HIT
      cases q with
      | none =>
        simp only at HIT
        have HSTOP : Hid (itemsT (allT f) depth c0 n ((xs.map L).drop k) = ([], 0)) := Lib.hid (itemsT_stop fun s t hst r hr => by
          rw [HDK.out] at hst
          injection hst with h1 _
          rw [← h1, HQX.out] at hr; cases hr)
        go_upto_region 6 with fail
        go_region_held3 (fun w' => w'.cell? ⟨g, 0, none⟩ = some (.slice (some ad) n c) ∧ w'.cell? ⟨g, 0 + 1, none⟩ = some (.int .i64 (k : Int)) ∧ w'.cell? (ad.add k) = some (.string x)) (go_keep)
          ((go_at_call 74; refine (HIT.out _).mono ?_; rintro e w1 ⟨rfl, b1⟩; have z0 := (b1.cell (p := ⟨g, 0, none⟩) hgl0).trans e0'; have z1 := (b1.cell (p := ⟨g, 0 + 1, none⟩) hgl0).trans e1'; have z2 := (b1.cell (p := ad.add k) (by rw [block_of_add]; exact hadl0)).trans hcx0))
        have b1' := below_of_drew b1
        have hP1 := hP0.below b1' (Nat.le_refl _)
        have hb1 := hb0.trans (b1'.mono hP0.size)
        clear hP0 hb0 z0 z1 z2 b1 b1' e0' e1' e2' ef' hcx0
        have hPe := hP1
        have hbe := hb1
        have hRR : itemsT (allT f) depth c0 n ((xs.map L).drop at_) = (bs, en - at_) := by
          rw [HT.out, HSTOP.out]
          simp
        have HRR := Lib.hid hRR
        clear hRR HSTOP HT
        obtain ⟨x0', x1', _, x3'⟩ := hPe.cells
        obtain ⟨hP2, hb2⟩ := hPe.goto_ en
        have hbe2 := hbe.trans hb2
        have hszw2 := hP2.size
        go_upto_region 14 with fail
        clear hPe hbe hb2 x0' x1' x3'
        try rw [show ((en : Nat) : Int) = (en : Int) from rfl]
        generalize hW2 : World.setCell w1 ⟨g, 1, none⟩ (.int .i64 (en : Int)) = w2 at *
        obtain ⟨x0', x1', _, x3'⟩ := hP2.cells
        have q1 : (at_ : Int) ≤ (en : Int) := by omega
        have q2 : (en : Int) ≤ (c : Int) := by omega
        have hca : ¬ c = at_ := by omega
        go_upto_region 16 with fail
        have hrd := (hr.below (hbe2.mono hK)).mid he1 (by omega : en ≤ n) hnc
        rw [if_neg hca] at hrd
        have HMD : Hid (((xs.drop at_).take (en - at_)).length = en - at_) := Lib.hid (mid_len he1 (by rw [HL.out]; omega))
        have HOK2 : Hid (LnOk ((xs.drop at_).take (en - at_))) := Lib.hid (fun x hx => HOK.out x (List.mem_of_mem_drop (List.mem_of_mem_take hx)))
        have HALLB : Hid ((((xs.map L).drop at_).take (en - at_)).all (fun x => !blankT x) = ((xs.drop at_).take (en - at_)).all fun x => !blankT (L x)) := Lib.hid (by
          rw [← List.map_drop, ← List.map_take, List.all_map]; rfl)
        generalize (xs.drop at_).take (en - at_) = ys at *
        obtain ⟨m, hm⟩ : ∃ m, en - at_ = m := ⟨_, rfl⟩
        rw [hm] at hrd HMD
        have HMM := Lib.hid hm
        have hmn : m ≤ 1048576 := by omega
        simp only [hm]
        clear hm
        go_loopw [15, 161] (fun s15 s161 wr2 => ∃ j, j ≤ m ∧ s161 = .int .i64 j ∧ s15 = .bool ((ys.take j).all fun x => !blankT (L x)) ∧ Below w2.heap.size w2 wr2) (fun _ s161 _ => m - (intOf s161).toNat)
        case atStart => exact ⟨0, Nat.zero_le _, rfl, rfl, Below.refl _ _⟩
        case round =>
          clear x0' x1' x3'
          obtain ⟨j, hj, rfl, rfl, hbj⟩ := hrel
          have hzj := hbj.size
          by_cases hlj : j < m
          · obtain ⟨ad', u, had', _, hy0, hcy⟩ := (hrd.below (hbj.mono (by omega : K ≤ w2.heap.size))).at_ hlj
            have had'' : ad.add at_ = ad' := Option.some.inj had'
            subst had''
            obtain ⟨y, hy, rfl⟩ : ∃ y, ys[j]? = some y ∧ Value.string y = u := by simpa using hy0
            have hys := HOK2.out.size y (List.mem_of_getElem? hy)
            have HBL := Lib.hid (fun W => blank_any y W (by omega))
            have HTK : Hid ((ys.take (j + 1)).all (fun x => !blankT (L x)) = ((ys.take j).all (fun x => !blankT (L x)) && !blankT (L y))) := Lib.hid (by rw [List.take_add_one, hy]; simp)
            clear hy hy0 had'
            obtain ⟨tv, htv⟩ : ∃ tv, (ys.take j).all (fun x => !blankT (L x)) = tv := ⟨_, rfl⟩
            rw [htv] at HTK ⊢
            clear htv
            generalize blankT (L y) = bv at *
            cases tv
            · go_wp2_with fail
              go_roundw
              case rel => exact ⟨j + 1, by omega, by go_num, by rw [HTK.out]; rfl, hbj⟩
              case measure => simp [intOf]; omega
            · cases bv
              all_goals
                go_wp2_with (go_at_call 22; refine (HBL.out _).mono ?_; rintro e w5 ⟨rfl, b5⟩)
                go_roundw
                case rel => exact ⟨j + 1, by omega, by go_num, by rw [HTK.out]; rfl, hbj.trans (b5.mono hzj)⟩
                case measure => simp [intOf]; omega
          · have hjm : j = m := by omega
            subst hjm
            rw [List.take_of_length_le (by rw [HMD.out]; omega), ← HALLB.out, ← HMM.out]
            generalize hTV : (((xs.map L).drop at_).take (en - at_)).all (fun x => !blankT x) = tv at *
            have HTV := Lib.hid hTV
            clear hTV
            have hP3 := hP2.below hbj (Nat.le_refl _)
            obtain ⟨ga, co3, v1, v2, v3, hP4, hb4⟩ := hP3.tight tv
            rw [HOL.out] at v2 v3 hP4 hb4
            have hlo : ((ol : Nat) : Int) < ((out ++ listB depth num false c0 :: bs).length : Int) := by rw [List.length_append, HOL.out, List.length_cons]; omega
            have hlo2 : (0 : Int) ≤ ((ol : Nat) : Int) := by omega
            have hlo3 : (((ol : Nat) : Int)).toNat = ol := by omega
            have v2' : wr.cell? ⟨ga, ol * 6 + 3, none⟩ = some (.bool false) := v2
            generalize (out ++ listB depth num false c0 :: bs).length = tot at *
            go_wp2_with fail
            go_end0
            rw [HRR.out]
            dsimp only
            rw [HTV.out, show at_ + (en - at_) = en by omega]
            exact ⟨by first | rfl | trivial, hP4, (hbe2.trans (hbj.mono hszw2)).trans hb4⟩
      | some q =>
        obtain ⟨c1, v1, cols1, r1⟩ := q
        simp only at HIT
        by_cases hcc : c1 = c0
        · subst hcc
          go_upto_region 6 with fail
          go_region_held3 (fun w' => w'.cell? ⟨g, 0, none⟩ = some (.slice (some ad) n c) ∧ w'.cell? ⟨g, 0 + 1, none⟩ = some (.int .i64 (k : Int)) ∧ w'.cell? (ad.add k) = some (.string x)) (go_keep)
            ((go_at_call 74; refine (HIT.out _).mono ?_; rintro e w1 ⟨rfl, b1⟩; have z0 := (b1.cell (p := ⟨g, 0, none⟩) hgl0).trans e0'; have z1 := (b1.cell (p := ⟨g, 0 + 1, none⟩) hgl0).trans e1'; have z2 := (b1.cell (p := ad.add k) (by rw [block_of_add]; exact hadl0)).trans hcx0))
          have b1' := below_of_drew b1
          have hP1 := hP0.below b1' (Nat.le_refl _)
          have hb1 := hb0.trans (b1'.mono hP0.size)
          clear hP0 hb0 z0 z1 z2 b1 b1' e0' e1' e2' ef' hcx0
          have hcol := item_cols HQX.out
          have hmu : mu r1 ≤ 1048576 := Nat.le_trans (mu_item HQX.out) HXM.out
          have HMU := Lib.hid hmu
          clear hmu
          have hw1 : IntKind.wrap .i64 ((depth : Int) + 1) = (depth : Int) + 1 := IntWalk.i64_in _ (by omega)
          have hw2 : IntKind.wrap .i64 ((depth : Int) + 2) = (depth : Int) + 2 := IntWalk.i64_in _ (by omega)
          go_upto_region 8 with fail
          go_cut [9] (fun s9 wx => s9 = .int .i64 en ∧ PSt wx base g (some ad) n c k depth (out ++ listB depth num false c1 :: (bs ++ [⟨5, (depth : Int) + 1, 0, false, [], []⟩])) ∧ Below base w wx)
          case first =>
            obtain ⟨j1, j2, Ao, co, hB, hO⟩ := hP1
            obtain ⟨tot, htot⟩ : ∃ tot, (out ++ listB depth num false c1 :: bs).length = tot := ⟨_, rfl⟩
            have htb : tot ≤ 1099511627000 := by rw [← htot, List.length_append, HOL.out, List.length_cons]; omega
            rw [htot] at hB hO
            have HTOT := Lib.hid htot
            clear htot
            have p3 : w1.cell? ⟨g, 0 + 3, none⟩ = some (.slice Ao tot co) := hB.cell 3
            have p2 : w1.cell? ⟨g, 0 + 2, none⟩ = some (.int .i64 (depth : Int)) := hB.cell 2
            have hgW := hB.lt
            have hne := hO.blk_ne hB (by decide)
            have HAPP : Hid (blkCells (out ++ listB depth num false c1 :: (bs ++ [⟨5, (depth : Int) + 1, 0, false, [], []⟩])) = blkCells (out ++ listB depth num false c1 :: bs) ++ [.int .i64 5, .int .i64 ((depth : Int) + 1), .int .i64 0, .bool false, .string ⟨#[]⟩, .string ⟨#[]⟩]) := Lib.hid (by
              rw [show out ++ listB depth num false c1 :: (bs ++ [⟨5, (depth : Int) + 1, 0, false, [], []⟩]) = (out ++ listB depth num false c1 :: bs) ++ [⟨5, (depth : Int) + 1, 0, false, [], []⟩] by simp, blkCells_app]
              rfl)
            have HAL : Hid ((out ++ listB depth num false c1 :: (bs ++ [⟨5, (depth : Int) + 1, 0, false, [], []⟩])).length = tot + 1) := Lib.hid (by
              rw [← HTOT.out]; simp; omega)
            have k63 : tot + 1 ≤ maxLen := by simp only [maxLen]; omega
            have kby : (tot + 1) * 64 ≤ 140737488355328 := by omega
            have kone : ∀ u ∈ (#[.int .i64 5, .int .i64 ((depth : Int) + 1), .int .i64 0, .bool false, .string ⟨#[]⟩, .string ⟨#[]⟩] : Array Value).toList, u.oneCell' = true := by simp [Value.oneCell']
            have kown := (hO.alloc (.cells #[.int .i64 5, .int .i64 ((depth : Int) + 1), .int .i64 0, .bool false, .string ⟨#[]⟩, .string ⟨#[]⟩] 28)).drew
            have kblk := (Blk.new w1 28 #[.int .i64 5, .int .i64 ((depth : Int) + 1), .int .i64 0, .bool false, .string ⟨#[]⟩, .string ⟨#[]⟩]).drew
            have kbase : base ≤ (w1.alloc (.cells #[.int .i64 5, .int .i64 ((depth : Int) + 1), .int .i64 0, .bool false, .string ⟨#[]⟩, .string ⟨#[]⟩] 28)).drew.heap.size := by show base ≤ (w1.alloc _).heap.size; simp; omega
            have KW := Lib.hid (And.intro kown (And.intro kblk (And.intro kbase (And.intro k63 (And.intro kby kone)))))
            clear k63 kby kone kown kblk kbase
            go_region_law (refine step_app1 Tryd.elBlocks rfl (.tmp 93) (.tmp 100) rfl rfl KW.out.1 rfl KW.out.2.1 rfl KW.out.2.2.2.2.2 KW.out.2.2.2.1 KW.out.2.2.2.2.1 KW.out.2.2.1 ?_; intro A' c' w3 hO3 ho hmv; have hB3 := ((hB.alloc (.cells #[.int .i64 5, .int .i64 ((depth : Int) + 1), .int .i64 0, .bool false, .string ⟨#[]⟩, .string ⟨#[]⟩] 28)).drew).only ho hne; have z0 := hB3.frozen 3; have z1 : w3.cell? ⟨g, 3, none⟩ = some (.slice Ao tot co) := hB3.cell 3)
            all_goals
              go_wp2_with fail
              go_meet
              have ho' : Only (w1.alloc (.cells #[.int .i64 5, .int .i64 ((depth : Int) + 1), .int .i64 0, .bool false, .string ⟨#[]⟩, .string ⟨#[]⟩] 28)) w3 Ao := ⟨ho.os, ho.tape, ho.output, ho.size, ho.block⟩
              have hb3 := hb1.trans (ho'.of_alloc.below (fun a ha => (hO.lt ha).1) j2)
              have hsz4 : w1.heap.size ≤ w3.heap.size := Nat.le_trans (by simp) ho'.size
              refine ⟨rfl, ⟨j1, by simp [World.setCell]; omega, A', c', ?_, ?_⟩, hb3.setCell (p := ⟨g, 3, none⟩) j1 _⟩
              · rw [HAL.out]
                exact hB3.set_ 3 _
              · rw [HAL.out, HAPP.out]
                exact hO3.setBlk hB3 (by decide) _
          case rest =>
            obtain ⟨rfl, hP9, hb9⟩ := hcut
            clear hP1 hb1
            obtain ⟨_, _, g2, _⟩ := hP9.cells
            have HITM := Lib.hid (item_any' (S r1) cols1 hcol (by rw [L_S]; exact HMU.out) depth K xs base g (some ad) n c k _ (World.drew wc) (show PSt (World.drew wc) base g (some ad) n c k depth _ from hP9.drewN 1) (hr.below (hb9.mono hK)).drew hK HOK.out hn hlt hnc)
            have HOKL : Hid ((out ++ listB depth num false c1 :: (bs ++ [⟨5, (depth : Int) + 1, 0, false, [], []⟩])).length ≤ ol + 2 + bs.length) := Lib.hid (by
              rw [List.length_append, HOL.out]; simp; omega)
            obtain ⟨OUT, hOUT⟩ : ∃ OUT, out ++ listB depth num false c1 :: (bs ++ [⟨5, (depth : Int) + 1, 0, false, [], []⟩]) = OUT := ⟨_, rfl⟩
            rw [hOUT] at HITM HOKL hP9
            have HOUT := Lib.hid hOUT
            have hspl := spanLines_len cols1 ((xs.map L).drop (k + 1))
            rw [List.length_drop, List.length_map, HL.out] at hspl
            have HLSL := Lib.hid (L_S r1)
            rw [HLSL.out] at HITM
            clear hOUT
            obtain ⟨spn, hspn⟩ : ∃ spn, spanLines cols1 ((xs.map L).drop (k + 1)) = spn := ⟨_, rfl⟩
            rw [hspn] at HITM hspl
            have HSPN := Lib.hid hspn
            clear hspn
            have HDEP : Hid (((depth + 2 : Nat) : Int) = (depth : Int) + 2) := Lib.hid (by omega)
            have hdd : depth ≤ 1000 := hdp
            generalize S r1 = R1 at *
            go_upto_region 9 with fail
            go_region_held3 (fun w' => w'.cell? ⟨g, 0 + 2, none⟩ = some (.int .i64 (depth : Int))) (go_keep)
              ((first
                | (go_at_call 75
                   refine HITM.out.mono ?_
                   rintro e w2 ⟨A', m', c', ls, rfl, hown2, hlo, hm', hls, hP10, b10, hz10⟩
                   have hwi := within_any f (depth + 2) hf IH w2.heap.size ls A' m' c' base g (some ad) n c (k + 1 + spn.length) depth OUT w2 hP10 (by have := HOKL.out; omega) hown2.reads (Nat.le_refl _) hlo (by omega) hown2.cap
                   rw [HDEP.out] at hwi
                   have HWI := Lib.hid hwi
                   obtain ⟨_, _, z0, _⟩ := hP10.cells)
                | (go_at_call 73
                   refine HWI.out.mono ?_
                   rintro e w3 ⟨rfl, hP11, b11⟩
                   obtain ⟨z1, z2, z3, _⟩ := hP11.cells)))
            have hb11 := hb9.trans ((below_of_drew b10).trans b11)
            have hlm : m' = ls.length := by have := hown2.len; simp at this; omega
            have hml : m' = spn.length + 1 := by rw [hlm, ← List.length_map (f := L), hls]; simp
            have hnb := allT_len f (depth + 2) (ls.map L)
            rw [List.length_map, ← hlm, hml] at hnb
            have hnb2 : (allT f (depth + 2) (ls.map L)).length ≤ 62 * (spn.length + 1) := Nat.le_trans hnb (Nat.mul_le_mul_right _ (by omega))
            have HLS := Lib.hid hls
            have HNB := Lib.hid hnb2
            clear hnb hnb2 hlm hml hls hlo hm' hP10 hwi HWI HITM hown2 b10 b11 z0 hP9 hb9 g2 hz10 HIT
            obtain ⟨ep, hep⟩ : ∃ ep, k + 1 + spn.length = ep := ⟨_, rfl⟩
            rw [hep] at hP11 z2
            have HEP := Lib.hid hep
            have hepn : ep ≤ n := by omega
            have hepk : k + 1 ≤ ep := by omega
            clear hep
            obtain ⟨OUT2, hOUT2⟩ : ∃ OUT2, OUT ++ allT f (depth + 2) (ls.map L) = OUT2 := ⟨_, rfl⟩
            rw [hOUT2] at hP11
            have HOUT2 := Lib.hid hOUT2
            clear hOUT2
            go_upto_region 11 with fail
            clear z1 z2 z3
            go_loopw [119] (fun _ wr2 => ∃ k2 : Nat, ep ≤ k2 ∧ k2 ≤ n ∧ (∀ j, ep ≤ j → j < k2 → ∃ x, xs[j]? = some x ∧ blankT (L x) = true) ∧ PSt wr2 base g (some ad) n c k2 depth OUT2 ∧ Below base w wr2) (fun _ wr2 => n - intAt wr2 ⟨g, 1, none⟩)
            case atStart => exact ⟨ep, Nat.le_refl _, hepn, fun j h1 h2 => by omega, hP11, hb11⟩
            case round =>
              clear hP11 hb11
              obtain ⟨k2, h21, h22, hall2, hP, hb⟩ := hrel
              have HALL2 := Lib.hid hall2
              clear hall2
              have HM2 := Lib.hid hP.intAt
              obtain ⟨e0, e1, e2, ef⟩ := hP.cells
              have hgl := hP.lt
              by_cases hlt2 : k2 < n
              · obtain ⟨ad', u, had', _, hx0, hcx⟩ := (hr.below (hb.mono hK)).at_ hlt2
                have had'' : ad = ad' := Option.some.inj had'
                subst had''
                obtain ⟨y, hy, rfl⟩ : ∃ x, xs[k2]? = some x ∧ Value.string x = u := by simpa using hx0
                have hys := HOK.out.size y (List.mem_of_getElem? hy)
                have hadl : ad.block < wr.heap.size := by have := hP.size; omega
                have HY := Lib.hid hy
                have HBL := Lib.hid (fun W => blank_any y W (by omega))
                obtain ⟨v, hv⟩ : ∃ v, blankT (L y) = v := ⟨_, rfl⟩
                rw [hv] at HBL
                have HV := Lib.hid hv
                clear hy hx0 hv had'
                cases v
                · go_upto_region 11 with fail
                  go_region_held3 (fun w' => w'.cell? ⟨g, 0, none⟩ = some (.slice (some ad) n c) ∧ w'.cell? ⟨g, 0 + 1, none⟩ = some (.int .i64 (k2 : Int)) ∧ w'.cell? (ad.add k2) = some (.string y)) (go_keep)
                    ((go_at_call 22; refine (HBL.out _).mono ?_; rintro e w1 ⟨rfl, b1⟩; have z0 := (b1.cell (p := ⟨g, 0, none⟩) hgl).trans e0; have z1 := (b1.cell (p := ⟨g, 0 + 1, none⟩) hgl).trans e1; have z2 := (b1.cell (p := ad.add k2) (by rw [block_of_add]; exact hadl)).trans hcx))
                  have hP1 := hP.below (below_of_drew b1) (Nat.le_refl _)
                  have hb1 := hb.trans ((below_of_drew b1).mono hP.size)
                  clear z0 z1 z2 b1 e0 e1 e2 ef hcx
                  have hPf := hP1
                  have hbf := hb1
                  have HEND2 : Hid (∀ x', xs[k2]? = some x' → blankT (L x') = false) := Lib.hid fun x' hx' => by rw [HY.out] at hx'; rw [← Option.some.inj hx', HV.out]
                  have hsp2 := span_take (p := blankT) (xs := xs) h21 (by rw [HL.out]; exact h22) HALL2.out HEND2.out
                  have hst := list_step (rc := allT f) (depth := depth) (sign := c1) (n := n) (at_ := at_) (k := k) (en := en) (cols := cols1) (D := fun j => (xs.map L).drop j) (bs := bs) (s := L x) (rest := r1) (num := v1) (fun j => by simp) (by simp [HL.out]) HT.out hk1 HDK.out HQX.out ep k2 (by rw [HSPN.out]; exact HEP.out.symm) (by show k2 = ep + (((xs.map L).drop ep).takeWhile blankT).length; rw [hsp2.2]; omega)
                  have HST := Lib.hid hst
                  clear hst hsp2
                  go_wp2_with fail
                  go_roundw
                  case rel =>
                    refine ⟨k2, ep, bs ++ (⟨5, (depth : Int) + 1, 0, false, [], []⟩ :: allT f (depth + 2) (r1 :: (spanLines cols1 ((xs.map L).drop (k + 1))).map fun s => stripT s (cols1 : Int))), by omega, by omega, h22, by rfl, ?_, HST.out, ?_, hbf⟩
                    · have h1 := HNB.out
                      rw [HLS.out] at h1
                      rw [HSPN.out, List.length_append, List.length_cons]
                      have := HEP.out
                      omega
                    · have h1 := HOUT2.out
                      rw [HLS.out, ← HOUT.out] at h1
                      rw [HSPN.out]
                      rw [← h1] at hPf
                      simpa using hPf
                  case measure =>
                    have h1 := HM.out
                    have h2 := hPf.intAt
                    rw [h1]
                    simp only [h2]
                    omega
                · go_upto_region 11 with fail
                  go_region_held3 (fun w' => w'.cell? ⟨g, 0, none⟩ = some (.slice (some ad) n c) ∧ w'.cell? ⟨g, 0 + 1, none⟩ = some (.int .i64 (k2 : Int)) ∧ w'.cell? (ad.add k2) = some (.string y)) (go_keep)
                    ((go_at_call 22; refine (HBL.out _).mono ?_; rintro e w1 ⟨rfl, b1⟩; have z0 := (b1.cell (p := ⟨g, 0, none⟩) hgl).trans e0; have z1 := (b1.cell (p := ⟨g, 0 + 1, none⟩) hgl).trans e1; have z2 := (b1.cell (p := ad.add k2) (by rw [block_of_add]; exact hadl)).trans hcx))
                  have hP1 := hP.below (below_of_drew b1) (Nat.le_refl _)
                  have hb1 := hb.trans ((below_of_drew b1).mono hP.size)
                  clear z0 z1 z2 b1 e0 e1 e2 ef hcx
                  obtain ⟨hP2, hb2⟩ := hP1.goto_ (k2 + 1)
                  obtain ⟨g0, g1, g2, gf⟩ := hP1.cells
                  go_wp2_with fail
                  go_roundw
                  case rel =>
                    refine ⟨k2 + 1, by omega, by omega, fun j h1 h2 => ?_, by simpa using hP2, by simpa using hb1.trans hb2⟩
                    rcases Nat.lt_or_ge j k2 with h | h
                    · exact HALL2.out j h1 h
                    · rw [show j = k2 by omega]; exact ⟨y, HY.out, HV.out⟩
                  case measure =>
                    have h1 := HM2.out
                    have h2 := hP2.intAt
                    simp at h2 ⊢
                    rw [h1]
                    omega
              · have HEND2 : Hid (∀ x', xs[k2]? = some x' → blankT (L x') = false) := Lib.hid fun x' hx' => by
                  have := (List.getElem?_eq_some_iff.1 hx').1
                  rw [HL.out] at this; omega
                go_upto_region 11 with fail
                go_quiet (fail)
                have hPf := hP.drewN nq
                have hbf := below_drewN' hb nq
                clear hP hb e0 e1 e2 ef hgl
                generalize wr.drewN nq = wf at *
                have hsp2 := span_take (p := blankT) (xs := xs) h21 (by rw [HL.out]; exact h22) HALL2.out HEND2.out
                have hst := list_step (rc := allT f) (depth := depth) (sign := c1) (n := n) (at_ := at_) (k := k) (en := en) (cols := cols1) (D := fun j => (xs.map L).drop j) (bs := bs) (s := L x) (rest := r1) (num := v1) (fun j => by simp) (by simp [HL.out]) HT.out hk1 HDK.out HQX.out ep k2 (by rw [HSPN.out]; exact HEP.out.symm) (by show k2 = ep + (((xs.map L).drop ep).takeWhile blankT).length; rw [hsp2.2]; omega)
                have HST := Lib.hid hst
                clear hst hsp2
                go_wp2_with fail
                go_roundw
                case rel =>
                  refine ⟨k2, ep, bs ++ (⟨5, (depth : Int) + 1, 0, false, [], []⟩ :: allT f (depth + 2) (r1 :: (spanLines cols1 ((xs.map L).drop (k + 1))).map fun s => stripT s (cols1 : Int))), by omega, by omega, h22, by rfl, ?_, HST.out, ?_, hbf⟩
                  · have h1 := HNB.out
                    rw [HLS.out] at h1
                    rw [HSPN.out, List.length_append, List.length_cons]
                    have := HEP.out
                    omega
                  · have h1 := HOUT2.out
                    rw [HLS.out, ← HOUT.out] at h1
                    rw [HSPN.out]
                    rw [← h1] at hPf
                    simpa using hPf
                case measure =>
                  have h1 := HM.out
                  have h2 := hPf.intAt
                  rw [h1]
                  simp only [h2]
                  omega
        · have HSTOP : Hid (itemsT (allT f) depth c0 n ((xs.map L).drop k) = ([], 0)) := Lib.hid (itemsT_stop fun s t hst r hr => by
            rw [HDK.out] at hst
            injection hst with h1 _
            rw [← h1, HQX.out] at hr
            rw [← Option.some.inj hr]; exact hcc)
          have qne : ((c1.toNat : Int) != (c0.toNat : Int)) = true := by
            rw [bne_iff_ne]
            exact fun e => hcc (UInt8.toNat_inj.1 (by omega))
          clear hcc
          go_upto_region 6 with fail
          go_region_held3 (fun w' => w'.cell? ⟨g, 0, none⟩ = some (.slice (some ad) n c) ∧ w'.cell? ⟨g, 0 + 1, none⟩ = some (.int .i64 (k : Int)) ∧ w'.cell? (ad.add k) = some (.string x)) (go_keep)
            ((go_at_call 74; refine (HIT.out _).mono ?_; rintro e w1 ⟨rfl, b1⟩; have z0 := (b1.cell (p := ⟨g, 0, none⟩) hgl0).trans e0'; have z1 := (b1.cell (p := ⟨g, 0 + 1, none⟩) hgl0).trans e1'; have z2 := (b1.cell (p := ad.add k) (by rw [block_of_add]; exact hadl0)).trans hcx0))
          have b1' := below_of_drew b1
          have hP1 := hP0.below b1' (Nat.le_refl _)
          have hb1 := hb0.trans (b1'.mono hP0.size)
          clear hP0 hb0 z0 z1 z2 b1 b1' e0' e1' e2' ef' hcx0
          have hPe := hP1
          have hbe := hb1
          have hRR : itemsT (allT f) depth c0 n ((xs.map L).drop at_) = (bs, en - at_) := by
            rw [HT.out, HSTOP.out]
            simp
          have HRR := Lib.hid hRR
          clear hRR HSTOP HT
          obtain ⟨x0', x1', _, x3'⟩ := hPe.cells
          obtain ⟨hP2, hb2⟩ := hPe.goto_ en
          have hbe2 := hbe.trans hb2
          have hszw2 := hP2.size
          go_upto_region 14 with fail
          clear hPe hbe hb2 x0' x1' x3'
          try rw [show ((en : Nat) : Int) = (en : Int) from rfl]
          generalize hW2 : World.setCell w1 ⟨g, 1, none⟩ (.int .i64 (en : Int)) = w2 at *
          obtain ⟨x0', x1', _, x3'⟩ := hP2.cells
          have q1 : (at_ : Int) ≤ (en : Int) := by omega
          have q2 : (en : Int) ≤ (c : Int) := by omega
          have hca : ¬ c = at_ := by omega
          go_upto_region 16 with fail
          have hrd := (hr.below (hbe2.mono hK)).mid he1 (by omega : en ≤ n) hnc
          rw [if_neg hca] at hrd
          have HMD : Hid (((xs.drop at_).take (en - at_)).length = en - at_) := Lib.hid (mid_len he1 (by rw [HL.out]; omega))
          have HOK2 : Hid (LnOk ((xs.drop at_).take (en - at_))) := Lib.hid (fun x hx => HOK.out x (List.mem_of_mem_drop (List.mem_of_mem_take hx)))
          have HALLB : Hid ((((xs.map L).drop at_).take (en - at_)).all (fun x => !blankT x) = ((xs.drop at_).take (en - at_)).all fun x => !blankT (L x)) := Lib.hid (by
            rw [← List.map_drop, ← List.map_take, List.all_map]; rfl)
          generalize (xs.drop at_).take (en - at_) = ys at *
          obtain ⟨m, hm⟩ : ∃ m, en - at_ = m := ⟨_, rfl⟩
          rw [hm] at hrd HMD
          have HMM := Lib.hid hm
          have hmn : m ≤ 1048576 := by omega
          simp only [hm]
          clear hm
          go_loopw [15, 161] (fun s15 s161 wr2 => ∃ j, j ≤ m ∧ s161 = .int .i64 j ∧ s15 = .bool ((ys.take j).all fun x => !blankT (L x)) ∧ Below w2.heap.size w2 wr2) (fun _ s161 _ => m - (intOf s161).toNat)
          case atStart => exact ⟨0, Nat.zero_le _, rfl, rfl, Below.refl _ _⟩
          case round =>
            clear x0' x1' x3'
            obtain ⟨j, hj, rfl, rfl, hbj⟩ := hrel
            have hzj := hbj.size
            by_cases hlj : j < m
            · obtain ⟨ad', u, had', _, hy0, hcy⟩ := (hrd.below (hbj.mono (by omega : K ≤ w2.heap.size))).at_ hlj
              have had'' : ad.add at_ = ad' := Option.some.inj had'
              subst had''
              obtain ⟨y, hy, rfl⟩ : ∃ y, ys[j]? = some y ∧ Value.string y = u := by simpa using hy0
              have hys := HOK2.out.size y (List.mem_of_getElem? hy)
              have HBL := Lib.hid (fun W => blank_any y W (by omega))
              have HTK : Hid ((ys.take (j + 1)).all (fun x => !blankT (L x)) = ((ys.take j).all (fun x => !blankT (L x)) && !blankT (L y))) := Lib.hid (by rw [List.take_add_one, hy]; simp)
              clear hy hy0 had'
              obtain ⟨tv, htv⟩ : ∃ tv, (ys.take j).all (fun x => !blankT (L x)) = tv := ⟨_, rfl⟩
              rw [htv] at HTK ⊢
              clear htv
              generalize blankT (L y) = bv at *
              cases tv
              · go_wp2_with fail
                go_roundw
                case rel => exact ⟨j + 1, by omega, by go_num, by rw [HTK.out]; rfl, hbj⟩
                case measure => simp [intOf]; omega
              · cases bv
                all_goals
                  go_wp2_with (go_at_call 22; refine (HBL.out _).mono ?_; rintro e w5 ⟨rfl, b5⟩)
                  go_roundw
                  case rel => exact ⟨j + 1, by omega, by go_num, by rw [HTK.out]; rfl, hbj.trans (b5.mono hzj)⟩
                  case measure => simp [intOf]; omega
            · have hjm : j = m := by omega
              subst hjm
              rw [List.take_of_length_le (by rw [HMD.out]; omega), ← HALLB.out, ← HMM.out]
              generalize hTV : (((xs.map L).drop at_).take (en - at_)).all (fun x => !blankT x) = tv at *
              have HTV := Lib.hid hTV
              clear hTV
              have hP3 := hP2.below hbj (Nat.le_refl _)
              obtain ⟨ga, co3, v1, v2, v3, hP4, hb4⟩ := hP3.tight tv
              rw [HOL.out] at v2 v3 hP4 hb4
              have hlo : ((ol : Nat) : Int) < ((out ++ listB depth num false c0 :: bs).length : Int) := by rw [List.length_append, HOL.out, List.length_cons]; omega
              have hlo2 : (0 : Int) ≤ ((ol : Nat) : Int) := by omega
              have hlo3 : (((ol : Nat) : Int)).toNat = ol := by omega
              have v2' : wr.cell? ⟨ga, ol * 6 + 3, none⟩ = some (.bool false) := v2
              generalize (out ++ listB depth num false c0 :: bs).length = tot at *
              go_wp2_with fail
              go_end0
              rw [HRR.out]
              dsimp only
              rw [HTV.out, show at_ + (en - at_) = en by omega]
              exact ⟨by first | rfl | trivial, hP4, (hbe2.trans (hbj.mono hszw2)).trans hb4⟩
    · have HSTOP : Hid (itemsT (allT f) depth c0 n ((xs.map L).drop k) = ([], 0)) := Lib.hid (by
        rw [List.drop_eq_nil_of_le (by rw [List.length_map, HL.out]; omega)]
        exact itemsT_stop fun s t hst => by cases hst)
      go_upto_region 5 with fail
      go_quiet (fail)
      have hPe := hP.drewN nq
      have hbe := below_drewN' hb nq
      clear hP hb e0 e1 e2 ef hgl
      generalize wr.drewN nq = w1 at *
      have hRR : itemsT (allT f) depth c0 n ((xs.map L).drop at_) = (bs, en - at_) := by
        rw [HT.out, HSTOP.out]
        simp
      have HRR := Lib.hid hRR
      clear hRR HSTOP HT
      obtain ⟨x0', x1', _, x3'⟩ := hPe.cells
      obtain ⟨hP2, hb2⟩ := hPe.goto_ en
      have hbe2 := hbe.trans hb2
      have hszw2 := hP2.size
      go_upto_region 14 with fail
      clear hPe hbe hb2 x0' x1' x3'
      try rw [show ((en : Nat) : Int) = (en : Int) from rfl]
      generalize hW2 : World.setCell w1 ⟨g, 1, none⟩ (.int .i64 (en : Int)) = w2 at *
      obtain ⟨x0', x1', _, x3'⟩ := hP2.cells
      have q1 : (at_ : Int) ≤ (en : Int) := by omega
      have q2 : (en : Int) ≤ (c : Int) := by omega
      have hca : ¬ c = at_ := by omega
      go_upto_region 16 with fail
      have hrd := (hr.below (hbe2.mono hK)).mid he1 (by omega : en ≤ n) hnc
      rw [if_neg hca] at hrd
      have HMD : Hid (((xs.drop at_).take (en - at_)).length = en - at_) := Lib.hid (mid_len he1 (by rw [HL.out]; omega))
      have HOK2 : Hid (LnOk ((xs.drop at_).take (en - at_))) := Lib.hid (fun x hx => HOK.out x (List.mem_of_mem_drop (List.mem_of_mem_take hx)))
      have HALLB : Hid ((((xs.map L).drop at_).take (en - at_)).all (fun x => !blankT x) = ((xs.drop at_).take (en - at_)).all fun x => !blankT (L x)) := Lib.hid (by
        rw [← List.map_drop, ← List.map_take, List.all_map]; rfl)
      generalize (xs.drop at_).take (en - at_) = ys at *
      obtain ⟨m, hm⟩ : ∃ m, en - at_ = m := ⟨_, rfl⟩
      rw [hm] at hrd HMD
      have HMM := Lib.hid hm
      have hmn : m ≤ 1048576 := by omega
      simp only [hm]
      clear hm
      go_loopw [15, 161] (fun s15 s161 wr2 => ∃ j, j ≤ m ∧ s161 = .int .i64 j ∧ s15 = .bool ((ys.take j).all fun x => !blankT (L x)) ∧ Below w2.heap.size w2 wr2) (fun _ s161 _ => m - (intOf s161).toNat)
      case atStart => exact ⟨0, Nat.zero_le _, rfl, rfl, Below.refl _ _⟩
      case round =>
        clear x0' x1' x3'
        obtain ⟨j, hj, rfl, rfl, hbj⟩ := hrel
        have hzj := hbj.size
        by_cases hlj : j < m
        · obtain ⟨ad', u, had', _, hy0, hcy⟩ := (hrd.below (hbj.mono (by omega : K ≤ w2.heap.size))).at_ hlj
          have had'' : ad.add at_ = ad' := Option.some.inj had'
          subst had''
          obtain ⟨y, hy, rfl⟩ : ∃ y, ys[j]? = some y ∧ Value.string y = u := by simpa using hy0
          have hys := HOK2.out.size y (List.mem_of_getElem? hy)
          have HBL := Lib.hid (fun W => blank_any y W (by omega))
          have HTK : Hid ((ys.take (j + 1)).all (fun x => !blankT (L x)) = ((ys.take j).all (fun x => !blankT (L x)) && !blankT (L y))) := Lib.hid (by rw [List.take_add_one, hy]; simp)
          clear hy hy0 had'
          obtain ⟨tv, htv⟩ : ∃ tv, (ys.take j).all (fun x => !blankT (L x)) = tv := ⟨_, rfl⟩
          rw [htv] at HTK ⊢
          clear htv
          generalize blankT (L y) = bv at *
          cases tv
          · go_wp2_with fail
            go_roundw
            case rel => exact ⟨j + 1, by omega, by go_num, by rw [HTK.out]; rfl, hbj⟩
            case measure => simp [intOf]; omega
          · cases bv
            all_goals
              go_wp2_with (go_at_call 22; refine (HBL.out _).mono ?_; rintro e w5 ⟨rfl, b5⟩)
              go_roundw
              case rel => exact ⟨j + 1, by omega, by go_num, by rw [HTK.out]; rfl, hbj.trans (b5.mono hzj)⟩
              case measure => simp [intOf]; omega
        · have hjm : j = m := by omega
          subst hjm
          rw [List.take_of_length_le (by rw [HMD.out]; omega), ← HALLB.out, ← HMM.out]
          generalize hTV : (((xs.map L).drop at_).take (en - at_)).all (fun x => !blankT x) = tv at *
          have HTV := Lib.hid hTV
          clear hTV
          have hP3 := hP2.below hbj (Nat.le_refl _)
          obtain ⟨ga, co3, v1, v2, v3, hP4, hb4⟩ := hP3.tight tv
          rw [HOL.out] at v2 v3 hP4 hb4
          have hlo : ((ol : Nat) : Int) < ((out ++ listB depth num false c0 :: bs).length : Int) := by rw [List.length_append, HOL.out, List.length_cons]; omega
          have hlo2 : (0 : Int) ≤ ((ol : Nat) : Int) := by omega
          have hlo3 : (((ol : Nat) : Int)).toNat = ol := by omega
          have v2' : wr.cell? ⟨ga, ol * 6 + 3, none⟩ = some (.bool false) := v2
          generalize (out ++ listB depth num false c0 :: bs).length = tot at *
          go_wp2_with fail
          go_end0
          rw [HRR.out]
          dsimp only
          rw [HTV.out, show at_ + (en - at_) = en by omega]
          exact ⟨by first | rfl | trivial, hP4, (hbe2.trans (hbj.mono hszw2)).trans hb4⟩
end Go.Proofs.YtommebalgghdjaaDoor
