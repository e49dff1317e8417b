/-
  bowdlerlaw7.VeilSees: its walk.
-/
import Derived.Test.YteeoohnkfdffnaaGreatDoorVeilUnknowns
import Derived.Test.YteeoohnkfdffnaaGreatDoorOpenTexts
import Derived.Test.YteeoohnkfdffnaaGreatDoorStepApp
import Derived.Test.YteeoohnkfdffnaaGreatDoorFrameL
namespace Go.Proofs.YteeoohnkfdffnaaGreatDoor
open Go.RowKit
set_option linter.unusedVariables false

theorem step_app7 {P : Program} {w : World} {ops : Array Oper} {E' : Prop} {o : Oper} {a : Act} {K : Act → World → Prop} {Q : Exit → Act → World → Prop} {t e size bytes : Nat} (E : Elem P t e size bytes) (hgd : o.guard = none) (s x : Operand)
    (ho : o.op = .call { callee := .builtin .append, args := #[s, x], argTypes := #[t, t] })
    {base : Nat} {A : Option Addr} {n c : Nat} {xs : List Value} (hs : a.eval s = .slice A n c) (hown : Own w base e size A n c xs)
    {L0 : Nat} {B : Option Addr} {m d : Nat} {news : List Value} (hx : a.eval x = .slice B m d) (hr : Reads w L0 size B m news) (h1 : ∀ u ∈ news, u.oneCell' = true)
    (h63 : n + m ≤ maxLen) (hbytes : (n + m) * bytes ≤ 140737488355328) (hbase : base ≤ w.heap.size)
    (h : ∀ A' c' w', Own w' base e size A' (n + m) c' (xs ++ news) → Only w w' A → Moved w A A' → K (a.put o.dst (.slice A' (n + m) c')) w') :
    if Region.wanted o (yielded ops a.tmps) = true then Oper.wp P o a w K Q else E' := by
  have hw : Region.wanted o (yielded ops a.tmps) = true := by simp [Region.wanted, hgd]
  rw [if_pos hw]
  obtain ⟨i, z, hi, hz, hsize, hby, hzs⟩ := E.info
  refine wp_append_any w s x t ho base e i z size bytes E.und hi hz hsize hby hzs E.pos _ n xs hs hown L0 B m d news hx hr h1 h63 hbytes hbase (fun v' w' h2 h3 h4 => ?_)
  obtain ⟨A', c', rfl⟩ := slice_of_own h2
  rw [ownBlock_slice] at h3 h4
  rw [ownBlock_slice] at h4
  exact h A' c' w' h2 h3 h4
theorem only_drew7 {w w' : World} {A : Option Addr} (h : Only w.drew w' A) : Only w w' A := ⟨h.os, h.tape, h.output, h.size, h.block⟩
def twiceL (l : List ByteArray) : List ByteArray := l.flatMap fun x => [x, x]
theorem twiceL_all (p : ByteArray → Bool) (l : List ByteArray) : (twiceL l).all p = l.all p := by
  induction l with
  | nil => rfl
  | cons x t ih =>
    have : twiceL (x :: t) = x :: x :: twiceL t := rfl
    rw [this, List.all_cons, List.all_cons, List.all_cons, ih]
    cases p x <;> rfl
theorem twiceL_len (l : List ByteArray) : (twiceL l).length = 2 * l.length := by
  induction l with
  | nil => rfl
  | cons x t ih =>
    have : twiceL (x :: t) = x :: x :: twiceL t := rfl
    rw [this, List.length_cons, List.length_cons, ih, List.length_cons]; omega
theorem twice_step {l : List ByteArray} {k : Nat} {x : ByteArray} (h : l[k]? = some x) : twiceL (l.drop k).reverse = twiceL (l.drop (k + 1)).reverse ++ [x, x] := by
  rw [drop_one h, List.reverse_cons]
  simp [twiceL]
theorem seesS_law {i : Nat} (hi : i < 4) (l : List ByteArray) (more : ByteArray) :
    seesT (diaS i) (l ++ [more]) = (seesT (diaS i) l && seesT (diaS i) [more]) ∧ seesT (diaS i) (twiceL (l ++ [more]).reverse) = seesT (diaS i) (l ++ [more]) ∧ seesT (diaS i) [] = true ∧ seesT (diaS i) [⟨#[108, 111, 119]⟩] = true := by
  have ok := diaS_ok hi
  have gd := diaS_good hi
  refine ⟨?_, ?_, ?_, ?_⟩
  · rw [sees_all ok gd, sees_all ok gd, sees_all ok gd, List.all_append]
  · rw [sees_all ok gd, sees_all ok gd, twiceL_all, List.all_reverse]
  · rw [sees_all ok gd]; rfl
  · rw [sees_all ok gd, List.all_cons, dia_low i hi]; rfl

set_option maxHeartbeats 4000000 in
set_option maxRecDepth 100000 in
theorem veilSees_walk (kk : Int) (C : Option Addr) (n cap : Nat) (l : List ByteArray) (more : ByteArray) (w : World) (hg : Glb w) (_ : (Lit.int .i64 kk).wf = true) (hl : IsTexts w C n cap l) (_ : more.size ≤ 140737488351232) :
    Calls Tryz.prog 5 #[.int .i64 kk, .slice C n cap, .string more] w fun e w' => e = .returned (.bool true) ∧ Below w.heap.size w w' := by
  have HG := Lib.hid hg
  obtain ⟨hrC, hnc, hcm, _⟩ := hl
  have hlen : l.length = n := by have := hrC.1; simpa using this
  have HLN := Lib.hid hlen
  clear hlen
  by_cases h60 : 10 < n
  · go_enter Tryz.func5, Tryz.ntmps5
    go_wp2_with (go_at_call 11; refine (alive7_any w HG.out).mono ?_; rintro e w1 ⟨rfl, b1⟩)
    go_ret
    exact ⟨rfl, b1⟩
  · obtain ⟨⟨i, hi, hmod⟩, hb1, hb2⟩ := tmod4 kk
    go_enter Tryz.func5, Tryz.ntmps5
    go_upto_region 4 with (first
      | (go_at_call 11; refine (alive7_any w HG.out).mono ?_; rintro e w1 ⟨rfl, b1⟩)
      | (go_at_call 25; refine (diamond_any w1).mono ?_; rintro e w2 ⟨A, B, rfl, hA, hB, b2⟩))
    have bb2 := b1.trans (b2.mono b1.size)
    have B3 := Blk.new w2 26 #[.slice A 4 4, .slice B 4 4]
    have hA3 := (hA.alloc (Nat.le_refl _) (.cells #[.slice A 4 4, .slice B 4 4] 26)).up (K' := (w2.alloc (.cells #[.slice A 4 4, .slice B 4 4] 26)).heap.size) (by simp)
    have hB3 := (hB.alloc (Nat.le_refl _) (.cells #[.slice A 4 4, .slice B 4 4] 26)).up (K' := (w2.alloc (.cells #[.slice A 4 4, .slice B 4 4] 26)).heap.size) (by simp)
    have bb3 := bb2.alloc bb2.size (.cells #[.slice A 4 4, .slice B 4 4] 26)
    have hgl3 : w2.heap.size < (w2.alloc (.cells #[.slice A 4 4, .slice B 4 4] 26)).heap.size := by simp
    obtain ⟨gd, hgd⟩ : ∃ gd, w2.heap.size = gd := ⟨_, rfl⟩
    rw [hgd] at B3 hgl3
    rw [hgd]
    generalize w2.alloc (.cells #[.slice A 4 4, .slice B 4 4] 26) = w3 at *
    clear hA hB hgd b1 b2 bb2
    obtain ⟨ad, u, rfl, hlt, hx0, hc⟩ := hA3.at_ hi
    obtain ⟨x, hx, rfl⟩ : ∃ x, diaN[i]? = some x ∧ Value.string x = u := by simpa using hx0
    have hxn : nmD i = x := by unfold nmD; rw [List.getD_eq_getElem?_getD, hx]; rfl
    have k0 : w3.cell? ⟨gd, 0, none⟩ = some (.slice (some ad) 4 4) := B3.cell 0
    have k1 : w3.cell? ⟨gd, 0 + 1, none⟩ = some (.slice B 4 4) := B3.cell 1
    have HNEW := Lib.hid (newDia_from (HG.out.below bb3) hA3 hB3 i hi)
    rw [hxn] at HNEW
    have x1 : IntKind.i64.wrap (kk.tmod 4 + 4) = kk.tmod 4 + 4 := IntWalk.i64_in _ (by omega)
    have x2 : (0 : Int) ≤ (i : Int) := by omega
    have x3 : (i : Int) < 4 := by omega
    have x4 : (i : Int).toNat = i := rfl
    clear hx hx0 hxn
    go_region_held3 (fun w' => w'.cell? ⟨gd, 0, none⟩ = some (.slice (some ad) 4 4) ∧ w'.cell? ⟨gd, 0 + 1, none⟩ = some (.slice B 4 4) ∧ w'.cell? (ad.add i) = some (.string x)) (go_keep)
      ((go_at_call 12; refine (HNEW.out _ (below_drewN' (Below.refl _ _) 1)).mono ?_; rintro e w5 ⟨g, rfl, kt, hg5, b5⟩; have z0 := (b5.cell (p := ⟨gd, 0, none⟩) hgl3).trans k0; have z1 := (b5.cell (p := ⟨gd, 0 + 1, none⟩) hgl3).trans k1; have z2 := (b5.cell (p := ad.add i) (by rw [block_of_add]; exact hlt)).trans hc))
    have bb5 : Below w.heap.size w w5 := bb3.trans (b5.mono bb3.size)
    have hrC5 := (hrC.below bb5).up bb5.size
    have HS := Lib.hid (seesS_law hi l more)
    clear x1 x2 x3 x4 hmod hb1 hb2 k0 k1 hc HNEW hA3 hB3 B3 hrC z0 z1 z2
    have KT := Lib.hid kt
    clear kt
    have hzz := bb5.size
    go_upto_region 8 with (first
      | (at_builtin; refine wpList_app Tryz.elTexts rfl (.const (.slice none 0 0)) (.tmp 37) rfl rfl (Own.nil _ w5.heap.size _ _) rfl hrC5 (tx_one _) (by simp only [maxLen]; omega) (by omega) (Nat.le_refl _) ?_
         intro A6 c6 w6 hown6 ho6 hm6
         rw [Nat.zero_add, List.nil_append] at hown6
         have b6 : Below w5.heap.size w5 w6 := ho6.below (fun a ha => by cases ha) (Nat.le_refl _)
         have hz6 := b6.size)
      | (at_builtin; refine wpList_app1 Tryz.elTexts rfl (.tmp 38) (.tmp 40) rfl rfl (by exact hown6.alloc _) rfl (Blk.new' _ _ _ _ (by simp)) rfl (by simp [Value.oneCell']) (by simp only [maxLen]; omega) (by omega) (by simp; omega) ?_
         intro A7 c7 w7 hown7 ho7 hm7))
    have b7 : Below w5.heap.size w5 w7 := b6.trans (ho7.of_alloc.below (fun a ha => (hown6.lt ha).1) hz6)
    have hl7 : txCells l ++ [Value.string more] = txCells (l ++ [more]) := by simp [txCells]
    have hown7 : Own w7 w5.heap.size 9 1 A7 (n + 1) c7 (txCells (l ++ [more])) := by rw [← hl7]; exact hown7
    obtain ⟨q7, rfl, hq1, hq2⟩ := hown7.some_ (by omega)
    obtain ⟨L2, hL2⟩ : ∃ L2, l ++ [more] = L2 := ⟨_, rfl⟩
    rw [hL2] at hown7 HS
    have HLL : Hid (L2.length = n + 1) := Lib.hid (by rw [← hL2, List.length_append, HLN.out]; rfl)
    have b7z := b7.size
    have hrC7 := (hrC5.below b7).up b7z
    clear hown6 ho6 hm6 ho7 hm7 hl7 hL2
    go_wp2_with fail
    go_loopw [11, 12] (fun s11 s12 wr => ∃ (k : Nat) (A8 : Option Addr) (c8 m8 : Nat), k ≤ n + 1 ∧ s12 = .int .i64 ((k : Int) - 1) ∧ s11 = .slice A8 m8 c8 ∧ m8 + 2 * k ≤ 2 * (n + 1) ∧ Own wr w7.heap.size 9 1 A8 m8 c8 (txCells (twiceL (L2.drop k).reverse)) ∧ Below w7.heap.size w7 wr)
      (fun _ s12 _ => (intOf s12 + 1).toNat)
    case atStart =>
      refine ⟨n + 1, none, 0, 0, Nat.le_refl _, by go_num, rfl, by omega, ?_, Below.refl _ _⟩
      rw [List.drop_of_length_le (by rw [HLL.out]; exact Nat.le_refl _)]
      exact Own.nil _ _ _ _
    case round =>
      obtain ⟨k, A8, c8, m8, hk, rfl, rfl, hm8, hO8, hb8⟩ := hrel
      have hz8 := hb8.size
      have hrL := hown7.below hb8 (Nat.le_refl _)
      rcases Nat.eq_zero_or_pos k with h0 | h0
      · subst h0
        have e0 : (((0 : Nat) : Int) - 1) = -1 := rfl
        rw [e0]
        rw [List.drop_zero] at hO8
        have b5r : Below w5.heap.size w5 wr := b7.trans (hb8.mono b7z)
        have bwr : Below w.heap.size w wr := bb5.trans (b5r.mono hzz)
        have KR := Lib.hid (KT.out.up b5r)
        have rL := hrL.reads
        have rC := (hrC7.below hb8).up hz8
        have rT := hO8.reads
        have HRL := Lib.hid (fun W (b : Below wr.heap.size wr W) => (rL.below b).up b.size)
        have HRC := Lib.hid (fun W (b : Below wr.heap.size wr W) => (rC.below b).up b.size)
        have HRT := Lib.hid (fun W (b : Below wr.heap.size wr W) => (rT.below b).up b.size)
        obtain ⟨s1, s2, s3, s4⟩ := HS.out
        obtain ⟨va, hva⟩ : ∃ va, seesT (diaS i) l = va := ⟨_, rfl⟩
        obtain ⟨vb, hvb⟩ : ∃ vb, seesT (diaS i) [more] = vb := ⟨_, rfl⟩
        rw [hva, hvb] at s1
        rw [s1] at s2
        obtain ⟨vs, hvs⟩ : ∃ vs, (va && vb) = vs := ⟨_, rfl⟩
        rw [hvs] at s1 s2
        have V1 := Lib.hid s1
        have V2 := Lib.hid s2
        have V3 := Lib.hid s3
        have V4 := Lib.hid s4
        have VA : Hid (vs = true → seesT (diaS i) l = true ∧ seesT (diaS i) [more] = true) := Lib.hid (fun h => by rw [hva, hvb]; rw [h] at hvs; simpa using hvs)
        have bb : Below wr.heap.size wr wr := Below.refl _ _
        have st0 := trivial
        clear s1 s2 s3 s4 hva hvb hvs rL rC rT hO8 hrL hown7 hrC7 hrC5 e0
        cases vs
        · go_wp2_with (first
            | (go_at_call 15; have st1 := st0; clear st0; refine (KR.out.sees _ _ _ _ L2 bb (HRL.out _ bb) (by omega)).mono ?_; rw [V1.out]; rintro e w9 ⟨rfl, b9⟩; have bb := bb.trans (b9.mono bb.size))
            | (go_at_call 15; have st2 := st1; clear st1; refine (KR.out.sees _ _ _ _ L2 bb (HRL.out _ bb) (by omega)).mono ?_; rw [V1.out]; rintro e w9 ⟨rfl, b9⟩; have bb := bb.trans (b9.mono bb.size))
            | (go_at_call 15; have st3 := st2; clear st2; refine (KR.out.sees _ _ _ _ (twiceL L2.reverse) bb (HRT.out _ bb) (by omega)).mono ?_; rw [V2.out]; rintro e w9 ⟨rfl, b9⟩; have bb := bb.trans (b9.mono bb.size))
            | (go_at_call 15; have st4 := st3; clear st3; refine (KR.out.sees _ none 0 0 [] bb Reads.none_ (by omega)).mono ?_; rw [V3.out]; rintro e w9 ⟨rfl, b9⟩; have bb := bb.trans (b9.mono bb.size))
            | (go_at_call 15; refine (KR.out.lit _ [⟨#[108, 111, 119]⟩] 1 bb rfl (by omega)).mono ?_; rw [V4.out]; rintro e w9 ⟨rfl, b9⟩; have bb := bb.trans (b9.mono bb.size)))
          go_ret
          exact ⟨rfl, bwr.trans (bb.mono bwr.size)⟩
        · obtain ⟨v5, v6⟩ := VA.out rfl
          have V5 := Lib.hid v5
          have V6 := Lib.hid v6
          clear v5 v6
          go_wp2_with (first
            | (go_at_call 15; have st1 := st0; clear st0; refine (KR.out.sees _ _ _ _ L2 bb (HRL.out _ bb) (by omega)).mono ?_; rw [V1.out]; rintro e w9 ⟨rfl, b9⟩; have bb := bb.trans (b9.mono bb.size))
            | (go_at_call 15; have st2 := st1; clear st1; refine (KR.out.sees _ C n cap l bb (HRC.out _ bb) (by omega)).mono ?_; rw [V5.out]; rintro e w9 ⟨rfl, b9⟩; have bb := bb.trans (b9.mono bb.size))
            | (go_at_call 15; have st3 := st2; clear st2; refine (KR.out.lit _ [more] 1 bb rfl (by omega)).mono ?_; rw [V6.out]; rintro e w9 ⟨rfl, b9⟩; have bb := bb.trans (b9.mono bb.size))
            | (go_at_call 15; have st4 := st3; clear st3; refine (KR.out.sees _ _ _ _ L2 bb (HRL.out _ bb) (by omega)).mono ?_; rw [V1.out]; rintro e w9 ⟨rfl, b9⟩; have bb := bb.trans (b9.mono bb.size))
            | (go_at_call 15; have st5 := st4; clear st4; refine (KR.out.sees _ _ _ _ (twiceL L2.reverse) bb (HRT.out _ bb) (by omega)).mono ?_; rw [V2.out]; rintro e w9 ⟨rfl, b9⟩; have bb := bb.trans (b9.mono bb.size))
            | (go_at_call 15; have st6 := st5; clear st5; refine (KR.out.sees _ none 0 0 [] bb Reads.none_ (by omega)).mono ?_; rw [V3.out]; rintro e w9 ⟨rfl, b9⟩; have bb := bb.trans (b9.mono bb.size))
            | (go_at_call 15; refine (KR.out.lit _ [⟨#[108, 111, 119]⟩] 1 bb rfl (by omega)).mono ?_; rw [V4.out]; rintro e w9 ⟨rfl, b9⟩; have bb := bb.trans (b9.mono bb.size)))
          go_ret
          exact ⟨rfl, bwr.trans (bb.mono bwr.size)⟩
      · obtain ⟨k, rfl⟩ : ∃ j, k = j + 1 := ⟨k - 1, by omega⟩
        obtain ⟨y, hy⟩ : ∃ y, L2[k]? = some y := ⟨_, List.getElem?_eq_getElem (by have := HLL.out; omega)⟩
        have c0 := hrL.cell (j := k) (u := .string y) (by simp [hy])
        have HY := Lib.hid hy
        have e1 : (((k + 1 : Nat) : Int) - 1) = (k : Int) := by omega
        have x2 : (0 : Int) ≤ (k : Int) := by omega
        have x3 : (k : Int) < ((n + 1 : Nat) : Int) := by omega
        have x5 : (k : Int) < (n : Int) + 1 := by omega
        have x6 : k < n + 1 := by omega
        have x4 : (k : Int).toNat = k := rfl
        rw [e1]
        clear hy e1
        go_upto_region 12 with fail
        have hLL : Reads (wr.alloc (.cells #[.string y, .string y] 9)) (wr.alloc (.cells #[.string y, .string y] 9)).heap.size 1 (some ⟨wr.heap.size, 0, none⟩) 2 (txCells [y, y]) := lit_reads wr [y, y] 2 rfl
        have hsq : Sep (some (⟨q7, 0, none⟩ : Addr)) A8 := fun a b ha hb => by
          injection ha with ha
          have := (hO8.lt hb).1
          rw [← ha]; show q7 ≠ b.block; omega
        go_region_held3 (fun w' => w'.cell? ⟨q7, k, none⟩ = some (.string y)) ((first | go_keep | assumption))
          ((refine step_app7 Tryz.elTexts (by rfl) (.tmp 49) (.tmp 58) (by rfl) (by rfl) (by exact Own.drew (hO8.alloc _)) (by rfl) (by exact hLL.drew) (tx_one _) (by simp only [maxLen]; omega) (by omega) (by simp; omega) ?_; intro A9 c9 w9 hown9 ho9 hm9; have ho9' : Only wr w9 A8 := (only_drew7 ho9).of_alloc; have zc : w9.cell? ⟨q7, k, none⟩ = some (.string y) := (hrL.only ho9' hsq).cell (j := k) (by simp [HY.out])))
        go_wp2_with fail
        go_roundw
        case rel =>
          refine ⟨k, A9, c9, m8 + 2, by omega, by go_num, rfl, by omega, ?_, ?_⟩
          · rw [twice_step HY.out]
            have : txCells (twiceL (L2.drop (k + 1)).reverse ++ [y, y]) = txCells (twiceL (L2.drop (k + 1)).reverse) ++ txCells [y, y] := by simp [txCells]
            rw [this]
            exact hown9
          · exact hb8.trans (ho9'.below (fun a ha => (hO8.lt ha).1) hz8)
        case measure => simp [intOf]
end Go.Proofs.YteeoohnkfdffnaaGreatDoor
