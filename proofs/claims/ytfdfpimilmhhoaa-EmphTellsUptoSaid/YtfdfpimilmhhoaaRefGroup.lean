/-
  bowdlerref14.Group: its contract: what emph.Group answers.
-/
import Derived.Test.YtfdfpimilmhhoaaRefMerge
import Derived.Deep.DeepCutAuto
namespace Go.Proofs.Ytfdfpimilmhhoaa
open Go.RowKit
set_option linter.unusedVariables false

theorem set_first {α : Type} (l r : List α) (a x : α) (n : Nat) (hn : l.length = n) : (l ++ a :: r).set n x = l ++ x :: r := by
  subst hn
  rw [List.set_append_right _ _ (Nat.le_refl _), Nat.sub_self]; rfl
theorem new_row {ps : List Pc} {fr j : Nat} {a b mp x y : Pc} (hf : fr < j) (ha : ps[fr]? = some a) (hb : ps[j]? = some b) :
    ((ps.take (fr + 1) ++ mp :: ps.drop j).set fr x).set (fr + 2) y = ps.take fr ++ [x, mp] ++ y :: ps.drop (j + 1) := by
  obtain ⟨h1, h2⟩ := List.getElem?_eq_some_iff.1 ha
  obtain ⟨h3, h4⟩ := List.getElem?_eq_some_iff.1 hb
  rw [List.take_add_one, ha, Option.toList_some, List.drop_eq_getElem_cons h3, h4, List.append_assoc, List.singleton_append, set_first _ _ _ _ fr (by rw [List.length_take]; omega)]
  have e : ps.take fr ++ x :: mp :: b :: ps.drop (j + 1) = (ps.take fr ++ [x, mp]) ++ b :: ps.drop (j + 1) := by simp
  rw [e, set_first _ _ _ _ (fr + 2) (by rw [List.length_append, List.length_take]; simp; omega)]
theorem Own.ri {w : World} {base e n c g : Nat} {l : List Pc} (h : Own w base e 9 (some ⟨g, 0, none⟩) n c (rlCells l)) {i : Nat} {p : Pc} (hp : l[i]? = some p) :
    w.cell? ⟨g, i * 9, none⟩ = some (.int .u8 (p.sign.toNat : Int)) ∧ w.cell? ⟨g, i * 9 + 1, none⟩ = some (.int .i64 p.left) ∧ w.cell? ⟨g, i * 9 + 2, none⟩ = some (.int .i64 p.n) ∧
    w.cell? ⟨g, i * 9 + 3, none⟩ = some (.bool p.opn) ∧ w.cell? ⟨g, i * 9 + 4, none⟩ = some (.bool p.cls) ∧ w.cell? ⟨g, i * 9 + 5, none⟩ = some (.slice p.A p.ln p.cp) ∧
    w.cell? ⟨g, i * 9 + 6, none⟩ = some (.string ⟨#[]⟩) ∧ w.cell? ⟨g, i * 9 + 7, none⟩ = some (.int .i64 0) ∧ w.cell? ⟨g, i * 9 + 8, none⟩ = some (.bool p.shut) := by
  have tt := fun q (hq : q < 9) => flat_get riCells 9 ri_len l i q hq hp
  exact ⟨h.cell (j := i * 9) (by have := tt 0 (by omega); rw [Nat.add_zero] at this; rw [this]; rfl), h.cell (j := i * 9 + 1) (by rw [tt 1 (by omega)]; rfl), h.cell (j := i * 9 + 2) (by rw [tt 2 (by omega)]; rfl), h.cell (j := i * 9 + 3) (by rw [tt 3 (by omega)]; rfl),
    h.cell (j := i * 9 + 4) (by rw [tt 4 (by omega)]; rfl), h.cell (j := i * 9 + 5) (by rw [tt 5 (by omega)]; rfl), h.cell (j := i * 9 + 6) (by rw [tt 6 (by omega)]; rfl), h.cell (j := i * 9 + 7) (by rw [tt 7 (by omega)]; rfl), h.cell (j := i * 9 + 8) (by rw [tt 8 (by omega)]; rfl)⟩
theorem Reads.live {w : World} {B0 n c : Nat} {A : Option Addr} {l : List Inl} (h : Reads w B0 5 A n (inlCells l)) : Live w B0 A n c l := .inl h
def RRel (its : List Pc) (T : Nat) (w : World) (gk : Nat) (p i : Value) (wr : World) : Prop :=
  ∃ (ps : List Pc) (j : Nat) (A1 : Option Addr) (c1 fuel : Nat), gMeas ps j = gk ∧ p = .slice A1 ps.length c1 ∧ i = .int .i64 j ∧ j ≤ ps.length ∧ Own wr w.heap.size 56 9 A1 ps.length c1 (rlCells ps) ∧
    (∀ q ∈ ps, Live wr w.heap.size q.A q.ln q.cp q.l) ∧ RInv 1048576 T ps ∧ gMeas ps j < fuel ∧ rRun fuel (ps.map era) j = rRun (gMeas its 0 + 1) (its.map era) 0 ∧ Below w.heap.size w wr
theorem rRun_step {ps : List Pc} {j fuel : Nat} {R : List Pc} (hj : j < ps.length) (hf : gMeas ps j < fuel) (h : rRun fuel (ps.map era) j = R) :
    ∃ f, fuel = f + 1 ∧ rRun f ((rStep ps j).1.map era) (rStep ps j).2 = R := by
  obtain ⟨f, rfl⟩ : ∃ f, fuel = f + 1 := ⟨fuel - 1, by omega⟩
  refine ⟨f, rfl, ?_⟩
  rw [rRun, if_pos (by simpa using hj), rStep_era] at h
  exact h
theorem skips_close {b : Pc} (h0 : 0 ≤ b.left) (hs : skips b) (h : ¬ b.sign = 0) : (b.cls && !b.shut && decide (0 < b.left)) = false := by
  unfold skips at hs
  rcases hs with hs | hs | hs | hs
  · exact absurd hs h
  · rw [hs]; rfl
  · rw [hs]; simp
  · rw [hs]; simp
theorem noskip_close {b : Pc} (h0 : 0 ≤ b.left) (hs : ¬ skips b) : (b.cls && !b.shut && decide (0 < b.left)) = true ∧ ¬ b.sign = 0 := by
  unfold skips at hs
  simp only [not_or] at hs
  obtain ⟨h1, h2, h3, h4⟩ := hs
  have e1 : b.cls = true := by simpa using h2
  have e2 : b.shut = false := by simpa using h3
  rw [e1, e2, decide_eq_true (by omega : 0 < b.left)]
  exact ⟨rfl, h1⟩

theorem rnods_mid (ps : List Pc) (i f : Nat) : rnods ((ps.take i).drop f) ≤ rnods ps := by
  have h1 : rnods ps = rnods (ps.take i) + rnods (ps.drop i) := by rw [← rnods_app, List.take_append_drop]
  have h2 : rnods (ps.take i) = rnods ((ps.take i).take f) + rnods ((ps.take i).drop f) := by rw [← rnods_app, List.take_append_drop]
  omega
def madeAt (A : Option Addr) (n c : Nat) (l : List Inl) : Pc := ⟨0, 0, false, false, A, n, c, l, 0, false⟩

set_option maxHeartbeats 8000000 in
set_option maxRecDepth 1000000 in
theorem refGroup_any (A : Option Addr) (m c T : Nat) (its : List Pc) (w : World) (hr : Reads w w.heap.size 9 A m (rlCells its)) (hL : ∀ p ∈ its, Reads w w.heap.size 5 p.A p.ln (inlCells p.l))
    (hinv : RInv 1048576 T its) (hT : T ≤ 1152921504606846976) :
    Calls Try.prog 26 #[.slice A m c] w fun e w' => ∃ A' c', e = .returned (.slice A' (groupT its).length c') ∧ Own w' w.heap.size 95 5 A' (groupT its).length c' (inlCells (groupT its)) ∧ Below w.heap.size w w' := by
  have hlen : its.length = m := by have := hr.1; rw [flat_length _ 9 ri_len] at this; omega
  have hm : m ≤ 1048576 := by have := hinv.2.1; omega
  have HL := Lib.hid hlen
  have HI := Lib.hid hinv
  have HGT := Lib.hid (rGroup_eq its)
  clear hlen hinv
  go_enter Try.func26, Try.ntmps26
  go_upto_region 2 with (at_builtin; refine wpList_app Try.elRis rfl (.const (.slice none 0 0)) (.tmp 10) rfl rfl (Own.nil _ w.heap.size _ _) rfl hr (ri_one _) (by simp only [maxLen]; omega) (by omega) (Nat.le_refl _) ?_
                         intro A0 c0 w0 hown0 ho0 hm0
                         rw [Nat.zero_add, List.nil_append] at hown0)
  have hb0 : Below w.heap.size w w0 := ho0.below (fun a ha => by cases ha) (Nat.le_refl _)
  have HR : Hid (RRel its T w (gMeas its 0) (.slice A0 m c0) (.int .i64 0) w0) := Lib.hid ⟨its, 0, A0, c0, gMeas its 0 + 1, rfl, by rw [HL.out], rfl, Nat.zero_le _, by rw [HL.out]; exact hown0, fun q hq => ((hL q hq).below hb0).live, HI.out, by omega, rfl, hb0⟩
  clear hown0 ho0 hm0 hb0 hr hL
  go_wp2_with fail
  go_loopg [0, 3] (gMeas its 0) (fun gk p i wr => RRel its T w gk p i wr)
  case atStart => exact HR.out
  case round =>
    clear HR
    obtain ⟨ps, j, A1, c1, fuel, rfl, rfl, rfl, hj, hown, hlive, hinv, hfuel, hrun, hb⟩ := hrel
    have HV := Lib.hid hlive
    have HI2 := Lib.hid hinv
    have HR := Lib.hid hrun
    have hpl : ps.length ≤ 1048576 := by have := hinv.2.1; omega
    clear hlive hinv hrun
    have hbs := hb.size
    by_cases hlt : j < ps.length
    · obtain ⟨b, hbj⟩ : ∃ b, ps[j]? = some b := ⟨_, List.getElem?_eq_getElem hlt⟩
      obtain ⟨g, rfl, hgb, hgl⟩ := hown.some_ (by omega)
      obtain ⟨t0, t1, t2, t3, t4, t5, t6, t7, t8⟩ := hown.ri hbj
      have hl0 : 0 ≤ b.left := (HI2.out.1 b (List.mem_of_getElem? hbj)).1
      have HCL := Lib.hid (fun W => refClose_any b W)
      unfold riAgg at HCL
      have HXC := Blk.new wr 56 #[.int .u8 (b.sign.toNat : Int), .int .i64 b.left, .int .i64 b.n, .bool b.opn, .bool b.cls, .slice b.A b.ln b.cp, .string ⟨#[]⟩, .int .i64 0, .bool b.shut]
      have hownA := hown.alloc (.cells #[.int .u8 (b.sign.toNat : Int), .int .i64 b.left, .int .i64 b.n, .bool b.opn, .bool b.cls, .slice b.A b.ln b.cp, .string ⟨#[]⟩, .int .i64 0, .bool b.shut] 56)
      have hbA := hb.alloc hbs (.cells #[.int .u8 (b.sign.toNat : Int), .int .i64 b.left, .int .i64 b.n, .bool b.opn, .bool b.cls, .slice b.A b.ln b.cp, .string ⟨#[]⟩, .int .i64 0, .bool b.shut] 56)
      have HVA : Hid (∀ q ∈ ps, Live (wr.alloc (.cells #[.int .u8 (b.sign.toNat : Int), .int .i64 b.left, .int .i64 b.n, .bool b.opn, .bool b.cls, .slice b.A b.ln b.cp, .string ⟨#[]⟩, .int .i64 0, .bool b.shut] 56)) w.heap.size q.A q.ln q.cp q.l) := Lib.hid fun q hq => (HV.out q hq).alloc hbs _
      have hgx : wr.heap.size < (wr.alloc (.cells #[.int .u8 (b.sign.toNat : Int), .int .i64 b.left, .int .i64 b.n, .bool b.opn, .bool b.cls, .slice b.A b.ln b.cp, .string ⟨#[]⟩, .int .i64 0, .bool b.shut] 56)).heap.size := by simp
      by_cases hsk : skips b
      · have hst : rStep ps j = (ps, j + 1) := by unfold rStep; rw [hbj]; simp only; rw [if_pos hsk]
        obtain ⟨f, hf1, hf2⟩ := rRun_step hlt hfuel HR.out
        rw [hst] at hf2
        have HF := Lib.hid hf2
        have hlt2 : gMeas ps (j + 1) < gMeas ps j := by unfold gMeas; omega
        have hff : gMeas ps (j + 1) < f := by omega
        clear hf2 hst hf1 hfuel
        by_cases hs0 : b.sign = 0
        · have q0 : ((b.sign.toNat : Int) == 0) = true := by rw [hs0]; rfl
          have HM := Lib.hid hlt2
          clear hsk hbj hs0 hown hb HV hlt2
          go_wp2_with fail
          go_roundg (gMeas ps (j + 1))
          case measure => exact HM.out
          case rel => exact ⟨ps, j + 1, some ⟨g, 0, none⟩, c1, f, rfl, rfl, by go_num, by omega, hownA, HVA.out, HI2.out, hff, HF.out, hbA⟩
        · have q0 : ((b.sign.toNat : Int) == 0) = false := beq_eq_false_iff_ne.2 (by have := u8_ne hs0; omega)
          have HCV := Lib.hid (skips_close hl0 hsk hs0)
          have HM := Lib.hid hlt2
          clear hsk hbj hs0 hown hb HV hlt2
          go_wp2_with fail
          refine (HCL.out _).mono ?_
          rintro e w1 ⟨rfl, b1⟩
          rw [HCV.out]
          have hown1 := hownA.below b1 (Nat.le_refl _)
          have hb1 := hbA.trans (b1.mono (by omega))
          have HV1 : Hid (∀ q ∈ ps, Live w1 w.heap.size q.A q.ln q.cp q.l) := Lib.hid fun q hq => (HVA.out q hq).below b1 (by omega)
          clear hownA HVA hbA b1
          go_wp2_with fail
          go_roundg (gMeas ps (j + 1))
          case measure => exact HM.out
          case rel => exact ⟨ps, j + 1, some ⟨g, 0, none⟩, c1, f, rfl, rfl, by go_num, by omega, hown1, HV1.out, HI2.out, hff, HF.out, hb1⟩
      · obtain ⟨hcv, hs0⟩ := noskip_close hl0 hsk
        have q0 : ((b.sign.toNat : Int) == 0) = false := beq_eq_false_iff_ne.2 (by have := u8_ne hs0; omega)
        have HCV := Lib.hid hcv
        have hbok := (HI2.out.1 b (List.mem_of_getElem? hbj))
        have hbl : 1 ≤ b.left := by
          unfold skips at hsk
          simp only [not_or] at hsk
          omega
        have hbn : 0 ≤ b.n ∧ b.n ≤ 1048576 := by rcases hbok.2.2 with h | h; omega; exact h
        have hfits : ∀ p ∈ ps, PcFit p := fun p hp => (HI2.out.1 p hp).2.2
        have HFT := Lib.hid hfits
        have HBN := Lib.hid hbn
        have HBJ := Lib.hid hbj
        have HSK := Lib.hid hsk
        clear hcv hs0 hown hb HV hfits hbn hbj hsk
        go_wp2_with fail
        refine (HCL.out _).mono ?_
        rintro e w1 ⟨rfl, b1⟩
        rw [HCV.out]
        have hown1 := hownA.below b1 (Nat.le_refl _)
        have hb1 := hbA.trans (b1.mono (by omega))
        have HV1 : Hid (∀ q ∈ ps, Live w1 w.heap.size q.A q.ln q.cp q.l) := Lib.hid fun q hq => (HVA.out q hq).below b1 (by omega)
        have X1 := HXC.below b1 hgx
        clear hownA HVA hbA b1 HXC t0 t1 t2 t3 t4 t5 t6 t7 t8
        have hz1 := hb1.size
        go_wp2_with fail
        refine (refOpener_any (some ⟨g, 0, none⟩) ps.length c1 ps j b _ hown1.reads HBJ.out hpl HFT.out HBN.out).mono ?_
        rintro e w2 ⟨rfl, b2⟩
        have hown2 := hown1.below b2 (Nat.le_refl _)
        have hb2 := hb1.trans (b2.mono hz1)
        have HV2 : Hid (∀ q ∈ ps, Live w2 w.heap.size q.A q.ln q.cp q.l) := Lib.hid fun q hq => (HV1.out q hq).below b2 hz1
        have X2 := X1.below b2 X1.lt
        have hz2 := hb2.size
        clear hown1 HV1 hb1 b2 X1
        obtain ⟨f, hf1, hf2⟩ := rRun_step hlt hfuel HR.out
        have hmeas := rStep_meas hlt (fun p hp => (HI2.out.1 p hp).1)
        have hinv2 := rStep_inv HI2.out hlt
        by_cases ho : openAt ps b j < 0
        · have hst : rStep ps j = (ps.set j { b with shut := true }, j + 1) := by unfold rStep; rw [HBJ.out]; simp only; rw [if_neg HSK.out, if_pos ho]
          rw [hst] at hf2 hmeas hinv2
          simp only at hf2 hmeas hinv2
          have HF := Lib.hid hf2
          have HN := Lib.hid hinv2
          have tt := fun q (hq : q < 9) => flat_get riCells 9 ri_len ps j q hq HBJ.out
          have t8 := hown2.cell (j := j * 9 + 8) (u := .bool b.shut) (by rw [tt 8 (by omega)]; rfl)
          have f8 := hown2.frozen (j * 9 + 8)
          have hown3 := hown2.stored (j * 9 + 8) (.bool true)
          rw [flat_set riCells 9 ri_len ps j 8 (by omega) HBJ.out (x' := { b with shut := true }) rfl] at hown3
          have HV3 : Hid (∀ q ∈ ps.set j { b with shut := true }, Live (w2.setCell ⟨g, j * 9 + 8, none⟩ (.bool true)) w.heap.size q.A q.ln q.cp q.l) := Lib.hid (fun q hq => by
            have : Live w2 w.heap.size q.A q.ln q.cp q.l := by
              rcases List.mem_or_eq_of_mem_set hq with hq | rfl
              · exact HV2.out q hq
              · exact HV2.out b (List.mem_of_getElem? HBJ.out)
            exact this.only (only_setCell w2 g (j * 9 + 8) (.bool true)) hown2 (by decide) hz2)
          have hb3 := hb2.setCell (p := ⟨g, j * 9 + 8, none⟩) hgb (.bool true)
          have hff : gMeas (ps.set j { b with shut := true }) (j + 1) < f := by omega
          have HM := Lib.hid hmeas
          clear hf1 hf2 hst hinv2 hmeas tt hfuel hown2
          generalize openAt ps b j = o at *
          go_wp2_with fail
          go_roundg (gMeas (ps.set j { b with shut := true }) (j + 1))
          case measure => exact HM.out
          case rel => exact ⟨_, j + 1, some ⟨g, 0, none⟩, c1, f, rfl, by simp, by go_num, by simp; omega, by simpa using hown3, HV3.out, HN.out, hff, HF.out, hb3⟩
        · obtain ⟨a, ha, hpr⟩ := openAt_some (by omega : 0 ≤ openAt ps b j)
          have hol := (openAt_lt ps b j).1
          obtain ⟨fr, hfr⟩ : ∃ fr : Nat, openAt ps b j = fr := ⟨(openAt ps b j).toNat, by omega⟩
          have hst : rStep ps j = (ps.take fr ++ [lessPc a (gN a b), madePc (rMade ps fr j a b)] ++ lessPc b (gN a b) :: ps.drop (j + 1), fr + 2) := by
            unfold rStep
            rw [HBJ.out]
            simp only
            rw [if_neg HSK.out, if_neg ho, hfr]
            simp only [Int.toNat_natCast]
            rw [hfr, Int.toNat_natCast] at ha
            rw [ha]
          rw [hst] at hf2 hmeas hinv2
          rw [hfr, Int.toNat_natCast] at ha
          rw [hfr] at hol ho ⊢
          simp only at hf2 hmeas hinv2
          have hfj : fr < j := by omega
          have hal := pairT_left hpr
          have HF := Lib.hid hf2
          have HN := Lib.hid hinv2
          have HM := Lib.hid hmeas
          have HAA := Lib.hid ha
          have ta := fun q (hq : q < 9) => flat_get riCells 9 ri_len ps fr q hq ha
          have t1a := hown2.cell (j := fr * 9 + 1) (u := .int .i64 a.left) (by rw [ta 1 (by omega)]; rfl)
          have x1 : w2.cell? ⟨wr.heap.size, 1, none⟩ = some (.int .i64 b.left) := X2.cell 1
          have hff0 : gMeas ps j ≤ f := by omega
          clear ha hf2 hinv2 hmeas hst hpr ta hfr hf1 hfuel hol ho
          obtain ⟨tw, htw⟩ : ∃ tw, two a b = tw := ⟨_, rfl⟩
          have HTW := Lib.hid htw
          clear htw
          go_upto_region 12 with fail
          go_cut [56] (fun s56 wx => s56 = .bool tw ∧ wx = w2)
          case first =>
            by_cases e1 : 2 ≤ a.left
            · have q1 : decide (2 ≤ a.left) = true := decide_eq_true e1
              by_cases e2 : 2 ≤ b.left
              · have q2 : decide (2 ≤ b.left) = true := decide_eq_true e2
                have HH : Hid (tw = true) := Lib.hid (by rw [← HTW.out, two, decide_eq_true (by omega : 1 < a.left), decide_eq_true (by omega : 1 < b.left)]; rfl)
                go_wp2_with fail
                go_meet
                exact ⟨by rw [HH.out], rfl⟩
              · have q2 : decide (2 ≤ b.left) = false := decide_eq_false e2
                have HH : Hid (tw = false) := Lib.hid (by rw [← HTW.out, two, decide_eq_false (by omega : ¬ 1 < b.left), Bool.and_false])
                go_wp2_with fail
                go_meet
                exact ⟨by rw [HH.out], rfl⟩
            · have q1 : decide (2 ≤ a.left) = false := decide_eq_false e1
              have HH : Hid (tw = false) := Lib.hid (by rw [← HTW.out, two, decide_eq_false (by omega : ¬ 1 < a.left)]; rfl)
              go_wp2_with fail
              go_meet
              exact ⟨by rw [HH.out], rfl⟩
          case rest =>
          obtain ⟨rfl, hwW⟩ := hcut
          rw [hwW]
          clear hwW
          apply_assumption
          obtain ⟨gK, hgK⟩ : ∃ k, gKind a b = k := ⟨_, rfl⟩
          obtain ⟨gNn, hgN⟩ : ∃ k, gN a b = k := ⟨_, rfl⟩
          have HG3 := Lib.hid hgK
          have HG4 := Lib.hid hgN
          clear hgK hgN
          go_cut [6, 7] (fun s6 s7 wx => s6 = .int .i64 gNn ∧ s7 = .int .i64 gK ∧ wx = w2)
          case first =>
            cases htw : tw
            · have H1 : Hid (gNn = 1 ∧ gK = 3) := Lib.hid (by rw [← HG4.out, ← HG3.out]; unfold gN gKind; rw [HTW.out, htw]; exact ⟨rfl, rfl⟩)
              clear htw
              go_wp2_with fail
              go_meet
              exact ⟨by rw [H1.out.1], by rw [H1.out.2], rfl⟩
            · have H1 : Hid (gNn = 2 ∧ gK = 4) := Lib.hid (by rw [← HG4.out, ← HG3.out]; unfold gN gKind; rw [HTW.out, htw]; exact ⟨rfl, rfl⟩)
              clear htw
              go_wp2_with fail
              go_meet
              exact ⟨by rw [H1.out.1], by rw [H1.out.2], rfl⟩
          case rest =>
          obtain ⟨rfl, rfl, hwW⟩ := hcut
          rw [hwW]
          clear hwW
          apply_assumption
          have haok := HI2.out.1 a (List.mem_of_getElem? HAA.out)
          have hal2 := haok.2.1
          have hbl2 := hbok.2.1
          have hgn := gN_le hal hbl
          rw [HG4.out] at hgn
          obtain ⟨n1, n2', n3', n4'⟩ := hgn
          obtain ⟨f1, hf1⟩ : ∃ f1, fr + 1 = f1 := ⟨_, rfl⟩
          obtain ⟨f2, hf2⟩ : ∃ f2, fr + 2 = f2 := ⟨_, rfl⟩
          have i1 : (fr : Int) + 1 = (f1 : Int) := by omega
          have i2 : (fr : Int) + 2 = (f2 : Int) := by omega
          have i3 : IntKind.i64.wrap (f1 : Int) = (f1 : Int) := IntWalk.i64_in _ (by omega)
          have i4 : IntKind.i64.wrap (f2 : Int) = (f2 : Int) := IntWalk.i64_in _ (by omega)
          have hf1j : f1 ≤ j := by omega
          have hcap := hown2.cap
          have hne1 : ¬ c1 = f1 := by omega
          have hne2 : ¬ c1 = j := by omega
          obtain ⟨pl, hplen⟩ : ∃ pl, ps.length = pl := ⟨_, rfl⟩
          have hmid : Reads w2 w2.heap.size 9 (some ⟨g, f1 * 9, none⟩) (j - f1) (rlCells ((ps.take j).drop f1)) := by
            have h1 := (hown2.take (m := j) (by omega)).cutAt (k := f1) hf1j
            rw [flat_take riCells 9 ri_len, flat_drop riCells 9 ri_len] at h1
            exact h1
          have hnb : rnods ((ps.take j).drop f1) ≤ 1048576 := by
            have := rnods_mid ps j f1
            have := HI2.out.2.2.1
            omega
          obtain ⟨nds, hnds⟩ : ∃ nds, ((ps.take j).drop f1).flatMap rNodes = nds := ⟨_, rfl⟩
          obtain ⟨nm, hnm⟩ : ∃ nm, nds.length = nm := ⟨_, rfl⟩
          have hnm2 : nm ≤ 1048576 := by rw [← hnm, ← hnds]; exact hnb
          have HALL : Hid (∀ (W : World) (cc : Nat), Below w2.heap.size w2 W → Calls Try.prog 78 #[.slice (some ⟨g, f1 * 9, none⟩) (j - f1) cc] W fun e w' => ∃ A' c', e = .returned (.slice A' nm c') ∧ Own w' W.heap.size 95 5 A' nm c' (inlCells nds) ∧ Below W.heap.size W w') := Lib.hid fun W cc hW => by
            have hz := hW.size
            have h := refAll_any (some ⟨g, f1 * 9, none⟩) (j - f1) cc w.heap.size ((ps.take j).drop f1) W ((hmid.below hW).more hz) (by omega)
              (fun p hp => (HV2.out p (List.mem_of_mem_take (List.mem_of_mem_drop hp))).below hW hz2) (by omega)
              (fun p hp => by have := HI2.out.1 p (List.mem_of_mem_take (List.mem_of_mem_drop hp)); exact ⟨this.1, this.2.1⟩) (by have : (((ps.take j).drop f1).flatMap rNodes).length ≤ 1048576 := hnb; omega)
            rw [hnds, hnm] at h
            exact h
          have HMD : Hid (rMade ps fr j a b = ⟨gK, 0, ⟨#[]⟩, ⟨#[]⟩, ⟨#[]⟩⟩ :: deepT nds) := Lib.hid (by unfold rMade; rw [hf1, hnds, HG3.out])
          have HNM := Lib.hid hnm
          have HPL := Lib.hid hplen
          have HF1 := Lib.hid hf1
          have HF2 := Lib.hid hf2
          have hlit : Own (w2.alloc (.cells #[.int .i64 gK, .int .i64 0, .string ⟨#[]⟩, .string ⟨#[]⟩, .string ⟨#[]⟩] 95)) w2.heap.size 95 5 (some ⟨w2.heap.size, 0, none⟩) 1 1 [.int .i64 gK, .int .i64 0, .string ⟨#[]⟩, .string ⟨#[]⟩, .string ⟨#[]⟩] :=
            World.ownsRow_lit w2 #[.int .i64 gK, .int .i64 0, .string ⟨#[]⟩, .string ⟨#[]⟩, .string ⟨#[]⟩] 1 (Nat.le_refl _) (by decide) rfl
          have blit : Below w2.heap.size w2 (w2.alloc (.cells #[.int .i64 gK, .int .i64 0, .string ⟨#[]⟩, .string ⟨#[]⟩, .string ⟨#[]⟩] 95)) := (Below.refl _ _).alloc (Nat.le_refl _) _
          rw [hplen] at hown2 hcap hlt hpl ⊢
          clear hmid hnb hnds hnm t1a x1 X2 hf1 hf2 hplen haok hbok
          go_upto_region 15 with (first
            | (go_at_call 78; refine (HALL.out _ _ blit).mono ?_; rintro e w3 ⟨A3, c3, rfl, hO3, b3⟩
               have hz3 := b3.size
               have bb3 := blit.trans (b3.mono (by simp))
               have hlit3 := hlit.below b3 (Nat.le_refl _))
            | (go_at_call 77; refine (refDeeper_any A3 nm c3 nds w3 hO3.reads (by omega)).mono ?_; rintro e w4 ⟨A4, c4, rfl, hO4, b4⟩
               have hz4 := b4.size
               have bb4 := bb3.trans (b4.mono bb3.size)
               have hlit4 := hlit3.below b4 (Nat.le_refl _))
            | (at_builtin; refine wpList_app Try.elInls rfl (.tmp 59) (.tmp 66) rfl rfl hlit4 rfl hO4.reads (inl_one _) (by simp only [maxLen]; omega) (by omega) (by have := bb4.size; omega) ?_
               intro A5 c5 w5 hO5 ho5 hm5))
          have bb5 : Below w2.heap.size w2 w5 := bb4.trans (ho5.below (fun a ha => (hlit4.lt ha).1) bb4.size)
          have hMade : Own w5 w2.heap.size 95 5 A5 (1 + nm) c5 (inlCells (rMade ps fr j a b)) := by
            rw [HMD.out]
            exact hO5
          have hown5 := hown2.below bb5 (Nat.le_refl _)
          have HV5 : Hid (∀ q ∈ ps, Live w5 w.heap.size q.A q.ln q.cp q.l) := Lib.hid fun q hq => (HV2.out q hq).below bb5 hz2
          have hb5 := hb2.trans (bb5.mono hz2)
          have hz5 := hb5.size
          have hz25 := bb5.size
          have hLM : Live w5 w.heap.size A5 (1 + nm) c5 (rMade ps fr j a b) := .inr (hMade.base_le hz2)
          clear hlit blit hown2 HV2 hb2 HALL hO3 hO4 hO5 ho5 hm5 hlit3 hlit4 bb3 bb4 b3 b4 hMade hz3 hz4
          obtain ⟨nn, hnn⟩ : ∃ nn, 1 + nm = nn := ⟨_, rfl⟩
          rw [hnn] at hLM ⊢
          have HNN := Lib.hid hnn
          clear hnn
          have hlit6 : Own (w5.alloc (.cells #[.int .u8 0, .int .i64 0, .int .i64 0, .bool false, .bool false, .slice A5 nn c5, .string ⟨#[]⟩, .int .i64 0, .bool false] 56)) w5.heap.size 56 9 (some ⟨w5.heap.size, 0, none⟩) 1 1 (rlCells [madeAt A5 nn c5 (rMade ps fr j a b)]) :=
            World.ownsRow_lit w5 #[.int .u8 0, .int .i64 0, .int .i64 0, .bool false, .bool false, .slice A5 nn c5, .string ⟨#[]⟩, .int .i64 0, .bool false] 1 (Nat.le_refl _) (by decide) rfl
          have htail : Reads w5 w5.heap.size 9 (some ⟨g, j * 9, none⟩) (pl - j) (rlCells (ps.drop j)) := by
            have h1 := hown5.cutAt (k := j) (by omega)
            rw [flat_drop riCells 9 ri_len] at h1
            exact h1
          go_upto_region 16 with (at_builtin; refine wpList_app Try.elRis rfl (.tmp 70) (.tmp 73) rfl rfl hlit6 rfl (htail.alloc (Nat.le_refl _) _) (ri_one _) (by simp only [maxLen]; omega) (by omega) (by simp) ?_
                                  intro A6 c6 w6 hO6 ho6 hm6)
          have hown6 := (hown5.alloc (.cells #[.int .u8 0, .int .i64 0, .int .i64 0, .bool false, .bool false, .slice A5 nn c5, .string ⟨#[]⟩, .int .i64 0, .bool false] 56)).only ho6 (fun a b ha hb => by injection hb with hb; have := (hown5.lt ha).2; rw [← hb]; simp only; omega)
          have HV6 : Hid (∀ q ∈ ps, Live w6 w.heap.size q.A q.ln q.cp q.l) := Lib.hid fun q hq => ((HV5.out q hq).alloc hz5 _).only ho6 (hlit6.base_le hz5) (by decide) (by simp; omega)
          have hLM6 := (hLM.alloc hz5 (.cells #[.int .u8 0, .int .i64 0, .int .i64 0, .bool false, .bool false, .slice A5 nn c5, .string ⟨#[]⟩, .int .i64 0, .bool false] 56)).only ho6 (hlit6.base_le hz5) (by decide) (by simp; omega)
          have bb6 : Below w5.heap.size w5 w6 := (ho6.below (K := w5.heap.size) (fun a ha => (hlit6.lt ha).1) (by simp)) |> fun h => ((Below.refl _ _).alloc (Nat.le_refl _) _).trans h
          have hb6 := hb5.trans (bb6.mono hz5)
          have hz6 := hb6.size
          have hz56 := bb6.size
          have hO6' : Own w6 w5.heap.size 56 9 A6 (1 + (pl - j)) c6 (rlCells (madeAt A5 nn c5 (rMade ps fr j a b) :: ps.drop j)) := by simpa [rlCells] using hO6
          clear hown5 HV5 hb5 hlit6 htail hO6 ho6 hm6 hLM bb6
          have hhead : Reads w6 w6.heap.size 9 (some ⟨g, 0, none⟩) f1 (rlCells (ps.take f1)) := by
            have h1 := (hown6.take (m := f1) (by omega)).reads
            rw [flat_take riCells 9 ri_len] at h1
            exact h1
          have st0 : True := trivial
          go_upto_region 17 with (first
            | (at_builtin; have st1 := st0; clear st0; refine wpList_app Try.elRis rfl (.const (.slice none 0 0)) (.tmp 78) rfl rfl (Own.nil _ w6.heap.size _ _) rfl hhead (ri_one _) (by simp only [maxLen]; omega) (by omega) (Nat.le_refl _) ?_
               intro A7 c7 w7 hO7 ho7 hm7
               rw [Nat.zero_add, List.nil_append] at hO7
               have hO67 := hO6'.only ho7 Sep.none_r
               have hz7 := ho7.size)
            | (at_builtin; have st2 := st1; clear st1; refine wpList_app Try.elRis rfl (.tmp 79) (.tmp 80) rfl rfl hO7 rfl hO67.reads (ri_one _) (by simp only [maxLen]; omega) (by omega) hz7 ?_
               intro A8 c8 w8 hO8 ho8 hm8))
          have bb7 : Below w6.heap.size w6 w7 := ho7.below (fun a ha => by cases ha) (Nat.le_refl _)
          have bb8 : Below w6.heap.size w7 w8 := ho8.below (fun a ha => (hO7.lt ha).1) hz7
          have b68 := bb7.trans bb8
          have hb8 := hb6.trans (b68.mono hz6)
          have hz8 := hb8.size
          have HV8 : Hid (∀ q ∈ ps, Live w8 w.heap.size q.A q.ln q.cp q.l) := Lib.hid fun q hq => (HV6.out q hq).below b68 hz6
          have hLM8 := hLM6.below b68 hz6
          have hO8' : Own w8 w.heap.size 56 9 A8 (f1 + (1 + (pl - j))) c8 (rlCells (ps.take f1 ++ madeAt A5 nn c5 (rMade ps fr j a b) :: ps.drop j)) := by
            have h1 := hO8.base_le hz6
            rw [rlCells, List.flatMap_append]
            exact h1
          clear hown6 HV6 hb6 hhead hO6' hO67 hO7 ho7 hm7 hO8 ho8 hm8 bb7 bb8 b68 hLM6 hz7
          obtain ⟨g8, rfl, hg8b, hg8l⟩ := hO8'.some_ (by omega)
          obtain ⟨mp, hmp⟩ : ∃ mp, madeAt A5 nn c5 (rMade ps fr j a b) = mp := ⟨_, rfl⟩
          have HMP := Lib.hid hmp
          have hnr := new_row (mp := mp) (x := lessPc a gNn) (y := lessPc b gNn) hfj HAA.out HBJ.out
          have hNA : (ps.take f1 ++ mp :: ps.drop j)[fr]? = some a := by
            rw [List.getElem?_append_left (by rw [List.length_take]; have := (List.getElem?_eq_some_iff.1 HAA.out).1; omega), List.getElem?_take, if_pos (by omega)]
            exact HAA.out
          have hNB : ((ps.take f1 ++ mp :: ps.drop j).set fr (lessPc a gNn))[f2]? = some b := by
            have hl := (List.getElem?_eq_some_iff.1 HBJ.out).1
            rw [List.getElem?_set_ne (by omega), List.getElem?_append_right (by rw [List.length_take]; omega), List.length_take, show f2 - min f1 ps.length = 0 + 1 by omega, List.getElem?_cons_succ, List.getElem?_drop, Nat.add_zero]
            exact HBJ.out
          rw [HF1.out, HF2.out] at hnr
          rw [hmp] at hO8'
          have HNR := Lib.hid hnr
          have HNA := Lib.hid hNA
          have HNB := Lib.hid hNB
          have s1 : IntKind.i64.wrap (a.left - gNn) = a.left - gNn := IntWalk.i64_in _ (by omega)
          have s2 : IntKind.i64.wrap (b.left - gNn) = b.left - gNn := IntWalk.i64_in _ (by omega)
          have ta : w8.cell? ⟨g8, fr * 9 + 1, none⟩ = some (.int .i64 a.left) := (hO8'.ri hNA).2.1
          have fa := hO8'.frozen (fr * 9 + 1)
          have hfl : fr < f1 + (1 + (pl - j)) := by omega
          have hf2l : f2 < f1 + (1 + (pl - j)) := by omega
          clear hnr hNA hNB hmp
          have hO9 := hO8'.stored (fr * 9 + 1) (.int .i64 (a.left - gNn))
          rw [flat_set riCells 9 ri_len _ fr 1 (by omega) (x' := lessPc a gNn) (v := Value.int .i64 (a.left - gNn)) HNA.out rfl] at hO9
          have tb : (w8.setCell ⟨g8, fr * 9 + 1, none⟩ (.int .i64 (a.left - gNn))).cell? ⟨g8, f2 * 9 + 1, none⟩ = some (.int .i64 b.left) := (hO9.ri HNB.out).2.1
          have fb := hO9.frozen (f2 * 9 + 1)
          have hO10 := hO9.stored (f2 * 9 + 1) (.int .i64 (b.left - gNn))
          rw [flat_set riCells 9 ri_len _ f2 1 (by omega) (x' := lessPc b gNn) (v := Value.int .i64 (b.left - gNn)) HNB.out rfl, HNR.out] at hO10
          have hb10 := (hb8.setCell (p := ⟨g8, fr * 9 + 1, none⟩) hg8b (.int .i64 (a.left - gNn))).setCell (p := ⟨g8, f2 * 9 + 1, none⟩) hg8b (.int .i64 (b.left - gNn))
          have key : ∀ A n c l, Live w8 w.heap.size A n c l → Live ((w8.setCell ⟨g8, fr * 9 + 1, none⟩ (.int .i64 (a.left - gNn))).setCell ⟨g8, f2 * 9 + 1, none⟩ (.int .i64 (b.left - gNn))) w.heap.size A n c l := fun A n c l h =>
            (h.only (only_setCell w8 g8 (fr * 9 + 1) _) hO8' (by decide) hz8).only (only_setCell _ g8 (f2 * 9 + 1) _) hO9 (by decide) (by simp [World.setCell]; omega)
          have HV10 : Hid (∀ q ∈ ps.take fr ++ [lessPc a gNn, mp] ++ lessPc b gNn :: ps.drop (j + 1), Live ((w8.setCell ⟨g8, fr * 9 + 1, none⟩ (.int .i64 (a.left - gNn))).setCell ⟨g8, f2 * 9 + 1, none⟩ (.int .i64 (b.left - gNn))) w.heap.size q.A q.ln q.cp q.l) := Lib.hid fun q hq => by
            simp only [List.mem_append, List.mem_cons, List.not_mem_nil, or_false] at hq
            rcases hq with (hq | rfl | rfl) | rfl | hq
            · exact key _ _ _ _ (HV8.out q (List.mem_of_mem_take hq))
            · exact key _ _ _ _ (HV8.out a (List.mem_of_getElem? HAA.out))
            · rw [← HMP.out]; exact key _ _ _ _ hLM8
            · exact key _ _ _ _ (HV8.out b (List.mem_of_getElem? HBJ.out))
            · exact key _ _ _ _ (HV8.out q (List.mem_of_mem_drop hq))
          have hera : (ps.take fr ++ [lessPc a gNn, mp] ++ lessPc b gNn :: ps.drop (j + 1)).map era = (ps.take fr ++ [lessPc a (gN a b), madePc (rMade ps fr j a b)] ++ lessPc b (gN a b) :: ps.drop (j + 1)).map era := by
            have e1 : era mp = era (madePc (rMade ps fr j a b)) := by rw [← HMP.out]; rfl
            rw [HG4.out]
            simp only [List.map_append, List.map_cons, List.map_nil, e1]
          have hINV : RInv 1048576 T (ps.take fr ++ [lessPc a gNn, mp] ++ lessPc b gNn :: ps.drop (j + 1)) := by
            have h1 := RInv_era HN.out
            rw [← hera] at h1
            have e1 : ∀ l : List Pc, lefts (l.map era) = lefts l := fun l => by unfold lefts; rw [List.map_map]; rfl
            have e2 : ∀ l : List Pc, (l.map era).flatMap rNodes = l.flatMap rNodes := fun l => by rw [List.flatMap_map]; rfl
            obtain ⟨p1, p2, p3, p4⟩ := h1
            refine ⟨fun p hp => p1 (era p) (List.mem_map_of_mem hp), by rw [e1, List.length_map] at p2; exact p2, by unfold rnods at p3 ⊢; rw [e1, e2] at p3; exact p3, by unfold rtxts at p4 ⊢; rw [e2] at p4; exact p4⟩
          have hMS : gMeas (ps.take fr ++ [lessPc a gNn, mp] ++ lessPc b gNn :: ps.drop (j + 1)) f2 < gMeas ps j := by
            have h1 := HM.out
            rw [← gMeas_era, ← hera, gMeas_era, HF2.out] at h1
            exact h1
          have hRUN : rRun f ((ps.take fr ++ [lessPc a gNn, mp] ++ lessPc b gNn :: ps.drop (j + 1)).map era) f2 = rRun (gMeas its 0 + 1) (its.map era) 0 := by
            rw [hera, ← HF2.out]
            exact HF.out
          have hLEN : (ps.take fr ++ [lessPc a gNn, mp] ++ lessPc b gNn :: ps.drop (j + 1)).length = f1 + (1 + (pl - j)) := by
            have := HPL.out
            simp only [List.length_append, List.length_cons, List.length_nil, List.length_take, List.length_drop]
            omega
          generalize ps.take fr ++ [lessPc a gNn, mp] ++ lessPc b gNn :: ps.drop (j + 1) = nl at *
          have HMS := Lib.hid hMS
          have HRU := Lib.hid hRUN
          have HLE := Lib.hid hLEN
          have HIN := Lib.hid hINV
          have hff : gMeas nl f2 < f := by omega
          clear hera hINV hMS hRUN hLEN hO8' hO9 hb8 key HV8 hLM8 HN HM HF
          go_wp2_with fail
          go_roundg (gMeas nl f2)
          case measure => exact HMS.out
          case rel => exact ⟨nl, f2, some ⟨g8, 0, none⟩, c8, f, rfl, by rw [HLE.out], by first | rfl | go_num, by rw [HLE.out]; omega, by rw [HLE.out]; exact hO10, HV10.out, HIN.out, hff, HRU.out, hb10⟩
    · have hjl : j = ps.length := by omega
      have hrn : rRun fuel (ps.map era) j = ps.map era := by
        cases fuel with
        | zero => rfl
        | succ f => rw [rRun, if_neg (by simp; omega)]
      have hfin : groupT its = mergeT (ps.flatMap rNodes) := by
        rw [← HGT.out]
        unfold rGroup
        rw [← HR.out, hrn, List.flatMap_map]
        rfl
      have HFI := Lib.hid hfin
      have hnb : (ps.flatMap rNodes).length ≤ 1048576 := by have : rnods ps + lefts ps ≤ 1048576 := HI2.out.2.2.1; unfold rnods at this; omega
      have htx : txtLen (ps.flatMap rNodes) ≤ 1152921504606846976 := Nat.le_trans HI2.out.2.2.2 hT
      clear hfin hrn hjl
      have HALL := Lib.hid (refAll_any A1 ps.length c1 w.heap.size ps wr hown.reads hbs HV.out hpl (fun p hp => ⟨(HI2.out.1 p hp).1, (HI2.out.1 p hp).2.1⟩) (by omega))
      generalize ps.flatMap rNodes = nds at *
      obtain ⟨nm, hnm⟩ : ∃ nm, nds.length = nm := ⟨_, rfl⟩
      rw [hnm] at HALL hnb
      have HNM := Lib.hid hnm
      clear hnm hown HV
      go_wp2_with fail
      refine HALL.out.mono ?_
      rintro e w1 ⟨A3, c3, rfl, hO3, b3⟩
      have hb3 := hb.trans (b3.mono hbs)
      have hz3 := hb3.size
      go_wp2_with fail
      refine (refMerge_any A3 nm c3 nds w1 hO3.reads (by omega) htx).mono ?_
      rintro e w2 ⟨A4, c4, rfl, hO4, b4⟩
      go_wp2_with fail
      go_ret
      rw [HFI.out]
      exact ⟨A4, c4, rfl, hO4.base_le hz3, hb3.trans (b4.mono hz3)⟩
end Go.Proofs.Ytfdfpimilmhhoaa
