/-
  bowdlerlaw6.FrameBack: its walk: it answers true, and turns nothing that was there.
-/
import Derived.Test.YtgmkjjccnlnpoaaDoorBackLaw
import Derived.Test.YtgmkjjccnlnpoaaDoorFrameTurns
import Derived.Test.YtgmkjjccnlnpoaaDoorDepthsLaw
namespace Go.Proofs.YtgmkjjccnlnpoaaDoor
open Go.RowKit

theorem trimR_rep (l : List UInt8) (c : UInt8) : ∃ r, l = Lib.trimRightB l c ++ List.replicate r c := by
  refine ⟨(l.reverse.takeWhile (· == c)).length, ?_⟩
  have h : List.replicate (l.reverse.takeWhile (· == c)).length c = (l.reverse.takeWhile (· == c)).reverse := by
    symm
    rw [List.eq_replicate_iff]
    refine ⟨by simp, fun b hb => ?_⟩
    rw [List.mem_reverse] at hb
    have := List.all_eq_true.1 List.all_takeWhile b hb
    simpa using this
  rw [h]
  unfold Lib.trimRightB
  rw [← List.reverse_append, List.takeWhile_append_dropWhile, List.reverse_reverse]
theorem BackOne.rep {l w : ByteArray} (h : BackOne l w) : ∃ r, l = S (L w ++ List.replicate r 32) := by
  rcases h with rfl | h
  · exact ⟨0, by simp⟩
  · obtain ⟨r, hr⟩ := trimR_rep (L l) 32
    exact ⟨r, L_inj (by rw [L_S, h]; exact hr)⟩
def strLen : Value → Nat
  | .string s => s.size
  | _ => 0
theorem out_lines {ls : List ByteArray} (h : plainT ls = true) : (frT ls).out.length ≤ 60 ∧ ∀ p ∈ (frT ls).out, p.label.size ≤ 100 ∧ p.lines.length ≤ 60 ∧ ∀ x ∈ p.lines, x.size ≤ 1000 := by
  obtain ⟨h1, h2⟩ := plain_lines h
  have key : ∀ (l : List ByteArray) (st : FrS) (k : Nat), (∀ x ∈ l, x.size ≤ 100) → (st.out.length ≤ k ∧ ∀ p ∈ st.out, p.label.size ≤ 100 ∧ p.lines.length ≤ k ∧ ∀ x ∈ p.lines, x.size ≤ 1000) →
      ((l.foldl frStep st).out.length ≤ k + l.length ∧ ∀ p ∈ (l.foldl frStep st).out, p.label.size ≤ 100 ∧ p.lines.length ≤ k + l.length ∧ ∀ x ∈ p.lines, x.size ≤ 1000) := by
    intro l
    induction l with
    | nil => intro st k _ h; exact h
    | cons s t ih =>
      intro st k hx hst
      rw [List.foldl_cons, List.length_cons, show k + (t.length + 1) = k + 1 + t.length by omega]
      refine ih _ (k + 1) (fun x hx' => hx x (by simp [hx'])) ?_
      have hs := hx s (by simp)
      obtain ⟨g1, g2⟩ := hst
      have hup : ∀ p ∈ st.out, p.label.size ≤ 100 ∧ p.lines.length ≤ k + 1 ∧ ∀ x ∈ p.lines, x.size ≤ 1000 := fun p hp => by
        obtain ⟨a, b, c⟩ := g2 p hp
        exact ⟨a, by omega, c⟩
      unfold frStep
      split
      · rename_i hop
        obtain ⟨_, e2⟩ := opens_inv (l := L s) (lbl := (opensT (L s)).1) (by rw [← hop])
        refine ⟨by simp; omega, fun p hp => ?_⟩
        rcases List.mem_append.1 hp with hp | hp
        · exact hup p hp
        · rw [List.mem_singleton.1 hp]
          unfold labelT at e2
          rw [Bool.and_eq_true, Bool.and_eq_true, decide_eq_true_eq] at e2
          exact ⟨by simp only [size_S]; omega, by simp, by simp⟩
      · split
        · refine ⟨by rw [shutAt_len]; omega, fun p hp => ?_⟩
          unfold shutAt at hp
          split at hp
          · rename_i q hq
            rcases List.mem_or_eq_of_mem_set hp with hp | rfl
            · exact hup p hp
            · exact hup q (List.mem_of_getElem? hq)
          · exact hup p hp
        · split
          · unfold addLast
            split
            · rename_i q hq
              have hqm : q ∈ st.out := List.mem_of_getLast? hq
              obtain ⟨a, b, c⟩ := g2 q hqm
              refine ⟨by rw [List.length_append, List.length_dropLast, List.length_singleton]; omega, fun p hp => ?_⟩
              rcases List.mem_append.1 hp with hp | hp
              · exact hup p (List.dropLast_subset _ hp)
              · rw [List.mem_singleton.1 hp]
                refine ⟨a, by simp; omega, fun x hx' => ?_⟩
                rcases List.mem_append.1 hx' with hx' | hx'
                · exact c x hx'
                · rw [List.mem_singleton.1 hx']; omega
            · exact ⟨by show st.out.length ≤ k + 1; omega, hup⟩
          · refine ⟨by simp; omega, fun p hp => ?_⟩
            rcases List.mem_append.1 hp with hp | hp
            · exact hup p hp
            · rw [List.mem_singleton.1 hp]
              exact ⟨by simp [ByteArray.size], by simp, by simp; omega⟩
  have := key ls ⟨[], [], false⟩ 0 (fun x hx => (h2 x hx).1) ⟨by simp, by simp⟩
  obtain ⟨k1, k2⟩ := this
  refine ⟨by unfold frT; omega, fun p hp => ?_⟩
  obtain ⟨a, b, c⟩ := k2 p hp
  exact ⟨a, by omega, c⟩

set_option maxHeartbeats 400000 in
set_option maxRecDepth 100000 in
theorem frameBack_walk (A : Option Addr) (n cap : Nat) (l : List ByteArray) (w : World) (hg : Glb w) (hl : IsTexts w A n cap l) :
    Calls Tryd.prog 5 #[.slice A n cap] w fun e w' => e = .returned (.bool true) ∧ Below w.heap.size w w' := by
  obtain ⟨hr, hnc, hcm, hsz⟩ := hl
  have hmax : maxLen = 9223372036854775807 := rfl
  have hlen : l.length = n := by have := hr.1; simpa using this
  have hpl := plain_any A n cap w.heap.size l w hr (by omega) (fun x hx => by have := hsz x hx; omega)
  cases hpt : plainT l
  · rw [hpt] at hpl
    have HPL := Lib.hid hpl
    clear hpl
    go_enter Tryd.func5, Tryd.ntmps5
    go_wp2_with (first
      | (go_at_call 11; refine HPL.out.mono ?_; rintro e w0 ⟨rfl, hw0⟩; subst w0)
      | (go_at_call 7; refine (alive6_any _ hg).mono ?_; rintro e w1 ⟨rfl, b1⟩))
    go_ret
    exact ⟨rfl, b1⟩
  · rw [hpt] at hpl
    have HPL := Lib.hid hpl
    obtain ⟨q1, q2⟩ := plain_lines hpt
    obtain ⟨q3, q4⟩ := out_lines hpt
    obtain ⟨hR, hback⟩ := back_law (fun s hs => (q2 s hs).2)
    have hbl := hback.len
    have hturn := turns_law hR
    have h6sz := lines6_size (l := (frT l).out) (fun p hp => ⟨(q4 p hp).1, (q4 p hp).2.2⟩)
    have hlN : lineN (frT l).out ≤ 62 * 60 := Nat.le_trans (lineN_le fun p hp => (q4 p hp).2.1) (Nat.mul_le_mul_left _ q3)
    have hps : ∀ ps : List PartR, ps.map (·.t) = (frT l).out → ∀ p ∈ ps, PartSz p.t ∧ p.t.lines.length ≤ 60 := fun ps he p hp => by
      obtain ⟨a, b, c⟩ := q4 p.t (by rw [← he]; exact List.mem_map_of_mem hp)
      exact ⟨⟨by omega, fun x hx => by have := c x hx; omega⟩, b⟩
    have hB : ∀ (i : Nat) x, l[i]? = some x → ∃ y r, (lines6 (frT l).out)[i]? = some y ∧ x = S (L y ++ List.replicate r 32) := fun i x hx => by
      obtain ⟨y, hy, ho⟩ := hback.get i x hx
      obtain ⟨r, hr⟩ := ho.rep
      exact ⟨y, r, hy, hr⟩
    have HB := Lib.hid hB
    have HPS := Lib.hid hps
    have HSZ := Lib.hid hsz
    have H6 := Lib.hid h6sz
    have HT := Lib.hid hturn
    have HRR := Lib.hid hR
    have HQ3 := Lib.hid q3
    have HLN := Lib.hid hlN
    have HX := Lib.hid (fun x hx => (q2 x hx).1)
    have hbl6 : (lines6 (frT l).out).length = n := by rw [hbl, hlen]
    have HBL := Lib.hid hbl6
    have HLEN := Lib.hid hlen
    rw [hlen] at q1
    clear hpl hpt q2 q3 q4 hR hback hbl hturn h6sz hlN hps hB hsz hbl6 hlen
    go_enter Tryd.func5, Tryd.ntmps5
    go_upto_region 4 with (first
      | (go_at_call 11; refine HPL.out.mono ?_; rintro e w0 ⟨rfl, hw0⟩; subst w0)
      | (go_at_call 7; refine (alive6_any _ hg).mono ?_; rintro e w1 ⟨rfl, b1⟩)
      | (go_at_call 12; refine (frParse_any A n cap w.heap.size l w1 (hr.below b1) b1.size (by omega) (fun x hx => by have := HSZ.out x hx; omega)).mono ?_; rintro e w2 ⟨A2, m, c2, ps, rfl, hP, hout, b2⟩))
    have hb2 := b1.trans (b2.mono b1.size)
    have hm := hP.len
    have hml : m ≤ 60 := by rw [← hm, ← List.length_map (f := fun p : PartR => p.t), hout]; exact HQ3.out
    have hpsz := HPS.out ps hout
    have hwr := write6_any A2 m c2 w2.heap.size ps w2 hP.reads (by omega) (Nat.le_refl _) (fun p hp => ⟨(hpsz p hp).1, by have := (hpsz p hp).2; omega⟩) (by rw [hout]; have := HLN.out; omega)
    have hrt : ∀ w3, Below w2.heap.size w2 w3 → Calls Tryd.prog 14 #[.slice A2 m c2] w3 fun e w' => e = .returned (.bool (right6 (ps.map (·.t)))) ∧ Below w3.heap.size w3 w' :=
      fun w3 b3 => right6_any A2 m c2 w2.heap.size ps w3 (hP.reads.below b3) (by omega) b3.size (fun p hp => ⟨(hpsz p hp).1, by have := (hpsz p hp).2; omega⟩)
    unfold write6 at hwr
    rw [hout, HRR.out, if_pos rfl, HBL.out] at hwr
    rw [hout, HRR.out] at hrt
    have HW := Lib.hid hwr
    have HRT := Lib.hid hrt
    have HPP := Lib.hid hP
    have HO := Lib.hid hout
    have HM := Lib.hid hm
    have HPZ := Lib.hid hpsz
    clear hwr hrt hP hpsz hout hm HPL b1 b2
    go_upto_region 7 with (first
      | (go_at_call 13; refine HW.out.mono ?_; rintro e w3 ⟨A3, c3, rfl, how, b3⟩; have hb3 := hb2.trans (b3.mono hb2.size))
      | (go_at_call 14; refine (HRT.out _ b3).mono ?_; rintro e w4 ⟨rfl, b4⟩))
    have hb4 := hb3.trans (b4.mono hb3.size)
    have how4 := (how.below b4 (Nat.le_refl _)).reads
    have hr4 := hr.below hb4
    have HOW := Lib.hid (how.below b4 (Nat.le_refl _))
    have HP4 : Hid (PartsIn w4 w4.heap.size A2 m ps) := Lib.hid (by
      have h1 := b3.trans (b4.mono b3.size)
      have h2 := HPP.out.reads.below h1
      exact ⟨h2.1.more h1.size, fun p hp => (h2.2 p hp).more h1.size⟩)
    clear hb2 hb3 b3 b4 how
    go_wp2_with fail
    go_loopw [40] (fun s wr => ∃ (i mm : Nat), i ≤ n ∧ s = .int .i64 i ∧ wr = w4.drewN mm) (fun s _ => n - (intOf s).toNat)
    case atStart => exact ⟨0, 0, Nat.zero_le _, rfl, rfl⟩
    case round =>
      obtain ⟨i, mm, hi, rfl, rfl⟩ := hrel
      by_cases hlt : i < n
      · obtain ⟨x, hx⟩ : ∃ x, l[i]? = some x := ⟨_, List.getElem?_eq_getElem (by rw [HLEN.out]; exact hlt)⟩
        obtain ⟨y, r, hy, hxy⟩ := HB.out i x hx
        have hx100 := HX.out x (List.mem_of_getElem? hx)
        obtain ⟨ad, u, rfl, _, hx0, hc⟩ := hr4.at_ hlt
        have hu : u = .string x := by simp [hx] at hx0; exact hx0.symm
        subst hu
        obtain ⟨ad', u', rfl, _, hy0, hc'⟩ := how4.at_ hlt
        have hu' : u' = .string y := by simp [hy] at hy0; exact hy0.symm
        subst hu'
        have HXY := Lib.hid hxy
        have hrs : (L y).length + r ≤ 100 := by
          have := congrArg ByteArray.size hxy
          rw [size_S, List.length_append, List.length_replicate] at this
          omega
        clear hx hy hx0 hy0 hxy
        go_upto_region 10 with fail
        go_quiet (fail)
        go_wp2_with fail
        go_loop [7] (fun s => ∃ k : Nat, k ≤ r ∧ s = .string (S (L y ++ List.replicate k 32))) (fun s => strLen s)
        case atStart => exact ⟨r, Nat.le_refl _, by rw [← HXY.out]⟩
        case round =>
          obtain ⟨k, hk, rfl⟩ := hrel
          obtain ⟨a, ha⟩ : ∃ a, a = S (L y ++ List.replicate k 32) := ⟨_, rfl⟩
          rw [← ha]
          rcases Nat.eq_zero_or_pos k with rfl | hpos
          · rw [List.replicate_zero, List.append_nil, S_L] at ha
            subst ha
            have t1 : (a == a) = true := (bytes_same a a).2 rfl
            have t2 : (a.toList == a.toList) = true := by rw [← beq_toListBytes]; exact t1
            go_wp2_with fail
            go_roundw
            case rel => exact ⟨i + 1, _, by omega, by go_num, rfl⟩
            case measure => simp [intOf]; omega
          · obtain ⟨k, rfl⟩ : ∃ j, k = j + 1 := ⟨k - 1, by omega⟩
            have haL : L a = L y ++ List.replicate k 32 ++ [32] := by rw [ha, L_S, List.replicate_succ', List.append_assoc]
            have hasz : a.size = (L y).length + k + 1 := by rw [← length_L, haL]; simp; omega
            have hne : ¬ a = y := fun e => by
              have := congrArg ByteArray.size e
              rw [hasz, length_L] at this
              omega
            obtain ⟨t1, t2, t3⟩ := bytes_ne hne
            obtain ⟨e1, e2, e3⟩ := bytes_some (a := a) (by omega)
            obtain ⟨z, hz⟩ : ∃ z, (L y).length + k = z := ⟨_, rfl⟩
            rw [hz] at hasz
            have p6 : z < a.size := by omega
            have hlast : a[z]'p6 = 32 := by
              rw [get_L]
              simp only [haL]
              rw [List.getElem_append_right (by rw [List.length_append, List.length_replicate]; omega)]
              simp
            have hq : ((a[z]'p6).toNat : Int) = 32 := by rw [hlast]; rfl
            have hex : a.extract 0 z = S (L y ++ List.replicate k 32) := L_inj (by rw [L_extract, L_S, haL, List.take_left' (by rw [List.length_append, List.length_replicate]; omega), List.drop_zero])
            have HEX := Lib.hid hex
            have HAS := Lib.hid hasz
            have p1 : IntKind.wrap .i64 ((a.size : Int) - 1) = (z : Int) := by rw [IntWalk.i64_in _ (by omega)]; omega
            have p2 : (0 : Int) ≤ (z : Int) := by omega
            have p3 : ((z : Int)).toNat = z := by omega
            have p4 : (z : Int) < (a.size : Int) := by omega
            have p5 : (z : Int) ≤ (a.size : Int) := by omega
            have p7 : z ≤ a.size := by omega
            clear ha haL hne hex hlast hz hasz
            go_wp2_with fail
            go_round
            case rel => exact ⟨k, by omega, by rw [← HEX.out]⟩
            case measure =>
              have := HAS.out
              simp [strLen]
              omega
      · have hin : i = n := by omega
        subst hin
        have h4 := below_drewN' hb4 mm
        have hw5 : ∃ w5, w4.drewN mm = w5 := ⟨_, rfl⟩
        have how5 : Own (w4.drewN mm) w2.heap.size 9 1 A3 i c3 (txCells (lines6 (frT l).out)) := HOW.out.drewN mm
        have hP5 : PartsIn (w4.drewN mm) w4.heap.size A2 m ps := ⟨HP4.out.1.drewN mm, fun p hp => (HP4.out.2 p hp).drewN mm⟩
        have hs5 : w4.heap.size = (w4.drewN mm).heap.size := rfl
        have hpar := frParse_any A3 i c3 (w4.drewN mm).heap.size (lines6 (frT l).out) (w4.drewN mm) how5.reads (Nat.le_refl _) (by omega) (fun x hx => by have := H6.out x hx; omega)
        rw [HT.out] at hpar
        have HPAR := Lib.hid hpar
        rw [hs5] at hP5
        have HP5 := Lib.hid hP5
        clear hpar hP5 how5 HOW HP4 how4 hr4 hb4 hs5 hw5
        generalize w4.drewN mm = w5 at *
        have hz5 := h4.size
        go_wp2_with (first
          | (go_at_call 12; refine HPAR.out.mono ?_; rintro e w6 ⟨A6, m6, c6, qs, rfl, hP6, hout6, b6⟩; have hb6 := h4.trans (b6.mono hz5))
          | (go_at_call 15
             refine (sameParts_eq A6 A2 m6 c6 m c2 w6.heap.size qs ps _ hP6.reads ⟨(HP5.out.1.below b6).more b6.size, fun p hp => ((HP5.out.2 p hp).below b6).more b6.size⟩ (hout6.trans HO.out.symm) (Nat.le_refl _)
               (by have h1 := hP6.len; have h2 := congrArg List.length (hout6.trans HO.out.symm); rw [List.length_map, List.length_map] at h2; have := HM.out; omega)
               (fun p hp => by have := (HPS.out qs hout6 p hp).2; omega)).mono ?_
             rintro e w7 ⟨rfl, b7⟩))
        go_ret
        exact ⟨rfl, hb6.trans (b7.mono hb6.size)⟩
end Go.Proofs.YtgmkjjccnlnpoaaDoor
