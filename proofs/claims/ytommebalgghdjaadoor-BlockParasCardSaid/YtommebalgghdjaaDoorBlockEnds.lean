/-
  block: the contract of ends.
-/
import Derived.Test.YtommebalgghdjaaDoorBlockMem
namespace Go.Proofs.YtommebalgghdjaaDoor
open Go.RowKit
set_option linter.unusedVariables false

theorem fenceV_ex (q : Option (UInt8 × Nat × List UInt8)) : ∃ a b c, fenceV q = .tuple #[.int .u8 a, .int .i64 b, .string c, .bool q.isSome] := by
  cases q with
  | none => exact ⟨0, 0, ⟨#[]⟩, rfl⟩
  | some p => obtain ⟨a, b, c⟩ := p; exact ⟨_, _, _, rfl⟩
theorem headV_ex (q : Option (Nat × List UInt8)) : ∃ a b, headV q = .tuple #[.int .i64 a, .string b, .bool q.isSome] := by
  cases q with
  | none => exact ⟨0, ⟨#[]⟩, rfl⟩
  | some p => obtain ⟨a, b⟩ := p; exact ⟨_, _, rfl⟩
theorem itemV_ex (q : Option (UInt8 × Int × Nat × List UInt8)) : ∃ a b c d, itemV q = .tuple #[.int .u8 a, .int .i64 b, .int .i64 c, .string d, .bool q.isSome] ∧ ∀ c' v k r, q = some (c', v, k, r) → b = v ∧ d = S r := by
  cases q with
  | none => exact ⟨0, 0, 0, ⟨#[]⟩, rfl, fun _ _ _ _ h => by cases h⟩
  | some p => obtain ⟨a, b, c, d⟩ := p; exact ⟨_, _, _, _, rfl, fun _ _ _ _ h => by injection h with h; simp only [Prod.mk.injEq] at h; exact ⟨h.2.1, by rw [h.2.2.2]⟩⟩

set_option maxHeartbeats 4000000 in
set_option maxRecDepth 100000 in
theorem ends_any (s : ByteArray) (base g : Nat) (A : Option Addr) (n c at_ depth : Nat) (out : List BlockT) (w : World) (h : PSt w base g A n c at_ depth out) (hs : s.size ≤ 1048576) (hmu : mu (L s) ≤ 1048576) :
    Calls Tryd.prog 79 #[.pointer (some ⟨g, 0, none⟩), .string s] w fun e w' => e = .returned (.bool (endsT depth (L s))) ∧ Below w.heap.size w w' := by
  have HF := Lib.hid (fun W => fence_any s W hs)
  have HH := Lib.hid (fun W => heading_any s W hs)
  have HI := Lib.hid (fun W => item_any s W hs)
  have HB := Lib.hid (fun W => blank_any s W (by omega))
  have HR := Lib.hid (fun W => rule_any s W hs)
  have HLS := Lib.hid (fun W hb => lists_any s base g A n c at_ depth out W (h.below (w' := W) hb (Nat.le_refl _)) hs)
  have HQ := Lib.hid (fun W hb => quotes_any s base g A n c at_ depth out W (h.below (w' := W) hb (Nat.le_refl _)) hs)
  obtain ⟨f1, f2, f3, hfv⟩ := fenceV_ex (fenceT (L s))
  obtain ⟨h1, h2, hhv⟩ := headV_ex (headingT (L s))
  obtain ⟨i1, i2, i3, i4, hiv, hie⟩ := itemV_ex (itemT (L s))
  rw [hfv] at HF
  rw [hhv] at HH
  rw [hiv] at HI
  have HEV : Hid (listsT depth (L s) = true → ∃ r, i4 = S r ∧ mu r ≤ 1048576 ∧ itemEnds (L s) = (!blankT r && (i2 == -1 || i2 == 1))) := Lib.hid (by
    intro hl
    unfold listsT at hl
    rw [Bool.and_eq_true] at hl
    obtain ⟨⟨c', v, k, r⟩, hq⟩ := Option.isSome_iff_exists.1 hl.1
    obtain ⟨e1, e2⟩ := hie c' v k r hq
    refine ⟨r, e2, Nat.le_trans (mu_item hq) hmu, ?_⟩
    unfold itemEnds
    rw [hq, e1])
  unfold endsT
  generalize (fenceT (L s)).isSome = fs at *
  generalize (headingT (L s)).isSome = hs' at *
  generalize (itemT (L s)).isSome = is' at *
  generalize blankT (L s) = bl at *
  generalize ruleT (L s) = rl at *
  generalize quotesT depth (L s) = qv at *
  generalize listsT depth (L s) = lv at *
  generalize itemEnds (L s) = ie at *
  clear hfv hhv hiv hie hmu h
  go_enter Tryd.func79, Tryd.ntmps79
  go_upto_region 4 with (first
    | (go_at_call 41; refine (HF.out _).mono ?_; rintro e w1 ⟨rfl, b1⟩)
    | (go_at_call 42; refine (HH.out _).mono ?_; rintro e w2 ⟨rfl, b2⟩)
    | (go_at_call 74; refine (HI.out _).mono ?_; rintro e w3 ⟨rfl, b3⟩))
  have bb3 := (b1.trans (b2.mono b1.size)).trans (b3.mono (Nat.le_trans b1.size b2.size))
  clear b1 b2 b3
  go_cut [17] (fun s17 wx => s17 = .bool (lv && ie) ∧ Below w.heap.size w wx)
  case first =>
    cases lv
    · go_wp2_with (go_at_call 50; refine (HLS.out _ bb3).mono ?_; rintro e w4 ⟨rfl, b4⟩)
      go_meet
      exact ⟨rfl, bb3.trans (b4.mono bb3.size)⟩
    · obtain ⟨r, rfl, hr, hie⟩ := HEV.out rfl
      have hrs : (S r).size ≤ 1048576 := by rw [size_S]; have := mu_len r; omega
      have HBR := Lib.hid (fun W => blank_any (S r) W (by omega))
      rw [L_S] at HBR
      have HIE := Lib.hid hie
      clear hie hr
      generalize S r = R at *
      generalize blankT r = br at *
      cases br
      · by_cases c1 : i2 = -1
        · have q1 : (i2 == -1) = true := beq_iff_eq.2 c1
          have HV : Hid (ie = true) := Lib.hid (by rw [HIE.out, q1]; rfl)
          subst c1
          go_wp2_with (first
            | (go_at_call 50; refine (HLS.out _ bb3).mono ?_; rintro e w4 ⟨rfl, b4⟩)
            | (go_at_call 22; refine (HBR.out _).mono ?_; rintro e w5 ⟨rfl, b5⟩))
          go_meet
          rw [HV.out]
          exact ⟨rfl, (bb3.trans (b4.mono bb3.size)).trans (b5.mono (Nat.le_trans bb3.size b4.size))⟩
        · by_cases c2 : i2 = 1
          · have q2 : (i2 == 1) = true := beq_iff_eq.2 c2
            have HV : Hid (ie = true) := Lib.hid (by rw [HIE.out, q2]; simp)
            subst c2
            go_wp2_with (first
              | (go_at_call 50; refine (HLS.out _ bb3).mono ?_; rintro e w4 ⟨rfl, b4⟩)
              | (go_at_call 22; refine (HBR.out _).mono ?_; rintro e w5 ⟨rfl, b5⟩))
            go_meet
            rw [HV.out]
            exact ⟨rfl, (bb3.trans (b4.mono bb3.size)).trans (b5.mono (Nat.le_trans bb3.size b4.size))⟩
          · have q1 : (i2 == -1) = false := beq_eq_false_iff_ne.2 c1
            have q2 : (i2 == 1) = false := beq_eq_false_iff_ne.2 c2
            have HV : Hid (ie = false) := Lib.hid (by rw [HIE.out, q1, q2]; rfl)
            clear c1 c2
            go_wp2_with (first
              | (go_at_call 50; refine (HLS.out _ bb3).mono ?_; rintro e w4 ⟨rfl, b4⟩)
              | (go_at_call 22; refine (HBR.out _).mono ?_; rintro e w5 ⟨rfl, b5⟩))
            go_meet
            rw [HV.out]
            exact ⟨rfl, (bb3.trans (b4.mono bb3.size)).trans (b5.mono (Nat.le_trans bb3.size b4.size))⟩
      · have HV : Hid (ie = false) := Lib.hid (by rw [HIE.out]; rfl)
        go_wp2_with (first
          | (go_at_call 50; refine (HLS.out _ bb3).mono ?_; rintro e w4 ⟨rfl, b4⟩)
          | (go_at_call 22; refine (HBR.out _).mono ?_; rintro e w5 ⟨rfl, b5⟩))
        go_meet
        rw [HV.out]
        exact ⟨rfl, (bb3.trans (b4.mono bb3.size)).trans (b5.mono (Nat.le_trans bb3.size b4.size))⟩
  case rest =>
    obtain ⟨rfl, bc⟩ := hcut
    clear bb3 HLS HEV HF HH HI
    obtain ⟨iv, hiv⟩ : ∃ iv, (lv && ie) = iv := ⟨_, rfl⟩
    rw [hiv]
    have HIV := Lib.hid hiv
    clear hiv
    have hzc := bc.size
    cases bl
    · cases fs
      · cases hs'
        · cases rl
          · cases qv
            all_goals
              go_wp2_with (first
                | (go_at_call 22; refine (HB.out _).mono ?_; rintro e w5 ⟨rfl, b5⟩)
                | (go_at_call 47; refine (HR.out _).mono ?_; rintro e w6 ⟨rfl, b6⟩; have bb6 := (bc.trans (b5.mono hzc)).trans (b6.mono (Nat.le_trans hzc b5.size)))
                | (go_at_call 48; refine (HQ.out _ bb6).mono ?_; rintro e w7 ⟨rfl, b7⟩))
              go_ret
              rw [HIV.out]
              exact ⟨by first | rfl | simp, bb6.trans (b7.mono bb6.size)⟩
          · go_wp2_with (first
              | (go_at_call 22; refine (HB.out _).mono ?_; rintro e w5 ⟨rfl, b5⟩)
              | (go_at_call 47; refine (HR.out _).mono ?_; rintro e w6 ⟨rfl, b6⟩; have bb6 := (bc.trans (b5.mono hzc)).trans (b6.mono (Nat.le_trans hzc b5.size))))
            go_ret
            exact ⟨rfl, bb6⟩
        · go_wp2_with (go_at_call 22; refine (HB.out _).mono ?_; rintro e w5 ⟨rfl, b5⟩)
          go_ret
          exact ⟨rfl, bc.trans (b5.mono hzc)⟩
      · go_wp2_with (go_at_call 22; refine (HB.out _).mono ?_; rintro e w5 ⟨rfl, b5⟩)
        go_ret
        exact ⟨rfl, bc.trans (b5.mono hzc)⟩
    · go_wp2_with (go_at_call 22; refine (HB.out _).mono ?_; rintro e w5 ⟨rfl, b5⟩)
      go_ret
      exact ⟨rfl, bc.trans (b5.mono hzc)⟩
end Go.Proofs.YtommebalgghdjaaDoor
