/-
  bowdlerref14.Contents: its contract: the table that contents.Html answers.
-/
import Derived.Test.YtfdfpimilmhhoaaRefDepths
import Derived.Test.YtfdfpimilmhhoaaRefEsc
import Derived.Test.YtfdfpimilmhhoaaSecLent
namespace Go.Proofs.Ytfdfpimilmhhoaa
open Go.RowKit
set_option linter.unusedVariables false

theorem Reads.secs {w : World} {B m : Nat} {ad : Addr} {l : List Sec} (h : Reads w B 4 (some ad) m (secCells l)) {i : Nat} {p : Sec} (hp : l[i]? = some p) : ad.block < B ∧ i < m ∧
    w.cell? (ad.add (i * 4)) = some (.int .i64 p.level) ∧
    w.cell? ⟨(ad.add (i * 4)).block, (ad.add (i * 4)).off + 1, none⟩ = some (.string p.number) ∧
    w.cell? ⟨(ad.add (i * 4)).block, (ad.add (i * 4)).off + 2, none⟩ = some (.string p.anchor) ∧
    w.cell? ⟨(ad.add (i * 4)).block, (ad.add (i * 4)).off + 3, none⟩ = some (.string p.text) := by
  obtain ⟨ad', e, r⟩ := h.sec hp
  injection e with e
  subst e
  exact r

/-- the sign that the next round writes -/
def upT (dp : List Nat) (n j : Nat) : List UInt8 := if 0 < j ∧ j < n ∧ dp.getD (j - 1) 0 < dp.getD j 0 then [60, 117, 108, 62, 10] else []
theorem getD_end (l : List Nat) (j : Nat) : (l ++ [0]).getD j 0 = l.getD j 0 := by
  rw [List.getD_eq_getElem?_getD, List.getD_eq_getElem?_getD]
  rcases Nat.lt_or_ge j l.length with h | h
  · rw [List.getElem?_append_left h]
  · rw [List.getElem?_append_right h, List.getElem?_eq_none h]
    rcases hq : ([0] : List Nat)[j - l.length]? with _ | q
    · rfl
    · have := List.mem_of_getElem? hq; simp at this; subst this; rfl
theorem entryT_eq (x : Sec) (numbers : Bool) : entryT x numbers = ([60, 108, 105, 62, 60, 97, 32, 104, 114, 101, 102, 61, 34, 35, 115, 45] ++ L x.anchor ++ [34, 62]) ++ ((if numbers then esc (L x.number) ++ [32] else []) ++ (esc (L x.text) ++ [60, 47, 97, 62])) := by
  simp [entryT]

set_option maxHeartbeats 4000000 in
set_option maxRecDepth 100000 in
theorem refCont_any (A : Option Addr) (n c : Nat) (l : List Sec) (depth : Int) (numbers : Bool) (w : World) (hr : Reads w w.heap.size 4 A n (secCells l)) (hn : n ≤ 1048576) (hsz : ∀ x ∈ l, x.number.size + x.anchor.size + x.text.size ≤ 1048576) :
    Calls Try.prog 14 #[.slice A n c, .int .i64 depth, .bool numbers] w fun e w' => e = .returned (.string (S (htmlT (keepTo depth l) numbers))) ∧ Below w.heap.size w w' := by
  have hlen : l.length = n := by have := hr.1; rw [secCells_length] at this; omega
  have HL := Lib.hid hlen
  clear hlen
  go_enter Try.func14, Try.ntmps14
  go_wp2_with fail
  go_loopw [7, 8, 9] (fun out st i wr => ∃ (k : Nat) (A1 A2 : Option Addr) (c1 c2 : Nat), k ≤ n ∧ i = .int .i64 k ∧ out = .slice A1 (keepTo depth (l.take k)).length c1 ∧ st = .slice A2 (keepTo depth (l.take k)).length c2 ∧
      Own wr w.heap.size 26 4 A1 (keepTo depth (l.take k)).length c1 (secCells (keepTo depth (l.take k))) ∧
      Own wr w.heap.size 3 1 A2 (keepTo depth (l.take k)).length c2 (ints ((keepTo depth (l.take k)).map Sec.level)) ∧ Below w.heap.size w wr)
    (fun _ _ i _ => n - (intOf i).toNat)
  case atStart => exact ⟨0, none, none, 0, 0, Nat.zero_le _, rfl, rfl, rfl, Own.nil _ _ _ _, Own.nil _ _ _ _, Below.refl _ _⟩
  case round =>
    obtain ⟨k, A1, A2, c1, c2, hk, rfl, rfl, rfl, hown, hst, hb⟩ := hrel
    by_cases hlt : k < n
    · obtain ⟨x, hx⟩ : ∃ x, l[k]? = some x := ⟨_, List.getElem?_eq_getElem (by rw [HL.out]; omega)⟩
      obtain ⟨ad, rfl, hab, _, g0, g1, g2, g3⟩ := (hr.below hb).sec hx
      have hkl : (keepTo depth (l.take k)).length ≤ k := Nat.le_trans (List.length_filter_le _ _) (List.length_take_le _ _)
      have hbs := hb.size
      have HX := Lib.hid hx
      clear hx
      by_cases hle : x.level ≤ depth
      · have HK := Lib.hid (keepTo_yes HX.out hle)
        generalize keepTo depth (l.take k) = kl at *
        go_wp2_with (first
          | (at_builtin; refine wpList_app1 Try.elSecs rfl (.tmp 28) (.tmp 33) rfl rfl (by exact hown.alloc _) rfl (Blk.new' _ _ _ _ (by simp)) rfl (by simp [Value.oneCell']) (by simp only [maxLen]; omega) (by omega) (by simp; omega) ?_
             intro A1' c1' w1 hown1 ho1 hm1
             have ho1' := ho1.of_alloc
             have hst1 := (hst.alloc _).only ho1 (hst.sep_ne hown (by decide))
             have hb1 : Below w.heap.size w w1 := hb.trans (ho1'.below (fun a ha => (hown.lt ha).1) hbs)
             have hbs1 := hb1.size
             obtain ⟨_, _, d0, _⟩ := (hr.below hb1).secs HX.out)
          | (at_builtin; refine wpList_app1 Try.elInts rfl (.tmp 35) (.tmp 41) rfl rfl (by exact hst1.alloc _) rfl (Blk.new' _ _ _ _ (by simp)) rfl (by simp [Value.oneCell']) (by simp only [maxLen]; omega) (by omega) (by simp; omega) ?_
             intro A2' c2' w2 hst2 ho2 hm2
             have ho2' := ho2.of_alloc
             have hown2 := (hown1.alloc _).only ho2 (hown1.sep_ne hst1 (by decide))
             have hb2 : Below w.heap.size w w2 := hb1.trans (ho2'.below (fun a ha => (hst1.lt ha).1) hbs1)))
        go_roundw
        case rel =>
          have hl1 : (kl ++ [x]).length = kl.length + 1 := by simp
          refine ⟨k + 1, A1', A2', c1', c2', by omega, by go_num, ?_, ?_, ?_, ?_, hb2⟩
          · rw [HK.out, hl1]
          · rw [HK.out, hl1]
          · rw [HK.out, hl1]; simpa [secCells, Sec.cells] using hown2
          · rw [HK.out, hl1]; simpa using hst2
        case measure => simp [intOf]; omega
      · have HK := Lib.hid (keepTo_no HX.out hle)
        generalize keepTo depth (l.take k) = kl at *
        go_wp2_with fail
        go_roundw
        case rel => exact ⟨k + 1, A1, A2, c1, c2, by omega, by go_num, by rw [HK.out], by rw [HK.out], by rw [HK.out]; exact hown, by rw [HK.out]; exact hst, hb⟩
        case measure => simp [intOf]; omega
    · have hkn : k = n := by omega
      subst hkn
      have hz : l.take k = l := by rw [List.take_of_length_le (by rw [HL.out]; omega)]
      rw [hz] at hown hst ⊢
      have hkk : (keepTo depth l).length ≤ k := by rw [← HL.out]; exact List.length_filter_le _ _
      have hsz' : ∀ x ∈ keepTo depth l, x.number.size + x.anchor.size + x.text.size ≤ 1048576 := fun x hx => hsz x (List.mem_filter.1 hx).1
      have hbs := hb.size
      clear hr HL hk hlt hz hsz
      generalize hkl : keepTo depth l = kl at *
      have HKL := Lib.hid hkl
      clear hkl
      rcases Nat.eq_zero_or_pos kl.length with h0 | h0
      · have hk0 : kl = [] := List.eq_nil_of_length_eq_zero h0
        subst hk0
        go_wp2_with fail
        go_ret
        exact ⟨by rw [HKL.out]; rfl, hb⟩
      · obtain ⟨m, hm⟩ : ∃ m, kl.length = m := ⟨_, rfl⟩
        have hne : ((m : Int) == 0) = false := beq_eq_false_iff_ne.2 (by omega)
        rw [hm] at hown hst hkk h0 ⊢
        have HM := Lib.hid hm
        have HSZ := Lib.hid hsz'
        clear hm hsz'
        go_wp2_with fail
        refine (refDepths_any A2 m c2 (kl.map Sec.level) wr hst.reads (by omega)).mono ?_
        rintro e w1 ⟨A3, c3, rfl, hd1, hb1⟩
        have hs1 := hown.below hb1 (Nat.le_refl _)
        have bb1 := hb.trans (hb1.mono hbs)
        have hbs1 := hb1.size
        have hdlen : (dpDepths [] (kl.map Sec.level)).length = m := by simp [dpDepths_length, HM.out]
        have HNV : Hid (∀ j, navTo numbers kl (dpDepths [] (kl.map Sec.level) ++ [0]) j = navTo numbers kl (dpDepths [] (kl.map Sec.level)) j) := Lib.hid fun j => by
          unfold navTo
          congr 1
          apply congrArg (fun f => (List.range j).flatMap f)
          funext i
          unfold navItem
          rw [getD_end, getD_end]
        have hkne : ¬ kl = [] := fun h => by have := HM.out; rw [h] at this; simp at this; omega
        have HFIN : Hid (S (htmlT kl numbers) = S (navTo numbers kl (dpDepths [] (kl.map Sec.level)) m ++ [60, 47, 117, 108, 62, 10, 60, 47, 110, 97, 118, 62, 10])) := Lib.hid (by
          unfold htmlT
          rw [if_neg hkne, HNV.out, HM.out])
        have hdle : ∀ j, (dpDepths [] (kl.map Sec.level)).getD j 0 ≤ m := fun j => by
          have h1 := dp_le (zs := kl.map Sec.level) rfl j
          rw [getD_end, List.length_map, HM.out] at h1
          exact h1
        generalize dpDepths [] (kl.map Sec.level) = dp at *
        have HDL := Lib.hid hdlen
        have HDLE := Lib.hid hdle
        clear hb1 hst hdlen hdle hkne HNV hown hb
        obtain ⟨g1, rfl, _, _⟩ := hs1.some_ h0
        obtain ⟨g3, rfl, _, _⟩ := hd1.some_ (by omega)
        go_wp2_with fail
        go_loopw [11, 12] (fun s11 s12 wv => ∃ (j q : Nat) (acc : ByteArray), j ≤ m ∧ s12 = .int .i64 (j : Int) ∧ s11 = .string acc ∧ Hid (L acc ++ upT dp m j = navTo numbers kl dp j) ∧ Hid ((navTo numbers kl dp j).length ≤ 11 + j * 20971584) ∧ wv = w1.drewN q)
          (fun _ s12 _ => m - (intOf s12).toNat)
        case atStart => exact ⟨0, 0, _, Nat.zero_le _, rfl, rfl, Lib.hid (by simp [upT, navTo]; rfl), Lib.hid (by simp [navTo]), rfl⟩
        case round =>
          obtain ⟨j, q, acc, hj, rfl, rfl, HA, HZ, rfl⟩ := hrel
          by_cases hlt : j < m
          · obtain ⟨x, hx⟩ : ∃ x, kl[j]? = some x := ⟨_, List.getElem?_eq_getElem (by rw [HM.out]; exact hlt)⟩
            have hxs := HSZ.out x (List.mem_of_getElem? hx)
            have s1 := hs1.cell (j := j * 4 + 1) (by rw [secCells_get kl j 1 (by omega) hx]; rfl)
            have s2 := hs1.cell (j := j * 4 + 2) (by rw [secCells_get kl j 2 (by omega) hx]; rfl)
            have s3 := hs1.cell (j := j * 4 + 3) (by rw [secCells_get kl j 3 (by omega) hx]; rfl)
            have t0 := hd1.cell (j := j) (u := .int .i64 (dp.getD j 0 : Nat)) (nats_get HDL.out (by omega))
            have HIT : Hid (navItem numbers kl dp j = entryT x numbers ++ (if j + 1 < m ∧ dp.getD j 0 < dp.getD (j + 1) 0 then [10, 60, 117, 108, 62, 10] else [60, 47, 108, 105, 62, 10] ++ (List.replicate (dp.getD j 0 - dp.getD (j + 1) 0) navEnd).flatten)) := Lib.hid (by unfold navItem; rw [hx, HM.out])
            have hel := entryT_le x numbers
            have hp0 := HDLE.out j
            have hp1 := HDLE.out (j + 1)
            have hNZ := HZ.out
            have HX := Lib.hid hx
            clear hx hel
            have HUPT : Hid (upT dp m j = if 0 < j ∧ dp.getD (j - 1) 0 < dp.getD j 0 then [60, 117, 108, 62, 10] else []) := Lib.hid (by unfold upT; simp only [hlt, true_and])
            have hcase : (j = 0) ∨ (0 < j ∧ dp.getD j 0 ≤ dp.getD (j - 1) 0) ∨ (0 < j ∧ dp.getD (j - 1) 0 < dp.getD j 0) := by omega
            have HP1Z : Hid (j + 1 = m → dp.getD (j + 1) 0 = 0) := Lib.hid fun h => by
              rw [List.getD_eq_getElem?_getD, List.getElem?_eq_none (by rw [HDL.out]; omega)]; rfl
            have t1 : j + 1 < m → w1.cell? ⟨g3, j + 1, none⟩ = some (.int .i64 (dp.getD (j + 1) 0 : Nat)) := fun h => hd1.cell (j := j + 1) (nats_get HDL.out (by omega))
            have tm : 0 < j → w1.cell? ⟨g3, j - 1, none⟩ = some (.int .i64 (dp.getD (j - 1) 0 : Nat)) := fun h => hd1.cell (j := j - 1) (nats_get HDL.out (by omega))
            have HPM := Lib.hid (HDLE.out (j - 1))
            generalize dp.getD (j - 1) 0 = pm at *
            generalize hP0 : dp.getD j 0 = p0 at *
            generalize hP1 : dp.getD (j + 1) 0 = p1 at *
            have HP0 := Lib.hid hP0
            have HP1 := Lib.hid hP1
            clear hP0 hP1
            obtain ⟨up, hup⟩ : ∃ up : Bool, up = decide (0 < j ∧ pm < p0) := ⟨_, rfl⟩
            have HUP := Lib.hid hup
            have HC := Lib.hid hcase
            have HT1 := Lib.hid t1
            have HTM := Lib.hid tm
            clear hup hcase t1 tm
            go_upto_region 16 with fail
            go_cut [67] (fun s67 wx => s67 = .bool up ∧ ∃ q1, wx = w1.drewN q1)
            case first =>
              have pmle := HPM.out
              rcases HC.out with h0 | ⟨h0, h1⟩ | ⟨h0, h1⟩
              · have f1 : decide ((0 : Int) < (j : Int)) = false := decide_eq_false (by omega)
                have f2 : decide (0 < j) = false := decide_eq_false (by omega)
                have hf : up = false := by rw [HUP.out]; exact decide_eq_false (by omega)
                clear h0
                go_quiet (fail)
                go_wp2_with fail
                go_meet
                exact ⟨by rw [hf], q + nq, World.drewN_drewN _ _ _⟩
              · have f1 : decide ((0 : Int) < (j : Int)) = true := decide_eq_true (by omega)
                have f2 : decide (0 < j) = true := decide_eq_true h0
                have f3 : decide (pm < p0) = false := decide_eq_false (by omega)
                have f4 : decide ((pm : Int) < (p0 : Int)) = false := decide_eq_false (by omega)
                have tmm := HTM.out h0
                have q1 : IntKind.i64.wrap ((j : Int) - 1) = (j : Int) - 1 := IntWalk.i64_in _ (by omega)
                have q4 : ((j : Int) - 1).toNat = j - 1 := by omega
                have q5 : 0 ≤ (j : Int) - 1 := by omega
                have hf : up = false := by rw [HUP.out]; exact decide_eq_false (by omega)
                go_quiet (fail)
                go_wp2_with fail
                go_meet
                exact ⟨by rw [hf], q + nq, World.drewN_drewN _ _ _⟩
              · have f1 : decide ((0 : Int) < (j : Int)) = true := decide_eq_true (by omega)
                have f2 : decide (0 < j) = true := decide_eq_true h0
                have f3 : decide (pm < p0) = true := decide_eq_true h1
                have f4 : decide ((pm : Int) < (p0 : Int)) = true := decide_eq_true (by omega)
                have tmm := HTM.out h0
                have q1 : IntKind.i64.wrap ((j : Int) - 1) = (j : Int) - 1 := IntWalk.i64_in _ (by omega)
                have q4 : ((j : Int) - 1).toNat = j - 1 := by omega
                have q5 : 0 ≤ (j : Int) - 1 := by omega
                have hf : up = true := by rw [HUP.out]; exact decide_eq_true ⟨h0, h1⟩
                go_quiet (fail)
                go_wp2_with fail
                go_meet
                exact ⟨by rw [hf], q + nq, World.drewN_drewN _ _ _⟩
            case rest =>
            obtain ⟨rfl, q1, hwW⟩ := hcut
            rw [hwW]
            clear hwW s1 s2 s3 t0
            apply_assumption
            go_cut [11] (fun s11 wx => ∃ acc1 : ByteArray, s11 = .string acc1 ∧ Hid (L acc1 = navTo numbers kl dp j) ∧ wx = w1.drewN q1)
            case first =>
              have haz : acc.size ≤ 11 + j * 20971584 := by have := congrArg List.length HA.out; rw [List.length_append, length_L] at this; omega
              cases hu : up
              · have HE : Hid (L acc = navTo numbers kl dp j) := Lib.hid (by
                  have h1 := HA.out
                  rw [HUPT.out, if_neg (by have h2 := HUP.out; rw [hu] at h2; simpa using h2.symm), List.append_nil] at h1
                  exact h1)
                clear hu
                go_wp2_with fail
                go_meet
                exact ⟨acc, rfl, HE, rfl⟩
              · have HE : Hid (L (acc ++ ⟨#[60, 117, 108, 62, 10]⟩) = navTo numbers kl dp j) := Lib.hid (by
                  have h1 := HA.out
                  rw [HUPT.out, if_pos (by have h2 := HUP.out; rw [hu] at h2; simpa using h2.symm)] at h1
                  rw [L_append]
                  exact h1)
                clear hu
                have p1 : ¬ 9223372036854775807 < acc.size + 5 := by omega
                go_wp2_with fail
                go_meet
                exact ⟨_, rfl, HE, rfl⟩
            case rest =>
            obtain ⟨acc1, rfl, HA1, hwW⟩ := hcut
            rw [hwW]
            clear hwW HA HUPT HUP HC HTM
            have hz1 : acc1.size ≤ 11 + j * 20971584 := by have := congrArg List.length HA1.out; rw [length_L] at this; omega
            have s1 := hs1.cell (j := j * 4 + 1) (by rw [secCells_get kl j 1 (by omega) HX.out]; rfl)
            have s2 := hs1.cell (j := j * 4 + 2) (by rw [secCells_get kl j 2 (by omega) HX.out]; rfl)
            have s3 := hs1.cell (j := j * 4 + 3) (by rw [secCells_get kl j 3 (by omega) HX.out]; rfl)
            have t0 := hd1.cell (j := j) (u := .int .i64 (p0 : Nat)) (by rw [← HP0.out]; exact nats_get HDL.out (by omega))
            have e16 : (⟨#[60, 108, 105, 62, 60, 97, 32, 104, 114, 101, 102, 61, 34, 35, 115, 45]⟩ : ByteArray).size = 16 := rfl
            have hE16 := Lib.hid e16
            clear e16
            apply_assumption
            go_upto_region 19 with fail
            have hz2 : (acc1 ++ (⟨#[60, 108, 105, 62, 60, 97, 32, 104, 114, 101, 102, 61, 34, 35, 115, 45]⟩ : ByteArray) ++ x.anchor ++ (⟨#[34, 62]⟩ : ByteArray)).size ≤ 11 + j * 20971584 + x.anchor.size + 18 := by
              rw [ByteArray.size_append, ByteArray.size_append, ByteArray.size_append, hE16.out]; show _ + _ + _ + 2 ≤ _; omega
            have HA2 : Hid (L (acc1 ++ (⟨#[60, 108, 105, 62, 60, 97, 32, 104, 114, 101, 102, 61, 34, 35, 115, 45]⟩ : ByteArray) ++ x.anchor ++ (⟨#[34, 62]⟩ : ByteArray)) = navTo numbers kl dp j ++ ([60, 108, 105, 62, 60, 97, 32, 104, 114, 101, 102, 61, 34, 35, 115, 45] ++ L x.anchor ++ [34, 62])) := Lib.hid (by
              rw [L_append, L_append, L_append, HA1.out, show L ⟨#[60, 108, 105, 62, 60, 97, 32, 104, 114, 101, 102, 61, 34, 35, 115, 45]⟩ = [60, 108, 105, 62, 60, 97, 32, 104, 114, 101, 102, 61, 34, 35, 115, 45] from rfl, show L ⟨#[34, 62]⟩ = [34, 62] from rfl]; simp)
            generalize acc1 ++ (⟨#[60, 108, 105, 62, 60, 97, 32, 104, 114, 101, 102, 61, 34, 35, 115, 45]⟩ : ByteArray) ++ x.anchor ++ (⟨#[34, 62]⟩ : ByteArray) = acc2 at *
            obtain ⟨nb, hnb⟩ : ∃ nb : Bool, nb = numbers := ⟨_, rfl⟩
            have HNB := Lib.hid hnb
            clear hnb
            go_cut [79] (fun s79 wx => s79 = .bool nb ∧ wx = w1.drewN q1)
            case first =>
              go_wp2_with fail
              go_meet
              exact ⟨by rw [HNB.out], rfl⟩
            case rest =>
            obtain ⟨rfl, hwW⟩ := hcut
            rw [hwW]
            clear hwW HA1 hz1
            apply_assumption
            go_cut [11] (fun s11 wx => ∃ acc3 : ByteArray, s11 = .string acc3 ∧ Hid (L acc3 = navTo numbers kl dp j ++ ([60, 108, 105, 62, 60, 97, 32, 104, 114, 101, 102, 61, 34, 35, 115, 45] ++ L x.anchor ++ [34, 62]) ++ (if numbers then esc (L x.number) ++ [32] else [])) ∧ acc3.size ≤ 11 + j * 20971584 + x.anchor.size + 18 + (6 * x.number.size + 1) ∧ wx = w1.drewN q1)
            case first =>
              cases hnu : nb
              case' false =>
                have hnf : numbers = false := by rw [← HNB.out]; exact hnu
                have HE : Hid (L acc2 = navTo numbers kl dp j ++ ([60, 108, 105, 62, 60, 97, 32, 104, 114, 101, 102, 61, 34, 35, 115, 45] ++ L x.anchor ++ [34, 62]) ++ (if numbers = true then esc (L x.number) ++ [32] else [])) := Lib.hid (by rw [HA2.out, hnf]; simp)
                clear hnf hnu
                go_wp2_with fail
                go_meet
                exact ⟨acc2, rfl, HE, by omega, rfl⟩
              case' true =>
                have hel := esc_le (L x.number)
                rw [length_L] at hel
                have hE : Hid (L (acc2 ++ S (esc (L x.number)) ++ (⟨#[32]⟩ : ByteArray)) = navTo numbers kl dp j ++ ([60, 108, 105, 62, 60, 97, 32, 104, 114, 101, 102, 61, 34, 35, 115, 45] ++ L x.anchor ++ [34, 62]) ++ (if numbers = true then esc (L x.number) ++ [32] else [])) := Lib.hid (by
                  rw [L_append, L_append, HA2.out, L_S, show L ⟨#[32]⟩ = [32] from rfl, if_pos (by rw [← HNB.out]; exact hnu)]; simp)
                have hz3 : (acc2 ++ S (esc (L x.number)) ++ (⟨#[32]⟩ : ByteArray)).size ≤ 11 + j * 20971584 + x.anchor.size + 18 + (6 * x.number.size + 1) := by
                  rw [ByteArray.size_append, ByteArray.size_append, size_S]; show _ + _ + 1 ≤ _; omega
                clear hnu
                go_wp2_with fail
                refine (refEsc_any x.number _ (by omega)).mono ?_
                rintro e w4 ⟨rfl, rfl⟩
                go_wp2_with fail
                go_meet
                exact ⟨_, rfl, hE, hz3, rfl⟩
            case rest =>
            obtain ⟨acc3, rfl, HA3, hz3, hwW⟩ := hcut
            rw [hwW]
            clear hwW HA2 hz2
            apply_assumption
            have hel := esc_le (L x.text)
            rw [length_L] at hel
            go_upto_region 21 with fail
            go_wp2_with fail
            refine (refEsc_any x.text _ (by omega)).mono ?_
            rintro e w4 ⟨rfl, rfl⟩
            go_upto_region 23 with fail
            have HA4 : Hid (L (acc3 ++ S (esc (L x.text)) ++ (⟨#[60, 47, 97, 62]⟩ : ByteArray)) = navTo numbers kl dp j ++ entryT x numbers) := Lib.hid (by
              rw [L_append, L_append, HA3.out, L_S, show L ⟨#[60, 47, 97, 62]⟩ = [60, 47, 97, 62] from rfl, entryT_eq]; simp)
            have hz4 : (acc3 ++ S (esc (L x.text)) ++ (⟨#[60, 47, 97, 62]⟩ : ByteArray)).size ≤ 11 + j * 20971584 + 6291600 := by
              rw [ByteArray.size_append, ByteArray.size_append, size_S]; show _ + _ + 4 ≤ _; omega
            generalize acc3 ++ S (esc (L x.text)) ++ (⟨#[60, 47, 97, 62]⟩ : ByteArray) = acc4 at *
            clear HA3 hz3 s1 s2 s3 hel
            obtain ⟨mo, hmo⟩ : ∃ mo : Bool, mo = decide (j + 1 < m) := ⟨_, rfl⟩
            go_cut [102] (fun s102 wx => s102 = .bool mo ∧ wx = w1.drewN q1)
            case first =>
              have f1 : decide ((j : Int) + 1 < (m : Int)) = mo := by rw [hmo]; exact decide_eq_decide.2 (by omega)
              have f2 : decide (j + 1 < m) = mo := hmo.symm
              have HMO := Lib.hid hmo
              clear hmo
              go_wp2_with fail
              go_meet
              exact ⟨by first | rfl | (rw [HMO.out]), rfl⟩
            case rest =>
            obtain ⟨rfl, hwW⟩ := hcut
            rw [hwW]
            clear hwW
            have HMO := Lib.hid hmo
            clear hmo
            apply_assumption
            go_cut [13] (fun s13 wx => s13 = .int .i64 (p1 : Nat) ∧ wx = w1.drewN q1)
            case first =>
              cases hm : mo
              · have h1 : ¬ j + 1 < m := by have := HMO.out; rw [hm] at this; simpa using this.symm
                have h2 : p1 = 0 := HP1Z.out (by omega)
                have H2 := Lib.hid h2
                clear h2 hm
                go_wp2_with fail
                go_meet
                exact ⟨by rw [H2.out]; rfl, rfl⟩
              · have h1 : j + 1 < m := by have := HMO.out; rw [hm] at this; simpa using this.symm
                have t11 := HT1.out h1
                clear hm
                go_wp2_with fail
                go_meet
                exact ⟨rfl, rfl⟩
            case rest =>
            obtain ⟨rfl, hwW⟩ := hcut
            rw [hwW]
            clear hwW
            have hnav : Hid (navTo numbers kl dp (j + 1) = navTo numbers kl dp j ++ navItem numbers kl dp j) := Lib.hid (navTo_succ _ _ _ _)
            have hel := entryT_le x numbers
            apply_assumption
            by_cases hlt2 : p0 < p1
            · have h1 : j + 1 < m := by
                rcases Nat.lt_or_ge (j + 1) m with h | h
                · exact h
                · have := HP1Z.out (by omega); omega
              have HE : Hid (L (acc4 ++ (⟨#[10]⟩ : ByteArray)) ++ upT dp m (j + 1) = navTo numbers kl dp (j + 1)) := Lib.hid (by
                rw [hnav.out, HIT.out, if_pos ⟨h1, hlt2⟩, L_append, HA4.out]
                unfold upT
                rw [if_pos ⟨by omega, h1, by rw [Nat.add_sub_cancel, HP0.out, HP1.out]; exact hlt2⟩]
                simp [L_lit])
              have HZ2 : Hid ((navTo numbers kl dp (j + 1)).length ≤ 11 + (j + 1) * 20971584) := Lib.hid (by
                rw [hnav.out, HIT.out, if_pos ⟨h1, hlt2⟩]; simp; omega)
              have p1 : ¬ 9223372036854775807 < acc4.size + 1 := by omega
              clear hel
              go_wp2_with fail
              go_roundw
              case rel => exact ⟨j + 1, q1, _, by omega, by go_num, rfl, HE, HZ2, rfl⟩
              case measure => simp [intOf]; omega
            · have hdd : ¬ (j + 1 < m ∧ p0 < p1) := fun h => hlt2 h.2
              have HIT2 : Hid (navTo numbers kl dp (j + 1) = navTo numbers kl dp j ++ (entryT x numbers ++ ([60, 47, 108, 105, 62, 10] ++ (List.replicate (p0 - p1) navEnd).flatten))) := Lib.hid (by rw [hnav.out, HIT.out, if_neg hdd])
              have HUP2 : Hid (upT dp m (j + 1) = []) := Lib.hid (by
                unfold upT
                rw [if_neg (fun h => hdd ⟨h.2.1, by have := h.2.2; rw [Nat.add_sub_cancel, HP0.out, HP1.out] at this; exact this⟩)])
              have hrl : ((List.replicate (p0 - p1) navEnd).flatten).length = (p0 - p1) * 12 := by simp [navEnd]
              have HZ2 : Hid ((navTo numbers kl dp (j + 1)).length ≤ 11 + (j + 1) * 20971584) := Lib.hid (by
                rw [HIT2.out]; simp only [List.length_append, hrl]; simp; omega)
              have hsum : acc4.size + 6 ≤ 11 + j * 20971584 + 6291606 := by omega
              have p1' : ¬ 9223372036854775807 < acc4.size + 6 := by omega
              clear hel hrl hdd HIT hnav
              go_wp2_with fail
              go_loop [11, 14] (fun s11 s14 => ∃ (e : Nat) (ac : ByteArray), p1 + e ≤ p0 ∧ s14 = .int .i64 ((p1 + e : Nat) : Int) ∧ s11 = .string ac ∧ Hid (L ac = L acc4 ++ [60, 47, 108, 105, 62, 10] ++ (List.replicate e navEnd).flatten) ∧ ac.size ≤ acc4.size + 6 + e * 12) (fun _ s14 => p0 - (intOf s14).toNat)
              case atStart => exact ⟨0, _, by omega, by first | rfl | simp, rfl, Lib.hid (by rw [L_append]; simp [L_lit]), by rw [ByteArray.size_append]; exact Nat.le_refl _⟩
              case round =>
                obtain ⟨e, ac, he, rfl, rfl, HAC, hac⟩ := hrel
                by_cases hel : p1 + e < p0
                · have p2 : ¬ 9223372036854775807 < ac.size + 12 := by omega
                  have HN : Hid (L (ac ++ (⟨#[60, 47, 117, 108, 62, 10, 60, 47, 108, 105, 62, 10]⟩ : ByteArray)) = L acc4 ++ [60, 47, 108, 105, 62, 10] ++ (List.replicate (e + 1) navEnd).flatten) := Lib.hid (by
                    rw [L_append, HAC.out, List.replicate_succ']; simp [L_lit, navEnd])
                  have hzn : (ac ++ (⟨#[60, 47, 117, 108, 62, 10, 60, 47, 108, 105, 62, 10]⟩ : ByteArray)).size ≤ acc4.size + 6 + (e + 1) * 12 := by rw [ByteArray.size_append]; show _ + 12 ≤ _; omega
                  go_wp2_with fail
                  go_round
                  case rel => exact ⟨e + 1, _, by omega, by go_num, rfl, HN, hzn⟩
                  case measure => simp [intOf]; omega
                · have hee : e = p0 - p1 := by omega
                  have HN : Hid (L ac ++ upT dp m (j + 1) = navTo numbers kl dp (j + 1)) := Lib.hid (by
                    rw [HUP2.out, HIT2.out, HAC.out, HA4.out, hee]; simp)
                  clear hee
                  go_wp2_with fail
                  go_roundw
                  case rel => exact ⟨j + 1, q1, ac, by omega, by go_num, rfl, HN, HZ2, rfl⟩
                  case measure => simp [intOf]; omega
          · have hjm : j = m := by omega
            subst hjm
            have HE : Hid (S (htmlT kl numbers) = acc ++ ⟨#[60, 47, 117, 108, 62, 10, 60, 47, 110, 97, 118, 62, 10]⟩) := Lib.hid (by
              rw [HFIN.out, ← HA.out]
              apply L_inj
              unfold upT
              rw [if_neg (by omega), L_S, L_append, show L ⟨#[60, 47, 117, 108, 62, 10, 60, 47, 110, 97, 118, 62, 10]⟩ = [60, 47, 117, 108, 62, 10, 60, 47, 110, 97, 118, 62, 10] from rfl]
              simp)
            have haz : acc.size ≤ 11 + j * 20971584 := by have := congrArg List.length HA.out; rw [List.length_append, length_L] at this; have := HZ.out; omega
            have p1 : ¬ 9223372036854775807 < acc.size + 13 := by omega
            go_wp2_with fail
            go_ret
            refine ⟨?_, below_drewN' bb1 _⟩
            rw [HKL.out, HE.out]
            rfl
end Go.Proofs.Ytfdfpimilmhhoaa
