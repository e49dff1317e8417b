/-
  frame.Right: its contract.
-/
import Derived.Test.YteeoohnkfdffnaaGreatDoorRight
namespace Go.Proofs.YteeoohnkfdffnaaGreatDoor
open Go.RowKit

theorem partCells_take (rs : List PartR) (k : Nat) : (partCells rs).take (k * 5) = partCells (rs.take k) := by
  induction rs generalizing k with
  | nil => simp [partCells]
  | cons x t ih =>
    rcases k with _ | k
    · simp [partCells]
    · have := ih k
      have e : partCells (x :: t) = x.cells ++ partCells t := rfl
      rw [e, List.take_append, part_len, List.take_of_length_le (by rw [part_len]; omega), show (k + 1) * 5 - 5 = k * 5 by omega, this]
      rfl

set_option maxHeartbeats 8000000 in
set_option maxRecDepth 100000 in
theorem right6_any (A : Option Addr) (n c K : Nat) (ps : List PartR) (w : World) (hr : PartsIn w K A n ps) (hn : n ≤ 1048576) (hK : K ≤ w.heap.size) (hz : ∀ p ∈ ps, PartSz p.t ∧ p.t.lines.length ≤ 9223372036854775807) :
    Calls Tryz.prog 73 #[.slice A n c] w fun e w' => e = .returned (.bool (right6 (ps.map (·.t)))) ∧ Below w.heap.size w w' := by
  have HL := Lib.hid hr.len
  go_enter Tryz.func73, Tryz.ntmps73
  go_wp2_with fail
  go_loopw [3, 4, 5, 10] (fun s3 s4 s5 s10 wr => ∃ (k : Nat) (st : RtS) (rs : List PartR) (A5 : Option Addr) (n5 c5 : Nat), k ≤ n ∧ s10 = .int .i64 k ∧ s3 = .int .i64 st.most ∧ s4 = .int .i64 st.least ∧ s5 = .slice A5 n5 c5 ∧
    rtFold (some rtInit) ((ps.map (·.t)).take k) = some st ∧ rs.map (·.t) = st.inn ∧ Own wr w.heap.size 73 5 A5 n5 c5 (partCells rs) ∧ Below w.heap.size w wr) (fun _ _ _ s10 _ => n - (intOf s10).toNat)
  case atStart => exact ⟨0, rtInit, [], none, 0, 0, Nat.zero_le _, rfl, rfl, rfl, rfl, rfl, rfl, Own.nil _ _ _ _, Below.refl _ _⟩
  case round =>
    obtain ⟨k, st, rs, A5, n5, c5, hk, rfl, rfl, rfl, rfl, hf, hin, hown, hb⟩ := hrel
    have hzw := hb.size
    have hok := rtOk_take (ps.map (·.t)) k st (by rw [List.length_map, HL.out]; exact hk) hf
    have hn5 : rs.length = n5 := by have := hown.len; rw [parts_length] at this; omega
    have hi5 : st.inn.length = n5 := by rw [← hin, List.length_map, hn5]
    obtain ⟨most, least, prev, inn⟩ := st
    obtain ⟨o1, o2, o3, o4, o5⟩ := hok
    simp only at o1 o2 o3 o4 o5 hin hi5
    have HF := Lib.hid hf
    have HIN := Lib.hid hin
    have HN5 := Lib.hid hn5
    rw [hi5] at o3 o4
    clear hf hin hn5 hi5
    by_cases hlt : k < n
    · obtain ⟨p, hp⟩ : ∃ p, ps[k]? = some p := ⟨_, List.getElem?_eq_getElem (by rw [HL.out]; exact hlt)⟩
      have hpl : (ps.map (·.t))[k]? = some p.t := by rw [List.getElem?_map, hp]; rfl
      have hbK := hb.mono hK
      have hrw := hr.1.below hbK
      obtain ⟨ad, rfl, had, c0, c1, c2, c3, c4⟩ := hrw.part hp hlt
      obtain ⟨hz1, hz2⟩ := hz p (List.mem_of_getElem? hp)
      have hlr := hr.2 p (List.mem_of_getElem? hp)
      have HPV : Hid (∀ j, k = j + 1 → ∃ q, ps[j]? = some q ∧ prev = some q.t) := Lib.hid fun j hj => by
        obtain ⟨q, hq⟩ : ∃ q, ps[j]? = some q := ⟨_, List.getElem?_eq_getElem (by rw [HL.out]; omega)⟩
        refine ⟨q, hq, ?_⟩
        rw [o5, if_neg (by omega), List.getElem?_map, show k - 1 = j by omega, hq]; rfl
      have HP0 : Hid (k = 0 → prev = none) := Lib.hid fun h => by rw [o5, if_pos h]
      have HT := Lib.hid (rtFold_take HF.out hpl)
      have HR : Hid (rtStep ⟨most, least, prev, inn⟩ p.t = none → right6 (ps.map (·.t)) = false) := Lib.hid (right6_false HF.out hpl)
      have HPA : Hid (∀ w1, Below w.heap.size w w1 → Calls Tryz.prog 91 #[.agg #[.int .i64 p.t.depth, .bool p.t.div, .string p.t.label, .bool p.t.opn, .slice p.la p.t.lines.length p.lc]] w1 fun e w' => e = .returned (.bool (partT p.t)) ∧ Below w1.heap.size w1 w') :=
        Lib.hid fun w1 hb1 => part_any p.t p.la p.t.lines.length p.lc K w1 rfl (hlr.below (hb1.mono hK)) hz2 hz1 (by have := hb1.size; omega)
      clear hp hpl hz1 hz2 hlr o5 HF
      obtain ⟨⟨d, v, lb, o, ls⟩, la, lc⟩ := p
      simp only at c0 c1 c2 c3 c4 HT HR HPA
      obtain ⟨m, hm⟩ : ∃ m, ls.length = m := ⟨_, rfl⟩
      rw [hm] at c4 HPA
      go_upto_region 7 with fail
      have hbW := hb.alloc hzw (.cells #[.int .i64 d, .bool v, .string lb, .bool o, .slice la m lc] 73)
      have hownW := hown.alloc (.cells #[.int .i64 d, .bool v, .string lb, .bool o, .slice la m lc] 73)
      have B0 : Blk (wr.alloc (.cells #[.int .i64 d, .bool v, .string lb, .bool o, .slice la m lc] 73)) wr.heap.size 73 #[.int .i64 d, .bool v, .string lb, .bool o, .slice la m lc] := Blk.new _ _ _
      obtain ⟨g, hg⟩ : ∃ g, wr.heap.size = g := ⟨_, rfl⟩
      rw [hg] at B0
      simp only [hg]
      have hgb : w.heap.size ≤ g := by omega
      have HAG : Hid (∀ a, A5 = some a → a.block < g) := Lib.hid fun a ha => by have := (hown.lt ha).2; omega
      clear hb hown hbK hrw c0 c1 c2 c3 c4
      generalize wr.alloc (.cells #[.int .i64 d, .bool v, .string lb, .bool o, .slice la m lc] 73) = W at *
      have hzW := hbW.size
      have hgW := B0.lt
      have d0 : W.cell? ⟨g, 0, none⟩ = some (.int .i64 d) := B0.cell 0
      have d1 : W.cell? ⟨g, 0 + 1, none⟩ = some (.bool v) := B0.cell 1
      have d2 : W.cell? ⟨g, 0 + 2, none⟩ = some (.string lb) := B0.cell 2
      have d3 : W.cell? ⟨g, 0 + 3, none⟩ = some (.bool o) := B0.cell 3
      have d4 : W.cell? ⟨g, 0 + 4, none⟩ = some (.slice la m lc) := B0.cell 4
      by_cases hA : d < least
      · have HX := Lib.hid (HR.out (by unfold rtStep; rw [if_pos (.inl hA)]))
        go_wp2_with fail
        go_ret
        rw [HX.out]
        exact ⟨rfl, hbW⟩
      by_cases hB : most < d
      · have HX := Lib.hid (HR.out (by unfold rtStep; rw [if_pos (.inr (.inl hB))]))
        go_wp2_with fail
        go_ret
        rw [HX.out]
        exact ⟨rfl, hbW⟩
      obtain ⟨pt, hpt⟩ : ∃ pt, partT ⟨d, v, lb, o, ls⟩ = pt := ⟨_, rfl⟩
      rw [hpt] at HPA
      cases pt
      · have HX := Lib.hid (HR.out (by unfold rtStep; rw [if_pos (.inr (.inr hpt))]))
        go_wp2_with (go_at_call 91; refine (HPA.out _ hbW).mono ?_; rintro e w1 ⟨rfl, b1⟩)
        go_ret
        rw [HX.out]
        exact ⟨rfl, hbW.trans (b1.mono hzW)⟩
      obtain ⟨dn, rfl⟩ : ∃ dn : Nat, d = dn := ⟨d.toNat, by omega⟩
      have hdn : dn ≤ n5 := by omega
      have hdk : dn ≤ k := by omega
      have hcl : ¬ ((dn : Int) < least ∨ most < (dn : Int) ∨ partT ⟨(dn : Int), v, lb, o, ls⟩ = false) := by rintro (h | h | h) <;> first | omega | (rw [hpt] at h; cases h)
      have hvo : v = false → o = false := fun h => (part_run hpt h).2.2.1
      have HCL := Lib.hid hcl
      have HVO := Lib.hid hvo
      clear hpt hcl hvo
      obtain ⟨cl, hcl⟩ : ∃ cl, clash prev ⟨(dn : Int), v, lb, o, ls⟩ = cl := ⟨_, rfl⟩
      have HCS := Lib.hid hcl
      clear hcl
      go_upto_region 9 with (go_at_call 91; refine (HPA.out _ hbW).mono ?_; rintro e w1 ⟨rfl, b1⟩)
      have hb1 := hbW.trans (b1.mono hzW)
      have hown1 := hownW.below b1 (Nat.le_refl _)
      have B1 := B0.below b1 hgW
      have hrw1 := hr.1.below (hb1.mono hK)
      have hz1 := hb1.size
      clear hbW hownW B0 d0 d1 d2 d3 d4 b1 hzW hgW HPA
      go_cut [56] (fun s wx => s = .bool cl ∧ ∃ mm, wx = w1.drewN mm)
      case first =>
        have e0 : w1.cell? ⟨g, 0, none⟩ = some (.int .i64 dn) := B1.cell 0
        have e1 : w1.cell? ⟨g, 0 + 1, none⟩ = some (.bool v) := B1.cell 1
        rcases Nat.eq_zero_or_pos k with hk0 | hpos
        · subst hk0
          have hcf : cl = false := by rw [← HCS.out, HP0.out rfl]; rfl
          subst hcf
          go_wp2_with fail
          go_quiet (fail)
          go_wp2_with fail
          go_meet
          exact ⟨rfl, _, rfl⟩
        · obtain ⟨j, hj⟩ : ∃ j, k = j + 1 := ⟨k - 1, by omega⟩
          obtain ⟨q, hq, hpq⟩ := HPV.out j hj
          obtain ⟨ad', had', _, f0, f1, _, _, _⟩ := hrw1.part hq (by omega)
          have had'' : ad = ad' := Option.some.inj had'
          subst had''
          have hcq : cl = (!v && !q.t.div && decide (q.t.depth = (dn : Int))) := by rw [← HCS.out, hpq]; rfl
          obtain ⟨⟨qd, qv, _, _, _⟩, _, _⟩ := q
          simp only at f0 f1 hcq
          have x1 : IntKind.wrap .i64 ((k : Int) - 1) = (k : Int) - 1 := IntWalk.i64_in _ (by omega)
          have x2 : (0 : Int) ≤ (k : Int) - 1 := by omega
          have x3 : ((k : Int) - 1).toNat = j := by omega
          have x4 : (k : Int) - 1 < (n : Int) := by omega
          have x7 : decide ((0 : Int) < (k : Int)) = true := decide_eq_true (by omega)
          clear hj hq hpq had' hrw1
          cases v
          · cases qv
            · by_cases hde : qd = (dn : Int)
              · rw [decide_eq_true hde] at hcq
                have hcf : cl = true := hcq
                have y1 : (qd == (dn : Int)) = true := beq_iff_eq.2 hde
                subst hcf
                clear hcq hde
                go_wp2_with fail
                go_quiet (fail)
                go_wp2_with fail
                go_meet
                exact ⟨rfl, _, rfl⟩
              · rw [decide_eq_false hde] at hcq
                have hcf : cl = false := hcq
                have y1 : (qd == (dn : Int)) = false := beq_eq_false_iff_ne.2 hde
                subst hcf
                clear hcq hde
                go_wp2_with fail
                go_quiet (fail)
                go_wp2_with fail
                go_meet
                exact ⟨rfl, _, rfl⟩
            · have hcf : cl = false := hcq
              subst hcf
              clear hcq
              go_wp2_with fail
              go_quiet (fail)
              go_wp2_with fail
              go_meet
              exact ⟨rfl, _, rfl⟩
          · have hcf : cl = false := hcq
            subst hcf
            clear hcq
            go_wp2_with fail
            go_quiet (fail)
            go_wp2_with fail
            go_meet
            exact ⟨rfl, _, rfl⟩
      case rest =>
        obtain ⟨rfl, mm, rfl⟩ := hcut
        cases cl
        · have HST : Hid (rtStep ⟨most, least, prev, inn⟩ ⟨(dn : Int), v, lb, o, ls⟩ = if o && (rtIn ⟨most, least, prev, inn⟩ ⟨(dn : Int), v, lb, o, ls⟩).any (fun y => !y.opn) then none else
              some ⟨if v then (dn : Int) + 1 else dn, if o then (dn : Int) + 1 else least, some ⟨(dn : Int), v, lb, o, ls⟩, rtIn ⟨most, least, prev, inn⟩ ⟨(dn : Int), v, lb, o, ls⟩⟩) :=
            Lib.hid (by unfold rtStep; rw [if_neg HCL.out, if_neg (by rw [HCS.out]; decide)])
          have HIN2 : Hid ((rs.take dn ++ [PartR.mk ⟨(dn : Int), v, lb, o, ls⟩ la lc]).map PartR.t = rtIn ⟨most, least, prev, inn⟩ ⟨(dn : Int), v, lb, o, ls⟩) := Lib.hid (by
            unfold rtIn; rw [List.map_append, List.map_take, HIN.out]; simp)
          have hownD : Own (w1.drewN mm) w.heap.size 73 5 A5 dn c5 (partCells (rs.take dn)) := by
            have := (hown1.drewN mm).take (m := dn) hdn
            rwa [show (partCells rs).take (dn * 5) = partCells (rs.take dn) from partCells_take rs dn] at this
          have hcap : dn ≤ c5 := hownD.cap
          have BD : Blk (w1.drewN mm) g 73 #[.int .i64 dn, .bool v, .string lb, .bool o, .slice la m lc] := B1.drewN mm
          have hbD := below_drewN' hb1 mm
          have hzD := hbD.size
          clear hown1 B1 hb1 hrw1 HPV HP0
          generalize w1.drewN mm = W at *
          have q1 : (0 : Int) ≤ (dn : Int) := by omega
          have q2 : ((dn : Int)).toNat = dn := by omega
          have q3 : (dn : Int) ≤ (c5 : Int) := by omega
          have hgW := BD.lt
          have e0 : W.cell? ⟨g, 0, none⟩ = some (.int .i64 dn) := BD.cell 0
          have e1 : W.cell? ⟨g, 0 + 1, none⟩ = some (.bool v) := BD.cell 1
          have e2 : W.cell? ⟨g, 0 + 2, none⟩ = some (.string lb) := BD.cell 2
          have e3 : W.cell? ⟨g, 0 + 3, none⟩ = some (.bool o) := BD.cell 3
          have e4 : W.cell? ⟨g, 0 + 4, none⟩ = some (.slice la m lc) := BD.cell 4
          go_upto_region 11 with fail
          have hsW : W.heap.size ≤ W.heap.size := Nat.le_refl _
          have hS : ∀ w3, Only (W.alloc (.cells #[.int .i64 dn, .bool v, .string lb, .bool o, .slice la m lc] 73)) w3 A5 → Blk w3 g 73 #[.int .i64 dn, .bool v, .string lb, .bool o, .slice la m lc] := fun w3 ho =>
            (BD.alloc _).only ho (fun a ha => by have := HAG.out a ha; omega)
          go_region_held3 (fun w' => w'.cell? ⟨g, 0, none⟩ = some (.int .i64 dn) ∧ w'.cell? ⟨g, 0 + 1, none⟩ = some (.bool v) ∧ w'.cell? ⟨g, 0 + 2, none⟩ = some (.string lb) ∧ w'.cell? ⟨g, 0 + 3, none⟩ = some (.bool o) ∧ w'.cell? ⟨g, 0 + 4, none⟩ = some (.slice la m lc)) (go_keep)
            ((refine step_app1 Tryz.elParts (by rfl) (.tmp 60) (.tmp 62) (by rfl) (by rfl) (by exact Own.drew (hownD.alloc _)) (by rfl) (Blk.new' _ _ _ _ (by simp)) (by rfl) (by simp [Value.oneCell']) (by simp only [maxLen]; omega) (by omega) (by simp; omega) ?_; intro A' c' w3 hown3 ho hmv; have ho' : Only (W.alloc (.cells #[.int .i64 dn, .bool v, .string lb, .bool o, .slice la m lc] 73)) w3 A5 := ⟨ho.os, ho.tape, ho.output, ho.size, ho.block⟩; have B3 := hS w3 ho'; have z0 := B3.cell 0; have z1 := B3.cell 1; have z2 := B3.cell 2; have z3 := B3.cell 3; have z4 := B3.cell 4))
          have hb3 := hbD.trans (ho'.of_alloc.below (fun a ha => (hownD.lt ha).1) hzD)
          have hz3 := hb3.size
          have hown4 : Own w3 w.heap.size 73 5 A' (dn + 1) c' (partCells (rs.take dn ++ [PartR.mk ⟨(dn : Int), v, lb, o, ls⟩ la lc])) := by
            rw [partCells_app]
            simp only [partCells, List.flatMap_cons, List.flatMap_nil, List.append_nil]
            simpa [PartR.cells, hm, partCells] using hown3
          have hg3 := B3.lt
          have hS3 : ∀ w4, Below w3.heap.size w3 w4 → w4.cell? ⟨g, 0, none⟩ = some (.int .i64 dn) ∧ w4.cell? ⟨g, 0 + 1, none⟩ = some (.bool v) ∧ w4.cell? ⟨g, 0 + 2, none⟩ = some (.string lb) ∧ w4.cell? ⟨g, 0 + 3, none⟩ = some (.bool o) ∧ w4.cell? ⟨g, 0 + 4, none⟩ = some (.slice la m lc) := fun w4 b4 => by
            have B4 := B3.below b4 hg3
            exact ⟨B4.cell 0, B4.cell 1, B4.cell 2, B4.cell 3, B4.cell 4⟩
          clear e0 e1 e2 e3 e4 BD hS hownD hown3 ho ho' hmv hsW B3 hbD hgW hzD hg3
          cases o
          · have HX : Hid (rtFold (some rtInit) ((ps.map (·.t)).take (k + 1)) = some ⟨if v then (dn : Int) + 1 else dn, least, some ⟨(dn : Int), v, lb, false, ls⟩, rtIn ⟨most, least, prev, inn⟩ ⟨(dn : Int), v, lb, false, ls⟩⟩) := Lib.hid (by
              rw [HT.out, HST.out]; rfl)
            cases v
            all_goals
              go_wp2_with fail
              go_roundw
              case rel =>
                exact ⟨k + 1, _, _, A', dn + 1, c', by omega, by go_num, by simp only [Bool.false_eq_true, if_false, if_true], rfl, rfl, HX.out, HIN2.out, hown4, hb3⟩
              case measure => simp [intOf]; omega
          · have hv1 : v = true := by
              cases v
              · exact absurd (HVO.out rfl) (by decide)
              · rfl
            subst hv1
            have HCA : Hid (Calls Tryz.prog 92 #[.slice A' (dn + 1) c', .func (.func 93) #[] #[]] w3 fun e w' => e = .returned (.bool ((rtIn ⟨most, least, prev, inn⟩ ⟨(dn : Int), true, lb, true, ls⟩).any (fun y => !y.opn))) ∧ Below w3.heap.size w3 w') := Lib.hid (by
              have := notOpenAny_any A' (dn + 1) c' w3.heap.size (rs.take dn ++ [PartR.mk ⟨(dn : Int), true, lb, true, ls⟩ la lc]) w3 hown4.reads (by omega) (Nat.le_refl _)
              rw [← HIN2.out, List.any_map]
              exact this)
            obtain ⟨an, han⟩ : ∃ an, (rtIn ⟨most, least, prev, inn⟩ ⟨(dn : Int), true, lb, true, ls⟩).any (fun y => !y.opn) = an := ⟨_, rfl⟩
            rw [han] at HCA
            have HAN := Lib.hid han
            clear han
            cases an
            · have HX : Hid (rtFold (some rtInit) ((ps.map (·.t)).take (k + 1)) = some ⟨(dn : Int) + 1, (dn : Int) + 1, some ⟨(dn : Int), true, lb, true, ls⟩, rtIn ⟨most, least, prev, inn⟩ ⟨(dn : Int), true, lb, true, ls⟩⟩) := Lib.hid (by
                rw [HT.out, HST.out, HAN.out]; rfl)
              have HB3 := Lib.hid (fun (w4 : World) (b4 : Below w3.heap.size w3 w4) => hS3 w4 b4)
              go_wp2_with (go_at_call 92; refine HCA.out.mono ?_; rintro e w4 ⟨rfl, b4⟩; obtain ⟨y0, y1, y2, y3, y4⟩ := HB3.out w4 b4)
              go_roundw
              case rel =>
                exact ⟨k + 1, _, _, A', dn + 1, c', by omega, by go_num, rfl, rfl, rfl, HX.out, HIN2.out, hown4.below b4 (Nat.le_refl _), hb3.trans (b4.mono hz3)⟩
              case measure => simp [intOf]; omega
            · have HX := Lib.hid (HR.out (by rw [HST.out, HAN.out]; rfl))
              go_wp2_with (go_at_call 92; refine HCA.out.mono ?_; rintro e w4 ⟨rfl, b4⟩)
              go_ret
              rw [HX.out]
              exact ⟨rfl, hb3.trans (b4.mono hz3)⟩
        · have HX := Lib.hid (HR.out (by unfold rtStep; rw [if_neg HCL.out, if_pos HCS.out]))
          go_wp2_with fail
          go_ret
          rw [HX.out]
          exact ⟨rfl, below_drewN' hb1 _⟩
    · have hkn : k = n := by omega
      subst hkn
      have HX : Hid (right6 (ps.map (·.t)) = true) := Lib.hid (by
        have := HF.out
        rw [List.take_of_length_le (by rw [List.length_map, HL.out]; omega)] at this
        unfold right6
        rw [this]; rfl)
      go_wp2_with fail
      go_ret
      rw [HX.out]
      exact ⟨rfl, hb⟩
end Go.Proofs.YteeoohnkfdffnaaGreatDoor
