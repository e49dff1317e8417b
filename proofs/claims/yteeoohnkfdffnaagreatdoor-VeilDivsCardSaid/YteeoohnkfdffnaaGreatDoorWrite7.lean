/-
  frame.Write: its contract.
-/
import Derived.Test.YteeoohnkfdffnaaGreatDoorWrite6
namespace Go.Proofs.YteeoohnkfdffnaaGreatDoor
open Go.RowKit

/-- how many lines parts may stand for, at most -/
def lineN (l : List PartT) : Nat := (l.map fun p => p.lines.length + 2).sum
theorem lineN_take (l : List PartT) (k : Nat) : lineN (l.take k) ≤ lineN l := by
  conv => rhs; rw [← List.take_append_drop k l]
  unfold lineN
  rw [List.map_append, List.sum_append]
  omega
theorem lineN_get {l : List PartT} {k : Nat} {x : PartT} (h : l[k]? = some x) : lineN (l.take (k + 1)) = lineN (l.take k) + (x.lines.length + 2) := by
  rw [List.take_add_one, h, Option.toList_some]
  unfold lineN
  rw [List.map_append, List.sum_append]
  simp
theorem notOpn_le (l : List PartT) : notOpn l ≤ l.length := List.countP_le_length
theorem wrFold_len (l : List PartT) : ∀ k, (wrFold (l.take k)).out.length + (wrFold (l.take k)).inn.length ≤ lineN (l.take k)
  | 0 => by simp [wrFold, wrInit, lineN]
  | k + 1 => by
    have ih := wrFold_len l k
    rcases hk : l[k]? with _ | x
    · have : l.length ≤ k := by rw [List.getElem?_eq_none_iff] at hk; exact hk
      rw [List.take_of_length_le (by omega)] at ih ⊢
      exact ih
    · rw [lineN_get hk, List.take_add_one, hk, Option.toList_some, wrFold_snoc]
      generalize wrFold (l.take k) = ws at *
      unfold wrStep
      have h1 := notOpn_le (ws.inn.drop x.depth.toNat)
      simp only [List.length_append, List.length_replicate, List.length_take, List.length_drop] at h1 ⊢
      cases x.div <;> simp <;> omega
theorem right6_each {l : List PartT} (h : right6 l = true) : ∀ (k : Nat) x, l[k]? = some x → partT x = true ∧ 0 ≤ x.depth ∧ x.depth ≤ k := by
  intro k x hx
  obtain ⟨s, hs⟩ := Option.isSome_iff_exists.1 h
  have hk : k < l.length := (List.getElem?_eq_some_iff.1 hx).1
  rcases h0 : rtFold (some rtInit) (l.take k) with _ | st0
  · exfalso
    have : rtFold (some rtInit) l = none := by
      rw [← List.take_append_drop k l]
      unfold rtFold at h0 ⊢
      rw [List.foldl_append, h0]
      exact rtFold_none _
    rw [this] at hs; cases hs
  · rcases h1 : rtStep st0 x with _ | st1
    · have := right6_false h0 hx h1
      rw [h] at this; cases this
    · obtain ⟨g1, g2, g3, _⟩ := rtStep_some h1
      obtain ⟨o1, o2, o3, o4, _⟩ := rtOk_take l k st0 (by omega) h0
      exact ⟨g3, by omega, by omega⟩

/-- lines behind those that are there: the append's row, then the store -/
theorem WSt.outApp {w w' : World} {base gi go ci m c2 co : Nat} {Ai Ao A2 : Option Addr} {out news : List ByteArray} {rs : List PartR} (h : WSt w base gi go Ai ci out rs) (h2 : base ≤ go) (hbs : base ≤ w.heap.size)
    (bo : Blk w go 22 #[.slice Ao out.length co]) (own2 : Own w base 9 1 Ao out.length co (txCells out)) (hm : news.length = m)
    (ho : Only w w' Ao) (hr : Own w' base 9 1 A2 (out.length + m) c2 (txCells out ++ txCells news)) :
    WSt (w'.setCell ⟨go, 0, none⟩ (.slice A2 (out.length + m) c2)) base gi go Ai ci (out ++ news) rs ∧ Below base w (w'.setCell ⟨go, 0, none⟩ (.slice A2 (out.length + m) c2)) ∧ KeepsP w (w'.setCell ⟨go, 0, none⟩ (.slice A2 (out.length + m) c2)) := by
  have b1 := h.bi.only ho (own2.blk_ne h.bi (by decide))
  have b2 := bo.only ho (own2.blk_ne bo (by decide))
  have o1 := h.own.only ho (h.own.sep_ne own2 (by decide))
  refine ⟨⟨b1.far (p := ⟨go, 0, none⟩) (b1.ne_ b2 (by decide)) _, o1.setBlk b2 (by decide) _, A2, c2, ?_, ?_⟩, (ho.below (fun a ha => (own2.lt ha).1) hbs).setCell (p := ⟨go, 0, none⟩) h2 _, (KeepsP.only own2 ho).trans (KeepsP.set_ b2 (by decide) _)⟩
  · rw [List.length_append, hm]; exact b2.set_ 0 _
  · have := hr.setBlk b2 (by decide) (.slice A2 (out.length + m) c2)
    rw [List.length_append, hm]
    simpa [txCells] using this
/-- a division more -/
theorem WSt.inApp {w w' : World} {base gi go ci c2 : Nat} {Ai A2 : Option Addr} {out : List ByteArray} {rs : List PartR} {q : PartR} (h : WSt w base gi go Ai ci out rs) (h1 : base ≤ gi) (hbs : base ≤ w.heap.size)
    (ho : Only w w' Ai) (hr : Own w' base 73 5 A2 (rs.length + 1) c2 (partCells rs ++ q.cells)) :
    WSt (w'.setCell ⟨gi, 0, none⟩ (.slice A2 (rs.length + 1) c2)) base gi go A2 c2 out (rs ++ [q]) ∧ Below base w (w'.setCell ⟨gi, 0, none⟩ (.slice A2 (rs.length + 1) c2)) := by
  obtain ⟨k1, k2, Ao, co, k3, k4⟩ := h
  have b1 := k1.only ho (k2.blk_ne k1 (by decide))
  have b2 := k3.only ho (k2.blk_ne k3 (by decide))
  have o2 := k4.only ho (k4.sep_ne k2 (by decide))
  refine ⟨⟨?_, ?_, Ao, co, b2.far (p := ⟨gi, 0, none⟩) (b2.ne_ b1 (by decide)) _, o2.setBlk b1 (by decide) _⟩, (ho.below (fun a ha => (k2.lt ha).1) hbs).setCell (p := ⟨gi, 0, none⟩) h1 _⟩
  · rw [List.length_append]; exact b1.set_ 0 _
  · have := hr.setBlk b1 (by decide) (.slice A2 (rs.length + 1) c2)
    rw [List.length_append, partCells_app]
    simpa [partCells] using this

set_option maxHeartbeats 8000000 in
set_option maxRecDepth 100000 in
theorem write6_any (A : Option Addr) (n c K : Nat) (ps : List PartR) (w : World) (hr : PartsIn w K A n ps) (hn : n ≤ 1048576) (hK : K ≤ w.heap.size) (hz : ∀ p ∈ ps, PartSz p.t ∧ p.t.lines.length ≤ 9223372036854775807) (hN : lineN (ps.map (·.t)) ≤ 1099511627776) :
    Calls Tryz.prog 41 #[.slice A n c] w fun e w' => ∃ A' c', e = .returned (.tuple #[.slice A' (write6 (ps.map (·.t))).length c', .bool (right6 (ps.map (·.t)))]) ∧
      Own w' w.heap.size 9 1 A' (write6 (ps.map (·.t))).length c' (txCells (write6 (ps.map (·.t)))) ∧ Below w.heap.size w w' := by
  have HL := Lib.hid hr.len
  have HRT : Hid (∀ w1, Below w.heap.size w w1 → Calls Tryz.prog 73 #[.slice A n c] w1 fun e w' => e = .returned (.bool (right6 (ps.map (·.t)))) ∧ Below w1.heap.size w1 w') :=
    Lib.hid fun w1 hb => right6_any A n c K ps w1 (hr.below (hb.mono hK)) hn (by have := hb.size; omega) hz
  unfold write6
  cases hrt : right6 (ps.map (·.t))
  · rw [hrt] at HRT
    go_enter Tryz.func41, Tryz.ntmps41
    go_wp2_with (go_at_call 73; refine (HRT.out _ (Below.refl _ _)).mono ?_; rintro e w1 ⟨rfl, b1⟩)
    go_ret2
    exact ⟨none, 0, rfl, Own.nil _ _ _ _, b1⟩
  · rw [hrt] at HRT
    rw [if_pos rfl]
    have HE := Lib.hid (right6_each hrt)
    have HNN := Lib.hid hN
    clear hrt hN
    go_enter Tryz.func41, Tryz.ntmps41
    go_upto_region 6 with (go_at_call 73; refine (HRT.out _ (Below.refl _ _)).mono ?_; rintro e w1 ⟨rfl, b1⟩)
    obtain ⟨q, hq⟩ : ∃ q, w1.heap.size = q := ⟨_, rfl⟩
    have hqb : w.heap.size ≤ q := by rw [← hq]; exact b1.size
    have hB1 : Blk ((w1.alloc (.cells #[.slice none 0 0] 22)).alloc (.cells #[.slice none 0 0] 70)) q 22 #[.slice none 0 0] := (Blk.new' _ _ _ _ hq).alloc _
    have hB2 : Blk ((w1.alloc (.cells #[.slice none 0 0] 22)).alloc (.cells #[.slice none 0 0] 70)) (q + 1) 70 #[.slice none 0 0] := Blk.new' _ _ _ _ (by simp [hq])
    have hb2 : Below w.heap.size w ((w1.alloc (.cells #[.slice none 0 0] 22)).alloc (.cells #[.slice none 0 0] 70)) := (b1.alloc b1.size _).alloc (by simp; omega) _
    simp only [hq]
    clear hq b1 HRT
    generalize (w1.alloc (.cells #[.slice none 0 0] 22)).alloc (.cells #[.slice none 0 0] 70) = w2 at *
    have hW0 : WSt w2 w.heap.size (q + 1) q none 0 [] [] := ⟨hB2, Own.nil _ _ _ _, none, 0, hB1, Own.nil _ _ _ _⟩
    clear hB1 hB2
    go_wp2_with fail
    go_loopw [15] (fun s15 wr => ∃ (k : Nat) (rs : List PartR) (Ai : Option Addr) (ci : Nat), k ≤ n ∧ s15 = .int .i64 k ∧ WSt wr w.heap.size (q + 1) q Ai ci (wrFold ((ps.map (·.t)).take k)).out rs ∧ rs.map (·.t) = (wrFold ((ps.map (·.t)).take k)).inn ∧ Below w.heap.size w wr) (fun s15 _ => n - (intOf s15).toNat)
    case atStart => exact ⟨0, [], none, 0, Nat.zero_le _, rfl, hW0, rfl, hb2⟩
    case round =>
      clear hW0 hb2
      obtain ⟨k, rs, Ai, ci, hk, rfl, hW, hin, hb⟩ := hrel
      have hzw := hb.size
      have hle := wrFold_len (ps.map (·.t)) k
      have hle2 := lineN_take (ps.map (·.t)) k
      have hirs : rs.length = (wrFold ((ps.map (·.t)).take k)).inn.length := by rw [← hin, List.length_map]
      by_cases hlt : k < n
      · obtain ⟨p, hp⟩ : ∃ p, ps[k]? = some p := ⟨_, List.getElem?_eq_getElem (by rw [HL.out]; exact hlt)⟩
        have hpl : (ps.map (·.t))[k]? = some p.t := by rw [List.getElem?_map, hp]; rfl
        have hbK := hb.mono hK
        obtain ⟨ad, rfl, had, c0, c1, c2, c3, c4⟩ := (hr.1.below hbK).part hp hlt
        have hlr := hr.2 p (List.mem_of_getElem? hp)
        obtain ⟨pt, pd0, pdk⟩ := HE.out k p.t hpl
        have hF : wrFold ((ps.map (·.t)).take (k + 1)) = wrStep (wrFold ((ps.map (·.t)).take k)) p.t := by rw [List.take_add_one, hpl, Option.toList_some, wrFold_snoc]
        have hle3 := lineN_take (ps.map (·.t)) (k + 1)
        rw [lineN_get hpl] at hle3
        have hNt := HNN.out
        have HF := Lib.hid hF
        have HIN := Lib.hid hin
        clear hp hpl hF hin
        generalize wrFold ((ps.map (·.t)).take k) = ws at *
        obtain ⟨out, inn⟩ := ws
        simp only at hW hle hirs
        obtain ⟨⟨d, v, lb, o, ls⟩, la, lc⟩ := p
        simp only at c0 c1 c2 c3 c4 pt pd0 pdk hlr hle3
        obtain ⟨dn, rfl⟩ : ∃ dn : Nat, d = dn := ⟨d.toNat, by omega⟩
        obtain ⟨m, hm⟩ : ∃ m, ls.length = m := ⟨_, rfl⟩
        rw [hm] at c4 hlr hle3
        have hom : out.length + rs.length + m + 2 ≤ 1099511627776 := by omega
        have hkk : dn ≤ k := by omega
        have HM := Lib.hid hm
        clear hle hle2 hle3 hNt hirs hm
        go_upto_region 9 with fail
        have hbW := hb.alloc hzw (.cells #[.int .i64 dn, .bool v, .string lb, .bool o, .slice la m lc] 73)
        have hWW := hW.alloc (.cells #[.int .i64 dn, .bool v, .string lb, .bool o, .slice la m lc] 73)
        have B0 : Blk (wr.alloc (.cells #[.int .i64 dn, .bool v, .string lb, .bool o, .slice la m lc] 73)) wr.heap.size 73 #[.int .i64 dn, .bool v, .string lb, .bool o, .slice la m lc] := Blk.new _ _ _
        obtain ⟨g, hg⟩ : ∃ g, wr.heap.size = g := ⟨_, rfl⟩
        rw [hg] at B0
        simp only [hg]
        have HAG : Hid (∀ a, Ai = some a → a.block < g) := Lib.hid fun a ha => by have := (hW.own.lt ha).2; omega
        clear hb hW hbK c0 c1 c2 c3 c4 hzw hg
        generalize wr.alloc (.cells #[.int .i64 dn, .bool v, .string lb, .bool o, .slice la m lc] 73) = W at *
        have hzW := hbW.size
        have d0 : W.cell? ⟨g, 0, none⟩ = some (.int .i64 dn) := B0.cell 0
        have HEND := Lib.hid (end_any w.heap.size (q + 1) q dn Ai ci out rs W hWW (by omega) hqb hzW (by omega) (by omega))
        go_upto_region 10 with (go_at_call 74; refine HEND.out.mono ?_; rintro e w3 ⟨rfl, hW3, hb3, hk3⟩)
        have B3 := hk3 _ _ B0
        have hbw3 := hbW.trans hb3
        have hz3 := hbw3.size
        clear HEND hWW hbW B0 d0 hb3 hk3 hzW
        have hRP : Hid (notOpn ((rs.map (·.t)).drop dn) ≤ rs.length) := Lib.hid (by have := notOpn_le ((rs.map (·.t)).drop dn); simp at this; omega)
        have hout3 : (out ++ List.replicate (notOpn ((rs.map (·.t)).drop dn)) shutB).length + m + 2 ≤ 1099511627776 := by
          have := hRP.out
          simp only [List.length_append, List.length_replicate]; omega
        have HOUT3 : Hid (out ++ List.replicate (notOpn ((rs.map (·.t)).drop dn)) shutB = out ++ List.replicate (notOpn (inn.drop dn)) shutB) := Lib.hid (by rw [show rs.map (·.t) = inn from HIN.out])
        generalize out ++ List.replicate (notOpn ((rs.map (·.t)).drop dn)) shutB = out3 at *
        have hi3 : (rs.take dn).map (·.t) = inn.take dn := by rw [List.map_take]; rw [show rs.map (·.t) = inn from HIN.out]
        have hi3l : (rs.take dn).length ≤ dn := by rw [List.length_take]; exact Nat.min_le_left _ _
        generalize rs.take dn = rs3 at *
        have HI3 := Lib.hid hi3
        clear hi3 hRP
        have e1 : w3.cell? ⟨g, 0 + 1, none⟩ = some (.bool v) := B3.cell 1
        cases v
        · obtain ⟨p1, p2, p3, p4⟩ := part_run pt rfl
          obtain ⟨Ao, co, bo, own2⟩ := hW3.bo
          have hsrc : Reads w3 K 1 la m (txCells ls) := hlr.below (hbw3.mono hK)
          have e4 : w3.cell? ⟨g, 0 + 4, none⟩ = some (.slice la m lc) := B3.cell 4
          have e0 : w3.cell? ⟨q, 0, none⟩ = some (.slice Ao out3.length co) := bo.cell 0
          obtain ⟨ol, hol⟩ : ∃ ol, out3.length = ol := ⟨_, rfl⟩
          rw [hol] at e0 own2 hout3
          have HOL := Lib.hid hol
          clear hol
          go_upto_region 14 with (at_builtin; refine wpList_app Tryz.elTexts rfl (.tmp 36) (.tmp 38) rfl rfl own2 rfl hsrc (tx_one _) (by simp only [maxLen]; omega) (by omega) hz3 ?_
                                  intro A2 c2 w4 hr4 ho4 hm4
                                  have hbo4 := bo.only ho4 (own2.blk_ne bo (by decide))
                                  have g1 := hbo4.frozen 0
                                  have g2 : w4.cell? ⟨q, 0, none⟩ = some (.slice Ao out3.length co) := hbo4.cell 0)
          have HO := HOL.out
          subst HO
          obtain ⟨hW4, hb4, _⟩ := hW3.outApp (news := ls) hqb hz3 bo own2 HM.out ho4 hr4
          go_wp2_with fail
          go_roundw
          case rel =>
            refine ⟨k + 1, rs3, Ai, ci, by omega, by go_num, ?_, ?_, hbw3.trans hb4⟩
            · rw [HF.out]
              unfold wrStep
              simp only [Bool.false_eq_true, if_false, List.append_nil, Int.toNat_natCast]
              rw [← HOUT3.out]
              exact hW4
            · rw [HF.out, HI3.out]
              unfold wrStep
              simp
          case measure => simp [intOf]; omega
        · obtain ⟨p1, p2⟩ := part_div pt rfl
          have hls : ls = [] := p1
          subst hls
          have hm0 : m = 0 := HM.out.symm
          subst hm0
          have hlb : lb.size ≤ 40 := by
            have h2 : labelT (L lb) = true := p2
            unfold labelT at h2
            rw [Bool.and_eq_true, Bool.and_eq_true, decide_eq_true_eq] at h2
            simpa using h2.1.2
          clear p1 p2 pt
          obtain ⟨Ao, co, bo, own2⟩ := hW3.bo
          have e2 : w3.cell? ⟨g, 0 + 2, none⟩ = some (.string lb) := B3.cell 2
          have e0 : w3.cell? ⟨q, 0, none⟩ = some (.slice Ao out3.length co) := bo.cell 0
          have s1 : ¬ 9223372036854775807 < 4 + lb.size := by omega
          have s2 : ¬ 9223372036854775807 < 4 + lb.size + 1 := by omega
          obtain ⟨ol, hol⟩ : ∃ ol, out3.length = ol := ⟨_, rfl⟩
          rw [hol] at e0 own2 hout3
          have HOL := Lib.hid hol
          clear hol
          go_upto_region 12 with (at_builtin; refine wpList_app1 Tryz.elTexts rfl (.tmp 25) (.tmp 30) rfl rfl (by exact own2.alloc _) rfl (Blk.new' _ _ _ _ (by simp)) rfl (by simp [Value.oneCell']) (by simp only [maxLen]; omega) (by omega) (by simp; omega) ?_
                                  intro A2 c2 w4 hr4 ho4 hm4
                                  have hbo4 := (bo.alloc _).only ho4 (own2.blk_ne bo (by decide))
                                  have g1 := hbo4.frozen 0
                                  have g2 : w4.cell? ⟨q, 0, none⟩ = some (.slice Ao out3.length co) := hbo4.cell 0)
          have HO := HOL.out
          subst HO
          obtain ⟨hW4, hb4, hk4⟩ := (hW3.alloc _).outApp (news := [openB lb]) hqb (by simp; omega) (bo.alloc _) (own2.alloc _) rfl ho4 hr4
          have hbw4 := (hbw3.alloc hz3 _).trans hb4
          have B4 := hk4 _ _ (B3.alloc _)
          clear hW3 B3 bo own2 ho4 hm4 hr4 g1 g2 hbo4 e0 e1 e2 hb4 hk4 hbw3 hz3
          generalize w4.setCell ⟨q, 0, none⟩ (.slice A2 (out3.length + 1) c2) = W at *
          have hz4 := hbw4.size
          have f0 : W.cell? ⟨g, 0, none⟩ = some (.int .i64 dn) := B4.cell 0
          have f1 : W.cell? ⟨g, 0 + 1, none⟩ = some (.bool true) := B4.cell 1
          have f2 : W.cell? ⟨g, 0 + 2, none⟩ = some (.string lb) := B4.cell 2
          have f3 : W.cell? ⟨g, 0 + 3, none⟩ = some (.bool o) := B4.cell 3
          have f4 : W.cell? ⟨g, 0 + 4, none⟩ = some (.slice la 0 lc) := B4.cell 4
          have bi := hW4.bi
          have owni := hW4.own
          have i0 : W.cell? ⟨q + 1, 0, none⟩ = some (.slice Ai rs3.length ci) := bi.cell 0
          obtain ⟨rl, hrl⟩ : ∃ rl, rs3.length = rl := ⟨_, rfl⟩
          rw [hrl] at i0 owni hi3l
          have HRL := Lib.hid hrl
          clear hrl
          go_upto_region 13 with (at_builtin; refine wpList_app1 Tryz.elParts rfl (.tmp 32) (.tmp 34) rfl rfl (by exact owni.alloc _) rfl (Blk.new' _ _ _ _ (by simp)) rfl (by simp [Value.oneCell']) (by simp only [maxLen]; omega) (by omega) (by simp; omega) ?_
                                  intro A3 c3 w5 hr5 ho5 hm5
                                  have hbi5 := (bi.alloc _).only ho5 (owni.blk_ne bi (by decide))
                                  have g1 := hbi5.frozen 0
                                  have g2 : w5.cell? ⟨q + 1, 0, none⟩ = some (.slice Ai rs3.length ci) := hbi5.cell 0)
          have HRO := HRL.out
          subst HRO
          have B5 := (B4.alloc _).only ho5 (fun a ha => by have := HAG.out a ha; omega)
          have B6 := B5.far (p := ⟨q + 1, 0, none⟩) (B5.ne_ hbi5 (by decide)) (.slice A3 (rs3.length + 1) c3)
          obtain ⟨hW6, hb6⟩ := (hW4.alloc _).inApp (q := PartR.mk ⟨(dn : Int), true, lb, o, []⟩ la lc) (by omega) (by simp; omega) ho5 hr5
          have hbw6 := (hbw4.alloc hz4 _).trans hb6
          clear hW4 B4 bi owni ho5 hm5 hr5 g1 g2 hbi5 f0 f1 f2 f3 f4 i0 hb6 hbw4 hz4 B5
          generalize w5.setCell ⟨q + 1, 0, none⟩ (.slice A3 (rs3.length + 1) c3) = W6 at *
          have hz6 := hbw6.size
          obtain ⟨Ao6, co6, bo6, own6⟩ := hW6.bo
          have h4 : W6.cell? ⟨g, 0 + 4, none⟩ = some (.slice la 0 lc) := B6.cell 4
          have h0 : W6.cell? ⟨q, 0, none⟩ = some (.slice Ao6 (out3 ++ [openB lb]).length co6) := bo6.cell 0
          have hbnd : (out3 ++ [openB lb]).length + 0 ≤ 1099511627776 := by rw [List.length_append, List.length_singleton]; omega
          have HOO : Hid (out3 ++ [openB lb] = out ++ List.replicate (notOpn (inn.drop dn)) shutB ++ [openB lb]) := Lib.hid (by rw [HOUT3.out])
          generalize out3 ++ [openB lb] = out6 at *
          obtain ⟨ol, hol⟩ : ∃ ol, out6.length = ol := ⟨_, rfl⟩
          rw [hol] at h0 own6 hbnd
          have HOL := Lib.hid hol
          clear hol
          go_upto_region 14 with (at_builtin; refine wpList_app Tryz.elTexts rfl (.tmp 36) (.tmp 38) rfl rfl own6 rfl (Reads.none_ (w := W6) (B := K) (size := 1) (A := la)) (by simp) (by simp only [maxLen]; omega) (by omega) hz6 ?_
                                  intro A7 c7 w7 hr7 ho7 hm7
                                  have hbo7 := bo6.only ho7 (own6.blk_ne bo6 (by decide))
                                  have g1 := hbo7.frozen 0
                                  have g2 : w7.cell? ⟨q, 0, none⟩ = some (.slice Ao6 out6.length co6) := hbo7.cell 0)
          have HO := HOL.out
          subst HO
          obtain ⟨hW7, hb7, _⟩ := hW6.outApp (news := []) hqb hz6 bo6 own6 rfl ho7 hr7
          go_wp2_with fail
          go_roundw
          case rel =>
            refine ⟨k + 1, rs3 ++ [PartR.mk ⟨(dn : Int), true, lb, o, []⟩ la lc], A3, c3, by omega, by go_num, ?_, ?_, hbw6.trans hb7⟩
            · rw [HF.out]
              unfold wrStep
              simp only [if_true, List.append_nil, Int.toNat_natCast]
              rw [← HOO.out]
              rw [List.append_nil] at hW7
              exact hW7
            · rw [HF.out, List.map_append, HI3.out]
              unfold wrStep
              simp
          case measure => simp [intOf]; omega
      · have hkn : k = n := by omega
        subst hkn
        rw [List.take_of_length_le (by rw [List.length_map, HL.out]; omega)] at hW hin hle
        have hNt := HNN.out
        have hend := end_any w.heap.size (q + 1) q 0 Ai ci (wrFold (ps.map (·.t))).out rs wr hW (by omega) hqb hzw (by omega) (by
          rw [List.take_of_length_le (by rw [List.length_map, HL.out]; omega)] at hirs hle2
          omega)
        have hfin : (wrFold (ps.map (·.t))).out ++ List.replicate (notOpn ((rs.map (·.t)).drop 0)) shutB = lines6 (ps.map (·.t)) := by
          unfold lines6
          rw [hin, List.drop_zero]
        rw [hfin] at hend
        have HEND := Lib.hid hend
        clear hend hfin hle hle2 hirs hin hW
        obtain ⟨fin, hfe⟩ : ∃ fin, lines6 (ps.map (·.t)) = fin := ⟨_, rfl⟩
        rw [hfe] at HEND
        have HFE := Lib.hid hfe
        clear hfe
        go_upto_region 16 with (go_at_call 74; refine HEND.out.mono ?_; rintro e w3 ⟨rfl, hW3, hb3, hk3⟩)
        obtain ⟨_, _, Ao, co, bo, own2⟩ := hW3
        have e1 : w3.cell? ⟨q, 0, none⟩ = some (.slice Ao fin.length co) := bo.cell 0
        go_wp2_with fail
        go_ret2
        rw [HFE.out]
        exact ⟨Ao, co, rfl, own2, hb.trans hb3⟩
end Go.Proofs.YteeoohnkfdffnaaGreatDoor
