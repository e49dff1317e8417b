/-
  bowdlerref14.Merge and Plain: their contracts: what emph's answer.
-/
import Derived.Test.YtfdfpimilmhhoaaRefGrp
import Derived.Test.YtfdfpimilmhhoaaSameInls
namespace Go.Proofs.Ytfdfpimilmhhoaa
open Go.RowKit
set_option linter.unusedVariables false

theorem some_txt {a : ByteArray} (h : ¬ a.size = 0) : (a == ⟨#[]⟩) = false ∧ ¬ a.toList = [] ∧ a.toList.isEmpty = false := by
  have h1 : ¬ a = ⟨#[]⟩ := fun e => h (by rw [e]; rfl)
  have h2 : ¬ a.toList = [] := fun e => h1 (by rw [ByteArray.toList_eq] at e; exact L_inj e)
  exact ⟨(bytes_ne h1).1, h2, by simpa using h2⟩
theorem none_txt {a : ByteArray} (h : a.size = 0) : a = ⟨#[]⟩ := L_inj (List.eq_nil_of_length_eq_zero (by simpa using h))
theorem dropE_next {l : List Inl} {k : Nat} {x : Inl} (hx : l[k]? = some x) : dropE (l.take (k + 1)) = dropE (l.take k) ++ (if isE x then [] else [x]) := by
  rw [List.take_add_one, hx, dropE_app]
  congr 1
  unfold dropE
  rw [Option.toList_some, List.filter_cons]
  cases isE x <;> rfl
theorem dropE_len (l : List Inl) : (dropE l).length ≤ l.length := List.length_filter_le _ _
theorem dropE_txt (l : List Inl) : txtLen (dropE l) ≤ txtLen l := by
  induction l with
  | nil => exact Nat.le_refl _
  | cons x l ih =>
    unfold dropE at ih ⊢
    rw [List.filter_cons]
    have e : ∀ (y : Inl) (r : List Inl), txtLen (y :: r) = y.text.size + txtLen r := fun y r => by simp [txtLen]
    split
    · rw [e, e]; omega
    · rw [e]; omega
theorem dropE_mem {l : List Inl} {x : Inl} (h : x ∈ dropE l) : ¬ (x.kind = 1 ∧ x.text.size = 0) := by
  have := (List.mem_filter.1 h).2
  unfold isE at this
  intro ⟨h1, h2⟩
  rw [h1, h2] at this
  cases this

set_option maxHeartbeats 8000000 in
set_option maxRecDepth 100000 in
theorem refMerge_any (A : Option Addr) (n c : Nat) (l : List Inl) (w : World) (hr : Reads w w.heap.size 5 A n (inlCells l)) (hn : n ≤ 1073741824) (ht : txtLen l ≤ 1152921504606846976) :
    Calls Try.prog 27 #[.slice A n c] w fun e w' => ∃ A' c', e = .returned (.slice A' (mergeT l).length c') ∧ Own w' w.heap.size 95 5 A' (mergeT l).length c' (inlCells (mergeT l)) ∧ Below w.heap.size w w' := by
  have hlen : l.length = n := by have := hr.1; rw [flat_length _ 5 inl_len] at this; omega
  have HL := Lib.hid hlen
  clear hlen
  go_enter Try.func27, Try.ntmps27
  go_wp2_with fail
  go_loopw [3, 5] (fun out i wr => ∃ (k t : Nat) (A1 : Option Addr) (c1 : Nat), k ≤ n ∧ t ≤ k ∧ Hid ((dropE (l.take k)).length = t) ∧ i = .int .i64 k ∧ out = .slice A1 t c1 ∧
      Own wr w.heap.size 95 5 A1 t c1 (inlCells (dropE (l.take k))) ∧ Below w.heap.size w wr)
    (fun _ i _ => n - (intOf i).toNat)
  case atStart => exact ⟨0, 0, none, 0, Nat.zero_le _, Nat.le_refl _, Lib.hid rfl, rfl, rfl, Own.nil _ _ _ _, Below.refl _ _⟩
  case round =>
    obtain ⟨k, t, A1, c1, hk, htk, HT, rfl, rfl, hown, hb⟩ := hrel
    by_cases hlt : k < n
    · obtain ⟨x, hx⟩ : ∃ x, l[k]? = some x := ⟨_, List.getElem?_eq_getElem (by rw [HL.out]; omega)⟩
      obtain ⟨ad, rfl, _, _, g0, g1, g2, g3, g4⟩ := (hr.below hb).inl hx
      have hbs := hb.size
      have HNX := Lib.hid (dropE_next hx)
      clear hx
      have hcase : (¬ x.kind = 1 ∧ isE x = false) ∨ (x.kind = 1 ∧ ¬ x.text.size = 0 ∧ isE x = false) ∨ (x.kind = 1 ∧ x.text = ⟨#[]⟩ ∧ isE x = true) := by
        unfold isE
        by_cases h1 : x.kind = 1
        · by_cases h2 : x.text.size = 0
          · exact .inr (.inr ⟨h1, none_txt h2, by simp [h1, h2]⟩)
          · exact .inr (.inl ⟨h1, h2, by simp [h2]⟩)
        · exact .inl ⟨h1, by simp [h1]⟩
      obtain ⟨xk, xd, xt, xu, xi⟩ := x
      simp only at g0 g1 g2 g3 g4 hcase
      have keep : ∀ w1 A1' c1', Own w1 w.heap.size 95 5 A1' (t + 1) c1' (inlCells (dropE (l.take k)) ++ [.int .i64 xk, .int .i64 xd, .string xt, .string xu, .string xi]) → isE ⟨xk, xd, xt, xu, xi⟩ = false →
          Own w1 w.heap.size 95 5 A1' (t + 1) c1' (inlCells (dropE (l.take (k + 1)))) ∧ Hid ((dropE (l.take (k + 1))).length = t + 1) := fun w1 A1' c1' h hE => by
        have e : dropE (l.take (k + 1)) = dropE (l.take k) ++ [⟨xk, xd, xt, xu, xi⟩] := by rw [HNX.out, hE]; rfl
        rw [e]
        exact ⟨by simpa [inlCells, Inl.cells] using h, Lib.hid (by rw [List.length_append, HT.out]; rfl)⟩
      rcases hcase with ⟨h1, hE⟩ | ⟨rfl, h2, hE⟩ | ⟨rfl, rfl, hE⟩
      · have q0 : (xk != 1) = true := by simpa using h1
        have HE := Lib.hid hE
        clear h1 hE
        go_wp2_with (at_builtin; refine wpList_app1 Try.elInls rfl (.tmp 29) (.tmp 34) rfl rfl (by exact hown.alloc _) rfl (Blk.new' _ _ _ _ (by simp)) rfl (by simp [Value.oneCell']) (by simp only [maxLen]; omega) (by omega) (by simp; omega) ?_
                     intro A1' c1' w1 hown1 ho1 hm1)
        obtain ⟨p1, p2⟩ := keep _ _ _ hown1 HE.out
        go_roundw
        case rel => exact ⟨k + 1, t + 1, A1', c1', by omega, by omega, p2, by go_num, rfl, p1, hb.trans (ho1.of_alloc.below (fun a ha => (hown.lt ha).1) hbs)⟩
        case measure => simp [intOf]; omega
      · obtain ⟨q1, q2, q3⟩ := some_txt h2
        have HE := Lib.hid hE
        clear h2 hE
        go_wp2_with (at_builtin; refine wpList_app1 Try.elInls rfl (.tmp 29) (.tmp 34) rfl rfl (by exact hown.alloc _) rfl (Blk.new' _ _ _ _ (by simp)) rfl (by simp [Value.oneCell']) (by simp only [maxLen]; omega) (by omega) (by simp; omega) ?_
                     intro A1' c1' w1 hown1 ho1 hm1)
        obtain ⟨p1, p2⟩ := keep _ _ _ hown1 HE.out
        go_roundw
        case rel => exact ⟨k + 1, t + 1, A1', c1', by omega, by omega, p2, by go_num, rfl, p1, hb.trans (ho1.of_alloc.below (fun a ha => (hown.lt ha).1) hbs)⟩
        case measure => simp [intOf]; omega
      · have HE : Hid (dropE (l.take (k + 1)) = dropE (l.take k)) := Lib.hid (by rw [HNX.out, hE]; simp)
        clear hE
        go_wp2_with fail
        go_roundw
        case rel => exact ⟨k + 1, t, A1, c1, by omega, by omega, Lib.hid (by rw [HE.out]; exact HT.out), by go_num, rfl, by rw [HE.out]; exact hown, hb⟩
        case measure => simp [intOf]; omega
    · have hkn : k = n := by omega
      subst hkn
      have hz : l.take k = l := by rw [List.take_of_length_le (by rw [HL.out]; omega)]
      rw [hz] at HT hown
      have HMG : Hid (mergeT l = mergeT (dropE l)) := Lib.hid (merge_dropE l).symm
      have HNE : Hid (∀ x ∈ dropE l, ¬ (x.kind = 1 ∧ x.text.size = 0)) := Lib.hid fun x hx => dropE_mem hx
      have ht2 := Nat.le_trans (dropE_txt l) ht
      generalize dropE l = sm at *
      have HT2 := Lib.hid ht2
      clear hz hr ht ht2 HL hlt
      have hbs := hb.size
      have HB1 := Lib.hid hb
      go_wp2_with fail
      go_loopw [4, 6] (fun s4 s6 wv => ∃ (j u : Nat) (A2 : Option Addr) (c2 : Nat), j ≤ t ∧ u ≤ j ∧ Hid ((mergeT (sm.take j)).length = u) ∧ s6 = .int .i64 (j : Int) ∧ s4 = .slice A2 u c2 ∧
          Own wv wr.heap.size 95 5 A2 u c2 (inlCells (mergeT (sm.take j))) ∧ Below wr.heap.size wr wv) (fun _ s6 _ => t - (intOf s6).toNat)
      case atStart => exact ⟨0, 0, none, 0, Nat.zero_le _, Nat.le_refl _, Lib.hid rfl, rfl, rfl, Own.nil _ _ _ _, Below.refl _ _⟩
      case round =>
        obtain ⟨j, u, A2, c2, hj, huj, HU, rfl, rfl, hO, hbv⟩ := hrel
        by_cases hjl : j < t
        · obtain ⟨x, hx⟩ : ∃ x, sm[j]? = some x := ⟨_, List.getElem?_eq_getElem (by rw [HT.out]; exact hjl)⟩
          have hne := HNE.out x (List.mem_of_getElem? hx)
          obtain ⟨ad, rfl, _, _, g0, g1, g2, g3, g4⟩ := (hown.below hbv (Nat.le_refl _)).reads.inl hx
          have hbvs := hbv.size
          have hmt : txtLen (mergeT (sm.take j)) ≤ 1152921504606846976 := Nat.le_trans (mergeT_txt _) (Nat.le_trans (txtLen_take _ _) HT2.out)
          have hxt : x.text.size ≤ 1152921504606846976 := Nat.le_trans (txt_mem (List.mem_of_getElem? hx)) HT2.out
          have HK : Hid (mergeT (sm.take (j + 1)) = mergeStep (mergeT (sm.take j)) x) := Lib.hid (by rw [List.take_add_one, hx, Option.toList_some, merge_snoc])
          clear hx
          generalize mergeT (sm.take j) = kl at *
          by_cases hw : x.kind = 1
          · have he : ¬ x.text.size = 0 := fun e => hne ⟨hw, e⟩
            have hfacts : (kl.length = 0 ∧ Hid (mergeStep kl x = kl ++ [cleanI x])) ∨ ∃ t, 0 < kl.length ∧ kl[kl.length - 1]? = some t ∧
                ((¬ t.kind = 1 ∧ Hid (mergeStep kl x = kl ++ [cleanI x])) ∨ ((t.kind == 1) = true ∧ (t.depth == x.depth) = false ∧ Hid (mergeStep kl x = kl ++ [cleanI x])) ∨
                 ((t.kind == 1) = true ∧ (t.depth == x.depth) = true ∧ Hid (mergeStep kl x = kl.set (kl.length - 1) { t with text := t.text ++ x.text }))) := by
              rcases Nat.eq_zero_or_pos kl.length with h0 | h0
              · exact .inl ⟨h0, Lib.hid (merge_app1 h0 he)⟩
              · obtain ⟨t, h1, h2⟩ := last_of h0
                refine .inr ⟨t, h0, h1, ?_⟩
                by_cases hk1 : t.kind = 1
                · by_cases hd1 : t.depth = x.depth
                  · exact .inr (.inr ⟨beq_iff_eq.2 hk1, beq_iff_eq.2 hd1, Lib.hid (merge_set h2 hw he hk1 hd1)⟩)
                  · exact .inr (.inl ⟨beq_iff_eq.2 hk1, beq_eq_false_iff_ne.2 hd1, Lib.hid (merge_app2 h2 he (fun h => hd1 h.2))⟩)
                · exact .inl ⟨hk1, Lib.hid (merge_app2 h2 he (fun h => hk1 h.1))⟩
            have HC : Hid (cleanI x = { x with url := ⟨#[]⟩, title := ⟨#[]⟩ }) := Lib.hid (by unfold cleanI; rw [if_pos hw])
            rw [HU.out] at hfacts
            obtain ⟨xk, xd, xt, xu, xi⟩ := x
            simp only at g0 g1 g2 g3 g4 hw he hxt hne hfacts HC
            subst hw
            clear hne
            have X0 := Blk.new wr 95 #[.int .i64 1, .int .i64 xd, .string xt, .string ⟨#[]⟩, .string ⟨#[]⟩]
            have hO1 := hO.alloc (.cells #[.int .i64 1, .int .i64 xd, .string xt, .string ⟨#[]⟩, .string ⟨#[]⟩] 95)
            have hb1 := hbv.alloc hbvs (.cells #[.int .i64 1, .int .i64 xd, .string xt, .string ⟨#[]⟩, .string ⟨#[]⟩] 95)
            go_upto_region 14 with fail
            generalize wr.alloc (.cells #[.int .i64 1, .int .i64 xd, .string xt, .string ⟨#[]⟩, .string ⟨#[]⟩] 95) = W at *
            have x0 : W.cell? ⟨wr.heap.size, 0, none⟩ = some (.int .i64 1) := X0.cell 0
            have x1 : W.cell? ⟨wr.heap.size, 1, none⟩ = some (.int .i64 xd) := X0.cell 1
            have x2 : W.cell? ⟨wr.heap.size, 2, none⟩ = some (.string xt) := X0.cell 2
            have x3 : W.cell? ⟨wr.heap.size, 3, none⟩ = some (.string ⟨#[]⟩) := X0.cell 3
            have x4 : W.cell? ⟨wr.heap.size, 4, none⟩ = some (.string ⟨#[]⟩) := X0.cell 4
            have hb1s := hb1.size
            clear g0 g1 g2 g3 g4 hO hbv
            rcases hfacts with ⟨h0, HS⟩ | ⟨tl, h0, hlast, hrest⟩
            · have f1 : decide ((0 : Int) < (u : Int)) = false := decide_eq_false (by omega)
              have f2 : decide (0 < u) = false := decide_eq_false (by omega)
              have HH0 := Lib.hid h0
              clear h0
              go_quiet (fail)
              have hO2 := hO1.drewN nq
              have hb2 := below_drewN' hb1 nq
              have y0 : (W.drewN nq).cell? ⟨wr.heap.size, 0, none⟩ = some (.int .i64 1) := x0
              have y1 : (W.drewN nq).cell? ⟨wr.heap.size, 1, none⟩ = some (.int .i64 xd) := x1
              have y2 : (W.drewN nq).cell? ⟨wr.heap.size, 2, none⟩ = some (.string xt) := x2
              have y3 : (W.drewN nq).cell? ⟨wr.heap.size, 3, none⟩ = some (.string ⟨#[]⟩) := x3
              have y4 : (W.drewN nq).cell? ⟨wr.heap.size, 4, none⟩ = some (.string ⟨#[]⟩) := x4
              clear x0 x1 x2 x3 x4 X0 hO1 hb1
              generalize W.drewN nq = W2 at *
              go_wp2_with (at_builtin; refine wpList_app1 Try.elInls rfl (.tmp 89) (.tmp 91) rfl rfl (by exact hO2.alloc _) rfl (Blk.new' _ _ _ _ (by simp)) rfl (by simp [Value.oneCell']) (by simp only [maxLen]; omega) (by omega) (by have := hb2.size; simp; omega) ?_
                           intro A2' c2' w3 hO3 ho3 hm3)
              have hb3 := hb2.trans (ho3.of_alloc.below (fun a ha => (hO2.lt ha).1) hb2.size)
              go_roundw
              case rel =>
                refine ⟨j + 1, u + 1, A2', c2', by omega, by omega, Lib.hid (by rw [HK.out, HS.out, List.length_append, HU.out]; rfl), by go_num, rfl, ?_, hb3⟩
                rw [HK.out, HS.out, HC.out]
                simpa [inlCells, Inl.cells] using hO3
              case measure => simp [intOf]; omega
            · obtain ⟨g, rfl, hgb, _⟩ := hO1.some_ h0
              obtain ⟨p, hp⟩ : ∃ p, p = u - 1 := ⟨_, rfl⟩
              have hpi : IntKind.i64.wrap ((u : Int) - 1) = (p : Int) := by rw [IntWalk.i64_in _ (by omega)]; omega
              have hpi2 : (u : Int) - 1 = (p : Int) := by omega
              have hpl : p < u := by omega
              rw [← hp] at hlast hrest
              have tt := fun j (hj : j < 5) => flat_get Inl.cells 5 inl_len kl p j hj hlast
              have t0 : W.cell? ⟨g, p * 5, none⟩ = some (.int .i64 tl.kind) := hO1.cell (j := p * 5) (by have := tt 0 (by omega); rw [Nat.add_zero] at this; rw [this]; rfl)
              have t1 : W.cell? ⟨g, p * 5 + 1, none⟩ = some (.int .i64 tl.depth) := hO1.cell (j := p * 5 + 1) (by rw [tt 1 (by omega)]; rfl)
              have t2 : W.cell? ⟨g, p * 5 + 2, none⟩ = some (.string tl.text) := hO1.cell (j := p * 5 + 2) (by rw [tt 2 (by omega)]; rfl)
              have htm := Nat.le_trans (txt_mem (List.mem_of_getElem? hlast)) hmt
              have f1 : decide ((0 : Int) < (u : Int)) = true := decide_eq_true (by omega)
              have f2 : decide (0 < u) = true := decide_eq_true h0
              have r1 : decide (0 ≤ (p : Int)) = true := decide_eq_true (by omega)
              have HLA := Lib.hid hlast
              have HP := Lib.hid hp
              clear tt hlast hp
              rcases hrest with ⟨hk1, HS⟩ | ⟨hk1, hd1, HS⟩ | ⟨hk1, hd1, HS⟩
              case' inl => have hk1 : (tl.kind == 1) = false := beq_eq_false_iff_ne.2 hk1
              case inr.inr =>
                go_quiet (fail)
                have hO2 := hO1.drewN nq
                have hb2 := below_drewN' hb1 nq
                have hfz : (W.drewN nq).frozen? ⟨g, p * 5 + 2, none⟩ = false := hO1.frozen (p * 5 + 2)
                have t2 : (W.drewN nq).cell? ⟨g, p * 5 + 2, none⟩ = some (.string tl.text) := t2
                have x2 : (W.drewN nq).cell? ⟨wr.heap.size, 2, none⟩ = some (.string xt) := x2
                clear t0 t1 hO1 hb1 x0 x1 x3 x4 X0 r1 f1 f2
                have hpw : IntKind.i64.wrap (p : Int) = (p : Int) := IntWalk.i64_in _ (by omega)
                have hp0 : 0 ≤ (p : Int) := by omega
                generalize W.drewN nq = W2 at *
                go_wp2_with fail
                have hsum : ¬ 9223372036854775807 < tl.text.size + xt.size := by omega
                go_still_tail 12, (by kernel_rfl)
                clear hsum
                have hO3 := hO2.drew
                have hb3 := hb2.drew
                change wpList _ _ _ _ _ W2.drew
                have t2' : W2.drew.cell? ⟨g, p * 5 + 2, none⟩ = some (.string tl.text) := t2
                have hfz' : W2.drew.frozen? ⟨g, p * 5 + 2, none⟩ = false := hfz
                clear hO2 hb2 hfz t2 x2
                generalize W2.drew = W3 at *
                have hO4 := hO3.stored (p * 5 + 2) (.string (tl.text ++ xt))
                have hb4 := hb3.setCell (p := ⟨g, p * 5 + 2, none⟩) hgb (.string (tl.text ++ xt))
                rw [flat_set Inl.cells 5 inl_len kl p 2 (by omega) HLA.out (x' := { tl with text := tl.text ++ xt }) rfl] at hO4
                clear hb3 hO3
                go_wp2_with fail
                go_roundw
                case rel =>
                  refine ⟨j + 1, u, some ⟨g, 0, none⟩, c2, by omega, by omega, Lib.hid (by rw [HK.out, HS.out, List.length_set]; exact HU.out), by go_num, rfl, ?_, hb4⟩
                  rw [HK.out, HS.out]
                  exact hO4
                case measure => simp [intOf]; omega
              all_goals
                go_quiet (fail)
                have hO2 := hO1.drewN nq
                have hb2 := below_drewN' hb1 nq
                have y0 : (W.drewN nq).cell? ⟨wr.heap.size, 0, none⟩ = some (.int .i64 1) := x0
                have y1 : (W.drewN nq).cell? ⟨wr.heap.size, 1, none⟩ = some (.int .i64 xd) := x1
                have y2 : (W.drewN nq).cell? ⟨wr.heap.size, 2, none⟩ = some (.string xt) := x2
                have y3 : (W.drewN nq).cell? ⟨wr.heap.size, 3, none⟩ = some (.string ⟨#[]⟩) := x3
                have y4 : (W.drewN nq).cell? ⟨wr.heap.size, 4, none⟩ = some (.string ⟨#[]⟩) := x4
                clear x0 x1 x2 x3 x4 X0 hO1 hb1 t0 t1 t2 r1
                generalize W.drewN nq = W2 at *
                go_wp2_with (at_builtin; refine wpList_app1 Try.elInls rfl (.tmp 89) (.tmp 91) rfl rfl (by exact hO2.alloc _) rfl (Blk.new' _ _ _ _ (by simp)) rfl (by simp [Value.oneCell']) (by simp only [maxLen]; omega) (by omega) (by have := hb2.size; simp; omega) ?_
                             intro A2' c2' w3 hO3 ho3 hm3)
                have hb3 := hb2.trans (ho3.of_alloc.below (fun a ha => (hO2.lt ha).1) hb2.size)
                go_roundw
                case rel =>
                  refine ⟨j + 1, u + 1, A2', c2', by omega, by omega, Lib.hid (by rw [HK.out, HS.out, List.length_append, HU.out]; rfl), by go_num, rfl, ?_, hb3⟩
                  rw [HK.out, HS.out, HC.out]
                  simpa [inlCells, Inl.cells] using hO3
                case measure => simp [intOf]; omega
          · have q0 : (x.kind == 1) = false := beq_eq_false_iff_ne.2 hw
            have HS : Hid (mergeStep kl x = kl ++ [cleanI x]) := Lib.hid (by unfold mergeStep; rw [if_neg (fun h => hw h.1)]; split <;> simp [hw])
            have HC : Hid (cleanI x = x) := Lib.hid (by unfold cleanI; rw [if_neg hw])
            clear hw
            go_wp2_with (at_builtin; refine wpList_app1 Try.elInls rfl (.tmp 89) (.tmp 91) rfl rfl (by exact (hO.alloc _).alloc _) rfl (Blk.new' _ _ _ _ (by simp)) rfl (by simp [Value.oneCell']) (by simp only [maxLen]; omega) (by omega) (by simp; omega) ?_
                         intro A2' c2' w3 hO3 ho3 hm3)
            have hb3 := hbv.trans (ho3.of_alloc.of_alloc.below (fun a ha => (hO.lt ha).1) hbvs)
            go_roundw
            case rel =>
              refine ⟨j + 1, u + 1, A2', c2', by omega, by omega, Lib.hid (by rw [HK.out, HS.out, List.length_append, HU.out]; rfl), by go_num, rfl, ?_, hb3⟩
              rw [HK.out, HS.out, HC.out]
              simpa [inlCells, Inl.cells] using hO3
            case measure => simp [intOf]; omega
        · have hjt : j = t := by omega
          have hz2 : sm.take j = sm := by rw [List.take_of_length_le (by rw [HT.out]; omega)]
          rw [hz2] at HU hO
          go_wp2_with fail
          go_ret
          rw [HMG.out, HU.out]
          exact ⟨A2, c2, rfl, hO.base_le hbs, HB1.out.trans (hbv.mono hbs)⟩

set_option maxHeartbeats 4000000 in
set_option maxRecDepth 100000 in
theorem refPlain_any (A : Option Addr) (n c : Nat) (l : List Inl) (w : World) (hr : Reads w w.heap.size 5 A n (inlCells l)) (hn : n ≤ 1073741824) (ht : (textT l).length ≤ 140737488355328) :
    Calls Try.prog 29 #[.slice A n c] w fun e w' => e = .returned (.string (S (textT l))) ∧ w' = w := by
  have hlen : l.length = n := by have := hr.1; rw [flat_length _ 5 inl_len] at this; omega
  have HL := Lib.hid hlen
  clear hlen
  go_enter Try.func29, Try.ntmps29
  go_wp2_with fail
  go_loop [3, 4] (fun s3 i => ∃ (k : Nat) (acc : ByteArray), k ≤ n ∧ i = .int .i64 k ∧ s3 = .string acc ∧ Hid (acc = S (textT (l.take k))))
    (fun _ i => n - (intOf i).toNat)
  case atStart => exact ⟨0, ⟨#[]⟩, Nat.zero_le _, rfl, rfl, Lib.hid rfl⟩
  case round =>
    obtain ⟨k, acc, hk, rfl, rfl, HA⟩ := hrel
    by_cases hlt : k < n
    · obtain ⟨x, hx⟩ : ∃ x, l[k]? = some x := ⟨_, List.getElem?_eq_getElem (by rw [HL.out]; omega)⟩
      obtain ⟨ad, rfl, _, _, g0, g1, g2, g3, g4⟩ := hr.inl hx
      have HK : Hid (textT (l.take (k + 1)) = textT (l.take k) ++ textB x) := Lib.hid (by
        rw [List.take_add_one, hx, Option.toList_some, textT_snoc])
      have hle : acc.size + (textB x).length ≤ 140737488355328 := by
        have := textT_take l (k + 1)
        rw [HK.out, List.length_append] at this
        rw [HA.out, size_S]
        omega
      clear hx
      by_cases h1 : x.kind = 1 ∨ x.kind = 2 ∨ x.kind = 6
      · have hX : textB x = L x.text := by unfold textB; rw [if_pos h1]
        rw [hX, length_L] at hle
        have HE : Hid (acc ++ x.text = S (textT (l.take (k + 1)))) := Lib.hid (by rw [HK.out, HA.out, hX, S_append])
        clear hX
        rcases h1 with h1 | h1 | h1
        all_goals
          have q1 := h1
          clear h1
          rw [q1] at g0
          have p1 : ¬ 9223372036854775807 < acc.size + x.text.size := by omega
          go_wp2_with fail
          go_round
          case rel => exact ⟨k + 1, _, by omega, by go_num, rfl, HE⟩
          case measure => simp [intOf]; omega
      · simp only [not_or] at h1
        obtain ⟨h1, h2, h6⟩ := h1
        have q1 : (x.kind == 1) = false := beq_eq_false_iff_ne.2 h1
        have q2 : (x.kind == 2) = false := beq_eq_false_iff_ne.2 h2
        have q6 : (x.kind == 6) = false := beq_eq_false_iff_ne.2 h6
        by_cases h7 : x.kind = 7 ∨ x.kind = 8
        · have hX : textB x = [32] := by unfold textB; rw [if_neg (by simp [h1, h2, h6]), if_pos h7]
          rw [hX] at hle
          have HE : Hid (acc ++ (⟨#[32]⟩ : ByteArray) = S (textT (l.take (k + 1)))) := Lib.hid (by rw [HK.out, HA.out, hX, S_append]; rfl)
          clear hX h1 h2 h6
          rcases h7 with h7 | h7
          all_goals
            have q7 := h7
            clear h7
            rw [q7] at g0 q1 q2 q6
            have p1 : ¬ 9223372036854775807 < acc.size + 1 := by simp at hle; omega
            go_wp2_with fail
            go_round
            case rel => exact ⟨k + 1, _, by omega, by go_num, rfl, HE⟩
            case measure => simp [intOf]; omega
        · simp only [not_or] at h7
          have q7 : (x.kind == 7) = false := beq_eq_false_iff_ne.2 h7.1
          have q8 : (x.kind == 8) = false := beq_eq_false_iff_ne.2 h7.2
          have HE : Hid (acc = S (textT (l.take (k + 1)))) := Lib.hid (by rw [HK.out, HA.out]; unfold textB; rw [if_neg (by simp [h1, h2, h6]), if_neg (by simp [h7]), List.append_nil])
          clear h7 h1 h2 h6
          go_wp2_with fail
          go_round
          case rel => exact ⟨k + 1, _, by omega, by go_num, rfl, HE⟩
          case measure => simp [intOf]; omega
    · have hkn : k = n := by omega
      subst hkn
      have HE : Hid (acc = S (textT l)) := Lib.hid (by rw [HA.out, List.take_of_length_le (by rw [HL.out]; omega)])
      go_wp2_with fail
      go_ret
      rw [HE.out]
      exact ⟨rfl, rfl⟩
end Go.Proofs.Ytfdfpimilmhhoaa
