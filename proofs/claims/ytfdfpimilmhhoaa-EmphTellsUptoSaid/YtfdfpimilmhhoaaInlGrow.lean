/-
  The Book's texts: every list is grown.
-/
import Derived.Test.YtfdfpimilmhhoaaInlPut
import Derived.Test.YtfdfpimilmhhoaaAppOwn
namespace Go.Proofs.Ytfdfpimilmhhoaa
open Go.RowKit
set_option linter.unusedVariables false

def LOwn (w : World) (base : Nat) (rs : List LRow) : Prop := ∀ r ∈ rs, Own w base 95 5 r.a r.xs.length r.c (inlCells r.xs)
theorem LOwn.below {w w' : World} {base K : Nat} {rs : List LRow} (h : LOwn w base rs) (hb : Below K w w') (hK : w.heap.size ≤ K) : LOwn w' base rs := fun r hr => (h r hr).below hb hK
theorem LOwn.alloc {w : World} {base : Nat} {rs : List LRow} (h : LOwn w base rs) (o : Obj) : LOwn (w.alloc o) base rs := fun r hr => (h r hr).alloc o
/-- apart of a row, or the head of it -/
def LApt (r : LRow) (A : Option Addr) (n c : Nat) (xs : List Inl) : Prop := Sep r.a A ∨ (r.a = A ∧ r.c = c ∧ r.xs.length ≤ n ∧ r.xs = xs.take r.xs.length)
theorem LOwn.app {w w' : World} {base : Nat} {rs : List LRow} {A A' : Option Addr} {n m c c' : Nat} {xs ys : List Inl} (h : LOwn w base rs) (ha : ∀ r ∈ rs, LApt r A n c xs) (hx : xs.length = n)
    (h2 : Own w' base 95 5 A' (n + m) c' (inlCells (xs ++ ys))) (h3 : Only w w' A) (h4 : Grew w w' A c A' c') : LOwn w' base rs ∧ ∀ r ∈ rs, LApt r A' (n + m) c' (xs ++ ys) := by
  refine ⟨fun r hr => ?_, fun r hr => ?_⟩
  · rcases h4 with ⟨rfl, rfl⟩ | ⟨h4, _⟩
    · rcases ha r hr with hs | ⟨e1, e2, e3, e4⟩
      · exact (h r hr).only h3 hs
      · have h5 := h2.take (m := r.xs.length) (by omega)
        have h6 : (inlCells (xs ++ ys)).take (r.xs.length * 5) = inlCells r.xs := by
          rw [flat_take _ 5 inl_len, List.take_append_of_le_length (by omega), ← e4]
        rw [h6, ← e1, ← e2] at h5
        exact h5
    · exact (h r hr).only h4 Sep.none_r
  · rcases ha r hr with hs | ⟨e1, e2, e3, e4⟩
    · exact .inl (h4.sep hs (fun b hb => ((h r hr).lt hb).2))
    · rcases h4 with ⟨rfl, rfl⟩ | ⟨_, h4⟩
      · exact .inr ⟨e1, e2, by omega, by rw [List.take_append_of_le_length (by omega)]; exact e4⟩
      · refine .inl fun b a hb ha2 e => ?_
        have h5 := ((h r hr).lt hb).2
        have h6 := h4 a ha2
        omega
/-- the Book, its rows by name -/
def LBkF (w : World) (base g : Nat) (A1 : Option Addr) (m1 c1 : Nat) (A2 : Option Addr) (m2 c2 : Nat) (ls ws : List LRow) : Prop :=
  Blk w g 39 (lbkCells (.slice A1 m1 c1) (.slice A2 m2 c2)) ∧ Own w base 51 1 A1 m1 c1 (lrowCells ls) ∧ Own w base 51 1 A2 m2 c2 (lrowCells ws)
section
variable {w w' : World} {base g m1 c1 m2 c2 : Nat} {A1 A2 : Option Addr} {ls ws : List LRow}
theorem LBkF.app (h : LBkF w base g A1 m1 c1 A2 m2 c2 ls ws) {b n c : Nat} {B : Option Addr} {xs : List Value} (hr : Own w b 95 5 B n c xs) (ho : Only w w' B) : LBkF w' base g A1 m1 c1 A2 m2 c2 ls ws :=
  ⟨h.1.only ho (hr.blk_ne h.1 (by decide)), h.2.1.only ho (h.2.1.sep_ne hr (by decide)), h.2.2.only ho (h.2.2.sep_ne hr (by decide))⟩
theorem LBkF.out (h : LBkF w base g A1 m1 c1 A2 m2 c2 ls ws) {K : Nat} {B : Option Addr} (ho : Only w w' B) (hB : ∀ b, B = some b → K ≤ b.block) (hg : g < K) (h1 : ∀ a, A1 = some a → a.block < K) (h2 : ∀ a, A2 = some a → a.block < K) : LBkF w' base g A1 m1 c1 A2 m2 c2 ls ws :=
  ⟨h.1.only ho (fun b hb => by have := hB b hb; omega), h.2.1.only ho (fun a b ha hb => by have := hB b hb; have := h1 a ha; omega), h.2.2.only ho (fun a b ha hb => by have := hB b hb; have := h2 a ha; omega)⟩
theorem LBkF.below {K : Nat} (h : LBkF w base g A1 m1 c1 A2 m2 c2 ls ws) (hb : Below K w w') (hK : w.heap.size ≤ K) : LBkF w' base g A1 m1 c1 A2 m2 c2 ls ws :=
  ⟨h.1.below hb (Nat.lt_of_lt_of_le h.1.lt hK), h.2.1.below hb hK, h.2.2.below hb hK⟩
theorem LBkF.alloc (h : LBkF w base g A1 m1 c1 A2 m2 c2 ls ws) (o : Obj) : LBkF (w.alloc o) base g A1 m1 c1 A2 m2 c2 ls ws := ⟨h.1.alloc o, h.2.1.alloc o, h.2.2.alloc o⟩
end
theorem markInls_1 (i frm : Nat) (w : World) (hi : i ≤ 1000) (hn : frm + 1 ≤ 1000000) : Calls Try.prog 95 #[.int .i64 (i : Int), .int .i64 (frm : Int), .int .i64 1] w fun e w' => ∃ A c, e = .returned (.slice A 1 c) ∧ Own w' w.heap.size 95 5 A 1 c (inlCells (lmarksT i frm 1)) ∧ Below w.heap.size w w' := markInls_any i frm 1 w hi hn
theorem markInls_60 (i frm : Nat) (w : World) (hi : i ≤ 1000) (hn : frm + 60 ≤ 1000000) : Calls Try.prog 95 #[.int .i64 (i : Int), .int .i64 (frm : Int), .int .i64 60] w fun e w' => ∃ A c, e = .returned (.slice A 60 c) ∧ Own w' w.heap.size 95 5 A 60 c (inlCells (lmarksT i frm 60)) ∧ Below w.heap.size w w' := markInls_any i frm 60 w hi hn

set_option maxHeartbeats 4000000 in
set_option maxRecDepth 100000 in
theorem growInls_any (w : World) (base g m : Nat) (rs ws : List LRow) (h : LBk w base g rs ws) (hT : LRows w base rs) (hm : rs.length = m) (hmx : m ≤ 250) (hsz : ∀ r ∈ rs, r.xs.length ≤ 500000) (hmk : ∀ j r, rs[j]? = some r → r.xs = lmarksT j 0 r.xs.length) (hbw : base ≤ w.heap.size) :
    Calls Try.prog 57 #[.pointer (some ⟨g, 0, none⟩)] w fun e w' => ∃ A c os, e = .returned (.slice A m c) ∧ Own w' w.heap.size 51 1 A m c (lrowCells os) ∧ LOwn w' base os ∧ LOwn w' base rs ∧ LBk w' base g rs ws ∧ os.length = m ∧ (∀ j o, os[j]? = some o → o.xs = lmarksT j 0 o.xs.length ∧ o.xs.length ≤ 600000) ∧ Below base w w' ∧ w.heap.size ≤ w'.heap.size := by
  obtain ⟨hbg, A1, c1, A2, c2, hB, hO1, hO2, hs12⟩ := h
  obtain ⟨m2, hm2⟩ : ∃ m2, ws.length = m2 := ⟨_, rfl⟩
  rw [hm] at hB hO1
  rw [hm2] at hB hO2
  have HM := Lib.hid hm
  have HM2 := Lib.hid hm2
  have HSZ := Lib.hid hsz
  have HMK := Lib.hid hmk
  have HPW := Lib.hid hT.2
  have HS12 := Lib.hid hs12
  have HBG := Lib.hid hbg
  have HA1 : Hid (∀ a, A1 = some a → a.block < w.heap.size) := Lib.hid fun a ha => (hO1.lt ha).2
  have HA2 : Hid (∀ a, A2 = some a → a.block < w.heap.size) := Lib.hid fun a ha => (hO2.lt ha).2
  have HG : Hid (g < w.heap.size) := Lib.hid hB.lt
  have hF0 : LBkF w base g A1 m c1 A2 m2 c2 rs ws := ⟨hB, hO1, hO2⟩
  have hT0 : LOwn w base rs := hT.1
  clear hm hm2 hsz hmk hs12 hB hO1 hO2 hT hbg
  go_enter Try.func57, Try.ntmps57
  go_wp2_with fail
  go_loopw [3, 4] (fun s3 s4 wr => ∃ (i : Nat) (A : Option Addr) (c : Nat) (os : List LRow), i ≤ m ∧ s4 = .int .i64 (i : Int) ∧ s3 = .slice A i c ∧ Own wr w.heap.size 51 1 A i c (lrowCells os) ∧ LOwn wr base rs ∧ LOwn wr base os ∧ os.length = i ∧
      (∀ o ∈ os, ∀ j r, i ≤ j → rs[j]? = some r → Sep o.a r.a) ∧ (∀ j o, os[j]? = some o → o.xs = lmarksT j 0 o.xs.length ∧ o.xs.length ≤ 600000) ∧ LBkF wr base g A1 m c1 A2 m2 c2 rs ws ∧ Below base w wr ∧ w.heap.size ≤ wr.heap.size) (fun _ s4 _ => m - (intOf s4).toNat)
  case atStart => exact ⟨0, none, 0, [], Nat.zero_le _, rfl, rfl, Own.nil _ _ _ _, hT0, (by intro r hr; cases hr), rfl, (by intro o ho; cases ho), (by intro j o ho; simp at ho), hF0, Below.refl _ _, Nat.le_refl _⟩
  case round =>
    clear hF0 hT0
    obtain ⟨i, A, c, os, hi, rfl, rfl, hO3, hTr, hTo, hol, hsp, hxs, hF, hb, hzw⟩ := hrel
    have HOL := Lib.hid hol
    have HSP := Lib.hid hsp
    have HXS := Lib.hid hxs
    clear hol hsp hxs
    have k0 : wr.cell? ⟨g, 0 + 6, none⟩ = some (.slice A1 m c1) := hF.1.cell 6
    by_cases hlt : i < m
    · obtain ⟨r, hr⟩ : ∃ r, rs[i]? = some r := ⟨_, List.getElem?_eq_getElem (by have := HM.out; omega)⟩
      obtain ⟨n, hn⟩ : ∃ n, r.xs.length = n := ⟨_, rfl⟩
      have hn5 : n ≤ 500000 := by rw [← hn]; exact HSZ.out r (List.mem_of_getElem? hr)
      obtain ⟨q1, rfl, _, _⟩ := hF.2.1.some_ (by omega)
      have k2 : wr.cell? ⟨q1, i, none⟩ = some (.slice r.a n r.c) := by have := hF.2.1.cell (lrowCells_get hr); rw [← hn]; exact this
      have hrow : Own wr base 95 5 r.a n r.c (inlCells (lmarksT i 0 n)) := by
        have h1 := hTr r (List.mem_of_getElem? hr)
        have h2 := HMK.out i r hr
        rw [hn] at h1 h2
        rw [h2] at h1
        exact h1
      have hAr : ∀ p ∈ rs, LApt p r.a n r.c (lmarksT i 0 n) := by
        intro p hp
        obtain ⟨k, hk⟩ := List.mem_iff_getElem?.1 hp
        by_cases hki : k = i
        · subst hki
          rw [hr] at hk
          injection hk with hk
          subst hk
          have h2 := HMK.out k r hr
          refine .inr ⟨rfl, rfl, by omega, ?_⟩
          rw [hn] at h2
          rw [hn, List.take_of_length_le (by rw [lmarksT_len]; omega)]
          exact h2
        · refine .inl ?_
          have hpw := HPW.out
          rw [List.pairwise_iff_getElem] at hpw
          obtain ⟨hkl, rfl⟩ := List.getElem?_eq_some_iff.1 hk
          obtain ⟨hil, hie⟩ := List.getElem?_eq_some_iff.1 hr
          rcases Nat.lt_or_gt_of_ne hki with hh | hh
          · have := hpw k i hkl hil hh
            rw [hie] at this
            exact this
          · have := hpw i k hil hkl hh
            rw [hie] at this
            exact this.symm
      have hAo : ∀ o ∈ os, LApt o r.a n r.c (lmarksT i 0 n) := fun o ho => .inl (HSP.out o ho i r (Nat.le_refl _) hr)
      have hAs : ∀ k p, i < k → rs[k]? = some p → Sep p.a r.a := by
        intro k p hk hp
        have hpw := HPW.out
        rw [List.pairwise_iff_getElem] at hpw
        obtain ⟨hkl, rfl⟩ := List.getElem?_eq_some_iff.1 hp
        obtain ⟨hil, hie⟩ := List.getElem?_eq_some_iff.1 hr
        have := hpw i k hil hkl hk
        rw [hie] at this
        exact this.symm
      have HN := Lib.hid hn
      have HR := Lib.hid hr
      have HAr := Lib.hid hAr
      have HAo := Lib.hid hAo
      have HAs := Lib.hid hAs
      clear hn hr hAr hAo hAs
      go_wp2_with fail
      go_loopw [5, 6] (fun s5 s6 wv => ∃ (j k : Nat) (B : Option Addr) (d : Nat), j ≤ 12 ∧ k = n + j ∧ s6 = .int .i64 (j : Int) ∧ s5 = .slice B k d ∧ Own wv base 95 5 B k d (inlCells (lmarksT i 0 k)) ∧ LOwn wv base rs ∧ LOwn wv base os ∧ (∀ p ∈ rs, LApt p B k d (lmarksT i 0 k)) ∧ (∀ p ∈ os, LApt p B k d (lmarksT i 0 k)) ∧ (∀ k' p, i < k' → rs[k']? = some p → Sep p.a B) ∧
          Own wv w.heap.size 51 1 A i c (lrowCells os) ∧ LBkF wv base g (some ⟨q1, 0, none⟩) m c1 A2 m2 c2 rs ws ∧ Below base w wv ∧ w.heap.size ≤ wv.heap.size) (fun _ s6 _ => 12 - (intOf s6).toNat)
      case atStart => exact ⟨0, n, r.a, r.c, by omega, rfl, rfl, rfl, hrow, hTr, hTo, HAr.out, HAo.out, HAs.out, hO3, hF, hb, hzw⟩
      case round =>
        clear hO3 hTr hTo hF hb hzw hrow k0 k2
        obtain ⟨j, k, B, d, hj, hk, rfl, rfl, hC, hTr, hTo, hA1, hA2, hA3, hO3, hF, hb, hzw⟩ := hrel
        have hk1 : n ≤ k := by omega
        have hk2 : k ≤ n + 12 := by omega
        have HK := Lib.hid hk
        have HP1 := Lib.hid hA1
        have HP2 := Lib.hid hA2
        have HP3 := Lib.hid hA3
        clear hk hA1 hA2 hA3
        by_cases hjl : j < 12
        · go_wp2_with (first
            | (go_at_call 95; refine (markInls_1 i k wr (by omega) (by omega)).mono ?_; rintro e w1 ⟨M, cM, rfl, hM, b1⟩
               have hC1 := hC.below b1 (Nat.le_refl _)
               have hz1 := b1.size)
            | (at_builtin; refine wpList_appO Try.elInls rfl (.tmp 27) (.tmp 31) rfl rfl hC1 rfl hM.reads (inl_one _) (by omega) (by simp only [maxLen]; omega) (by omega) (by omega) ?_
               intro B2 d2 w2 hC2 ho2 hm2 hg2))
          have hTr1 := hTr.below b1 (Nat.le_refl _)
          have hTo1 := hTo.below b1 (Nat.le_refl _)
          have hO31 := hO3.below b1 (Nat.le_refl _)
          have hF1 := hF.below b1 (Nat.le_refl _)
          have hb1 := hb.trans (b1.mono (by omega))
          have hC2' : Own w2 base 95 5 B2 (k + 1) d2 (inlCells (lmarksT i 0 k ++ lmarksT i k 1)) := by simpa [inlCells] using hC2
          obtain ⟨t1, a1⟩ := hTr1.app HP1.out (lmarksT_len _ _ _) hC2' ho2 hg2
          obtain ⟨t2, a2⟩ := hTo1.app HP2.out (lmarksT_len _ _ _) hC2' ho2 hg2
          rw [lmarksT_app] at hC2' a1 a2
          have hO32 := hO31.only ho2 (hO31.sep_ne hC1 (by decide))
          have hF2 := hF1.app hC1 ho2
          have hb2 := hb1.trans (ho2.below (fun a ha => (hC1.lt ha).1) (by omega))
          have hz2 := ho2.size
          have a3 : ∀ k' p, i < k' → rs[k']? = some p → Sep p.a B2 := fun k' p hk' hp => hg2.sep (HP3.out k' p hk' hp) (fun b hb => ((hTr1 p (List.mem_of_getElem? hp)).lt hb).2)
          go_roundw
          case rel => exact ⟨j + 1, k + 1, B2, d2, by omega, by have := HK.out; omega, by go_num, rfl, hC2', t1, t2, a1, a2, a3, hO32, hF2, hb2, by omega⟩
          case measure => simp [intOf]; omega
        · have hj12 : j = 12 := by omega
          subst hj12
          have st0 : True := trivial
          go_wp2_with (first
            | (go_at_call 95; refine (markInls_60 i k wr (by omega) (by omega)).mono ?_; rintro e w1 ⟨M, cM, rfl, hM, b1⟩
               have hC1 := hC.below b1 (Nat.le_refl _)
               have hz1 := b1.size)
            | (at_builtin; have st1 := st0; clear st0; refine wpList_appO Try.elInls rfl (.tmp 34) (.tmp 38) rfl rfl hC1 rfl hM.reads (inl_one _) (by omega) (by simp only [maxLen]; omega) (by omega) (by omega) ?_
               intro B2 d2 w2 hC2 ho2 hm2 hg2
               have hz2 := ho2.size
               have hO32 := (hO3.below b1 (Nat.le_refl _)).only ho2 ((hO3.below b1 (Nat.le_refl _)).sep_ne hC1 (by decide)))
            | (at_builtin; have st2 := st1; clear st1; refine wpList_app1 Try.elInlss rfl (.tmp 33) (.tmp 40) rfl rfl (by exact hO32.alloc _) rfl (Blk.new' _ _ _ _ (by simp)) rfl (by simp [Value.oneCell']) (by simp only [maxLen]; omega) (by omega) (by simp; omega) ?_
               intro A4 c4 w4 hO4 ho4 hm4))
          have hTr1 := hTr.below b1 (Nat.le_refl _)
          have hTo1 := hTo.below b1 (Nat.le_refl _)
          have hF1 := hF.below b1 (Nat.le_refl _)
          have hb1 := hb.trans (b1.mono (by omega))
          have hC2' : Own w2 base 95 5 B2 (k + 60) d2 (inlCells (lmarksT i 0 k ++ lmarksT i k 60)) := by simpa [inlCells] using hC2
          obtain ⟨t1, a1⟩ := hTr1.app HP1.out (lmarksT_len _ _ _) hC2' ho2 hg2
          obtain ⟨t2, a2⟩ := hTo1.app HP2.out (lmarksT_len _ _ _) hC2' ho2 hg2
          rw [lmarksT_app] at hC2'
          have hF2 := hF1.app hC1 ho2
          have hb2 := hb1.trans (ho2.below (fun a ha => (hC1.lt ha).1) (by omega))
          have a3 : ∀ k' p, i < k' → rs[k']? = some p → Sep p.a B2 := fun k' p hk' hp => hg2.sep (HP3.out k' p hk' hp) (fun b hb => ((hTr1 p (List.mem_of_getElem? hp)).lt hb).2)
          have t1' : LOwn w4 base rs := fun p hp => ((t1 p hp).alloc _).only ho4 ((t1 p hp).sep_ne hO32 (by decide))
          have t2' : LOwn w4 base os := fun p hp => ((t2 p hp).alloc _).only ho4 ((t2 p hp).sep_ne hO32 (by decide))
          have hC4 := (hC2'.alloc (.cells #[.slice B2 (k + 60) d2] 51)).only ho4 (hC2'.sep_ne hO32 (by decide))
          have hF4 := (hF2.alloc (.cells #[.slice B2 (k + 60) d2] 51)).out ho4 (K := w.heap.size) (fun b hb => (hO32.lt hb).1) HG.out HA1.out HA2.out
          have hb4 := hb2.trans (ho4.of_alloc.below (fun a ha => Nat.le_trans hbw (hO32.lt ha).1) (by omega))
          have hz4 := ho4.size
          have hz5 : w2.heap.size ≤ w4.heap.size := by simp at hz4; omega
          go_roundw
          case rel =>
            refine ⟨i + 1, A4, c4, os ++ [⟨B2, d2, lmarksT i 0 (k + 60)⟩], by omega, by go_num, rfl, ?_, t1', ?_, ?_, ?_, ?_, hF4, hb4, by omega⟩
            · simpa [lrowCells, LRow.cell, lmarksT_len] using hO4
            · intro p hp
              rcases List.mem_append.1 hp with hp | hp
              · exact t2' p hp
              · rw [List.mem_singleton] at hp
                subst hp
                simp only [lmarksT_len]
                exact hC4
            · rw [List.length_append, HOL.out]; rfl
            · intro o ho j' p hj' hp
              rcases List.mem_append.1 ho with ho | ho
              · exact HSP.out o ho j' p (by omega) hp
              · rw [List.mem_singleton] at ho
                subst ho
                exact (a3 j' p (by omega) hp).symm
            · intro j' o ho
              by_cases hj' : j' < i
              · rw [List.getElem?_append_left (by rw [HOL.out]; exact hj')] at ho
                exact HXS.out j' o ho
              · rw [List.getElem?_append_right (by rw [HOL.out]; omega), HOL.out] at ho
                obtain ⟨e1, e2⟩ := List.getElem?_eq_some_iff.1 ho
                simp only [List.length_singleton] at e1
                have : j' = i := by omega
                subst this
                simp only [Nat.sub_self, List.getElem_singleton] at e2
                rw [← e2]
                simp only [lmarksT_len]
                exact ⟨trivial, by omega⟩
          case measure => simp [intOf]; omega
    · have him : i = m := by omega
      subst him
      go_wp2_with fail
      go_ret
      exact ⟨A, c, os, rfl, hO3, hTo, hTr, ⟨HBG.out, A1, c1, A2, c2, by rw [HM.out, HM2.out]; exact hF.1, by rw [HM.out]; exact hF.2.1, by rw [HM2.out]; exact hF.2.2, HS12.out⟩, HOL.out, HXS.out, hb, hzw⟩
end Go.Proofs.Ytfdfpimilmhhoaa
