/-
  bowdlerref14.Depths: its contract.
-/
import Derived.Test.YtfdfpimilmhhoaaDepths
import Derived.Test.YtfdfpimilmhhoaaStepApp
import Derived.Deep.Cut
import Derived.Deep.RegionHeld3
import Derived.Deep.RegionLaw
namespace Go.Proofs.Ytfdfpimilmhhoaa
open Go.RowKit
set_option linter.unusedVariables false

/-- an append inside a region that draws -/
theorem step_appN {P : Program} {w : World} {ops : Array Oper} {E' : Prop} {o : Oper} {a : Act} {K : Act → World → Prop} {Q : Exit → Act → World → Prop} {t e size bytes : Nat} (E : Elem P t e size bytes) (hgd : o.guard = none) (s x : Operand)
    (ho : o.op = .call { callee := .builtin .append, args := #[s, x], argTypes := #[t, t] })
    {base : Nat} {A : Option Addr} {n c : Nat} {xs : List Value} (hs : a.eval s = .slice A n c) (hown : Own w base e size A n c xs)
    {L0 : Nat} {B : Option Addr} {m d : Nat} {news : List Value} (hx : a.eval x = .slice B m d) (hr : Reads w L0 size B m news) (h1 : ∀ u ∈ news, u.oneCell' = true)
    (h63 : n + m ≤ maxLen) (hbytes : (n + m) * bytes ≤ 140737488355328) (hbase : base ≤ w.heap.size)
    (h : ∀ A' c' w', Own w' base e size A' (n + m) c' (xs ++ news) → Only w w' A → Moved w A A' → K (a.put o.dst (.slice A' (n + m) c')) w') :
    if Region.wanted o (yielded ops a.tmps) = true then Oper.wp P o a w K Q else E' := by
  have hw : Region.wanted o (yielded ops a.tmps) = true := by simp [Region.wanted, hgd]
  rw [if_pos hw]
  obtain ⟨i, z, hi, hz, hsize, hby, hzs⟩ := E.info
  refine wp_append_any w s x t ho base e i z size bytes E.und hi hz hsize hby hzs E.pos _ n xs hs hown L0 B m d news hx hr h1 h63 hbytes hbase (fun v' w' h2 h3 h4 => ?_)
  obtain ⟨A', c', rfl⟩ := slice_of_own h2
  rw [ownBlock_slice] at h3 h4
  rw [ownBlock_slice] at h4
  exact h A' c' w' h2 h3 h4
theorem only_drewN {w w' : World} {A : Option Addr} {n : Nat} (h : Only (w.drewN n) w' A) : Only w w' A := ⟨h.1, h.2, h.3, h.4, h.5⟩
theorem ints_one (l : List Int) : ∀ u ∈ ints l, u.oneCell' = true := by
  intro u hu
  obtain ⟨x, _, rfl⟩ := List.mem_map.1 hu
  rfl

set_option maxHeartbeats 4000000 in
set_option maxRecDepth 100000 in
theorem refDepths_any (A : Option Addr) (n c : Nat) (zs : List Int) (w : World) (hr : Reads w w.heap.size 1 A n (ints zs)) (hreach : n ≤ 1048576) :
    Calls Try.prog 12 #[.slice A n c] w fun e w' => ∃ A' c', e = .returned (.slice A' n c') ∧ Own w' w.heap.size 3 1 A' n c' (nats (dpDepths [] zs)) ∧ Below w.heap.size w w' := by
  have hlen : zs.length = n := by have := hr.1; simpa using this
  have HL := Lib.hid hlen
  clear hlen
  go_enter Try.func12, Try.ntmps12
  go_wp2_with fail
  go_loopw [3, 4, 5] (fun out st i wr => ∃ (k m : Nat) (A1 A2 : Option Addr) (c1 c2 : Nat) (stk : List Int), k ≤ n ∧ m ≤ k ∧ i = .int .i64 (k : Int) ∧ out = .slice A1 k c1 ∧ st = .slice A2 m c2 ∧ Hid (dpStack [] (zs.take k) = stk) ∧ Hid (stk.length = m) ∧
      Own wr w.heap.size 3 1 A1 k c1 (nats (dpDepths [] (zs.take k))) ∧
      Own wr w.heap.size 3 1 A2 m c2 (ints stk.reverse) ∧ Sep A1 A2 ∧ Below w.heap.size w wr)
    (fun _ _ i _ => n - (intOf i).toNat)
  case atStart => exact ⟨0, 0, none, none, 0, 0, [], Nat.zero_le _, Nat.le_refl _, rfl, rfl, rfl, Lib.hid rfl, Lib.hid rfl, Own.nil _ _ _ _, Own.nil _ _ _ _, Sep.none_l, Below.refl _ _⟩
  case round =>
    obtain ⟨k, m, A1, A2, c1, c2, stk, hk, hmk, rfl, rfl, rfl, HSTK, HSL, hown, hst, hne, hb⟩ := hrel
    by_cases hlt : k < n
    · obtain ⟨ad, u, rfl, hadl, hx, hc⟩ := (hr.below hb).at_ hlt
      obtain ⟨x, hx', rfl⟩ : ∃ x, zs[k]? = some x ∧ Value.int .i64 x = u := by simpa using hx
      have HN := Lib.hid (dp_next hx' HSTK.out)
      have HOWN := Lib.hid hown
      have HNE := Lib.hid hne
      clear hx' hx hown hne
      go_wp2_with fail
      go_loopw [4] (fun s wv => ∃ (p : Nat) (st' : List Int), s = .slice A2 p c2 ∧ p ≤ m ∧ Hid (st'.length = p) ∧ Own wv w.heap.size 3 1 A2 p c2 (ints st'.reverse) ∧ Hid (popTo x st' = popTo x stk) ∧ Hid (Below wr.heap.size wr wv))
        (fun s _ => match s with | .slice _ n _ => n | _ => 0)
      case atStart => exact ⟨m, stk, rfl, Nat.le_refl _, HSL, hst, Lib.hid rfl, Lib.hid (Below.refl _ _)⟩
      case round =>
        obtain ⟨p, st', rfl, hpm, HPL, hst', HPOP, HW⟩ := hrel
        have hb' : Below w.heap.size w wr := hb.trans (HW.out.mono hb.size)
        have hc' : wr.cell? (ad.add k) = some (.int .i64 x) := (HW.out.cell (p := ad.add k) (by rw [block_of_add]; have := hb.size; omega)).trans hc
        have hown : Own wr w.heap.size 3 1 A1 k c1 (nats (dpDepths [] (zs.take k))) := HOWN.out.below HW.out (Nat.le_refl _)
        have hne := HNE.out
        have hbs := hb'.size
        by_cases hex : popTo x st' = st'
        · have HE : Hid (st' = popTo x stk) := Lib.hid (by rw [← HPOP.out, hex])
          rcases st' with _ | ⟨y, t⟩
          case' nil =>
            have hp0 : p = 0 := by have := HPL.out; simpa using this.symm
            subst hp0
          case' cons =>
            obtain ⟨p1, hp1⟩ : ∃ p1, p = p1 + 1 := ⟨t.length, by have := HPL.out; simpa using this.symm⟩
            subst hp1
            have htl : t.length = p1 := by have := HPL.out; simpa using this
            obtain ⟨g, hv, _, _⟩ := hst'.some_ (by omega)
            subst hv
            have hy : wr.cell? ⟨g, p1, none⟩ = some (.int .i64 y) := hst'.cell (by rw [← htl]; simp)
            have hxy : ¬ x ≤ y := fun h => by rw [popTo_cons_le h] at hex; have := popTo_length x t; rw [hex] at this; simp at this; omega
            have hd : decide (x ≤ y) = false := decide_eq_false hxy
            have hp3 : (0 : Int) < (p1 : Int) + 1 := by omega
            clear htl hxy
          all_goals
            clear hex
            have HST := Lib.hid hst'
            go_upto_region 5 with fail
            go_quiet (fail)
            go_upto_region 8 with (at_builtin; refine wpList_app1 Try.elInts rfl (.tmp 33) (.tmp 36) rfl rfl (by exact (hown.drewN _).alloc _) rfl (Blk.new' _ _ _ _ (by simp)) rfl (by simp [Value.oneCell']) (by simp only [maxLen]; omega) (by omega) (by simp; omega) ?_
                                   intro A1' c1' w1 hown1 ho1 hm1
                                   have ho1' : Only wr w1 A1 := only_drewN ho1.of_alloc)
            have hst1 := HST.out.only ho1' hne.symm
            have b1 : Below w.heap.size w w1 := hb'.trans (ho1'.below (fun a ha => (hown.lt ha).1) hbs)
            have z1 := b1.size
            have x1 : w1.cell? (ad.add k) = some (.int .i64 x) := (b1.cell (p := ad.add k) (by rw [block_of_add]; exact hadl)).trans (by rw [← hc']; exact ((hb'.cell (p := ad.add k) (by rw [block_of_add]; exact hadl))).symm)
            have x2 : (w1.alloc (.cells #[.int .i64 x] 3)).cell? (ad.add k) = some (.int .i64 x) := (World.cell?_alloc_lt w1 _ _ (by rw [block_of_add]; omega)).trans x1
            go_region_law (first
                | (refine step_appN Try.elInts (by rfl) (.const (.slice none 0 0)) (.tmp 38) (by rfl) (by rfl) (Own.nil _ w1.heap.size _ _) (by rfl) (by first | exact hst1.reads.drew | exact hst1.reads | exact (hst1.alloc _).reads.drew | exact (hst1.alloc _).reads) (ints_one _) (by simp only [maxLen]; omega) (by omega) (by first | exact Nat.le_refl _ | (simp; done) | (simp; omega)) ?_
                   intro A6 c6 w6 hown6 ho6 hm6
                   rw [Nat.zero_add, List.nil_append] at hown6
                   have ho6' : Only w1 w6 none := by first | exact only_drewN (n := 1) ho6 | exact (only_drewN (n := 1) ho6).of_alloc | exact only_drewN (n := 1) ho6.of_alloc | exact ho6.of_alloc | exact ho6
                   have b6 : Below w1.heap.size w1 w6 := ho6'.below (fun a ha => by cases ha) (Nat.le_refl _)
                   have hs6 : w1.heap.size ≤ w6.heap.size := ho6'.size
                   have hs61 : w.heap.size ≤ w6.heap.size := Nat.le_trans z1 hs6
                   have x6 : w6.cell? (ad.add k) = some (.int .i64 x) := (b6.cell (p := ad.add k) (by rw [block_of_add]; omega)).trans x1)
                | (refine step_app1 Try.elInts (by rfl) (.tmp 39) (.tmp 44) (by rfl) (by rfl) (by first | exact hown6 | exact hown6.drew | exact (hown6.alloc _).drew | exact hown6.alloc _) (by rfl) (by first | exact Blk.new' _ _ _ _ (by simp) | exact (Blk.new' _ _ _ _ (by simp)).drew | exact (Blk.new w1 3 #[.int .i64 x]).drew.only ho6 (fun a ha => by cases ha)) (by rfl) (by simp [Value.oneCell']) (by simp only [maxLen]; omega) (by omega) (by first | omega | (simp; omega)) ?_
                   intro A7 c7 w7 hown7 ho7 hm7
                   have ho7' : Only w6 w7 A6 := by first | exact ho7.of_alloc | exact only_drewN (n := 1) ho7 | exact (only_drewN (n := 1) ho7).of_alloc | exact ho7
                   have b7 : Below w.heap.size w6 w7 := ho7'.below (fun a ha => Nat.le_trans z1 (hown6.lt ha).1) hs61
                   have x7 : w7.cell? (ad.add k) = some (.int .i64 x) := (b7.cell (p := ad.add k) (by rw [block_of_add]; exact hadl)).trans x6))
            all_goals
              have hsep : ∀ C : Option Addr, (∀ a, C = some a → w1.heap.size ≤ a.block) → Sep A1' C := fun C hC a b ha hb => by have := (hown1.lt ha).2; have := hC b hb; omega
              have o7 := (hown1.only ho6' Sep.none_r).only ho7' (hsep A6 fun a ha => (hown6.lt ha).1)
              have bb7 : Below w.heap.size w w7 := b1.trans ((b6.mono z1).trans b7)
              have O7 := Lib.hid hown7
              have hsp7 : Sep A1' A7 := hsep A7 fun a ha => (hown7.lt ha).1
              go_wp2_with fail
              go_roundw
              case rel =>
                refine ⟨k + 1, _, A1', A7, c1', c7, x :: popTo x stk, by omega, ?_, by go_num, rfl, rfl, Lib.hid HN.out.2, Lib.hid ?_, ?_, ?_, hsp7, bb7⟩
                · omega
                · rw [← HE.out]; have := HPL.out; simp at this ⊢; try omega
                · rw [HN.out.1, ← HE.out]; have := HPL.out; simp at this; simpa [this] using o7
                · rw [← HE.out]; simpa using O7.out.base_le z1
              case measure => simp [intOf]; omega
        · rcases st' with _ | ⟨y, t⟩
          · exact absurd rfl hex
          · obtain ⟨p1, hp1⟩ : ∃ p1, p = p1 + 1 := ⟨t.length, by have := HPL.out; simpa using this.symm⟩
            subst hp1
            have htl : t.length = p1 := by have := HPL.out; simpa using this
            obtain ⟨g, hv, _, _⟩ := hst'.some_ (by omega)
            subst hv
            have hy : wr.cell? ⟨g, p1, none⟩ = some (.int .i64 y) := hst'.cell (by rw [← htl]; simp)
            have hxy : x ≤ y := by
              by_cases h : x ≤ y
              · exact h
              · exact absurd (popTo_cons_lt h) hex
            have hd : decide (x ≤ y) = true := decide_eq_true hxy
            have hp3 : (0 : Int) < (p1 : Int) + 1 := by omega
            have hcap : p1 + 1 ≤ c2 := by simpa using hst'.cap
            have hst2 := hst'.take (m := p1) (by omega)
            have HS2 : Hid (Own wr w.heap.size 3 1 (some ⟨g, 0, none⟩) p1 c2 (ints t.reverse)) := Lib.hid (by
              have e : (ints (y :: t).reverse).take (p1 * 1) = ints t.reverse := by
                rw [Nat.mul_one, List.reverse_cons, ← htl]
                simp [ints]
              rw [e] at hst2
              exact hst2)
            have HT := Lib.hid htl
            have HP2 : Hid (popTo x t = popTo x stk) := Lib.hid (by rw [← HPOP.out, popTo_cons_le hxy])
            clear hex htl hxy hst2 hst' hown
            go_upto_region 5 with fail
            go_quiet (fail)
            go_wp2_with fail
            go_roundw
            case rel => exact ⟨p1, t, rfl, by omega, HT, HS2.out.drewN _, HP2, Lib.hid (below_drewN' HW.out _)⟩
            case measure => simp
    · go_wp2_with fail
      go_ret
      have : k = n := by omega
      subst this
      have hz : zs.take k = zs := by rw [List.take_of_length_le (by rw [HL.out]; omega)]
      rw [hz] at hown
      exact ⟨A1, c1, rfl, hown, hb⟩
end Go.Proofs.Ytfdfpimilmhhoaa
