/- Joined texts: RefOpens, RefParts, RefWrite. -/
import Derived.Test.YtgdnphmannbpgaaGreatDoorGL
import Derived.Test.YtgdnphmannbpgaaGreatDoorGP
import Derived.Test.YtgdnphmannbpgaaGreatDoorGH
import Derived.Test.YtgdnphmannbpgaaGreatDoorGG
import Derived.Test.YtgdnphmannbpgaaGreatDoorGB
import Derived.Deep.RegionLaw
import Derived.Deep.DeepCutAuto
import Derived.Test.YtgdnphmannbpgaaGreatDoorGI
import Derived.Deep.CutBlock
/-
  bowdlerref1.DivOpens.
-/
namespace Go.Proofs.YtgdnphmannbpgaaGreatDoor
open Go.RowKit
set_option linter.unusedVariables false

theorem opens_intro {l lb : List UInt8} (h : Lib.trimRightB l 32 = [58, 58, 58, 123] ++ lb ++ [125]) (hl : labelT lb = true) : opensT l = (lb, true) := by
  unfold opensT
  rw [h]
  have h1 : Lib.hasPrefix ([58, 58, 58, 123] ++ lb ++ [125]) openL = true := by
    unfold Lib.hasPrefix
    exact List.isPrefixOf_iff_prefix.2 ⟨lb ++ [125], by simp [openL]⟩
  have h2 : ([58, 58, 58, 123] ++ lb ++ [125] : List UInt8).drop 4 = lb ++ [125] := rfl
  rw [if_pos h1, h2, (suffix_yes _ _).1, (suffix_yes _ _).2, hl]; rfl
theorem label_one {l : List UInt8} (h : labelT l = true) : 1 ≤ l.length := by
  cases l with
  | nil => exact absurd h (by decide)
  | cons => simp
theorem opens_short {l : List UInt8} (h : (Lib.trimRightB l 32).length < 6) : (opensT l).2 = false := by
  cases ho : (opensT l).2 with
  | false => rfl
  | true =>
    obtain ⟨h1, h2⟩ := opens_true ho
    have := label_one h2
    rw [h1] at h
    simp at h
    omega
theorem opens_pre {l : List UInt8} (h : (Lib.trimRightB l 32).take 4 ≠ [58, 58, 58, 123]) : (opensT l).2 = false := by
  cases ho : (opensT l).2 with
  | false => rfl
  | true =>
    obtain ⟨h1, h2⟩ := opens_true ho
    rw [h1] at h
    exact absurd rfl h
theorem opens_last {l x : List UInt8} {c : UInt8} (h : Lib.trimRightB l 32 = x ++ [c]) (hc : c ≠ 125) : (opensT l).2 = false := by
  cases ho : (opensT l).2 with
  | false => rfl
  | true =>
    obtain ⟨h1, h2⟩ := opens_true ho
    rw [h1] at h
    have := List.append_inj_right' h rfl
    exact absurd (by simpa using this.symm) hc
theorem opens_lab {l lb : List UInt8} (h : Lib.trimRightB l 32 = [58, 58, 58, 123] ++ lb ++ [125]) (hl : labelT lb = false) : (opensT l).2 = false := by
  cases ho : (opensT l).2 with
  | false => rfl
  | true =>
    obtain ⟨h1, h2⟩ := opens_true ho
    rw [h1] at h
    have h3 := List.append_inj_left' h rfl
    have h4 := List.append_inj_right h3 rfl
    rw [h4, hl] at h2
    cases h2
/-- what DivOpens answers -/
def divO (l : List UInt8) : ByteArray × Bool := if (opensT l).2 then (S (opensT l).1, true) else (⟨#[]⟩, false)

set_option maxHeartbeats 4000000 in
set_option maxRecDepth 100000 in
theorem refOpens_any (s : ByteArray) (w : World) (hs : s.size ≤ 1099511627776) :
    Calls Tryz.prog 77 #[.string s] w fun e w' => e = .returned (.tuple #[.string (divO (L s)).1, .bool (divO (L s)).2]) ∧ w' = w := by
  have HC := Lib.hid (refRest_any s w hs)
  obtain ⟨t, ht⟩ : ∃ t, S (Lib.trimRightB (L s) 32) = t := ⟨_, rfl⟩
  have htL : Lib.trimRightB (L s) 32 = L t := by rw [← ht, L_S]
  have hts : t.size ≤ 1099511627776 := by
    have := trimR_le (L s)
    rw [htL, length_L, length_L] at this
    omega
  rw [ht] at HC
  have HT := Lib.hid htL
  clear ht htL
  by_cases h6 : t.size < 6
  · have HR : Hid (divO (L s) = (⟨#[]⟩, false)) := Lib.hid (by unfold divO; rw [opens_short (by rw [HT.out, length_L]; exact h6)]; rfl)
    go_enter Tryz.func77, Tryz.ntmps77
    go_wp2_with (go_at_call 74; refine HC.out.mono ?_; rintro e w1 ⟨rfl, hw⟩; subst w1)
    go_ret2
    rw [HR.out]
    exact ⟨rfl, rfl⟩
  by_cases h4 : t.extract 0 4 = ⟨#[58, 58, 58, 123]⟩
  case neg =>
    have HR : Hid (divO (L s) = (⟨#[]⟩, false)) := Lib.hid (by
      unfold divO
      rw [opens_pre (fun e => h4 (L_inj (by rw [L_extract, List.drop_zero, ← HT.out, e]; rfl)))]; rfl)
    obtain ⟨t1, t2, t3⟩ := bytes_ne h4
    have hlit : (⟨#[58, 58, 58, 123]⟩ : ByteArray).toList = [58, 58, 58, 123] := by decide +kernel
    rw [hlit] at t2 t3
    clear h4 hlit
    go_enter Tryz.func77, Tryz.ntmps77
    go_wp2_with (go_at_call 74; refine HC.out.mono ?_; rintro e w1 ⟨rfl, hw⟩; subst w1)
    go_ret2
    rw [HR.out]
    exact ⟨rfl, rfl⟩
  obtain ⟨m, hm⟩ : ∃ m, t.size - 1 = m := ⟨_, rfl⟩
  have x8 : m < t.size := by omega
  have hmi : (t.size : Int) - 1 = (m : Int) := by omega
  have x7 : IntKind.i64.wrap ((t.size : Int) - 1) = (m : Int) := (IntWalk.i64_in _ (by omega)).trans (by omega)
  have y1 : m ≤ t.size := by omega
  have y2 : (4 : Nat) ≤ m := by omega
  have y3 : (4 : Int) ≤ (m : Int) := by omega
  have y4 : (m : Int) ≤ (t.size : Int) := by omega
  have hL : L t = (L t).take (m) ++ [t[m]'x8] := last_split (by rw [length_L]; omega) (by rw [List.getElem?_eq_getElem (by rw [length_L]; exact x8)]; rfl)
  have HLs := Lib.hid hL
  clear hL hm
  have hpre : (L t).take 4 = [58, 58, 58, 123] := by
    have := congrArg L h4
    rw [L_extract, List.drop_zero] at this
    exact this
  have HPre := Lib.hid hpre
  clear hpre
  have t1 : (t.extract 0 4 == ⟨#[58, 58, 58, 123]⟩) = true := by rw [h4]; exact (bytes_same _ _).2 rfl
  have t2 : ((t.extract 0 4).toList == [58, 58, 58, 123]) = true := by rw [h4]; decide +kernel
  have t3 : (t.extract 0 4).toList = [58, 58, 58, 123] := by simpa using t2
  clear h4
  by_cases hb : t[m]'x8 = 125
  case neg =>
    have HR : Hid (divO (L s) = (⟨#[]⟩, false)) := Lib.hid (by unfold divO; rw [opens_last (by rw [HT.out]; exact HLs.out) hb]; rfl)
    have q1 : (((t[m]'x8).toNat : Int) == 125) = false := byte_ne (n := 125) (by decide) hb
    have q2 : (((t[m]'x8).toNat : Int) != 125) = true := byte_bne (n := 125) (by decide) hb
    clear hb
    go_enter Tryz.func77, Tryz.ntmps77
    go_wp2_with (go_at_call 74; refine HC.out.mono ?_; rintro e w1 ⟨rfl, hw⟩; subst w1)
    go_ret2
    rw [HR.out]
    exact ⟨rfl, rfl⟩
  have q1 : (((t[m]'x8).toNat : Int) == 125) = true := by rw [hb]; rfl
  have q2 : (((t[m]'x8).toNat : Int) != 125) = false := by rw [hb]; rfl
  obtain ⟨lb, hlb⟩ : ∃ lb, t.extract 4 (m) = lb := ⟨_, rfl⟩
  have HLB : Hid (L t = [58, 58, 58, 123] ++ L lb ++ [125]) := Lib.hid (by
    rw [← hlb, L_extract]
    conv => lhs; rw [HLs.out, hb, ← List.take_append_drop 4 ((L t).take (m)), List.take_take, Nat.min_eq_left (by omega), HPre.out])
  have hlbs : lb.size ≤ 1099511627776 := by rw [← hlb]; simp; omega
  have hsl : ∀ W : World, (Instr.slice 9 (.string t) (some (.int .i64 4)) (some (.int .i64 (m : Int))) none).run Tryz.prog W = .ok (.string lb) W := fun W => by
    rw [run_slice_string W 9 t .i64 .i64 4 (m : Int) Tryz.underlying9 (by omega) (by omega) (by omega)]
    rw [← hlb]; rfl
  have HCL := Lib.hid (refLabel_any lb w hlbs)
  clear hb
  cases hl : labelT (L lb) with
  | false =>
    have HR : Hid (divO (L s) = (⟨#[]⟩, false)) := Lib.hid (by unfold divO; rw [opens_lab (by rw [HT.out]; exact HLB.out) hl]; rfl)
    go_enter Tryz.func77, Tryz.ntmps77
    go_wp2_with (first
      | (go_at_call 74; refine HC.out.mono ?_; rintro e w1 ⟨rfl, hw⟩; subst w1)
      | (go_at_call 75; refine HCL.out.mono ?_; rintro e w1 ⟨rfl, hw⟩; subst w1; rw [hl]))
    go_ret2
    rw [HR.out]
    exact ⟨rfl, rfl⟩
  | true =>
    have HR : Hid (divO (L s) = (lb, true)) := Lib.hid (by unfold divO; rw [opens_intro (by rw [HT.out]; exact HLB.out) hl]; simp only [if_true, S_L])
    go_enter Tryz.func77, Tryz.ntmps77
    go_wp2_with (first
      | (go_at_call 74; refine HC.out.mono ?_; rintro e w1 ⟨rfl, hw⟩; subst w1)
      | (go_at_call 75; refine HCL.out.mono ?_; rintro e w1 ⟨rfl, hw⟩; subst w1; rw [hl]))
    go_ret2
    rw [HR.out]
    exact ⟨rfl, rfl⟩
end Go.Proofs.YtgdnphmannbpgaaGreatDoor
/-
  bowdlerref1.Parts.
-/
namespace Go.Proofs.YtgdnphmannbpgaaGreatDoor
open Go.RowKit
set_option linter.unusedVariables false

theorem in_one (l : List Nat) : ∀ u ∈ inCells l, u.oneCell' = true := by
  intro u hu
  obtain ⟨i, _, rfl⟩ := List.mem_map.1 hu
  rfl
set_option maxHeartbeats 4000000 in
set_option maxRecDepth 100000 in
theorem refParts_any (A : Option Addr) (n cap K : Nat) (ls : List ByteArray) (w : World) (hr : Reads w K 1 A n (txCells ls)) (hK : K ≤ w.heap.size) (hn : n ≤ 1048576) (hsz : ∀ x ∈ ls, x.size ≤ 1099511627776) :
    Calls Tryz.prog 46 #[.slice A n cap] w fun e w' => ∃ A' m c' ps, e = .returned (.slice A' m c') ∧ Parts w' w.heap.size A' m c' ps ∧ ps.map (·.t) = (frT ls).out ∧ Below w.heap.size w w' := by
  have hlen : ls.length = n := by have := hr.1; simpa using this
  have HL := Lib.hid hlen
  have HSZ := Lib.hid hsz
  clear hlen hsz
  go_enter Tryz.func46, Tryz.ntmps46
  go_wp2_with fail
  go_loopw [3, 4, 5] (fun s3 s4 s5 wr => ∃ (k : Nat) (A1 A2 : Option Addr) (n1 c1 n2 c2 : Nat) (ps : List PartR), k ≤ n ∧ s5 = .int .i64 k ∧ s3 = .slice A1 n1 c1 ∧ s4 = .slice A2 n2 c2 ∧
    Parts wr w.heap.size A1 n1 c1 ps ∧ ps.map (·.t) = (frT (ls.take k)).out ∧ Own wr w.heap.size 3 1 A2 n2 c2 (inCells (frT (ls.take k)).ins) ∧ Below w.heap.size w wr) (fun _ _ s5 _ => n - (intOf s5).toNat)
  case atStart => exact ⟨0, none, none, 0, 0, 0, 0, [], Nat.zero_le _, rfl, rfl, rfl, Parts.nil _ _, rfl, Own.nil _ _ _ _, Below.refl _ _⟩
  case round =>
    obtain ⟨k, A1, A2, n1, c1, n2, c2, ps, hk, rfl, rfl, rfl, hP, hout, hin, hb⟩ := hrel
    have hbs := hb.size
    have hn1 := hP.len
    have hok := frT_ok ls k (by rw [HL.out]; exact hk)
    have hdep := depOk_frT (ls.take k)
    by_cases hlt : k < n
    · obtain ⟨ad, u, rfl, hau, hx0, hc⟩ := (hr.keep (w' := wr) fun p hp => hb.cell (by omega)).at_ hlt
      obtain ⟨x, hx, rfl⟩ : ∃ x, ls[k]? = some x ∧ Value.string x = u := by simpa using hx0
      have hxs := HSZ.out x (List.mem_of_getElem? hx)
      have hst := frT_take ls hx
      have hrun : ∀ p, (frT (ls.take k)).out.getLast? = some p → ((frT (ls.take k)).run = true → p.div = false ∧ p.depth = (frT (ls.take k)).ins.length) ∧ ((frT (ls.take k)).run = false → p.div = false → ((frT (ls.take k)).ins.length : Int) < p.depth) := fun p hp => (hdep.last p hp).2
      clear hx hx0 hdep
      generalize frT (ls.take k) = st at *
      have HST := Lib.hid hst
      clear hst
      obtain ⟨out, ins, run⟩ := st
      obtain ⟨o1, o2, o3, o4, o5⟩ := hok
      simp only at o1 o2 o3 o4 o5 hout hin hrun
      have hn2 : ins.length = n2 := by have := hin.len; simp [inCells] at this; omega
      have hon : out.length = n1 := by rw [← hout, List.length_map, hn1]
      have HO := Lib.hid (fun w => refOpens_any x w hxs)
      have HS := Lib.hid (fun w => refRest_any x w hxs)
      have hnk : n1 ≤ k := by omega
      have hnk2 : n2 ≤ k := by omega
      cases hop : (opensT (L x)).2 with
      | true =>
        have HST2 : Hid (frT (ls.take (k + 1)) = ⟨out ++ [⟨(ins.length : Int), true, S (opensT (L x)).1, true, []⟩], ins ++ [out.length], false⟩) := Lib.hid (by rw [HST.out]; unfold frStep; rw [hop]; rfl)
        have hdv : divO (L x) = (S (opensT (L x)).1, true) := by unfold divO; rw [hop]; rfl
        rw [hdv] at HO
        generalize S (opensT (L x)).1 = lb at *
        clear HST HS hop hdv hrun o1 o2 o3 o4 o5
        go_wp2_with (first
          | (go_at_call 77; refine (HO.out _).mono ?_; rintro e w1 ⟨rfl, hw⟩; subst w1)
          | (at_builtin; refine wpList_app1 Tryz.elParts rfl (.tmp 27) (.tmp 31) rfl rfl (by exact hP.1.alloc _) rfl (Blk.new' _ _ _ _ (by simp)) rfl (by simp [Value.oneCell']) (by simp only [maxLen]; omega) (by omega) (by simp; omega) ?_
             intro A1' c1' w2 hr2 ho2 hm2
             have hin2 := (hin.alloc (.cells #[.int .i64 (n2 : Int), .bool true, .string lb, .bool true, .slice none 0 0] 67)).only ho2 (hin.sep_ne hP.1 (by decide))
             have hb2 := hb.trans (ho2.of_alloc.below (fun a ha => (hP.1.lt ha).1) hbs)
             have hz2 := hb2.size)
          | (at_builtin; refine wpList_app Tryz.elInts rfl (.const (.slice none 0 0)) (.tmp 33) rfl rfl (Own.nil _ w.heap.size _ _) rfl hin2.reads (in_one _) (by simp only [maxLen]; omega) (by omega) (by omega) ?_
             intro A5 c5 w5 hin5 ho5 hm5
             rw [Nat.zero_add, List.nil_append] at hin5
             have b5 := ho5.below (K := w.heap.size) (fun a ha => by cases ha) (by omega)
             have hz5 := b5.size)
          | (at_builtin; refine wpList_app1 Tryz.elInts rfl (.tmp 34) (.tmp 38) rfl rfl (by exact hin5.alloc _) rfl (Blk.new' _ _ _ _ (by simp)) rfl (by simp [Value.oneCell']) (by simp only [maxLen]; omega) (by omega) (by simp; omega) ?_
             intro A2' c2' w3 hr3 ho3 hm3))
        have hP2 : Parts w2 w.heap.size A1' (n1 + 1) c1' (ps ++ [⟨⟨(n2 : Int), true, lb, true, []⟩, none, 0⟩]) :=
          Parts.push (q := ⟨⟨(n2 : Int), true, lb, true, []⟩, none, 0⟩) (hP.alloc _) (Own.nil _ _ _ _) (fun _ _ => Sep.none_r) ho2 hr2
        have hP5 := hP2.only (Own.nil w2 w.heap.size 3 1) ho5 (by decide) (by decide)
        have hP3 := (hP5.alloc (.cells #[.int .i64 (n1 : Int)] 3)).only (hin5.alloc _) ho3 (by decide) (by decide)
        go_roundw
        case rel =>
          refine ⟨k + 1, A1', A2', n1 + 1, c1', n2 + 1, c2', _, by omega, by go_num, rfl, rfl, hP3, ?_, ?_, (hb2.trans b5).trans (ho3.of_alloc.below (fun a ha => (hin5.lt ha).1) (by omega))⟩
          · rw [HST2.out, List.map_append, hout, hn2]; rfl
          · rw [HST2.out]
            simpa [inCells, hon] using hr3
        case measure => simp [intOf]; omega
      | false =>
        have hdv : divO (L x) = (⟨#[]⟩, false) := by unfold divO; rw [hop]; rfl
        rw [hdv] at HO
        clear hdv
        by_cases hsh : shutsT (L x) = true ∧ 0 < ins.length
        · obtain ⟨hsh, hpos⟩ := hsh
          obtain ⟨ins', i, rfl⟩ : ∃ ini last, ins = ini ++ [last] := ⟨ins.dropLast, ins.getLast (List.ne_nil_of_length_pos hpos), (List.dropLast_concat_getLast _).symm⟩
          have hi : i < out.length := o1 i (by simp)
          obtain ⟨m, hm⟩ : ∃ m, ins'.length = m := ⟨_, rfl⟩
          have hnm : n2 = m + 1 := by rw [← hn2, ← hm]; simp
          subst hnm
          obtain ⟨p, hp⟩ : ∃ p, ps[i]? = some p := ⟨_, List.getElem?_eq_getElem (by omega)⟩
          obtain ⟨g1, rfl, hg1, _⟩ := hP.1.some_ (by omega)
          obtain ⟨g2, rfl, hg2, _⟩ := hin.some_ (by omega)
          have HST2 : Hid (frT (ls.take (k + 1)) = ⟨shutAt out i, ins', false⟩) := Lib.hid (by rw [HST.out]; unfold frStep; rw [hop, hsh]; simp)
          have hpt : out[i]? = some p.t := by rw [← hout, List.getElem?_map, hp]; rfl
          have HSA : Hid (shutAt out i = (ps.set i { p with t := { p.t with opn := false } }).map (·.t)) := Lib.hid (by unfold shutAt; rw [hpt, ← hout, List.map_set])
          have hii : i < n1 := by omega
          have htr : S (Lib.trimRightB (L x) 32) = ⟨#[58, 58, 58]⟩ := by
            have := of_decide_eq_true hsh
            rw [this]; rfl
          rw [htr] at HS
          have c2i : wr.cell? ⟨g2, m, none⟩ = some (.int .i64 (i : Int)) := hin.cell (by simp [inCells, hm])
          obtain ⟨_, _, _, p3, _⟩ := hP.cells_at hp
          have f3 := hP.1.frozen (i * 5 + 3)
          have q1 : (0 : Int) ≤ (i : Int) := by omega
          have q2 : (i : Int) < (n1 : Int) := by omega
          have q3 : ((i : Int)).toNat = i := by omega
          have hmk : m + 1 ≤ k := by omega
          have hcap : m + 1 ≤ c2 := hin.cap
          have hmc : m ≤ c2 := by omega
          have hmc2 : (m : Int) ≤ (c2 : Int) := by omega
          have hc20 : ¬ c2 = 0 := by omega
          have HN2 := Lib.hid hn2
          have HM := Lib.hid hm
          have HP5 := Lib.hid hp
          clear hp HST hop hsh hm hon hn2 o1 o2 o3 o4 o5 hi hpt htr hrun
          go_wp2_with (first
            | (go_at_call 77; refine (HO.out _).mono ?_; rintro e w1 ⟨rfl, hw⟩; subst w1)
            | (go_at_call 74; refine (HS.out _).mono ?_; rintro e w1 ⟨rfl, hw⟩; subst w1))
          have hst := hP.shut HP5.out false
          have hs4 := (hin.only (only_setCell wr g1 (i * 5 + 3) (.bool false)) (hin.sep_ne hP.1 (by decide))).take (m := m) (by omega)
          go_roundw
          case rel =>
            refine ⟨k + 1, some ⟨g1, 0, none⟩, some ⟨g2, 0, none⟩, n1, c1, m, c2, _, by omega, by go_num, rfl, by rfl, hst, ?_, ?_, hb.setCell (p := ⟨g1, i * 5 + 3, none⟩) hg1 _⟩
            · rw [HST2.out]; exact HSA.out.symm
            · rw [HST2.out]
              have e5 : (inCells (ins' ++ [i])).take (m * 1) = inCells ins' := by simp [inCells, ← HM.out]
              rwa [e5] at hs4
          case measure => simp [intOf]; omega
        · have hcc : shutsT (L x) = false ∨ (shutsT (L x) = true ∧ n2 = 0) := by
            cases h : shutsT (L x)
            · exact .inl rfl
            · exact .inr ⟨rfl, by have : ¬ 0 < ins.length := fun hp => hsh ⟨h, hp⟩; omega⟩
          have HSH : Hid ((shutsT (L x) && decide (0 < ins.length)) = false) := Lib.hid (by
            rcases hcc with h | ⟨h, h0⟩
            · rw [h]; rfl
            · rw [decide_eq_false (by omega), Bool.and_false])
          clear hsh
          -- what is trimmed: the sign, and none is open, or another text
          have hfin : ∃ tr, S (Lib.trimRightB (L x) 32) = tr ∧ ((tr = ⟨#[58, 58, 58]⟩ ∧ n2 = 0) ∨ ((tr == ⟨#[58, 58, 58]⟩) = false ∧ (tr.toList == [58, 58, 58]) = false ∧ ¬ tr.toList = [58, 58, 58])) := by
            refine ⟨_, rfl, ?_⟩
            have hlit : (⟨#[58, 58, 58]⟩ : ByteArray).toList = [58, 58, 58] := by decide +kernel
            rcases hcc with h | ⟨h, h0⟩
            · refine .inr ?_
              have hne : ¬ S (Lib.trimRightB (L x) 32) = ⟨#[58, 58, 58]⟩ := fun e => by
                have h1 := of_decide_eq_false h
                have h2 := congrArg L e
                rw [L_S] at h2
                exact h1 h2
              have := bytes_ne hne
              rw [hlit] at this
              exact this
            · refine .inl ⟨?_, h0⟩
              have := of_decide_eq_true h
              rw [this]; rfl
          obtain ⟨tr, htr, hfin⟩ := hfin
          rw [htr] at HS
          clear htr hcc
          cases run with
          | false =>
            have HST2 : Hid (frT (ls.take (k + 1)) = ⟨out ++ [⟨(ins.length : Int), false, ⟨#[]⟩, false, [x]⟩], ins, true⟩) := Lib.hid (by rw [HST.out]; unfold frStep; rw [hop, HSH.out]; rfl)
            have HON := Lib.hid hon
            have HN2 := Lib.hid hn2
            -- the last part is no run of this depth
            have hlast : n1 = 0 ∨ ∃ (j : Nat) (g1 : Nat) (dv : Bool) (dp : Int), n1 = j + 1 ∧ A1 = some ⟨g1, 0, none⟩ ∧ wr.cell? ⟨g1, j * 5, none⟩ = some (.int .i64 dp) ∧ wr.cell? ⟨g1, j * 5 + 1, none⟩ = some (.bool dv) ∧ (dv = true ∨ (dv = false ∧ (n2 : Int) < dp)) := by
              rcases Nat.eq_zero_or_pos n1 with h0 | h0
              · exact .inl h0
              · right
                obtain ⟨ini, p, rfl⟩ : ∃ ini last, ps = ini ++ [last] := by
                  have hne : ps ≠ [] := fun e => by rw [e] at hn1; simp at hn1; omega
                  exact ⟨ps.dropLast, ps.getLast hne, (List.dropLast_concat_getLast hne).symm⟩
                obtain ⟨g1, hg1, _, _⟩ := hP.1.some_ (by omega)
                have hj : ini.length + 1 = n1 := by rw [← hn1]; simp
                subst hg1
                obtain ⟨z0, z1, _, _, _⟩ := hP.cells_at (i := ini.length) (p := p) (by simp)
                refine ⟨ini.length, g1, p.t.div, p.t.depth, hj.symm, rfl, by simpa using z0, z1, ?_⟩
                have h2 := (hrun p.t (by rw [← hout]; simp)).2 rfl
                cases hd : p.t.div with
                | true => exact .inl rfl
                | false => exact .inr ⟨rfl, by have := h2 hd; omega⟩
            clear HST hop o1 o2 o3 o4 o5 hon hn2 hrun
            have hz0 : n2 = 0 → ¬ (0 : Int) < (n2 : Int) := fun h => by omega
            rcases hfin with ⟨rfl, hz⟩ | ⟨t1, t2, t3⟩
            case' inl =>
              have d0 := hz0 hz
              have d1 : decide ((0 : Int) < (n2 : Int)) = false := decide_eq_false d0
              clear hz
            all_goals
              clear hz0
              rcases hlast with rfl | ⟨j, g1, dv, dp, rfl, rfl, z0, z1, rfl | ⟨rfl, hdl⟩⟩
            case' inl.inr.inr | inr.inr.inr =>
              have e1 : (dp == (n2 : Int)) = false := beq_eq_false_iff_ne.2 (by omega)
              have e2 : ¬ dp = (n2 : Int) := by omega
              clear hdl
            all_goals
              go_wp2_with (first
                | (go_at_call 77; refine (HO.out _).mono ?_; rintro e w1 ⟨rfl, hw⟩; subst w1)
                | (go_at_call 74; refine (HS.out _).mono ?_; rintro e w1 ⟨rfl, hw⟩; subst w1)
                | (at_builtin; refine wpList_app1 Tryz.elParts rfl (.tmp 102) (.tmp 110) rfl rfl (by exact (hP.1.alloc _).alloc _) rfl (Blk.new' _ _ _ _ (by simp)) rfl (by simp [Value.oneCell']) (by simp only [maxLen]; omega) (by omega) (by simp; omega) ?_
                   intro A3 c3 w3 hr3 ho3 hm3))
              have hrow : Own (wr.alloc (.cells #[.string x] 9)) w.heap.size 9 1 (some ⟨wr.heap.size, 0, none⟩) 1 1 (txCells [x]) :=
                World.ownsRow_lit (base := w.heap.size) (e := 9) (size := 1) wr #[.string x] 1 hbs (by unfold maxLen; omega) (by simp)
              have hin3 := ((hin.alloc (.cells #[.string x] 9)).alloc (.cells #[.int .i64 _, .bool false, .string ⟨#[]⟩, .bool false, .slice (some ⟨wr.heap.size, 0, none⟩) 1 1] 67)).only ho3 (hin.sep_ne hP.1 (by decide))
              have hP3 := Parts.push (q := ⟨⟨_, false, ⟨#[]⟩, false, [x]⟩, some ⟨wr.heap.size, 0, none⟩, 1⟩) ((hP.alloc (.cells #[.string x] 9)).alloc _) (hrow.alloc _) (fun p hp a b ha hb => by
                injection hb with hb
                have := ((hP.2.1 p hp).lt ha).2
                rw [← hb]; show a.block ≠ wr.heap.size; omega) ho3 hr3
              go_roundw
              case rel =>
                refine ⟨k + 1, A3, A2, _, c3, _, c2, _, by omega, by go_num, rfl, rfl, hP3, ?_, ?_, hb.trans (ho3.of_alloc.of_alloc.below (fun a ha => (hP.1.lt ha).1) hbs)⟩
                · rw [HST2.out, List.map_append, hout, HN2.out]; rfl
                · rw [HST2.out]; exact hin3
              case measure => simp [intOf]; omega
          | true =>
            obtain ⟨ini, p, rfl⟩ : ∃ ini last, ps = ini ++ [last] := by
              have hne : ps ≠ [] := fun e => o2 rfl (by rw [← hout, e]; rfl)
              exact ⟨ps.dropLast, ps.getLast hne, (List.dropLast_concat_getLast hne).symm⟩
            have HST2 : Hid (frT (ls.take (k + 1)) = ⟨addLast out x, ins, true⟩) := Lib.hid (by rw [HST.out]; unfold frStep; rw [hop, HSH.out]; rfl)
            have HAL : Hid (addLast out x = ini.map (·.t) ++ [{ p.t with lines := p.t.lines ++ [x] }]) := Lib.hid (by unfold addLast; rw [← hout]; simp)
            have hpl : p.t.lines.length ≤ k := o5 p.t (by rw [← hout]; simp)
            obtain ⟨hdv, hdp⟩ := (hrun p.t (by rw [← hout]; simp)).1 rfl
            obtain ⟨j, hj⟩ : ∃ j, ini.length = j := ⟨_, rfl⟩
            have hnj : n1 = j + 1 := by rw [← hn1, ← hj]; simp
            subst hnj
            obtain ⟨g1, rfl, hg1, _⟩ := hP.1.some_ (by omega)
            have hjk : j + 1 ≤ k := by omega
            have HJ := Lib.hid hj
            have hpj : Hid ((ini ++ [p])[j]? = some p) := Lib.hid (by rw [← hj]; simp)
            obtain ⟨z0, z1, _, _, z4⟩ := hP.cells_at hpj.out
            rw [hdp, hn2] at z0
            rw [hdv] at z1
            have hz0 : n2 = 0 → ¬ (0 : Int) < (n2 : Int) := fun h => by omega
            have y1 : (j : Int) + 1 - 1 = (j : Int) := by omega
            have y2 : IntKind.i64.wrap ((j : Int) + 1 - 1) = (j : Int) := (IntWalk.i64_in _ (by omega)).trans (by omega)
            have y3 : (0 : Int) ≤ (j : Int) := by omega
            have y4 : (j : Int) < (j : Int) + 1 := by omega
            have y5 : (j : Int) < ((j + 1 : Nat) : Int) := by omega
            have y6 : ((j : Int)).toNat = j := by omega
            have y7 : IntKind.i64.wrap (j : Int) = (j : Int) := IntWalk.i64_in _ (by omega)
            have y8 : IntKind.i64.wrap (((j + 1 : Nat) : Int) - 1) = (j : Int) := (IntWalk.i64_in _ (by omega)).trans (by omega)
            clear HST hop o1 o2 o3 o4 o5 hon hn1 hn2 hj hrun hdv hdp
            rcases hfin with ⟨rfl, hz⟩ | ⟨t1, t2, t3⟩
            case' inl =>
              have d0 := hz0 hz
              have d1 : decide ((0 : Int) < (n2 : Int)) = false := decide_eq_false d0
              clear hz
            all_goals
              clear hz0
              go_upto_region 16 with (first
                | (go_at_call 77; refine (HO.out _).mono ?_; rintro e w1 ⟨rfl, hw⟩; subst w1)
                | (go_at_call 74; refine (HS.out _).mono ?_; rintro e w1 ⟨rfl, hw⟩; subst w1))
              go_region_law (refine step_app1 Tryz.elTexts rfl (.tmp 93) (.tmp 98) rfl rfl (by exact (hP.2.1 p (by simp)).alloc _) rfl (Blk.new' _ _ _ _ (by simp)) rfl (by simp [Value.oneCell']) (by simp only [maxLen]; omega) (by omega) (by simp; omega) ?_; intro A3 c3 w3 hr3 ho3 hm3; have hrow := ((hP.1.alloc (.cells #[.string x] 9)).drew).only ho3 ((hP.sep p (by simp)).symm); have f4 := hrow.frozen (j * 5 + 4); have e4 : w3.cell? ⟨g1, j * 5 + 4, none⟩ = some (.slice p.la p.t.lines.length p.lc) := hrow.cell ((flat_get PartR.cells 5 part_len (ini ++ [p]) j 4 (by omega) hpj.out).trans rfl))
              all_goals
                have ho' : Only (wr.alloc (.cells #[.string x] 9)) w3 p.la := ⟨ho3.os, ho3.tape, ho3.output, ho3.size, ho3.block⟩
                have hP4 := Parts.line (hP.alloc (.cells #[.string x] 9)) ho' (by exact hm3) hr3
                have hin4 := ((hin.alloc (.cells #[.string x] 9)).only ho' (hin.sep_ne (hP.2.1 p (by simp)) (by decide))).only (only_setCell w3 g1 (j * 5 + 4) (.slice A3 (p.t.lines.length + 1) c3)) (hin.sep_ne hP.1 (by decide))
                rw [HJ.out] at hP4
                go_wp2_with fail
                go_roundw
                case rel =>
                  refine ⟨k + 1, some ⟨g1, 0, none⟩, A2, j + 1, c1, _, c2, _, by omega, by go_num, rfl, rfl, hP4, ?_, ?_, (hb.trans (ho'.of_alloc.below (fun a ha => ((hP.2.1 p (by simp)).lt ha).1) hbs)).setCell (p := ⟨g1, j * 5 + 4, none⟩) hg1 _⟩
                  · rw [HST2.out, HAL.out]; simp
                  · rw [HST2.out]; exact hin4
                case measure => simp [intOf]; omega
    · have hkn : k = n := by omega
      subst hkn
      rw [List.take_of_length_le (by rw [HL.out]; omega)] at hout
      clear hok hin hdep
      go_wp2_with fail
      go_ret
      exact ⟨A1, n1, c1, ps, rfl, hP, hout, hb⟩
end Go.Proofs.YtgdnphmannbpgaaGreatDoor
/-
  bowdlerref1.PartsWrite.
-/
namespace Go.Proofs.YtgdnphmannbpgaaGreatDoor
open Go.RowKit
set_option linter.unusedVariables false

/-- an append inside a region that draws -/
theorem step_appN6 {P : Program} {w : World} {ops : Array Oper} {E' : Prop} {o : Oper} {a : Act} {K : Act → World → Prop} {Q : Exit → Act → World → Prop} {t e size bytes : Nat} (E : Elem P t e size bytes) (hgd : o.guard = none) (s x : Operand)
    (ho : o.op = .call { callee := .builtin .append, args := #[s, x], argTypes := #[t, t] })
    {base : Nat} {A : Option Addr} {n c : Nat} {xs : List Value} (hs : a.eval s = .slice A n c) (hown : Own w base e size A n c xs)
    {L0 : Nat} {B : Option Addr} {m d : Nat} {news : List Value} (hx : a.eval x = .slice B m d) (hr : Reads w L0 size B m news) (h1 : ∀ u ∈ news, u.oneCell' = true)
    (h63 : n + m ≤ maxLen) (hbytes : (n + m) * bytes ≤ 140737488355328) (hbase : base ≤ w.heap.size)
    (h : ∀ A' c' w', Own w' base e size A' (n + m) c' (xs ++ news) → Only w w' A → Moved w A A' → K (a.put o.dst (.slice A' (n + m) c')) w') :
    if Region.wanted o (yielded ops a.tmps) = true then Oper.wp P o a w K Q else E' := by
  have hw : Region.wanted o (yielded ops a.tmps) = true := by simp [Region.wanted, hgd]
  rw [if_pos hw]
  obtain ⟨i, z, hi, hz, hsize, hby, hzs⟩ := E.info
  refine wp_append_any w s x t ho base e i z size bytes E.und hi hz hsize hby hzs E.pos _ n xs hs hown L0 B m d news hx hr h1 h63 hbytes hbase (fun v' w' h2 h3 h4 => ?_)
  obtain ⟨A', c', rfl⟩ := slice_of_own h2
  rw [ownBlock_slice] at h3 h4
  rw [ownBlock_slice] at h4
  exact h A' c' w' h2 h3 h4
theorem label_len {l : List UInt8} (h : labelT l = true) : l.length ≤ 40 := by
  unfold labelT at h
  simp only [Bool.and_eq_true, decide_eq_true_eq] at h
  exact h.1.2
theorem only_drewN6 {w w' : World} {A : Option Addr} {n : Nat} (h : Only (w.drewN n) w' A) : Only w w' A := ⟨h.1, h.2, h.3, h.4, h.5⟩
theorem partCells_one (ps : List PartR) : ∀ u ∈ partCells ps, u.oneCell' = true := by
  intro u hu
  obtain ⟨p, _, hp⟩ := List.mem_flatMap.1 hu
  simp only [PartR.cells, List.mem_cons, List.not_mem_nil, or_false] at hp
  rcases hp with rfl | rfl | rfl | rfl | rfl <;> rfl
def lenOf : Value → Nat
  | .slice _ n _ => n
  | _ => 0
/-- how many lines so far -/
def wrOutN (ts : List PartT) (i : Nat) : Nat := (wrFold (ts.take i)).out.length
theorem wrStep_le (st : WrS) (x : PartT) : st.out.length + notOpn (st.inn.drop x.depth.toNat) + (if x.div then 1 else 0) + x.lines.length ≤ (wrStep st x).out.length := by
  unfold wrStep
  cases x.div <;> simp <;> omega
theorem wrOutN_le (ts : List PartT) (i : Nat) : wrOutN ts i ≤ (lines6 ts).length := by
  have key : ∀ d, d ≤ ts.length → (wrFold (ts.take (ts.length - d))).out.length ≤ (wrFold ts).out.length := by
    intro d
    induction d with
    | zero => intro _; rw [Nat.sub_zero, List.take_length]; exact Nat.le_refl _
    | succ d ih =>
      intro hd
      obtain ⟨x, hx⟩ : ∃ x, ts[ts.length - (d + 1)]? = some x := ⟨_, List.getElem?_eq_getElem (by omega)⟩
      have h1 := lines6_take ts hx
      have h2 := wrStep_le (wrFold (ts.take (ts.length - (d + 1)))) x
      rw [← h1, show ts.length - (d + 1) + 1 = ts.length - d by omega] at h2
      have := ih (by omega)
      omega
  have hl : (wrFold ts).out.length ≤ (lines6 ts).length := by unfold lines6; rw [List.length_append]; omega
  unfold wrOutN
  rcases Nat.lt_or_ge i ts.length with h | h
  · have := key (ts.length - i) (by omega)
    rw [show ts.length - (ts.length - i) = i by omega] at this
    omega
  · rw [List.take_of_length_le h]; exact hl

set_option maxHeartbeats 8000000 in
set_option maxRecDepth 100000 in
theorem refWrite_any (A : Option Addr) (n c K : Nat) (ps : List PartR) (rr : RtS) (w : World) (hP : PartsIn w K A n ps) (hK : K ≤ w.heap.size) (hrt : rtFold (some rtInit) (ps.map (·.t)) = some rr) (hn : n ≤ 1048576) (hm : (lines6 (ps.map (·.t))).length ≤ 1048576) :
    Calls Tryz.prog 50 #[.slice A n c] w fun e w' => ∃ A' m c', e = .returned (.slice A' m c') ∧ Own w' w.heap.size 9 1 A' m c' (txCells (lines6 (ps.map (·.t)))) ∧ Below w.heap.size w w' := by
  have hlen := hP.len
  obtain ⟨ts, hts⟩ : ∃ ts, ps.map (·.t) = ts := ⟨_, rfl⟩
  rw [hts] at hrt hm
  rw [hts]
  have htl : ts.length = n := by rw [← hts, List.length_map, hlen]
  have HL := Lib.hid hlen
  have HTS := Lib.hid hts
  have HTL := Lib.hid htl
  have HRT := Lib.hid hrt
  have HOL := Lib.hid (wrOutN_le ts)
  clear hlen hts htl hrt
  go_enter Tryz.func50, Tryz.ntmps50
  go_wp2_with fail
  go_loopw [3, 4, 5] (fun s3 s4 s5 wr => ∃ (i n1 c1 n2 c2 : Nat) (A1 A2 : Option Addr) (qs : List PartR), i ≤ n ∧ s5 = .int .i64 (i : Int) ∧ s3 = .slice A1 n1 c1 ∧ s4 = .slice A2 n2 c2 ∧
    Own wr w.heap.size 9 1 A1 n1 c1 (txCells (wrFold (ts.take i)).out) ∧ Own wr w.heap.size 67 5 A2 n2 c2 (partCells qs) ∧ Hid (qs.map (·.t) = (wrFold (ts.take i)).inn) ∧ n2 ≤ i ∧ Below w.heap.size w wr) (fun _ _ s5 _ => n - (intOf s5).toNat)
  case atStart => exact ⟨0, 0, 0, 0, 0, none, none, [], Nat.zero_le _, rfl, rfl, rfl, Own.nil _ _ _ _, Own.nil _ _ _ _, Lib.hid rfl, Nat.le_refl _, Below.refl _ _⟩
  case round =>
    obtain ⟨i, n1, c1, n2, c2, A1, A2, qs, hi, rfl, rfl, rfl, hO, hQ, HIN, hn2, hb⟩ := hrel
    have hbs := hb.size
    have hql : qs.length = n2 := by have := hQ.len; rw [parts_length] at this; omega
    have hn1 : (wrFold (ts.take i)).out.length = n1 := by have := hO.len; simpa using this
    have hn1m : n1 ≤ 1048576 := by have := HOL.out i; unfold wrOutN at this; omega
    have hdep := wr_depths HRT.out i (by rw [HTL.out]; exact hi)
    have hqd : ∀ (j : Nat) (q : PartR), qs[j]? = some q → q.t.depth = (j : Int) := fun j q hq => hdep j q.t (by rw [← HIN.out, List.getElem?_map, hq]; rfl)
    have HQD := Lib.hid hqd
    have HQL := Lib.hid hql
    have HN1 := Lib.hid hn1
    clear hdep hqd hql hn1
    obtain ⟨O, hOe⟩ : ∃ O, (wrFold (ts.take i)).out = O := ⟨_, rfl⟩
    obtain ⟨I, hIe⟩ : ∃ I, (wrFold (ts.take i)).inn = I := ⟨_, rfl⟩
    have HOE := Lib.hid hOe
    have HIE := Lib.hid hIe
    rw [hOe] at hO
    rw [hIe] at HIN
    clear hOe hIe
    -- how deep the next one lies
    obtain ⟨dN, di, hdi, hdm, hdm', hdI, hnx⟩ : ∃ (dN : Nat) (di : Int), (i < n → ∃ p, ps[i]? = some p ∧ p.t.depth = di) ∧ max di 0 = (dN : Int) ∧ dN ≤ n2 ∧ n1 + notOpn (I.drop dN) ≤ 1048576 ∧ (i = n → di = -1 ∧ dN = 0) := by
      rcases Nat.lt_or_ge i n with h | h
      · obtain ⟨p, hp⟩ : ∃ p, ps[i]? = some p := ⟨_, List.getElem?_eq_getElem (by rw [HL.out]; exact h)⟩
        have htp : ts[i]? = some p.t := by rw [← HTS.out, List.getElem?_map, hp]; rfl
        obtain ⟨g1, g2, _⟩ := wr_room HRT.out htp
        rw [HIE.out] at g2
        have hIl : I.length = n2 := by rw [← HIN.out, List.length_map, HQL.out]
        have h1 := lines6_take ts htp
        have h2 := wrStep_le (wrFold (ts.take i)) p.t
        rw [← h1, HIE.out] at h2
        have h3 := HOL.out (i + 1)
        unfold wrOutN at h3
        rw [HN1.out] at h2
        exact ⟨p.t.depth.toNat, p.t.depth, fun _ => ⟨p, hp, rfl⟩, by omega, by omega, by omega, fun h' => by omega⟩
      · refine ⟨0, -1, fun h' => by omega, by decide, Nat.zero_le _, ?_, fun _ => ⟨rfl, rfl⟩⟩
        have : lines6 ts = O ++ List.replicate (notOpn I) shutB := by
          unfold lines6
          have : ts.take i = ts := List.take_of_length_le (by rw [HTL.out]; exact h)
          rw [this] at HOE HIE
          rw [HOE.out, HIE.out]
        rw [this, List.length_append, List.length_replicate] at hm
        have h5 := HN1.out
        rw [HOE.out] at h5
        rw [List.drop_zero]
        omega
    have HDI := Lib.hid hdi
    have HNX := Lib.hid hnx
    clear hdi hnx
    -- those that end are ended
    obtain ⟨nO, hnO⟩ : ∃ nO, notOpn (I.drop dN) = nO := ⟨_, rfl⟩
    rw [hnO] at hdI
    have HNO := Lib.hid hnO
    clear hnO
    have hshut : (wS : World) → (A3 : Option Addr) → (m3 c3 : Nat) → True := fun _ _ _ _ => trivial
    have HLOOP : Hid (∀ j q, dN ≤ j → qs[j]? = some q → notOpn (I.drop j) = notOpn (I.drop (j + 1)) + (if q.t.opn then 0 else 1)) := Lib.hid (fun j q hj hq => by
      have hIj : I[j]? = some q.t := by rw [← HIN.out, List.getElem?_map, hq]; rfl
      rw [drop_one hIj]
      unfold notOpn
      rw [List.countP_cons]
      cases q.t.opn <;> simp)
    have HNO2 : Hid (∀ j, dN ≤ j → notOpn (I.drop j) ≤ nO) := Lib.hid (fun j hj => by
      rw [← HNO.out]
      unfold notOpn
      have : I.drop j = (I.drop dN).drop (j - dN) := by rw [List.drop_drop]; congr 1; omega
      rw [this]
      exact (List.drop_sublist _ _).countP_le)
    have HTOP : Hid (notOpn (I.drop n2) = 0) := Lib.hid (by
      have hIl : I.length = n2 := by rw [← HIN.out, List.length_map, HQL.out]
      rw [List.drop_eq_nil_of_le (by omega)]; rfl)
    clear hshut
    by_cases hlt : i < n
    · obtain ⟨p, hp, hpd⟩ := HDI.out hlt
      obtain ⟨ad, rfl, hadK, r0, r1, r2, r3, r4⟩ := (hP.1.below (hb.mono hK)).part hp hlt
      rw [hpd] at r0
      have HPd := Lib.hid hpd
      clear hpd
      go_upto_block 2 with fail
      go_cut [3, 4] (fun s3 s4 wx => ∃ (A3 : Option Addr) (c3 : Nat), s3 = .slice A3 (n1 + nO) c3 ∧ s4 = .slice A2 dN c2 ∧ Own wx w.heap.size 9 1 A3 (n1 + nO) c3 (txCells (O ++ List.replicate nO shutB)) ∧ Own wx w.heap.size 67 5 A2 dN c2 (partCells (qs.take dN)) ∧ Below w.heap.size w wx)
      case first =>
        go_wp2_with fail
        go_loopw [3, 4] (fun s3 s4 wq => ∃ (j : Nat) (A3 : Option Addr) (m3 c3 : Nat), dN ≤ j ∧ j ≤ n2 ∧ s3 = .slice A3 m3 c3 ∧ s4 = .slice A2 j c2 ∧ Hid (m3 = n1 + notOpn (I.drop j)) ∧ Own wq w.heap.size 9 1 A3 m3 c3 (txCells (O ++ List.replicate (notOpn (I.drop j)) shutB)) ∧ Own wq w.heap.size 67 5 A2 j c2 (partCells (qs.take j)) ∧ Below w.heap.size w wq) (fun _ s4 _ => lenOf s4)
        case atStart => exact ⟨n2, A1, n1, c1, hdm', Nat.le_refl _, rfl, rfl, Lib.hid (by rw [HTOP.out]; rfl), by rw [HTOP.out]; simpa using hO, by rw [List.take_of_length_le (by rw [HQL.out]; exact Nat.le_refl _)]; exact hQ, hb⟩
        case round =>
          clear hO hQ hb r0 r1 r2 r3 r4
          obtain ⟨j, A3, m3, c3, hdj, hjn, rfl, rfl, HM3, hO, hQ, hb⟩ := hrel
          have hbs := hb.size
          by_cases hgt : dN < j
          · obtain ⟨j', rfl⟩ : ∃ j', j = j' + 1 := ⟨j - 1, by omega⟩
            obtain ⟨q, hq⟩ : ∃ q, qs[j']? = some q := ⟨_, List.getElem?_eq_getElem (by rw [HQL.out]; omega)⟩
            have hqt : (qs.take (j' + 1))[j']? = some q := by rw [List.getElem?_take, if_pos (by omega)]; exact hq
            obtain ⟨g2, rfl, hg2, _⟩ := hQ.some_ (by omega)
            have z0 : wr.cell? ⟨g2, j' * 5, none⟩ = some (.int .i64 (j' : Int)) := by
              have := hQ.cell ((flat_get PartR.cells 5 part_len (qs.take (j' + 1)) j' 0 (by omega) hqt).trans rfl)
              rw [Nat.add_zero, HQD.out j' q hq] at this
              exact this
            have z3 : wr.cell? ⟨g2, j' * 5 + 3, none⟩ = some (.bool q.t.opn) := hQ.cell ((flat_get PartR.cells 5 part_len (qs.take (j' + 1)) j' 3 (by omega) hqt).trans rfl)
            have HST := Lib.hid (HLOOP.out j' q (by omega) hq)
            have hnb := HNO2.out j' (by omega)
            have hm3 := HM3.out
            have y1 : (j' : Int) + 1 - 1 = (j' : Int) := by omega
            have y2 : IntKind.i64.wrap ((j' : Int) + 1 - 1) = (j' : Int) := (IntWalk.i64_in _ (by omega)).trans (by omega)
            have y8 : IntKind.i64.wrap (((j' + 1 : Nat) : Int) - 1) = (j' : Int) := (IntWalk.i64_in _ (by omega)).trans (by omega)
            have y3 : (0 : Int) ≤ (j' : Int) := by omega
            have y4 : (j' : Int) < (j' : Int) + 1 := by omega
            have y5 : (dN : Int) ≤ (j' : Int) := by omega
            have hcap : j' + 1 ≤ c2 := hQ.cap
            have hmc : j' ≤ c2 := by omega
            have hmc2 : (j' : Int) ≤ (c2 : Int) := by omega
            have hc20 : ¬ c2 = 0 := by omega
            have htk : (qs.take (j' + 1)).take j' = qs.take j' := by rw [List.take_take, Nat.min_eq_left (by omega)]
            have HTK := Lib.hid htk
            clear hq hqt htk
            cases ho : q.t.opn
            · rw [ho] at z3 HST
              have HST2 : Hid (notOpn (I.drop j') = notOpn (I.drop (j' + 1)) + 1) := Lib.hid HST.out
              have hbd : m3 ≤ 1048576 := by have := HST2.out; omega
              clear HST ho hm3
              go_wp2_with (at_builtin; refine wpList_app1 Tryz.elTexts rfl (.tmp 45) (.tmp 46) rfl rfl (by exact hO.alloc _) rfl (Blk.new' _ _ _ _ (by simp)) rfl (by simp [Value.oneCell']) (by simp only [maxLen]; omega) (by omega) (by simp; omega) ?_
                           intro A5 c5 w5 hO5 ho5 hm5
                           have hQ5 := (hQ.alloc (.cells #[.string ⟨#[58, 58, 58]⟩] 9)).only ho5 (hQ.sep_ne hO (by decide)))
              go_roundw
              case rel =>
                refine ⟨j', A5, m3 + 1, c5, by omega, by omega, rfl, by rfl, Lib.hid ?_, ?_, ?_, hb.trans (ho5.of_alloc.below (fun a ha => (hO.lt ha).1) hbs)⟩
                · have := HM3.out; have := HST2.out; omega
                · rw [HST2.out, List.replicate_succ', ← List.append_assoc]
                  simpa [txCells, shutB] using hO5
                · have := hQ5.take (m := j') (by omega)
                  rw [show j' * 5 = (qs.take j').length * 5 by rw [List.length_take, HQL.out, Nat.min_eq_left (by omega)]] at this
                  have e : (partCells (qs.take (j' + 1))).take ((qs.take j').length * 5) = partCells (qs.take j') := by
                    have hsp : qs.take (j' + 1) = qs.take j' ++ (qs.drop j').take 1 := by rw [List.take_add]
                    rw [hsp, partCells_app, List.take_append_of_le_length (by rw [parts_length]; exact Nat.le_refl _), List.take_of_length_le (by rw [parts_length]; exact Nat.le_refl _)]
                  rw [e] at this
                  exact this
              case measure => simp [lenOf]
            · rw [ho] at z3 HST
              have HST2 : Hid (notOpn (I.drop j') = notOpn (I.drop (j' + 1))) := Lib.hid HST.out
              clear HST ho hm3
              go_wp2_with fail
              go_roundw
              case rel =>
                refine ⟨j', A3, m3, c3, by omega, by omega, rfl, by rfl, Lib.hid ?_, by rw [HST2.out]; exact hO, ?_, hb⟩
                · have := HM3.out; have := HST2.out; omega
                · have := hQ.take (m := j') (by omega)
                  rw [show j' * 5 = (qs.take j').length * 5 by rw [List.length_take, HQL.out, Nat.min_eq_left (by omega)]] at this
                  have e : (partCells (qs.take (j' + 1))).take ((qs.take j').length * 5) = partCells (qs.take j') := by
                    have hsp : qs.take (j' + 1) = qs.take j' ++ (qs.drop j').take 1 := by rw [List.take_add]
                    rw [hsp, partCells_app, List.take_append_of_le_length (by rw [parts_length]; exact Nat.le_refl _), List.take_of_length_le (by rw [parts_length]; exact Nat.le_refl _)]
                  rw [e] at this
                  exact this
              case measure => simp [lenOf]
          · have hjd : j = dN := by omega
            subst hjd
            have hm3 := HM3.out
            rw [HNO.out] at hm3 hO
            subst hm3
            rcases Nat.eq_zero_or_pos j with rfl | hpos
            · go_wp2_with fail
              go_meet
              exact ⟨A3, c3, rfl, rfl, hO, hQ, hb⟩
            · obtain ⟨j', rfl⟩ : ∃ j', j = j' + 1 := ⟨j - 1, by omega⟩
              obtain ⟨q, hq⟩ : ∃ q, qs[j']? = some q := ⟨_, List.getElem?_eq_getElem (by rw [HQL.out]; omega)⟩
              have hqt : (qs.take (j' + 1))[j']? = some q := by rw [List.getElem?_take, if_pos (by omega)]; exact hq
              obtain ⟨g2, rfl, hg2, _⟩ := hQ.some_ (by omega)
              have z0 : wr.cell? ⟨g2, j' * 5, none⟩ = some (.int .i64 (j' : Int)) := by
                have := hQ.cell ((flat_get PartR.cells 5 part_len (qs.take (j' + 1)) j' 0 (by omega) hqt).trans rfl)
                rw [Nat.add_zero, HQD.out j' q hq] at this
                exact this
              have y1 : (j' : Int) + 1 - 1 = (j' : Int) := by omega
              have y2 : IntKind.i64.wrap ((j' : Int) + 1 - 1) = (j' : Int) := (IntWalk.i64_in _ (by omega)).trans (by omega)
              have y8 : IntKind.i64.wrap (((j' + 1 : Nat) : Int) - 1) = (j' : Int) := (IntWalk.i64_in _ (by omega)).trans (by omega)
              have y3 : (0 : Int) ≤ (j' : Int) := by omega
              have y4 : (j' : Int) < (j' : Int) + 1 := by omega
              have y5 : ¬ (((j' + 1 : Nat) : Int)) ≤ (j' : Int) := by omega
              have y6 : ¬ ((j' : Int) + 1) ≤ (j' : Int) := by omega
              clear hq hqt
              go_wp2_with fail
              go_meet
              exact ⟨A3, c3, rfl, rfl, hO, hQ, hb⟩
      case rest =>
      obtain ⟨A3, c3, rfl, rfl, hO3, hQ3, hb3⟩ := hcut
      apply_assumption
      clear hO hQ hb r0 r1 r2 r3 r4
      generalize wc = w3 at *
      have hz3 := hb3.size
      obtain ⟨ad', hade, _, r0, r1, r2, r3, r4⟩ := (hP.1.below (hb3.mono hK)).part hp hlt
      have hade' := Option.some.inj hade
      subst hade'
      have htp : ts[i]? = some p.t := by rw [← HTS.out, List.getElem?_map, hp]; rfl
      obtain ⟨g1, g2, g3⟩ := wr_room HRT.out htp
      have HST := Lib.hid (lines6_take ts htp)
      have hdd : p.t.depth.toNat = dN := by have := HPd.out; omega
      have HDD := Lib.hid hdd
      have hlines := (hP.2 p (List.mem_of_getElem? hp)).below (hb3.mono hK)
      have hle : n1 + nO + (if p.t.div then 1 else 0) + p.t.lines.length ≤ 1048576 := by
        have h2 := wrStep_le (wrFold (ts.take i)) p.t
        rw [← HST.out, HIE.out, hdd, HNO.out] at h2
        have h3 := HOL.out (i + 1)
        unfold wrOutN at h3
        rw [HN1.out] at h2
        omega
      have hql : (qs.take dN).length = dN := by rw [List.length_take, HQL.out, Nat.min_eq_left hdm']
      have HIN2 : Hid ((qs.take dN).map (·.t) = I.take dN) := Lib.hid (by rw [List.map_take, HIN.out])
      have q1 : ((i : Int) == (n : Int)) = false := beq_eq_false_iff_ne.2 (by omega)
      have HQL2 := Lib.hid hql
      clear htp hade hdd g1 g2 hql
      cases hd : p.t.div
      · rw [hd] at r1 hle
        have HSTO : Hid (wrFold (ts.take (i + 1)) = ⟨O ++ List.replicate nO shutB ++ p.t.lines, I.take dN⟩) := Lib.hid (by
          rw [HST.out]
          unfold wrStep
          rw [hd, HOE.out, HIE.out, HDD.out, HNO.out]
          simp)
        have hle2 : n1 + nO + p.t.lines.length ≤ 1048576 := by simpa using hle
        clear hd hle HST
        go_wp2_with (at_builtin; refine wpList_app Tryz.elTexts rfl (.tmp 80) (.tmp 85) rfl rfl (by exact hO3) rfl hlines (tx_one _) (by simp only [maxLen]; omega) (by omega) hz3 ?_
                     intro A5 c5 w5 hO5 ho5 hm5
                     have hQ5 := hQ3.only ho5 (hQ3.sep_ne hO3 (by decide)))
        go_roundw
        case rel =>
          refine ⟨i + 1, n1 + nO + p.t.lines.length, c5, dN, c2, A5, A2, qs.take dN, by omega, by go_num, rfl, rfl, ?_, hQ5, Lib.hid ?_, by omega, hb3.trans (ho5.below (fun a ha => (hO3.lt ha).1) hz3)⟩
          · rw [HSTO.out]
            simpa [txCells] using hO5
          · rw [HSTO.out]; exact HIN2.out
        case measure => simp [intOf]; omega
      · rw [hd] at r1 hle
        obtain ⟨hl0, hlb⟩ := part_div g3 hd
        have hlab : p.t.label.size ≤ 40 := by
          have := label_len hlb
          rwa [length_L] at this
        have HSTO : Hid (wrFold (ts.take (i + 1)) = ⟨O ++ List.replicate nO shutB ++ [openB p.t.label], I.take dN ++ [p.t]⟩) := Lib.hid (by
          rw [HST.out]
          unfold wrStep
          rw [hd, HOE.out, HIE.out, HDD.out, HNO.out, hl0]
          simp)
        have hle2 : n1 + nO + 1 ≤ 1048576 := by have := hle; simp at this; omega
        have e1 : (⟨#[58, 58, 58, 123]⟩ : ByteArray).size = 4 := rfl
        have e2 : (⟨#[125]⟩ : ByteArray).size = 1 := rfl
        have p1 : ¬ 9223372036854775807 < 4 + p.t.label.size := by omega
        have p2 : ¬ 9223372036854775807 < (⟨#[58, 58, 58, 123]⟩ ++ p.t.label : ByteArray).size + 1 := by rw [ByteArray.size_append, e1]; omega
        have p3 : ¬ 9223372036854775807 < (⟨#[58, 58, 58, 123]⟩ : ByteArray).size + p.t.label.size := by omega
        have p4 : ¬ 9223372036854775807 < 4 + p.t.label.size + 1 := by omega
        have HDIV := Lib.hid hd
        clear hd hle HST hl0 hlb
        go_upto_region 16 with (at_builtin; refine wpList_app1 Tryz.elTexts rfl (.tmp 62) (.tmp 70) rfl rfl (by exact hO3.alloc _) rfl (Blk.new' _ _ _ _ (by simp)) rfl (by simp [Value.oneCell']) (by simp only [maxLen]; omega) (by omega) (by simp; omega) ?_
                                intro A5 c5 w5 hO5 ho5 hm5
                                have hb5 := hb3.trans (ho5.of_alloc.below (fun a ha => (hO3.lt ha).1) hz3)
                                have hQ5 := (hQ3.alloc (.cells #[.string (⟨#[58, 58, 58, 123]⟩ ++ p.t.label ++ ⟨#[125]⟩)] 9)).only ho5 (hQ3.sep_ne hO3 (by decide)))
        have hz5 := hb5.size
        obtain ⟨ad', hade, hadK', r0, r1, r2, r3, r4⟩ := (hP.1.below (hb5.mono hK)).part hp hlt
        have hade' := Option.some.inj hade
        subst hade'
        go_region_law (first
            | (refine step_appN6 Tryz.elParts (by rfl) (.const (.slice none 0 0)) (.tmp 72) (by rfl) (by rfl) (Own.nil _ w5.heap.size _ _) (by rfl) (by first | exact hQ5.reads.drew | exact hQ5.reads | exact (hQ5.alloc _).reads.drew | exact (hQ5.alloc _).reads) (partCells_one _) (by simp only [maxLen]; omega) (by omega) (by first | exact Nat.le_refl _ | (simp; done) | (simp; omega)) ?_
               intro A6 c6 w6 hown6 ho6 hm6
               rw [Nat.zero_add, List.nil_append] at hown6
               have ho6' : Only w5 w6 none := by first | exact only_drewN6 (n := 1) ho6 | exact (only_drewN6 (n := 1) ho6).of_alloc | exact only_drewN6 (n := 1) ho6.of_alloc | exact ho6.of_alloc | exact ho6
               have b6 : Below w5.heap.size w5 w6 := ho6'.below (fun a ha => by cases ha) (Nat.le_refl _)
               have hs6 : w5.heap.size ≤ w6.heap.size := ho6'.size
               have hs61 : w.heap.size ≤ w6.heap.size := Nat.le_trans hz5 hs6
               obtain ⟨ad6, hade6, _, x0, x1, x2, x3, x4⟩ := (hP.1.below ((hb5.mono hK).trans (b6.mono (by omega)))).part hp hlt
               have hade6' := Option.some.inj hade6
               subst hade6')
            | (refine step_app1 Tryz.elParts (by rfl) (.tmp 73) (.tmp 78) (by rfl) (by rfl) (by first | exact hown6 | exact hown6.drew | exact (hown6.alloc _).drew | exact hown6.alloc _) (by rfl) (by first | exact Blk.new' _ _ _ _ (by simp) | exact (Blk.new' _ _ _ _ (by simp)).drew | exact (Blk.new w5 67 #[.int .i64 p.t.depth, .bool p.t.div, .string p.t.label, .bool p.t.opn, .slice p.la p.t.lines.length p.lc]).drew.only ho6 (fun a ha => by cases ha)) (by rfl) (by simp [Value.oneCell']) (by simp only [maxLen]; omega) (by omega) (by first | omega | (simp; omega)) ?_
               intro A7 c7 w7 hown7 ho7 hm7
               have ho7' : Only w6 w7 A6 := by first | exact ho7.of_alloc | exact only_drewN6 (n := 1) ho7 | exact (only_drewN6 (n := 1) ho7).of_alloc | exact ho7
               have b7 : Below w.heap.size w6 w7 := ho7'.below (fun a ha => Nat.le_trans hz5 (hown6.lt ha).1) hs61))
        all_goals
          have hsep : ∀ C : Option Addr, (∀ a, C = some a → w5.heap.size ≤ a.block) → Sep A5 C := fun C hC a b ha hb => by have := (hO5.lt ha).2; have := hC b hb; omega
          have o7 := (hO5.only ho6' Sep.none_r).only ho7' (hsep A6 fun a ha => (hown6.lt ha).1)
          have bb7 : Below w.heap.size w w7 := hb5.trans ((b6.mono hz5).trans b7)
          have O7 := Lib.hid hown7
          go_wp2_with fail
          go_roundw
          case rel =>
            refine ⟨i + 1, n1 + nO + 1, c5, dN + 1, c7, A5, A7, qs.take dN ++ [p], by omega, by go_num, rfl, rfl, ?_, ?_, Lib.hid ?_, by omega, bb7⟩
            · rw [HSTO.out]
              simpa [txCells, openB] using o7
            · rw [partCells_app]
              exact O7.out.base_le hz5
            · rw [HSTO.out, List.map_append, HIN2.out]; rfl
          case measure => simp [intOf]; omega
    · have hin : i = n := by omega
      obtain ⟨hdi1, hd0⟩ := HNX.out hin
      have HD0 := Lib.hid hd0
      have hex : Hid (lines6 ts = O ++ List.replicate nO shutB) := Lib.hid (by
        have htk : ts.take i = ts := List.take_of_length_le (by rw [HTL.out]; omega)
        have h1 := HOE.out
        have h2 := HIE.out
        have h3 := HNO.out
        rw [htk] at h1 h2
        rw [hd0, List.drop_zero] at h3
        unfold lines6
        rw [h1, h2, h3])
      clear hdi1 hd0
      subst hin
      go_upto_block 2 with fail
      go_cut [3, 4] (fun s3 s4 wx => ∃ (A3 : Option Addr) (c3 : Nat), s3 = .slice A3 (n1 + nO) c3 ∧ s4 = .slice A2 dN c2 ∧ Own wx w.heap.size 9 1 A3 (n1 + nO) c3 (txCells (O ++ List.replicate nO shutB)) ∧ Own wx w.heap.size 67 5 A2 dN c2 (partCells (qs.take dN)) ∧ Below w.heap.size w wx)
      case first =>
        go_wp2_with fail
        go_loopw [3, 4] (fun s3 s4 wq => ∃ (j : Nat) (A3 : Option Addr) (m3 c3 : Nat), dN ≤ j ∧ j ≤ n2 ∧ s3 = .slice A3 m3 c3 ∧ s4 = .slice A2 j c2 ∧ Hid (m3 = n1 + notOpn (I.drop j)) ∧ Own wq w.heap.size 9 1 A3 m3 c3 (txCells (O ++ List.replicate (notOpn (I.drop j)) shutB)) ∧ Own wq w.heap.size 67 5 A2 j c2 (partCells (qs.take j)) ∧ Below w.heap.size w wq) (fun _ s4 _ => lenOf s4)
        case atStart => exact ⟨n2, A1, n1, c1, hdm', Nat.le_refl _, rfl, rfl, Lib.hid (by rw [HTOP.out]; rfl), by rw [HTOP.out]; simpa using hO, by rw [List.take_of_length_le (by rw [HQL.out]; exact Nat.le_refl _)]; exact hQ, hb⟩
        case round =>
          clear hO hQ hb
          obtain ⟨j, A3, m3, c3, hdj, hjn, rfl, rfl, HM3, hO, hQ, hb⟩ := hrel
          have hbs := hb.size
          by_cases hgt : dN < j
          · obtain ⟨j', rfl⟩ : ∃ j', j = j' + 1 := ⟨j - 1, by omega⟩
            obtain ⟨q, hq⟩ : ∃ q, qs[j']? = some q := ⟨_, List.getElem?_eq_getElem (by rw [HQL.out]; omega)⟩
            have hqt : (qs.take (j' + 1))[j']? = some q := by rw [List.getElem?_take, if_pos (by omega)]; exact hq
            obtain ⟨g2, rfl, hg2, _⟩ := hQ.some_ (by omega)
            have z0 : wr.cell? ⟨g2, j' * 5, none⟩ = some (.int .i64 (j' : Int)) := by
              have := hQ.cell ((flat_get PartR.cells 5 part_len (qs.take (j' + 1)) j' 0 (by omega) hqt).trans rfl)
              rw [Nat.add_zero, HQD.out j' q hq] at this
              exact this
            have z3 : wr.cell? ⟨g2, j' * 5 + 3, none⟩ = some (.bool q.t.opn) := hQ.cell ((flat_get PartR.cells 5 part_len (qs.take (j' + 1)) j' 3 (by omega) hqt).trans rfl)
            have HST := Lib.hid (HLOOP.out j' q (by omega) hq)
            have hnb := HNO2.out j' (by omega)
            have hm3 := HM3.out
            have y1 : (j' : Int) + 1 - 1 = (j' : Int) := by omega
            have y2 : IntKind.i64.wrap ((j' : Int) + 1 - 1) = (j' : Int) := (IntWalk.i64_in _ (by omega)).trans (by omega)
            have y8 : IntKind.i64.wrap (((j' + 1 : Nat) : Int) - 1) = (j' : Int) := (IntWalk.i64_in _ (by omega)).trans (by omega)
            have y3 : (0 : Int) ≤ (j' : Int) := by omega
            have y4 : (j' : Int) < (j' : Int) + 1 := by omega
            have y5 : (dN : Int) ≤ (j' : Int) := by omega
            have hcap : j' + 1 ≤ c2 := hQ.cap
            have hmc : j' ≤ c2 := by omega
            have hmc2 : (j' : Int) ≤ (c2 : Int) := by omega
            have hc20 : ¬ c2 = 0 := by omega
            have htk : (qs.take (j' + 1)).take j' = qs.take j' := by rw [List.take_take, Nat.min_eq_left (by omega)]
            have HTK := Lib.hid htk
            clear hq hqt htk
            cases ho : q.t.opn
            · rw [ho] at z3 HST
              have HST2 : Hid (notOpn (I.drop j') = notOpn (I.drop (j' + 1)) + 1) := Lib.hid HST.out
              have hbd : m3 ≤ 1048576 := by have := HST2.out; omega
              clear HST ho hm3
              go_wp2_with (at_builtin; refine wpList_app1 Tryz.elTexts rfl (.tmp 45) (.tmp 46) rfl rfl (by exact hO.alloc _) rfl (Blk.new' _ _ _ _ (by simp)) rfl (by simp [Value.oneCell']) (by simp only [maxLen]; omega) (by omega) (by simp; omega) ?_
                           intro A5 c5 w5 hO5 ho5 hm5
                           have hQ5 := (hQ.alloc (.cells #[.string ⟨#[58, 58, 58]⟩] 9)).only ho5 (hQ.sep_ne hO (by decide)))
              go_roundw
              case rel =>
                refine ⟨j', A5, m3 + 1, c5, by omega, by omega, rfl, by rfl, Lib.hid ?_, ?_, ?_, hb.trans (ho5.of_alloc.below (fun a ha => (hO.lt ha).1) hbs)⟩
                · have := HM3.out; have := HST2.out; omega
                · rw [HST2.out, List.replicate_succ', ← List.append_assoc]
                  simpa [txCells, shutB] using hO5
                · have := hQ5.take (m := j') (by omega)
                  rw [show j' * 5 = (qs.take j').length * 5 by rw [List.length_take, HQL.out, Nat.min_eq_left (by omega)]] at this
                  have e : (partCells (qs.take (j' + 1))).take ((qs.take j').length * 5) = partCells (qs.take j') := by
                    have hsp : qs.take (j' + 1) = qs.take j' ++ (qs.drop j').take 1 := by rw [List.take_add]
                    rw [hsp, partCells_app, List.take_append_of_le_length (by rw [parts_length]; exact Nat.le_refl _), List.take_of_length_le (by rw [parts_length]; exact Nat.le_refl _)]
                  rw [e] at this
                  exact this
              case measure => simp [lenOf]
            · rw [ho] at z3 HST
              have HST2 : Hid (notOpn (I.drop j') = notOpn (I.drop (j' + 1))) := Lib.hid HST.out
              clear HST ho hm3
              go_wp2_with fail
              go_roundw
              case rel =>
                refine ⟨j', A3, m3, c3, by omega, by omega, rfl, by rfl, Lib.hid ?_, by rw [HST2.out]; exact hO, ?_, hb⟩
                · have := HM3.out; have := HST2.out; omega
                · have := hQ.take (m := j') (by omega)
                  rw [show j' * 5 = (qs.take j').length * 5 by rw [List.length_take, HQL.out, Nat.min_eq_left (by omega)]] at this
                  have e : (partCells (qs.take (j' + 1))).take ((qs.take j').length * 5) = partCells (qs.take j') := by
                    have hsp : qs.take (j' + 1) = qs.take j' ++ (qs.drop j').take 1 := by rw [List.take_add]
                    rw [hsp, partCells_app, List.take_append_of_le_length (by rw [parts_length]; exact Nat.le_refl _), List.take_of_length_le (by rw [parts_length]; exact Nat.le_refl _)]
                  rw [e] at this
                  exact this
              case measure => simp [lenOf]
          · have hjd : j = dN := by omega
            subst hjd
            have hm3 := HM3.out
            rw [HNO.out] at hm3 hO
            subst hm3
            rcases Nat.eq_zero_or_pos j with rfl | hpos
            case' inr => exact absurd HD0.out (by omega)
            go_wp2_with fail
            go_meet
            exact ⟨A3, c3, rfl, rfl, hO, hQ, hb⟩
      case rest =>
      obtain ⟨A3, c3, rfl, rfl, hO3, hQ3, hb3⟩ := hcut
      apply_assumption
      go_wp2_with fail
      go_ret
      exact ⟨A3, n1 + nO, c3, rfl, by rw [hex.out]; exact hO3, hb3⟩
end Go.Proofs.YtgdnphmannbpgaaGreatDoor
