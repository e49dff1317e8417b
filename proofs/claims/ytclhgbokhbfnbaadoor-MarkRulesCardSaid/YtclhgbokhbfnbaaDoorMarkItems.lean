/-
  bowdlerlaw8.MarkItems: its walk: it answers true, and turns nothing that was there.
-/
import Derived.Test.YtclhgbokhbfnbaaDoorMarkUnders
namespace Go.Proofs.YtclhgbokhbfnbaaDoor
open Go.RowKit

theorem foldl_acc (l : List UInt8) : ∀ acc, l.foldl (fun v b => v * 10 + (b.toNat - 48)) acc = acc * 10 ^ l.length + valT l := by
  induction l with
  | nil => intro acc; simp [valT]
  | cons b l ih =>
    intro acc
    have e : valT (b :: l) = (0 * 10 + (b.toNat - 48)) * 10 ^ l.length + valT l := ih _
    rw [List.foldl_cons, ih, e, List.length_cons, Nat.pow_succ, Nat.add_mul, Nat.zero_mul, Nat.zero_add, Nat.mul_assoc, Nat.mul_comm 10 (10 ^ l.length), Nat.add_assoc]
theorem valT_cons (b : UInt8) (l : List UInt8) : valT (b :: l) = (b.toNat - 48) * 10 ^ l.length + valT l := by
  have : valT (b :: l) = l.foldl (fun v b => v * 10 + (b.toNat - 48)) (b.toNat - 48) := by unfold valT; rw [List.foldl_cons, Nat.zero_mul, Nat.zero_add]
  rw [this, foldl_acc]
theorem isD_head {d r : List UInt8} {x : UInt8} (hD : ∀ x ∈ d, isD x = true) (hd : d ≠ []) (h : (d ++ r).head? = some x) : isD x = true := by
  cases d with
  | nil => exact absurd rfl hd
  | cons y d =>
    simp at h
    subst h
    exact hD y (by simp)
theorem isD_no {x : UInt8} (h : isD x = true) : x ≠ 32 ∧ x ≠ 9 ∧ ([45, 42, 95] : List UInt8).contains x = false ∧ x.toNat < 128 := by
  have h2 : 48 ≤ x.toNat ∧ x.toNat ≤ 57 := by simpa [isD] using h
  have key : ∀ c : UInt8, (c.toNat < 48 ∨ 57 < c.toNat) → x ≠ c := by
    rintro c hc rfl; omega
  refine ⟨key 32 (by decide), key 9 (by decide), ?_, by omega⟩
  simp only [List.contains_cons, List.contains_nil, Bool.or_false, Bool.or_eq_false_iff, beq_eq_false_iff_ne]
  exact ⟨key 45 (by decide), key 42 (by decide), key 95 (by decide)⟩
theorem item_law {b gap : Nat} {d l : List UInt8} {sg : UInt8} (hb : b ≤ 3) (hd : d ≠ []) (hD : ∀ x ∈ d, isD x = true) (hd9 : d.length ≤ 9) (hs : sg = 46 ∨ sg = 41) (hg : 1 ≤ gap) (hl : l ≠ []) (hl32 : ∀ x, l.head? = some x → x ≠ 32) :
    itemT (List.replicate b 32 ++ (d ++ (sg :: (List.replicate gap 32 ++ l)))) = some (sg, (valT d : Int), b + d.length + 1 + (if 4 < gap then 1 else gap), if 4 < gap then List.replicate (gap - 1) 32 ++ l else l) := by
  have hn : NoBlank (d ++ (sg :: (List.replicate gap 32 ++ l))) := fun x hx => by
    have := isD_no (isD_head hD hd hx)
    exact ⟨this.1, this.2.1⟩
  obtain ⟨c1, c2⟩ := col_blanks (n := b) hn
  have hdl : 1 ≤ d.length := by cases d with | nil => exact absurd rfl hd | cons => simp
  have hr : ruleT (List.replicate b 32 ++ (d ++ (sg :: (List.replicate gap 32 ++ l)))) = false := by
    unfold ruleT
    rw [c1, c2]
    cases d with
    | nil => exact absurd rfl hd
    | cons y d =>
      have := isD_no (hD y (by simp))
      rw [List.cons_append]
      dsimp only
      rw [this.2.2.1]
      simp
  have hdig : digT (d ++ (sg :: (List.replicate gap 32 ++ l))) = d := by
    have := digT_at (l := d ++ (sg :: (List.replicate gap 32 ++ l))) (p := d.length) hd9 (by simp) (by simpa using hD) (.inr (.inr ⟨sg, by simp, by rcases hs with rfl | rfl <;> decide⟩))
    simpa using this
  obtain ⟨r1, r2⟩ := rowT_rep 32 gap l hl32
  have hll : 1 ≤ l.length := by cases l with | nil => exact absurd rfl hl | cons => simp
  have hgap : gapT (List.replicate gap 32 ++ l) = if 4 < gap then 1 else gap := by
    unfold gapT
    rw [r1]
    by_cases h4 : 4 < gap
    · rw [if_pos (.inl h4), if_pos h4]
    · rw [if_neg, if_neg h4]
      rintro (h | h)
      · exact h4 h
      · rw [List.length_append, List.length_replicate] at h; omega
  have hdrop : (List.replicate gap (32 : UInt8) ++ l).drop (min (if 4 < gap then 1 else gap) (List.replicate gap (32 : UInt8) ++ l).length) = if 4 < gap then List.replicate (gap - 1) 32 ++ l else l := by
    by_cases h4 : 4 < gap
    · rw [if_pos h4, if_pos h4]
      obtain ⟨k, rfl⟩ : ∃ k, gap = k + 1 := ⟨gap - 1, by omega⟩
      rw [show min 1 (List.replicate (k + 1) (32 : UInt8) ++ l).length = 1 by simp; omega]
      rw [List.replicate_succ]; simp
    · rw [if_neg h4, if_neg h4, show min gap (List.replicate gap (32 : UInt8) ++ l).length = gap by simp]
      exact r2
  have hsg : signOk d.length sg = true := by
    unfold signOk
    rw [if_neg (by omega)]
    rcases hs with rfl | rfl <;> rfl
  unfold itemT
  dsimp only
  rw [c1, c2, hdig, hr, if_pos ⟨hb, by simp⟩, List.drop_left]
  dsimp only
  rw [show (if d.length = 0 then [45, 43, 42].contains sg else (sg == 46 || sg == 41)) = true from hsg, hgap, hdrop, if_neg (by omega : ¬ d.length = 0)]
  refine if_pos ⟨rfl, .inr ?_⟩
  obtain ⟨k, rfl⟩ : ∃ k, gap = k + 1 := ⟨gap - 1, by omega⟩
  rfl

set_option maxHeartbeats 4000000 in
set_option maxRecDepth 100000 in
theorem markItems_walk (num bl gap : Int) (s : ByteArray) (br : Bool) (w : World) (_ : (Lit.int .i64 num).wf = true) (_ : (Lit.int .i64 bl).wf = true) (_ : (Lit.int .i64 gap).wf = true) (_ : s.size ≤ 140737488351232) :
    Calls Tryd.prog 5 #[.int .i64 num, .int .i64 bl, .int .i64 gap, .string s, .bool br] w fun e w' => e = .returned (.bool true) ∧ Below w.heap.size w w' := by
  by_cases hin : (0 ≤ num ∧ num ≤ 999999999 ∧ 0 ≤ bl ∧ bl ≤ 3 ∧ 1 ≤ gap ∧ gap ≤ 8 ∧ s.size ≤ 40) ∧ ∃ h : 0 < s.size, ¬ s[0]'h = 32
  · obtain ⟨⟨h1, h2, h3, h4, h5, h6, h7⟩, h8, h9⟩ := hin
    obtain ⟨num, rfl⟩ := Int.eq_ofNat_of_zero_le (a := num) (by omega)
    obtain ⟨bl, rfl⟩ := Int.eq_ofNat_of_zero_le (a := bl) (by omega)
    obtain ⟨gap, rfl⟩ := Int.eq_ofNat_of_zero_le (a := gap) (by omega)
    obtain ⟨sg, hc⟩ : ∃ c : UInt8, c = if br then 41 else 46 := ⟨_, rfl⟩
    have hc2 : sg = 46 ∨ sg = 41 := by cases br <;> simp_all
    have HCC := Lib.hid hc
    have HC2 := Lib.hid hc2
    obtain ⟨t1, t2, t3⟩ := bytes_some (a := s) (by omega)
    have q32 : (((s[0]'h8).toNat : Int) == 32) = false := byte_ne (n := 32) (by decide) h9
    have HL : Hid (L s ≠ [] ∧ ∀ x, (L s).head? = some x → x ≠ 32) := Lib.hid (by
      have hl : 0 < (L s).length := by simpa using h8
      refine ⟨fun e => by rw [e] at hl; simp at hl, fun x hx => ?_⟩
      rw [List.head?_eq_getElem?, List.getElem?_eq_getElem hl] at hx
      injection hx with hx
      rw [← hx, ← get_L s 0 h8]; exact h9)
    clear hc hc2 h9
    go_enter Tryd.func5, Tryd.ntmps5
    go_wp2_with fail
    refine (alive_any _).mono ?_
    rintro e w1 ⟨rfl, b1⟩
    have z1 := b1.size
    go_wp2_with fail
    go_loop [11, 13] (fun s11 s13 => ∃ k : Nat, k ≤ bl ∧ s13 = .int .i64 k ∧ s11 = .string (S (List.replicate k 32))) (fun _ s13 => bl - (intOf s13).toNat)
    case atStart => exact ⟨0, Nat.zero_le _, rfl, rfl⟩
    case round =>
      obtain ⟨k, hk, rfl, rfl⟩ := hrel
      by_cases hlt : k < bl
      · have HR := Lib.hid (rep_succ k 32)
        go_wp2_with fail
        go_round
        case rel => exact ⟨k + 1, by omega, by go_num, by rw [HR.out]⟩
        case measure => simp [intOf]; omega
      · have hkn : k = bl := by omega
        subst hkn
        obtain ⟨t, ht⟩ : ∃ t, S (List.replicate k 32) = t := ⟨_, rfl⟩
        have hts : t.size ≤ 3 := by rw [← ht]; simp; omega
        have HTL : Hid (L t = List.replicate k 32) := Lib.hid (by rw [← ht, L_S])
        rw [ht]
        clear ht hlt
        go_wp2_with fail
        go_loopw [12, 14] (fun s12 s14 wr => ∃ (v : Nat) (dl : List UInt8), s14 = .int .i64 v ∧ s12 = .string (S dl) ∧ (∀ x ∈ dl, isD x = true) ∧ v * 10 ^ dl.length + valT dl = num ∧ dl.length ≤ 9 ∧ Below w.heap.size w wr)
          (fun s12 s14 _ => (intOf s14).toNat + (match s12 with | .string x => (if x.size = 0 then 1 else 0) | _ => 0))
        case atStart => exact ⟨num, [], rfl, rfl, by simp, by simp [valT], by simp, b1⟩
        case round =>
          obtain ⟨v, dl, rfl, rfl, hD, hval, hl9, hbw⟩ := hrel
          have hv9 : v ≤ 999999999 := by
            have h1 : v * 1 ≤ v * 10 ^ dl.length := Nat.mul_le_mul_left _ (Nat.one_le_pow _ _ (by decide))
            omega
          have hzw := hbw.size
          by_cases hgo : 0 < v ∨ dl = []
          · have hl8 : dl.length ≤ 8 := by
              rcases hgo with h | h
              · rcases Nat.lt_or_ge dl.length 9 with h9 | h9
                · omega
                · have e9 : dl.length = 9 := by omega
                  rw [e9] at hval
                  have h10 : (10 : Nat) ^ 9 = 1000000000 := by decide
                  rw [h10] at hval
                  omega
              · rw [h]; simp
            obtain ⟨b, hb⟩ : ∃ b : UInt8, b.toNat = 48 + v % 10 := ⟨(48 + v % 10).toUInt8, by simp; omega⟩
            have hbi : (b.toNat : Int) = 48 + (v : Int) % 10 := by omega
            have HD2 : Hid (∀ x ∈ b :: dl, isD x = true) := Lib.hid (fun x hx => by
              rcases List.mem_cons.1 hx with rfl | hx
              · simp [isD]; omega
              · exact hD x hx)
            have HV2 : Hid (v / 10 * 10 ^ (b :: dl).length + valT (b :: dl) = num) := Lib.hid (by
              rw [valT_cons, hb, List.length_cons, Nat.pow_succ, show 48 + v % 10 - 48 = v % 10 by omega, ← hval, ← Nat.add_assoc]
              congr 1
              have e := Nat.div_add_mod v 10
              calc v / 10 * (10 ^ dl.length * 10) + v % 10 * 10 ^ dl.length = (10 * (v / 10) + v % 10) * 10 ^ dl.length := by
                    rw [Nat.add_mul, Nat.mul_comm (10 ^ dl.length) 10, ← Nat.mul_assoc, Nat.mul_comm (v / 10) 10]
                _ = v * 10 ^ dl.length := by rw [e])
            have HS2 : Hid (S [b] ++ S dl = S (b :: dl)) := Lib.hid (by apply L_inj; rw [L_append, L_S, L_S, L_S]; rfl)
            have hcv := convert_byte b wr
            rw [hbi] at hcv
            have hs1 : (S [b]).size = 1 := rfl
            have hds : (S dl).size = dl.length := by simp
            have HM : Hid (v / 10 + (if (S (b :: dl)).size = 0 then 1 else 0) < v + (if (S dl).size = 0 then 1 else 0)) := Lib.hid (by
              rw [if_neg (by simp)]
              by_cases h0 : 0 < v
              · have : v / 10 < v := Nat.div_lt_self h0 (by decide)
                split <;> omega
              · rcases hgo with h | h
                · exact absurd h h0
                · subst h
                  rw [if_pos (by simp)]
                  omega)
            have HQ : Hid ((0 < v) ∨ (v = 0 ∧ dl = [])) := Lib.hid (by
              by_cases h0 : 0 < v
              · exact .inl h0
              · exact .inr ⟨by omega, hgo.resolve_left h0⟩)
            have hdm : (S dl).size ≤ 8 := by omega
            have hz0 : dl = [] → S dl = ⟨#[]⟩ := fun e => by rw [e]; rfl
            obtain ⟨B, hB⟩ : ∃ B, S [b] = B := ⟨_, rfl⟩
            rw [hB] at hcv hs1 HS2
            have HBB := Lib.hid hB
            clear hB hgo hval hD hds hl9
            rcases HQ.out with h0 | ⟨h0, hdl⟩
            · have q1 : decide (0 < (v : Int)) = true := decide_eq_true (by omega)
              generalize hx : S dl = x at *
              have HX := Lib.hid hx
              clear hx hz0 HQ
              go_wp2_with fail
              go_roundw
              case rel => exact ⟨v / 10, b :: dl, by go_num, by rw [← HS2.out], HD2.out, HV2.out, by simp; omega, hbw.alloc hzw _⟩
              case measure =>
                have := HM.out
                rw [← HS2.out] at this
                simpa [intOf, show ((v : Int) / 10).toNat = v / 10 by omega] using this
            · have e := hz0 hdl
              subst hdl
              subst h0
              have HE : Hid (S ([] : List UInt8) = ⟨#[]⟩) := Lib.hid rfl
              rw [HE.out] at HS2 HM ⊢
              have hbi0 : (b.toNat : Int) = 48 := by omega
              clear hz0 HQ e hdm hcv
              have hcv := convert_byte b wr
              rw [hbi0, HBB.out] at hcv
              go_wp2_with fail
              go_roundw
              case rel => exact ⟨0, [b], by go_num, by rw [← HS2.out], HD2.out, HV2.out, by simp, hbw.alloc hzw _⟩
              case measure =>
                have := HM.out
                rw [← HS2.out] at this
                simpa [intOf] using this
          · have h0 : v = 0 := by omega
            have hne : dl ≠ [] := fun e => hgo (.inr e)
            subst h0
            rw [Nat.zero_mul, Nat.zero_add] at hval
            generalize wr = w2 at *
            have HLAW : Hid (itemT (L (t ++ S dl ++ ⟨#[sg]⟩ ++ S (List.replicate gap 32) ++ s)) = some (sg, (num : Int), k + dl.length + 1 + (if 4 < gap then 1 else gap), if 4 < gap then List.replicate (gap - 1) 32 ++ L s else L s)) := Lib.hid (by
              rw [L_append, L_append, L_append, L_append, HTL.out, L_S, L_S, L_lit, ← hval]
              have := item_law (b := k) (gap := gap) (d := dl) (l := L s) (sg := sg) (by omega) hne hD hl9 HC2.out (by omega) HL.out.1 HL.out.2
              simpa using this)
            have HA : Hid (∀ c r, restT (L (t ++ S dl ++ ⟨#[sg]⟩ ++ S (List.replicate gap 32) ++ s)) = c :: r → c.toNat < 128) := Lib.hid (by
              rw [L_append, L_append, L_append, L_append, HTL.out, L_S, L_S, L_lit]
              intro c r e
              have hn : NoBlank (dl ++ (sg :: (List.replicate gap 32 ++ L s))) := fun x hx => by
                have := isD_no (isD_head hD hne hx)
                exact ⟨this.1, this.2.1⟩
              have e2 := (col_blanks (n := k) hn).2
              have e3 : List.replicate k (32 : UInt8) ++ dl ++ [sg] ++ List.replicate gap 32 ++ L s = List.replicate k 32 ++ (dl ++ (sg :: (List.replicate gap 32 ++ L s))) := by simp
              rw [e3, e2] at e
              exact (isD_no (isD_head (r := sg :: (List.replicate gap 32 ++ L s)) hD hne (by rw [e]; rfl))).2.2.2)
            have hds : (S dl).size = dl.length := by simp
            have hd1 : ¬ (S dl).size = 0 := fun e => hne (List.eq_nil_of_length_eq_zero (by omega))
            obtain ⟨u1, u2, u3⟩ := bytes_some hd1
            have hdm : (S dl).size ≤ 9 := by omega
            have HDS : Hid (dl.length = (S dl).size) := Lib.hid hds.symm
            obtain ⟨D, hDD⟩ : ∃ D, S dl = D := ⟨_, rfl⟩
            have hlaw := HLAW.out
            have ha := HA.out
            rw [hDD] at hlaw ha u1 u2 u3 hdm HDS ⊢
            rw [HDS.out] at hlaw
            clear HLAW HA hds hd1 hDD HDS hD hval hgo hne hl9
            have HLAW := Lib.hid hlaw
            have HA := Lib.hid ha
            clear hlaw ha
            have q0 : decide ((0 : Int) < 0) = false := rfl
            go_upto_if 90 with fail
            go_cut [15] (fun s15 wx => s15 = .string ⟨#[sg]⟩ ∧ wx = w2)
            case first =>
              have e1 := HCC.out
              cases br
              all_goals
                simp only [if_true, if_false, Bool.false_eq_true] at e1
                subst e1
                go_wp2_with fail
                go_meet
                exact ⟨rfl, rfl⟩
            case rest =>
              obtain ⟨rfl, rfl⟩ := hcut
              generalize wc = w2 at *
              go_wp2_with fail
              go_loop [16, 17] (fun s16 s17 => ∃ i : Nat, i ≤ gap ∧ s17 = .int .i64 i ∧ s16 = .string (S (List.replicate i 32))) (fun _ s17 => gap - (intOf s17).toNat)
              case atStart => exact ⟨0, Nat.zero_le _, rfl, rfl⟩
              case round =>
                obtain ⟨i, hi, rfl, rfl⟩ := hrel
                by_cases hlt : i < gap
                · have HR := Lib.hid (rep_succ i 32)
                  go_wp2_with fail
                  go_round
                  case rel => exact ⟨i + 1, by omega, by go_num, by rw [HR.out]⟩
                  case measure => simp [intOf]; omega
                · have hig : i = gap := by omega
                  subst hig
                  have hgs : (S (List.replicate i 32)).size = i := by simp
                  have hgx : (S (List.replicate i 32)).extract 1 (S (List.replicate i 32)).size ++ s = S (List.replicate (i - 1) 32 ++ L s) := by
                    rw [S_drop]
                    apply L_inj
                    rw [L_append, L_S, L_S, List.drop_replicate]
                  have hgm : (S (List.replicate i 32)).size ≤ 8 := by omega
                  have hgm1 : 1 ≤ (S (List.replicate i 32)).size := by omega
                  obtain ⟨G, hG⟩ : ∃ G, S (List.replicate i 32) = G := ⟨_, rfl⟩
                  have hlaw := HLAW.out
                  have ha := HA.out
                  rw [hG] at hlaw ha hgx hgm hgm1 ⊢
                  clear HLAW HA hgs hG hlt
                  have HLAW := Lib.hid hlaw
                  have HA := Lib.hid ha
                  have HS : Hid (S (L s) = s) := Lib.hid (S_L s)
                  have HGX := Lib.hid hgx
                  have g : ∀ (h : 0 < (⟨#[sg]⟩ : ByteArray).size), (⟨#[sg]⟩ : ByteArray)[0]'h = sg := fun _ => rfl
                  clear hlaw ha HCC HC2 hgx
                  go_wp2_with fail
                  refine (item_any _ _ (by simp [ByteArray.size_append, size_lit]; omega) (fun _ => HA.out)).mono ?_
                  rintro e w3 ⟨rfl, b3⟩
                  rw [HLAW.out]
                  have bb3 := hbw.trans (b3.mono hzw)
                  clear b3
                  by_cases h4 : 4 < i
                  · rw [if_pos h4, if_pos h4]
                    simp only [itemV]
                    have hgx := HGX.out
                    generalize S (List.replicate (i - 1) 32 ++ L s) = P at *
                    have r1 : (1 : Int) ≤ (G.size : Int) := by omega
                    have r2 : ¬ 9223372036854775807 < (G.extract 1 G.size).size + s.size := by rw [ByteArray.size_extract]; omega
                    go_wp2_with fail
                    go_quiet (fail)
                    generalize hwq : w3.drewN nq = wd at *
                    have bbd : Below w.heap.size w wd := by rw [← hwq]; exact below_drewN' bb3 nq
                    clear hwq
                    go_wp2_with fail
                    go_ret
                    exact ⟨rfl, bbd⟩
                  · rw [if_neg h4, if_neg h4]
                    simp only [itemV]
                    rw [HS.out]
                    have q4 : decide (4 < (i : Int)) = false := decide_eq_false (by omega)
                    go_wp2_with fail
                    go_ret
                    exact ⟨rfl, bb3⟩
  · have hcs : num < 0 ∨ (0 ≤ num ∧ 999999999 < num) ∨ (0 ≤ num ∧ num ≤ 999999999 ∧ bl < 0) ∨ (0 ≤ num ∧ num ≤ 999999999 ∧ 0 ≤ bl ∧ 3 < bl) ∨ (0 ≤ num ∧ num ≤ 999999999 ∧ 0 ≤ bl ∧ bl ≤ 3 ∧ gap < 1) ∨
        (0 ≤ num ∧ num ≤ 999999999 ∧ 0 ≤ bl ∧ bl ≤ 3 ∧ 1 ≤ gap ∧ 8 < gap) ∨ (0 ≤ num ∧ num ≤ 999999999 ∧ 0 ≤ bl ∧ bl ≤ 3 ∧ 1 ≤ gap ∧ gap ≤ 8 ∧ 40 < s.size) ∨
        (0 ≤ num ∧ num ≤ 999999999 ∧ 0 ≤ bl ∧ bl ≤ 3 ∧ 1 ≤ gap ∧ gap ≤ 8 ∧ s.size ≤ 40 ∧ s = ⟨#[]⟩) ∨ (0 ≤ num ∧ num ≤ 999999999 ∧ 0 ≤ bl ∧ bl ≤ 3 ∧ 1 ≤ gap ∧ gap ≤ 8 ∧ s.size ≤ 40 ∧ ∃ h : 0 < s.size, s[0]'h = 32) := by
      rcases (by omega : num < 0 ∨ (0 ≤ num ∧ 999999999 < num) ∨ (0 ≤ num ∧ num ≤ 999999999 ∧ bl < 0) ∨ (0 ≤ num ∧ num ≤ 999999999 ∧ 0 ≤ bl ∧ 3 < bl) ∨ (0 ≤ num ∧ num ≤ 999999999 ∧ 0 ≤ bl ∧ bl ≤ 3 ∧ gap < 1) ∨
        (0 ≤ num ∧ num ≤ 999999999 ∧ 0 ≤ bl ∧ bl ≤ 3 ∧ 1 ≤ gap ∧ 8 < gap) ∨ (0 ≤ num ∧ num ≤ 999999999 ∧ 0 ≤ bl ∧ bl ≤ 3 ∧ 1 ≤ gap ∧ gap ≤ 8 ∧ 40 < s.size) ∨ (0 ≤ num ∧ num ≤ 999999999 ∧ 0 ≤ bl ∧ bl ≤ 3 ∧ 1 ≤ gap ∧ gap ≤ 8 ∧ s.size ≤ 40)) with h | h | h | h | h | h | h | ⟨a1, a2, a3, a4, a5, a6, a7⟩
      · exact .inl h
      · exact .inr (.inl h)
      · exact .inr (.inr (.inl h))
      · exact .inr (.inr (.inr (.inl h)))
      · exact .inr (.inr (.inr (.inr (.inl h))))
      · exact .inr (.inr (.inr (.inr (.inr (.inl h)))))
      · exact .inr (.inr (.inr (.inr (.inr (.inr (.inl h))))))
      · by_cases h0 : s.size = 0
        · exact .inr (.inr (.inr (.inr (.inr (.inr (.inr (.inl ⟨a1, a2, a3, a4, a5, a6, a7, bytes_none h0⟩)))))))
        · have hlt : 0 < s.size := by omega
          by_cases h32 : s[0]'hlt = 32
          · exact .inr (.inr (.inr (.inr (.inr (.inr (.inr (.inr ⟨a1, a2, a3, a4, a5, a6, a7, hlt, h32⟩)))))))
          · exact absurd ⟨⟨a1, a2, a3, a4, a5, a6, a7⟩, hlt, h32⟩ hin
    clear hin
    rcases hcs with h | ⟨a1, a2⟩ | ⟨a1, a2, a3⟩ | ⟨a1, a2, a3, a4⟩ | ⟨a1, a2, a3, a4, a5⟩ | ⟨a1, a2, a3, a4, a5, a6⟩ | ⟨a1, a2, a3, a4, a5, a6, a7⟩ | ⟨a1, a2, a3, a4, a5, a6, a7, rfl⟩ | ⟨a1, a2, a3, a4, a5, a6, a7, a8, a9⟩
    case' inr.inr.inr.inr.inr.inr.inr.inr => obtain ⟨t1, t2, t3⟩ := bytes_some (a := s) (by omega)
    all_goals
      go_enter Tryd.func5, Tryd.ntmps5
      go_wp2_with fail
      refine (alive_any _).mono ?_
      rintro e w1 ⟨rfl, b1⟩
      go_wp2_with fail
      go_ret
      exact ⟨rfl, b1⟩
end Go.Proofs.YtclhgbokhbfnbaaDoor
