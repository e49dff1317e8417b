/-
  bowdlerlaw14.EmphKeeps: its walk: it answers true, and turns nothing that was there.
-/
import Derived.Test.YtlpkfeapgpkkhaaAliveE
import Derived.Test.YtlpkfeapgpkkhaaOpenInls
namespace Go.Proofs.Ytlpkfeapgpkkhaa
open Go.RowKit

/-- rows alone -/
def RowOk (p : Pc) : Prop := (p.sign = 42 ∨ p.sign = 95) ∧ 0 ≤ p.n ∧ p.n ≤ 20
theorem rowOk_sign {p : Pc} (h : RowOk p) : p.sign ≠ 0 := by
  rcases h.1 with h | h <;> rw [h] <;> decide
theorem rows_ginv {its : List Pc} (h : ∀ p ∈ its, RowOk p) (hf : ∀ p ∈ its, p.left = max p.n 0) (hl : its.length ≤ 60) : GInv 1048576 1152921504606846976 its ∧ lefts its ≤ 20 * its.length := by
  have hs : nods its ≤ its.length ∧ txts its ≤ 20 * its.length ∧ lefts its ≤ 20 * its.length := by
    clear hl
    induction its with
    | nil => exact ⟨Nat.zero_le _, Nat.zero_le _, Nat.zero_le _⟩
    | cons p its ih =>
      obtain ⟨i1, i2, i3⟩ := ih (fun q hq => h q (by simp [hq])) (fun q hq => hf q (by simp [hq]))
      obtain ⟨_, p1, p2⟩ := h p (by simp)
      have p3 := hf p (by simp)
      have e := pcNodes_row (rowOk_sign (h p (by simp)))
      have e1 : (pcNodes p).length ≤ 1 := by rw [e]; split <;> simp
      have e2 : txtLen (pcNodes p) ≤ 20 := by
        rw [e]; split
        · simp [txtLen, pcText]; omega
        · simp [txtLen]
      rw [nods_cons, txts_cons, lefts_cons, List.length_cons]
      omega
  obtain ⟨h1, h2, h3⟩ := hs
  refine ⟨⟨fun p hp => ?_, by omega, by omega, by omega⟩, h3⟩
  obtain ⟨_, p1, p2⟩ := h p hp
  have p3 := hf p hp
  refine ⟨by omega, by omega, ?_⟩
  unfold PcFit
  omega
theorem group_len {its : List Pc} {K T : Nat} (hg : GInv K T its) : (groupT its).length ≤ K ∧ txtLen (groupT its) ≤ T := by
  obtain ⟨_, _, h3, h4⟩ := gRun_ind (Inv := GInv K T) (fun ps i hi h => gStep_inv h hi) (gMeas its 0 + 1) _ 0 (GInv_map_era hg)
  unfold groupT
  refine ⟨Nat.le_trans (mergeT_len _) ?_, Nat.le_trans (mergeT_txt _) h4⟩
  unfold nods at h3
  omega
theorem lefts_take (its : List Pc) {k : Nat} {x : Pc} (hx : its[k]? = some x) : lefts (its.take (k + 1)) = lefts (its.take k) + x.left.toNat := by
  rw [List.take_add_one, hx, Option.toList_some, lefts_append, lefts_cons]; rfl
theorem lefts_take_le (its : List Pc) (k : Nat) : lefts (its.take k) ≤ lefts its := by
  conv => rhs; rw [← List.take_append_drop k its, lefts_append]
  omega
theorem wtT_take (l : List Inl) {k : Nat} {x : Inl} (hx : l[k]? = some x) : wtT (l.take (k + 1)) = wtT (l.take k) + wtI x := by
  rw [List.take_add_one, hx, Option.toList_some, wtT_append, wtT_cons]; rfl
theorem wtT_take_le (l : List Inl) (k : Nat) : wtT (l.take k) ≤ wtT l := by
  conv => rhs; rw [← List.take_append_drop k l, wtT_append]
  omega
theorem all_take {its : List Pc} {k : Nat} {x : Pc} {P : Pc → Prop} (h : ∀ p ∈ its.take k, P p) (hx : its[k]? = some x) (h1 : P x) : ∀ p ∈ its.take (k + 1), P p := by
  intro p hp
  rw [List.take_add_one, hx] at hp
  simp only [Option.toList_some, List.mem_append, List.mem_singleton] at hp
  rcases hp with hp | rfl
  · exact h p hp
  · exact h1

set_option maxHeartbeats 4000000 in
set_option maxRecDepth 100000 in
theorem emphKeeps_walk (A : Option Addr) (n c : Nat) (its : List Pc) (w : World) (hw : Reads w w.heap.size 5 A n (its.flatMap itCells) ∧ ∀ x ∈ its, itemFit w x) :
    Calls Try.prog 4 #[.slice A n c] w fun e w' => e = .returned (.bool true) ∧ Below w.heap.size w w' := by
  obtain ⟨hr, hfit⟩ := hw
  have hlen : its.length = n := by have := hr.1; rw [items_length] at this; omega
  have HL := Lib.hid hlen
  have HF := Lib.hid hfit
  clear hlen hfit
  by_cases hbig : 30 < n
  · go_enter Try.func4, Try.ntmps4
    go_wp2_with fail
    refine (alive_any _).mono ?_
    rintro e w1 ⟨rfl, b1⟩
    go_wp2_with fail
    go_ret
    exact ⟨rfl, b1⟩
  · go_enter Try.func4, Try.ntmps4
    go_wp2_with fail
    refine (alive_any _).mono ?_
    rintro e w1 ⟨rfl, b1⟩
    have z1 := b1.size
    go_wp2_with fail
    go_loop [3, 18] (fun s3 i => ∃ k : Nat, k ≤ n ∧ i = .int .i64 k ∧ s3 = .int .i64 (lefts (its.take k) : Int) ∧ ∀ p ∈ its.take k, RowOk p) (fun _ i => n - (intOf i).toNat)
    case atStart => exact ⟨0, Nat.zero_le _, rfl, rfl, by simp⟩
    case round =>
      obtain ⟨k, hk, rfl, rfl, hok⟩ := hrel
      have HOK := Lib.hid hok
      clear hok
      by_cases hlt : k < n
      · obtain ⟨x, hx⟩ : ∃ x, its[k]? = some x := ⟨_, List.getElem?_eq_getElem (by rw [HL.out]; omega)⟩
        obtain ⟨ad, rfl, _, _, g0, g1, g2, g3, g4⟩ := (hr.below b1).it hx
        by_cases hs : x.sign = 42 ∨ x.sign = 95
        · by_cases hn : 0 ≤ x.n ∧ x.n ≤ 20
          · have HOK2 := Lib.hid (all_take HOK.out hx ⟨hs, hn⟩)
            have hle : lefts (its.take k) ≤ 20 * k := by
              have := (rows_ginv HOK.out (fun p hp => (HF.out p (List.mem_of_mem_take hp)).2.1) (by have := List.length_take_le k its; omega)).2
              have h2 := List.length_take_le k its
              omega
            have hxl : x.left.toNat = x.n.toNat := by have := (HF.out x (List.mem_of_getElem? hx)).2.1; omega
            have HS := Lib.hid (lefts_take its hx)
            have HXL := Lib.hid hxl
            clear hx hxl
            generalize lefts (its.take k) = s at *
            obtain ⟨n1, n2⟩ := hn
            rcases hs with hs | hs
            all_goals
              rw [hs] at g0
              clear hs
              go_wp2_with fail
              go_round
              case rel => exact ⟨k + 1, by omega, by go_num, by rw [HS.out, HXL.out]; exact congrArg (Value.int .i64) (by omega), HOK2.out⟩
              case measure => simp [intOf]; omega
          · have hs' : x.sign.toNat = 42 ∨ x.sign.toNat = 95 := by rcases hs with hs | hs <;> rw [hs] <;> simp
            have hn' : x.n < 0 ∨ (0 ≤ x.n ∧ 20 < x.n) := by omega
            clear hn hx
            rcases hs with hs | hs
            all_goals
              rw [hs] at g0
              clear hs
              rcases hn' with hn' | hn'
              all_goals
                go_wp2_with fail
                go_ret
                exact ⟨rfl, b1⟩
        · simp only [not_or] at hs
          have q1 : ((x.sign.toNat : Int) != 42) = true := by rw [bne_iff_ne]; intro h; exact hs.1 (UInt8.toNat_inj.1 (by simp; omega))
          have q2 : ((x.sign.toNat : Int) != 95) = true := by rw [bne_iff_ne]; intro h; exact hs.2 (UInt8.toNat_inj.1 (by simp; omega))
          clear hs hx
          go_wp2_with fail
          go_ret
          exact ⟨rfl, b1⟩
      · have hkn : k = n := by omega
        subst hkn
        have hta : its.take k = its := List.take_of_length_le (by rw [HL.out]; omega)
        have hok := HOK.out
        rw [hta] at hok ⊢
        clear HOK hta
        obtain ⟨hg, hle⟩ := rows_ginv hok (fun p hp => (HF.out p hp).2.1) (by rw [HL.out]; omega)
        have hkeep := group_keeps (GInv_map_era hg) (fun p hp => rowOk_sign (hok p hp))
        obtain ⟨hgl, _⟩ := group_len hg
        have HLE : lefts its ≤ 600 := by rw [HL.out] at hle; omega
        have HG := Lib.hid hg
        have HK := Lib.hid hkeep
        clear hg hkeep hok hle hlt
        go_wp2_with fail
        refine (group_any A k c its _ ((hr.below b1).more z1) (fun p hp => ((HF.out p hp).2.2.2.1.below b1).more z1) (fun p hp => ⟨(HF.out p hp).2.1, (HF.out p hp).2.2.1⟩) HG.out).mono ?_
        rintro e w2 ⟨A1, c1, rfl, hown, b2⟩
        have bb2 := b1.trans (b2.mono z1)
        have z2 := bb2.size
        generalize groupT its = l at *
        generalize lefts its = s at *
        have HO := Lib.hid hown.reads
        clear hown b2
        obtain ⟨hwn, hkin, hwt⟩ := HK.out
        have HW := Lib.hid hwn
        have HI := Lib.hid hkin
        have HT := Lib.hid hwt
        clear hwn hkin hwt HK HG
        go_wp2_with fail
        go_loopw [3, 5, 62] (fun s3 s5 i wr => ∃ (j : Nat) (d : Int), j ≤ l.length ∧ i = .int .i64 j ∧ s3 = .int .i64 ((s : Int) - (wtT (l.take j) : Int)) ∧ s5 = .int .i64 d ∧ WN 0 d (l.drop j) ∧ Below w2.heap.size w2 wr) (fun _ _ i _ => l.length - (intOf i).toNat)
        case atStart => exact ⟨0, 0, Nat.zero_le _, rfl, by simp [wtT], rfl, HW.out, Below.refl _ _⟩
        case round =>
          obtain ⟨j, d, hj, rfl, rfl, rfl, hd, hb⟩ := hrel
          have HD := Lib.hid hd
          clear hd
          by_cases hlt : j < l.length
          · obtain ⟨x, hx⟩ : ∃ x, l[j]? = some x := ⟨_, List.getElem?_eq_getElem hlt⟩
            obtain ⟨ad, rfl, _, _, g0, g1, g2, g3, g4⟩ := (HO.out.below hb).inl hx
            have hbs := hb.size
            have hxm := List.mem_of_getElem? hx
            have hdr : l.drop j = x :: l.drop (j + 1) := by rw [List.drop_eq_getElem_cons hlt, (List.getElem?_eq_some_iff.1 hx).2]
            have hdd := HD.out
            rw [hdr] at hdd
            obtain ⟨d1, d2, d3⟩ := hdd
            have d4 := (HW.out.bound x hxm).2
            have hts := wtT_take l hx
            have htl := wtT_take_le l (j + 1)
            rw [hts, HT.out] at htl
            have HTS := Lib.hid hts
            have hkx := HI.out x hxm
            have H3 := Lib.hid d3
            clear hx hxm hdr HD d3 hts
            generalize wtT (l.take j) = a at *
            rcases hkx with q | q | q
            · have e1 : wtI x = x.text.size := by unfold wtI; rw [if_pos q]
              have HE := Lib.hid e1
              rw [e1] at htl
              have HQ := Lib.hid q
              rw [q] at g0
              clear e1 q
              go_wp2_with fail
              go_roundw
              case rel => exact ⟨j + 1, x.depth, by omega, by go_num, by rw [HTS.out, HE.out]; exact congrArg (Value.int .i64) (by omega), rfl, by have := H3.out; rw [if_pos HQ.out] at this; simpa using this, hb.alloc hbs _⟩
              case measure => simp [intOf]; omega
            · have e1 : wtI x = 2 := by unfold wtI; rw [if_neg (by omega), if_pos q]
              have HE := Lib.hid e1
              rw [e1] at htl
              have HQ := Lib.hid q
              rw [q] at g0
              clear e1 q
              go_wp2_with fail
              go_roundw
              case rel => exact ⟨j + 1, x.depth + 1, by omega, by go_num, by rw [HTS.out, HE.out]; exact congrArg (Value.int .i64) (by omega), rfl, by have := H3.out; rw [if_neg (by rw [HQ.out]; decide)] at this; exact this, hb.alloc hbs _⟩
              case measure => simp [intOf]; omega
            · have e1 : wtI x = 4 := by unfold wtI; rw [if_neg (by omega), if_neg (by omega), if_pos q]
              have HE := Lib.hid e1
              rw [e1] at htl
              have HQ := Lib.hid q
              rw [q] at g0
              clear e1 q
              go_wp2_with fail
              go_roundw
              case rel => exact ⟨j + 1, x.depth + 1, by omega, by go_num, by rw [HTS.out, HE.out]; exact congrArg (Value.int .i64) (by omega), rfl, by have := H3.out; rw [if_neg (by rw [HQ.out]; decide)] at this; exact this, hb.alloc hbs _⟩
              case measure => simp [intOf]; omega
          · have hjl : j = l.length := by omega
            subst hjl
            have e0 : ((s : Int) - (wtT (l.take l.length) : Int)) = 0 := by rw [List.take_length, HT.out]; omega
            rw [e0]
            clear e0 HD HT HW HI HO
            go_wp2_with fail
            go_ret
            exact ⟨rfl, bb2.trans (hb.mono z2)⟩
end Go.Proofs.Ytlpkfeapgpkkhaa
