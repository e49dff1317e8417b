/-
  mark: the contracts of Heading, Under, Quote and Html.
-/
import Derived.Test.YtommebalgghdjaaDoorRuneB
namespace Go.Proofs.YtommebalgghdjaaDoor
open Go.RowKit

def headV : Option (Nat × List UInt8) → Value
  | none => .tuple #[.int .i64 0, .string ⟨#[]⟩, .bool false]
  | some (n, t) => .tuple #[.int .i64 n, .string (S t), .bool true]
theorem restT_of_le (s : ByteArray) : (restT (L s)).length ≤ s.size := by have := restT_le (L s); simpa using this
theorem S_drop (l : List UInt8) (n : Nat) : (S l).extract n (S l).size = S (l.drop n) := by
  apply L_inj; rw [L_extract, L_S, L_S, List.take_of_length_le (by simp)]
theorem S_at {l : List UInt8} {i : Nat} {b : UInt8} (h : i < (S l).size) (hb : l[i]? = some b) : (S l)[i]'h = b := by
  have hl : i < l.length := by simpa using h
  have : l[i]'hl = b := by rw [List.getElem?_eq_getElem hl] at hb; exact Option.some.inj hb
  exact this

theorem trimRightB_mem {l : List UInt8} {c b : UInt8} (h : b ∈ Lib.trimRightB l c) : b ∈ l := by
  unfold Lib.trimRightB at h
  have := (List.dropWhile_sublist _).subset (List.mem_reverse.1 h)
  simpa using this
theorem trimRightB_len (l : List UInt8) (c : UInt8) : (Lib.trimRightB l c).length ≤ l.length := by
  unfold Lib.trimRightB
  have := (List.dropWhile_sublist (fun x => x == c) (l := l.reverse)).length_le
  simpa using this
theorem trimS_mem {l cs : List UInt8} {b : UInt8} (h : b ∈ Lib.trimS l cs) : b ∈ l := by
  unfold Lib.trimS Lib.trimLeftS Lib.trimRightS at h
  have h1 := (List.dropWhile_sublist _).subset h
  have := (List.dropWhile_sublist _).subset (List.mem_reverse.1 h1)
  simpa using this
theorem trimS_len (l cs : List UInt8) : (Lib.trimS l cs).length ≤ l.length := by
  unfold Lib.trimS Lib.trimLeftS Lib.trimRightS
  have h1 := (List.dropWhile_sublist (fun x => cs.contains x) (l := (List.dropWhile (fun x => cs.contains x) l.reverse).reverse)).length_le
  have h2 := (List.dropWhile_sublist (fun x => cs.contains x) (l := l.reverse)).length_le
  simp only [List.length_reverse] at h1 h2
  omega

theorem blk (b : UInt8) : (L ⟨#[32, 9]⟩).contains b = isB b := by
  rw [L_lit]; unfold isB; by_cases h1 : b = 32 <;> by_cases h2 : b = 9 <;> simp [h1, h2]

set_option maxHeartbeats 2000000 in
set_option maxRecDepth 100000 in
theorem heading_any (s : ByteArray) (w : World) (hs : s.size ≤ 1048576) :
    Calls Tryd.prog 42 #[.string s] w fun e w' => e = .returned (headV (headingT (L s))) ∧ Below w.heap.size w w' := by
  have hle := restT_of_le s
  obtain ⟨xl, hx⟩ : ∃ xl, restT (L s) = xl := ⟨_, rfl⟩
  obtain ⟨k, hk⟩ : ∃ k, colT 0 (L s) = k := ⟨_, rfl⟩
  obtain ⟨n, hn⟩ : ∃ n, rowT 35 xl = n := ⟨_, rfl⟩
  obtain ⟨r, hr⟩ : ∃ r, xl.drop n = r := ⟨_, rfl⟩
  have hnl : n ≤ xl.length := by rw [← hn]; exact rowT_le _ _
  have hd : headingT (L s) = if k ≤ 3 ∧ 1 ≤ n ∧ n ≤ 6 ∧ (r = [] ∨ r.head?.any isB = true) then some (n, restR n (Lib.trimS r [32, 9])) else none := by
    unfold headingT; rw [hx, hk, hn]; dsimp only; rw [hr]
  rw [hx] at hle
  have hrl : r.length ≤ xl.length := by rw [← hr]; simp
  have hrm : ∀ b ∈ r, b ∈ xl := fun b hb => by rw [← hr] at hb; exact List.mem_of_mem_drop hb
  have hcs : (¬ k ≤ 3 ∧ headingT (L s) = none) ∨ (k ≤ 3 ∧ n < 1 ∧ headingT (L s) = none) ∨ (k ≤ 3 ∧ 1 ≤ n ∧ 6 < n ∧ headingT (L s) = none) ∨
      (k ≤ 3 ∧ 1 ≤ n ∧ n ≤ 6 ∧ (∃ b t, r = b :: t ∧ isB b = false) ∧ headingT (L s) = none) ∨
      (k ≤ 3 ∧ 1 ≤ n ∧ n ≤ 6 ∧ (r = [] ∨ ∃ b t, r = b :: t ∧ isB b = true) ∧ headingT (L s) = some (n, restR n (Lib.trimS r [32, 9]))) := by
    by_cases h1 : k ≤ 3
    · by_cases h2 : 1 ≤ n
      · by_cases h3 : n ≤ 6
        · cases r with
          | nil => exact .inr (.inr (.inr (.inr ⟨h1, h2, h3, .inl rfl, by rw [hd, if_pos ⟨h1, h2, h3, .inl rfl⟩]⟩)))
          | cons b t =>
            by_cases h4 : isB b = true
            · exact .inr (.inr (.inr (.inr ⟨h1, h2, h3, .inr ⟨b, t, rfl, h4⟩, by rw [hd, if_pos ⟨h1, h2, h3, .inr (by simpa using h4)⟩]⟩)))
            · exact .inr (.inr (.inr (.inl ⟨h1, h2, h3, ⟨b, t, rfl, by simpa using h4⟩, by rw [hd, if_neg]; rintro ⟨_, _, _, h | h⟩; cases h; exact h4 (by simpa using h)⟩)))
        · exact .inr (.inr (.inl ⟨h1, h2, by omega, by rw [hd, if_neg fun h => h3 h.2.2.1]⟩))
      · exact .inr (.inl ⟨h1, by omega, by rw [hd, if_neg fun h => h2 h.2.1]⟩)
    · exact .inl ⟨h1, by rw [hd, if_neg fun h => h1 h.1]⟩
  obtain ⟨V, hV⟩ : ∃ V, headingT (L s) = V := ⟨_, rfl⟩
  rw [hV] at hcs ⊢
  have HX := Lib.hid hx
  have HK := Lib.hid hk
  have HN := Lib.hid hn
  have hRx : (S xl).extract n (S xl).size = S r := by rw [S_drop, hr]
  have hXs : (S xl).size = xl.length := by simp
  have hXL : rowT 35 (L (S xl)) = n := by rw [L_S]; exact hn
  have HXL := Lib.hid hXL
  have hRs : (S r).size = r.length := by simp
  have HRL : Hid (L (S r) = r) := Lib.hid (by simp)
  have hR0 : ∀ b t, r = b :: t → ∃ h : 0 < (S r).size, (S r)[0]'h = b := fun b t e => ⟨by rw [hRs, e]; simp, S_at _ (by rw [e]; rfl)⟩
  have hRz : r = [] → S r = ⟨#[]⟩ := fun e => by rw [e]; rfl
  have HRR : Hid (S r = S r) := Lib.hid rfl
  have HXX : Hid (S (restT (L s)) = S xl) := Lib.hid (by rw [HX.out])
  clear hXL
  generalize S xl = X at *
  generalize S r = R at *
  have hXn : n ≤ X.size := by omega
  have hXm : X.size ≤ 1048576 := by omega
  have hRm : R.size ≤ 1048576 := by omega
  clear hd hx hk hn hr hXs hV HRR
  go_enter Tryd.func42, Tryd.ntmps42
  go_wp2_with fail
  refine (behind_any s _ hs).mono ?_
  rintro e w1 ⟨rfl, b1⟩
  rw [HK.out, HXX.out]
  obtain ⟨m, hm⟩ : ∃ m, decide ((k : Int) ≤ 3) = m := ⟨_, rfl⟩
  rw [hm]
  have HM := Lib.hid hm
  clear hm
  go_wp2_with fail
  refine (row_any X 35 _ (by decide) (by omega)).mono ?_
  rintro e w2 ⟨rfl, b2⟩
  rw [HXL.out]
  have bb2 := b1.trans (b2.mono b1.size)
  have z2 := bb2.size
  clear b1 b2
  go_upto_region 4 with fail
  go_cut [42] (fun s42 wx => ((s42 = .bool true ∧ V = none) ∨ (s42 = .bool false ∧ k ≤ 3 ∧ 1 ≤ n ∧ n ≤ 6 ∧ (r = [] ∨ ∃ b t, r = b :: t ∧ isB b = true) ∧ V = some (n, restR n (Lib.trimS r [32, 9])))) ∧ Below w.heap.size w wx)
  case first =>
    rcases hcs with ⟨h1, hv⟩ | ⟨h1, h2, hv⟩ | ⟨h1, h2, h3, hv⟩ | ⟨h1, h2, h3, ⟨b, t, hr, hb⟩, hv⟩ | ⟨h1, h2, h3, hr, hv⟩
    · obtain rfl : m = false := by rw [← HM.out]; exact decide_eq_false (by omega)
      have HV := Lib.hid hv
      clear hv h1 HM
      go_wp2_with fail
      go_meet
      exact ⟨.inl ⟨rfl, HV.out⟩, bb2⟩
    · obtain rfl : m = true := by rw [← HM.out]; exact decide_eq_true (by omega)
      have HV := Lib.hid hv
      clear hv h1 HM
      go_wp2_with fail
      go_meet
      exact ⟨.inl ⟨rfl, HV.out⟩, bb2⟩
    · obtain rfl : m = true := by rw [← HM.out]; exact decide_eq_true (by omega)
      have HV := Lib.hid hv
      clear hv h1 HM
      go_wp2_with fail
      go_meet
      exact ⟨.inl ⟨rfl, HV.out⟩, bb2⟩
    · obtain rfl : m = true := by rw [← HM.out]; exact decide_eq_true (by omega)
      have HV := Lib.hid hv
      obtain ⟨h0, h00⟩ := hR0 b t hr
      obtain ⟨t1, t2, t3⟩ := bytes_some (a := R) (by omega)
      have HB := Lib.hid hb
      clear hv hr hb h1 HM
      have hb256 : b.toNat < 256 := b.toNat_lt
      go_wp2_with fail
      refine (blanksB_any b _).mono ?_
      rintro e w3 ⟨rfl, b3⟩
      have bb2 := bb2.trans (b3.mono z2)
      rw [blk, HB.out]
      go_wp2_with fail
      go_meet
      exact ⟨.inl ⟨rfl, HV.out⟩, bb2⟩
    · obtain rfl : m = true := by rw [← HM.out]; exact decide_eq_true (by omega)
      have HV := Lib.hid hv
      have H1 := Lib.hid h1
      have q3 : decide ((n : Int) < 1) = false := decide_eq_false (by omega)
      have q4 : decide (6 < (n : Int)) = false := decide_eq_false (by omega)
      rcases hr with hr | ⟨b, t, hr, hb⟩
      · have hRz' := hRz hr
        have HR := Lib.hid hr
        clear hv hr h1 HM
        subst hRz'
        go_wp2_with fail
        go_meet
        exact ⟨.inr ⟨rfl, H1.out, h2, h3, .inl HR.out, HV.out⟩, bb2⟩
      · obtain ⟨h0, h00⟩ := hR0 b t hr
        obtain ⟨t1, t2, t3⟩ := bytes_some (a := R) (by omega)
        have HB := Lib.hid hb
        have HR := Lib.hid hr
        clear hv hr hb h1 HM
        have hb256 : b.toNat < 256 := b.toNat_lt
        go_wp2_with fail
        refine (blanksB_any b _).mono ?_
        rintro e w3 ⟨rfl, b3⟩
        have bb2 := bb2.trans (b3.mono z2)
        rw [blk, HB.out]
        go_wp2_with fail
        go_meet
        exact ⟨.inr ⟨rfl, H1.out, h2, h3, .inr ⟨b, t, HR.out, HB.out⟩, HV.out⟩, bb2⟩
  case rest =>
    obtain ⟨hc, bbc⟩ := hcut
    clear bb2 hcs hRz hR0
    rcases hc with ⟨rfl, hv⟩ | ⟨rfl, h1, h2, h3, hr, hv⟩
    · have HV := Lib.hid hv
      clear hv
      go_wp2_with fail
      go_ret3
      rw [HV.out]
      exact ⟨rfl, bbc⟩
    · clear hr
      have hrr := trimS_len r [32, 9]
      have HV := Lib.hid hv
      clear hv hrm h1 HM
      go_wp2_with fail
      refine (trimBlanks_any R _ (by omega)).mono ?_
      rintro e w3 ⟨rfl, b3⟩
      rw [HRL.out]
      have bb3 := bbc.trans (b3.mono bbc.size)
      have z3 := bb3.size
      clear bbc b3
      generalize Lib.trimS r [32, 9] = q at *
      have hqs : (S q).size ≤ 1048576 := by rw [size_S]; omega
      have HQ : Hid (L (S q) = q) := Lib.hid (by simp)
      have HQQ : Hid (S q = S q) := Lib.hid rfl
      obtain ⟨Q, hQ⟩ : ∃ Q, S q = Q := ⟨_, rfl⟩
      rw [hQ] at hqs HQ ⊢
      have HQS := Lib.hid hQ
      clear hQ HQQ
      go_wp2_with fail
      refine (trimRight1_any Q 35 (by decide) _ (by omega)).mono ?_
      rintro e w4 ⟨rfl, rfl⟩
      rw [HQ.out]
      have htl := trimRightB_len q 35
      have hrest : restR n q = if Lib.trimRightB q 35 = [] ∨ ((Lib.trimRightB q 35).getLast?.any isB) = true then Lib.trimRightS (Lib.trimRightB q 35) [32, 9] else q := rfl
      generalize Lib.trimRightB q 35 = tl at *
      have HREST := Lib.hid hrest
      have hTs : (S tl).size = tl.length := by simp
      have HT : Hid (L (S tl) = tl) := Lib.hid (by simp)
      clear hrest
      have hcs2 : (tl = [] ∧ restR n q = []) ∨ (∃ b, tl.getLast? = some b ∧ isB b = true ∧ restR n q = Lib.trimRightS tl [32, 9]) ∨ (∃ b, tl.getLast? = some b ∧ isB b = false ∧ restR n q = q) := by
        have hrest := HREST.out
        cases hgl : tl.getLast? with
        | none =>
          have : tl = [] := List.getLast?_eq_none_iff.1 hgl
          exact .inl ⟨this, by rw [hrest, if_pos (.inl this), this]; rfl⟩
        | some b =>
          rw [hgl] at hrest
          have hne : tl ≠ [] := fun e => by rw [e] at hgl; cases hgl
          by_cases hb : isB b = true
          · exact .inr (.inl ⟨b, rfl, hb, by rw [hrest, if_pos (.inr hb)]⟩)
          · exact .inr (.inr ⟨b, rfl, by simpa using hb, by rw [hrest, if_neg fun h => h.elim hne hb]⟩)
      have hTl : ∀ b, tl.getLast? = some b → ∃ h : (S tl).size - 1 < (S tl).size, (S tl)[(S tl).size - 1]'h = b := by
        intro b hb
        rw [List.getLast?_eq_getElem?] at hb
        have := (List.getElem?_eq_some_iff.1 hb).1
        exact ⟨by rw [hTs]; omega, S_at _ (by rw [hTs]; exact hb)⟩
      have hTz : tl = [] → S tl = ⟨#[]⟩ := fun e => by rw [e]; rfl
      generalize S tl = T at *
      have hTb : T.size ≤ 1048576 := by omega
      clear HREST hTs
      rcases hcs2 with ⟨h4, h5⟩ | ⟨b, h4, h5, h6'⟩ | ⟨b, h4, h5, h6'⟩
      · have hz := hTz h4
        have HH := Lib.hid h5
        have HT4 := Lib.hid h4
        clear h4 h5 hTl hTz
        subst hz
        go_wp2_with fail
        refine (trimRightCs_any ⟨#[]⟩ ⟨#[32, 9]⟩ _ (by decide) (by decide) (by decide)).mono ?_
        rintro e w5 ⟨rfl, b5⟩
        go_wp2_with fail
        go_ret3
        rw [HV.out, HH.out]
        exact ⟨rfl, bb3.trans (b5.mono z3)⟩
      · obtain ⟨hlt, hlast⟩ := hTl b h4
        obtain ⟨t1, t2, t3⟩ := bytes_some (a := T) (by omega)
        have HB := Lib.hid h5
        have HH := Lib.hid h6'
        clear h4 h5 h6' hTl hTz
        have hb256 : b.toNat < 256 := b.toNat_lt
        go_wp2_with fail
        refine (blanksB_any b _).mono ?_
        rintro e w5 ⟨rfl, b5⟩
        have bb3 := bb3.trans (b5.mono z3)
        have z3 := bb3.size
        rw [blk, HB.out]
        go_wp2_with fail
        refine (trimRightCs_any T ⟨#[32, 9]⟩ _ (by omega) (by decide) (by decide)).mono ?_
        rintro e w6 ⟨rfl, b6⟩
        rw [HT.out]
        go_wp2_with fail
        go_ret3
        rw [HV.out, HH.out]
        exact ⟨rfl, bb3.trans (b6.mono z3)⟩
      · obtain ⟨hlt, hlast⟩ := hTl b h4
        obtain ⟨t1, t2, t3⟩ := bytes_some (a := T) (by omega)
        have HB := Lib.hid h5
        have HH := Lib.hid h6'
        clear h4 h5 h6' hTl hTz
        have hb256 : b.toNat < 256 := b.toNat_lt
        go_wp2_with fail
        refine (blanksB_any b _).mono ?_
        rintro e w5 ⟨rfl, b5⟩
        have bb3 := bb3.trans (b5.mono z3)
        have z3 := bb3.size
        rw [blk, HB.out]
        go_wp2_with fail
        go_ret3
        rw [HV.out, HH.out]
        rw [← HQS.out]
        exact ⟨rfl, bb3⟩

set_option maxHeartbeats 1000000 in
set_option maxRecDepth 100000 in
theorem under_any (s : ByteArray) (w : World) (hs : s.size ≤ 1048576) :
    Calls Tryd.prog 78 #[.string s] w fun e w' => e = .returned (.int .i64 (underT (L s) : Int)) ∧ Below w.heap.size w w' := by
  have hle := restT_of_le s
  obtain ⟨xl, hx⟩ : ∃ xl, restT (L s) = xl := ⟨_, rfl⟩
  obtain ⟨k, hk⟩ : ∃ k, colT 0 (L s) = k := ⟨_, rfl⟩
  obtain ⟨yl, hy⟩ : ∃ yl, Lib.trimRightS xl [32, 9] = yl := ⟨_, rfl⟩
  have hd : underT (L s) = if ¬ k ≤ 3 ∨ yl = [] then 0 else if Lib.trimB yl 61 = [] then 1 else if Lib.trimB yl 45 = [] then 2 else 0 := by
    unfold underT; rw [hx, hk, hy]
  rw [hx] at hle
  have hyl : yl.length ≤ xl.length := by
    rw [← hy]; unfold Lib.trimRightS
    have := (List.dropWhile_sublist (fun x => List.contains [32, 9] x) (l := xl.reverse)).length_le
    simpa using this
  have hcs : (¬ k ≤ 3 ∧ underT (L s) = 0) ∨ (k ≤ 3 ∧ yl = [] ∧ underT (L s) = 0) ∨ (k ≤ 3 ∧ yl ≠ [] ∧ Lib.trimB yl 61 = [] ∧ underT (L s) = 1) ∨
      (k ≤ 3 ∧ yl ≠ [] ∧ Lib.trimB yl 61 ≠ [] ∧ Lib.trimB yl 45 = [] ∧ underT (L s) = 2) ∨ (k ≤ 3 ∧ yl ≠ [] ∧ Lib.trimB yl 61 ≠ [] ∧ Lib.trimB yl 45 ≠ [] ∧ underT (L s) = 0) := by
    rw [hd]
    by_cases h1 : k ≤ 3
    · by_cases h2 : yl = []
      · exact .inr (.inl ⟨h1, h2, by rw [if_pos (.inr h2)]⟩)
      · have h3 : ¬ (¬ k ≤ 3 ∨ yl = []) := fun h => h.elim (fun h => h h1) h2
        by_cases h4 : Lib.trimB yl 61 = []
        · exact .inr (.inr (.inl ⟨h1, h2, h4, by rw [if_neg h3, if_pos h4]⟩))
        · by_cases h5 : Lib.trimB yl 45 = []
          · exact .inr (.inr (.inr (.inl ⟨h1, h2, h4, h5, by rw [if_neg h3, if_neg h4, if_pos h5]⟩)))
          · exact .inr (.inr (.inr (.inr ⟨h1, h2, h4, h5, by rw [if_neg h3, if_neg h4, if_neg h5]⟩)))
    · exact .inl ⟨h1, by rw [if_pos (.inl h1)]⟩
  obtain ⟨V, hV⟩ : ∃ V, underT (L s) = V := ⟨_, rfl⟩
  rw [hV] at hcs ⊢
  have HX := Lib.hid hx
  have HK := Lib.hid hk
  have hXL : Lib.trimRightS (L (S xl)) (L ⟨#[32, 9]⟩) = yl := by rw [L_S]; exact hy
  have HXL := Lib.hid hXL
  have HYL : Hid (L (S yl) = yl) := Lib.hid (by simp)
  have hXs : (S xl).size ≤ 1048576 := by rw [size_S]; omega
  have hYs : (S yl).size ≤ 1048576 := by rw [size_S]; omega
  have hYz : yl = [] → S yl = ⟨#[]⟩ := fun e => by rw [e]; rfl
  have hYn : yl ≠ [] → ¬ (S yl).size = 0 := fun e h => e (List.eq_nil_of_length_eq_zero (by simpa using h))
  have hz : S ([] : List UInt8) = ⟨#[]⟩ := rfl
  clear hd hx hk hy hV hXL
  go_enter Tryd.func78, Tryd.ntmps78
  go_wp2_with fail
  refine (behind_any s _ hs).mono ?_
  rintro e w1 ⟨rfl, b1⟩
  rw [HX.out, HK.out]
  have HXX : Hid (S xl = S xl) := Lib.hid rfl
  generalize S xl = X at *
  clear HXX
  go_wp2_with fail
  refine (trimRightCs_any X ⟨#[32, 9]⟩ _ (by omega) (by decide) (by decide)).mono ?_
  rintro e w2 ⟨rfl, b2⟩
  rw [HXL.out]
  have bb2 := b1.trans (b2.mono b1.size)
  have z2 := bb2.size
  clear b1 b2
  rcases hcs with ⟨h1, hv⟩ | ⟨h1, h2, hv⟩ | ⟨h1, h2, h3, hv⟩ | ⟨h1, h2, h3, h4, hv⟩ | ⟨h1, h2, h3, h4, hv⟩
  · have HV := Lib.hid hv
    have q : decide ((k : Int) ≤ 3) = false := decide_eq_false (by omega)
    generalize S yl = Y at *
    clear hv h1 hYz hYn
    go_wp2_with fail
    go_ret
    rw [HV.out]
    exact ⟨rfl, bb2⟩
  · have HV := Lib.hid hv
    have q := hYz h2
    clear hv h2 hYz hYn
    rw [q]
    go_wp2_with fail
    go_ret
    rw [HV.out]
    exact ⟨rfl, bb2⟩
  · have HV := Lib.hid hv
    have q := hYn h2
    have H3 := Lib.hid h3
    generalize S yl = Y at *
    obtain ⟨t1, t2, t3⟩ := bytes_some q
    clear hv h2 h3 hYz hYn q
    go_wp2_with fail
    refine (trim1_any Y 61 (by decide) _ (by omega)).mono ?_
    rintro e w3 ⟨rfl, b3⟩
    rw [HYL.out, H3.out, hz]
    go_wp2_with fail
    go_ret
    rw [HV.out]
    exact ⟨rfl, bb2.trans (b3.mono z2)⟩
  all_goals
    have HV := Lib.hid hv
    have q := hYn h2
    have H3 := Lib.hid h3
    have H4 := Lib.hid h4
    have HYS : Hid (L (S yl) = L (S yl)) := Lib.hid rfl
    generalize S yl = Y at *
    obtain ⟨t1, t2, t3⟩ := bytes_some q
    have hu : ¬ (S (Lib.trimB yl 61)).size = 0 := fun h => H3.out (List.eq_nil_of_length_eq_zero (by simpa using h))
    obtain ⟨u1, u2, u3⟩ := bytes_some hu
    clear hv h2 h3 h4 hYz hYn q hu HYS
    go_wp2_with fail
    refine (trim1_any Y 61 (by decide) _ (by omega)).mono ?_
    rintro e w3 ⟨rfl, b3⟩
    rw [HYL.out]
    have bb3 := bb2.trans (b3.mono z2)
    have z3 := bb3.size
    generalize S (Lib.trimB yl 61) = U at *
    clear bb2 b3
    go_wp2_with fail
    refine (trim1_any Y 45 (by decide) _ (by omega)).mono ?_
    rintro e w4 ⟨rfl, b4⟩
    rw [HYL.out]
    have bb4 := bb3.trans (b4.mono z3)
    clear bb3 b4
  · rw [H4.out, hz]
    go_wp2_with fail
    go_ret
    rw [HV.out]
    exact ⟨rfl, bb4⟩
  · have hq : ¬ (S (Lib.trimB yl 45)).size = 0 := fun h => H4.out (List.eq_nil_of_length_eq_zero (by simpa using h))
    obtain ⟨v1, v2, v3⟩ := bytes_some hq
    generalize S (Lib.trimB yl 45) = Z at *
    clear hq
    go_wp2_with fail
    go_ret
    rw [HV.out]
    exact ⟨rfl, bb4⟩
end Go.Proofs.YtommebalgghdjaaDoor
