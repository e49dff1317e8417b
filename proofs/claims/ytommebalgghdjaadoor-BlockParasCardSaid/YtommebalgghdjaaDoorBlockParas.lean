/-
  bowdlerlaw9.BlockParas: its walk: it answers true, and turns nothing that was there.
-/
import Derived.Test.YtommebalgghdjaaDoorBlockStart
import Derived.Test.YtommebalgghdjaaDoorSameBlocks
import Derived.Test.YtommebalgghdjaaDoorBlockUnder
namespace Go.Proofs.YtommebalgghdjaaDoor
open Go.RowKit

theorem joinLF_snoc (l : List Ln) (x : Ln) (h : l ≠ []) : joinLF (l ++ [x]) = joinLF l ++ 10 :: x := by
  induction l with
  | nil => exact absurd rfl h
  | cons y l ih =>
    by_cases hl : l = []
    · subst hl; rfl
    · rw [List.cons_append, joinLF_cons y (by simp), ih hl, joinLF_cons y hl, List.append_assoc]; rfl
theorem joinLF_leN (l : List ByteArray) (N : Nat) (h : ∀ x ∈ l, x.size ≤ N) : (joinLF (l.map L)).length ≤ (N + 1) * l.length := by
  induction l with
  | nil => simp [joinLF]
  | cons x l ih =>
    have h1 := h x (by simp)
    have h2 := ih fun y hy => h y (by simp [hy])
    by_cases hl : l = []
    · subst hl; simp [joinLF]; omega
    · rw [List.map_cons, joinLF_cons _ (by simpa using hl), List.length_append, List.length_cons, List.length_cons, Nat.mul_add]
      simp; omega
theorem text_first (x : ByteArray) (xs : List ByteArray) (hx : xs[0]? = some x) : (⟨#[]⟩ : ByteArray) ++ x = S (joinLF ((xs.take 1).map L)) := by
  rw [List.take_add_one, hx]
  exact L_inj (by rw [L_append]; rfl)
theorem text_next (x : ByteArray) (xs : List ByteArray) {k : Nat} (hx : xs[k]? = some x) (hk : 0 < k) : (S (joinLF ((xs.take k).map L)) ++ ⟨#[10]⟩) ++ x = S (joinLF ((xs.take (k + 1)).map L)) := by
  have hlt := (List.getElem?_eq_some_iff.1 hx).1
  rw [List.take_add_one, hx, Option.toList_some, List.map_append, List.map_singleton, joinLF_snoc _ _ (by
    rw [Ne, List.map_eq_nil_iff, List.take_eq_nil_iff]
    rintro (h | h)
    · omega
    · rw [h] at hlt; simp at hlt), S_append, S_append, List.append_assoc]
  rfl

set_option maxHeartbeats 2000000 in
set_option maxRecDepth 100000 in
theorem text_any (A : Option Addr) (n c K : Nat) (xs : List ByteArray) (w : World) (hr : Reads w K 1 A n (txCells xs)) (hn : n ≤ 20) (hsz : ∀ x ∈ xs, x.size ≤ 40) :
    Calls Tryd.prog 21 #[.slice A n c] w fun e w' => e = .returned (.string (S (joinLF (xs.map L)))) ∧ w' = w := by
  have hlen : xs.length = n := by have := hr.1; simpa using this
  have HL := Lib.hid hlen
  have HSZ := Lib.hid hsz
  clear hlen hsz
  go_enter Tryd.func21, Tryd.ntmps21
  go_wp2_with fail
  go_loop [3, 8] (fun s3 s8 => ∃ k : Nat, k ≤ n ∧ s8 = .int .i64 k ∧ s3 = .string (S (joinLF ((xs.take k).map L)))) (fun _ s8 => n - (intOf s8).toNat)
  case atStart => exact ⟨0, Nat.zero_le _, rfl, rfl⟩
  case round =>
    obtain ⟨k, hk, rfl, rfl⟩ := hrel
    by_cases hlt : k < n
    · obtain ⟨ad, u, rfl, _, hx0, hc⟩ := hr.at_ hlt
      obtain ⟨x, hx, rfl⟩ : ∃ x, xs[k]? = some x ∧ Value.string x = u := by simpa using hx0
      have hxm := HSZ.out x (List.mem_of_getElem? hx)
      have HX := Lib.hid hx
      have hJ : (S (joinLF ((xs.take k).map L))).size ≤ 41 * k := by
        rw [size_S]
        have := joinLF_leN (xs.take k) 40 (fun x hx => HSZ.out x (List.mem_of_mem_take hx))
        rw [List.length_take] at this
        have h2 : min k xs.length ≤ k := Nat.min_le_left _ _
        have := Nat.mul_le_mul_left 41 h2
        omega
      clear hx hx0
      rcases Nat.eq_zero_or_pos k with h0 | hpos
      · have hX0 := HX.out
        rw [h0] at hX0
        have HT := Lib.hid (text_first x xs hX0)
        have e0 : S (joinLF ((xs.take k).map L)) = ⟨#[]⟩ := by rw [h0]; rfl
        rw [e0]
        have H0 := Lib.hid h0
        have r1 : ¬ 9223372036854775807 < (⟨#[]⟩ : ByteArray).size + x.size := by have : (⟨#[]⟩ : ByteArray).size = 0 := rfl; omega
        have q1 : ¬ 0 < k := by omega
        clear e0 hJ hX0 h0
        go_wp2_with fail
        go_round
        case rel => exact ⟨k + 1, by omega, by go_num, by rw [HT.out, H0.out]⟩
        case measure => simp [intOf]; omega
      · have HT := Lib.hid (text_next x xs HX.out hpos)
        generalize S (joinLF ((xs.take k).map L)) = J at *
        have hjs : (J ++ (⟨#[10]⟩ : ByteArray)).size = J.size + 1 := by rw [ByteArray.size_append]; rfl
        have r1 : ¬ 9223372036854775807 < J.size + (⟨#[10]⟩ : ByteArray).size := by have : (⟨#[10]⟩ : ByteArray).size = 1 := rfl; omega
        have r2 : ¬ 9223372036854775807 < (J ++ (⟨#[10]⟩ : ByteArray)).size + x.size := by omega
        clear hjs
        go_wp2_with fail
        go_round
        case rel => exact ⟨k + 1, by omega, by go_num, by rw [HT.out]⟩
        case measure => simp [intOf]; omega
    · have hkn : k = n := by omega
      subst hkn
      rw [List.take_of_length_le (by rw [HL.out]; exact Nat.le_refl _)]
      go_wp2_with fail
      go_ret
      exact ⟨rfl, rfl⟩

theorem only_drew {w w' : World} {A : Option Addr} (h : Only w.drew w' A) : Only w w' A := ⟨h.os, h.tape, h.output, h.size, h.block⟩
theorem only_alloc {w w' : World} {A : Option Addr} {o : Obj} (h : Only (w.alloc o) w' A) : Only w w' A := h.of_alloc
theorem only_both {w w' : World} {A : Option Addr} {o : Obj} (h : Only (w.alloc o).drew w' A) : Only w w' A := (only_drew h).of_alloc
theorem tmodN (j : Int) {n : Nat} (h : 0 < n) : (∃ m : Nat, m < n ∧ (j.tmod n + n).tmod n = (m : Int)) ∧ -(n : Int) < j.tmod n ∧ j.tmod n < n := by
  have hn : (0 : Int) < (n : Int) := by omega
  have h1 := Int.tmod_lt_of_pos j hn
  have h2 := Int.tmod_lt_of_pos (-j) hn
  rw [Int.neg_tmod] at h2
  have h3 := Int.tmod_lt_of_pos (j.tmod n + n) hn
  have h4 := Int.tmod_nonneg (a := j.tmod n + n) (n : Int) (by omega)
  exact ⟨⟨((j.tmod n + n).tmod n).toNat, by omega, by omega⟩, by omega, by omega⟩
theorem paras_a {l : List ByteArray} (h : ∀ x ∈ l, Wd (L x) ∧ x.size ≤ 40) (hn : l ≠ []) : parseT (l.map L) = [⟨1, 0, 0, false, joinLF (l.map L), []⟩] :=
  paras_one (fun x hx => by obtain ⟨y, hy, rfl⟩ := List.mem_map.1 hx; exact (h y hy).1) (by simpa using hn)
theorem paras_b0 (l : List ByteArray) : parseT (((l.take 0 ++ [(⟨#[32]⟩ : ByteArray)]) ++ l.drop 0).map L) = parseT (l.map L) := by
  rw [List.take_zero, List.nil_append, List.drop_zero, List.map_append]
  exact parse_blank (s := [32]) rfl _
theorem paras_b {l : List ByteArray} {m : Nat} (h : ∀ x ∈ l, Wd (L x) ∧ x.size ≤ 40) (h0 : 0 < m) (h1 : m < l.length) :
    parseT (((l.take m ++ [(⟨#[32]⟩ : ByteArray)]) ++ l.drop m).map L) = [⟨1, 0, 0, false, joinLF ((l.take m).map L), []⟩, ⟨1, 0, 0, false, joinLF ((l.drop m).map L), []⟩] := by
  rw [List.append_assoc, List.map_append, List.map_append]
  refine paras_two [32] rfl (fun x hx => ?_) ?_ (fun x hx => ?_) ?_
  · obtain ⟨y, hy, rfl⟩ := List.mem_map.1 hx; exact (h y (List.mem_of_mem_take hy)).1
  · intro e
    have := congrArg List.length e
    simp at this
    rcases this with h | h
    · omega
    · rw [h] at h1; simp at h1
  · obtain ⟨y, hy, rfl⟩ := List.mem_map.1 hx; exact (h y (List.mem_of_mem_drop hy)).1
  · intro e
    have := congrArg List.length e
    simp at this
    omega

set_option maxHeartbeats 8000000 in
set_option maxRecDepth 100000 in
theorem blockParas_walk (A : Option Addr) (n cap : Nat) (l : List ByteArray) (kk : Int) (w : World) (_ : Glb w) (hl : IsTexts w A n cap l) (_ : (Lit.int .i64 kk).wf = true) :
    Calls Tryd.prog 7 #[.slice A n cap, .int .i64 kk] w fun e w' => e = .returned (.bool true) ∧ Below w.heap.size w w' := by
  obtain ⟨hr, hnc, hcm, hz⟩ := hl
  have hmax : maxLen = 9223372036854775807 := rfl
  have hln : l.length = n := by have := hr.1; simpa using this
  have HLN := Lib.hid hln
  have HZ := Lib.hid hz
  clear hln hz
  have hcs : n < 1 ∨ 20 < n ∨ (1 ≤ n ∧ n ≤ 20) := by omega
  rcases hcs with h | h | ⟨h1, h20⟩
  · go_enter Tryd.func7, Tryd.ntmps7
    go_wp2_with (go_at_call 16; refine (aliveB_any _).mono ?_; rintro e w1 ⟨rfl, b1⟩)
    go_ret
    exact ⟨rfl, b1⟩
  · go_enter Tryd.func7, Tryd.ntmps7
    go_wp2_with (go_at_call 16; refine (aliveB_any _).mono ?_; rintro e w1 ⟨rfl, b1⟩)
    go_ret
    exact ⟨rfl, b1⟩
  go_enter Tryd.func7, Tryd.ntmps7
  go_wp2_with (go_at_call 16; refine (aliveB_any _).mono ?_; rintro e w1 ⟨rfl, b1⟩)
  have z1 := b1.size
  have hr1 := hr.below b1
  go_loop [27] (fun s => ∃ k : Nat, k ≤ n ∧ s = .int .i64 k ∧ ∀ x ∈ l.take k, Wd (L x) ∧ x.size ≤ 40) (fun s => n - (intOf s).toNat)
  case atStart => exact ⟨0, Nat.zero_le _, rfl, by simp⟩
  case round =>
    obtain ⟨k, hk, rfl, hall⟩ := hrel
    have HALL := Lib.hid hall
    clear hall
    by_cases hlt : k < n
    · obtain ⟨ad, u, rfl, _, hx0, hc⟩ := hr1.at_ hlt
      obtain ⟨x, hx, rfl⟩ : ∃ x, l[k]? = some x ∧ Value.string x = u := by simpa using hx0
      have hxz := HZ.out x (List.mem_of_getElem? hx)
      have HX := Lib.hid hx
      clear hx hx0
      by_cases h0 : x.size = 0
      · have he := bytes_none h0
        rw [he] at hc
        clear h0
        go_wp2_with fail
        go_ret
        exact ⟨rfl, b1⟩
      · obtain ⟨t1, t2, t3⟩ := bytes_some h0
        by_cases h40 : 40 < x.size
        · go_wp2_with fail
          go_ret
          exact ⟨rfl, b1⟩
        · go_wp2_with fail
          go_loop [7] (fun s7 => ∃ j : Nat, j ≤ x.size ∧ s7 = .int .i64 j ∧ ∀ b ∈ (L x).take j, isLetter b = true) (fun s7 => x.size - (intOf s7).toNat)
          case atStart => exact ⟨0, Nat.zero_le _, rfl, by simp⟩
          case round =>
            clear hc t1 t2 t3
            obtain ⟨j, hj, rfl, hno⟩ := hrel
            have HNO := Lib.hid hno
            clear hno
            by_cases hjl : j < x.size
            · obtain ⟨b, hb⟩ : ∃ b, x[j]'hjl = b := ⟨_, rfl⟩
              by_cases c1 : b.toNat < 97
              · have q1 : decide ((b.toNat : Int) < 97) = true := decide_eq_true (by omega)
                go_wp2_with fail
                go_ret
                exact ⟨rfl, b1⟩
              · have q1 : decide ((b.toNat : Int) < 97) = false := decide_eq_false (by omega)
                by_cases c2 : 122 < b.toNat
                · have q2 : decide ((122 : Int) < (b.toNat : Int)) = true := decide_eq_true (by omega)
                  go_wp2_with fail
                  go_ret
                  exact ⟨rfl, b1⟩
                · have q2 : decide ((122 : Int) < (b.toNat : Int)) = false := decide_eq_false (by omega)
                  have HT := Lib.hid (letter_take x hjl (by rw [hb]; omega) HNO.out)
                  go_wp2_with fail
                  go_round
                  case rel => exact ⟨j + 1, by omega, by go_num, HT.out⟩
                  case measure => simp [intOf]; omega
            · have HT : Hid (∀ y ∈ l.take (k + 1), Wd (L y) ∧ y.size ≤ 40) := Lib.hid (by
                intro y hy
                rw [List.take_add_one, HX.out, Option.toList_some, List.mem_append, List.mem_singleton] at hy
                rcases hy with hy | rfl
                · exact HALL.out y hy
                · refine ⟨⟨fun h => h0 (by have := congrArg List.length h; simpa using this), ?_⟩, by omega⟩
                  have := HNO.out
                  rwa [List.take_of_length_le (by simp; omega)] at this)
              clear HNO
              go_wp2_with fail
              go_round
              case rel => exact ⟨k + 1, by omega, by go_num, HT.out⟩
              case measure => simp [intOf]; omega
    · have hkn : k = n := by omega
      subst hkn
      have hta : l.take k = l := List.take_of_length_le (by rw [HLN.out]; exact Nat.le_refl _)
      rw [hta] at HALL
      clear hta
      obtain ⟨⟨m, hm, hmod⟩, d1, d2⟩ := tmodN kk (n := k) (by omega)
      have hkz : ((k : Int) == 0) = false := by simp; omega
      have hkz2 : ¬ (k : Int) = 0 := by omega
      have HNE : Hid (l ≠ []) := Lib.hid (fun h => by have := HLN.out; rw [h] at this; simp at this; omega)
      go_upto_region 14 with fail
      go_cut [1] (fun s1 wx => s1 = .int .i64 (m : Int) ∧ wx = w1)
      case first =>
        go_wp2_with fail
        go_meet
        exact ⟨rfl, rfl⟩
      case rest =>
      obtain ⟨rfl, hwx⟩ := hcut
      rw [hwx]
      clear hwx hmod d1 d2 hkz hkz2
      have hp1 := parse_any w.heap.size l A k cap w1 hr1 z1 (lnOk_of fun x hx => by have := (HALL.out x hx).2; omega) (by omega) hnc
      rw [paras_a HALL.out HNE.out] at hp1
      have HP1 := Lib.hid hp1
      clear hp1
      go_upto_region 17 with (go_at_call 17; refine HP1.out.mono ?_; rintro e w3 ⟨Ao, m1, co, rfl, hm1, hO, b3⟩)
      have hb3 := b1.trans (b3.mono z1)
      have hz3 := hb3.size
      have hr3 := hr.below hb3
      have hm1' : m1 = 1 := hm1.symm
      subst hm1'
      have hra : Reads w3 w.heap.size 1 A m (txCells (l.take m)) := by have := hr3.pre (k := m) (by omega); rwa [← List.map_take] at this
      have hrb : Reads w3 w.heap.size 1 (if cap = m then A else A.map (·.add m)) (k - m) (txCells (l.drop m)) := by have := hr3.suf (k := m) (by omega) hnc; rwa [← List.map_drop] at this
      have r1 : (m : Int) ≤ (cap : Int) := by omega
      have r2 : (m : Int) ≤ (k : Int) := by omega
      have r3 : (0 : Int) ≤ (m : Int) := by omega
      clear hm1 b3 HP1
      have hne : ¬ cap = m := by omega
      rw [if_neg hne] at hrb
      obtain ⟨ad, rfl, _⟩ := hr3.2 (by omega)
      go_upto_region 17 with fail
      go_region_held3 (fun _ => True) (trivial)
        ((first
          | (refine step_app Tryd.elTexts (by rfl) (.const (.slice none 0 0)) (.tmp 69) (by rfl) (by rfl) (Own.nil _ w.heap.size _ _) (by rfl) (by first | exact hra.below ((Below.refl _ _).drew) | exact hra.below (((Below.refl _ _).alloc hz3 _).drew) | exact hra.below (((Below.refl _ _).drew).alloc hz3 _)) (tx_one _) (by simp only [maxLen]; omega) (by omega) (by first | exact hz3 | (simp; omega)) ?_
             intro A6 c6 w6 hown6 ho6 hm6
             rw [Nat.zero_add, List.nil_append] at hown6
             have ho6' : Only w3 w6 none := by first | exact only_drew ho6 | exact only_both ho6 | exact only_alloc ho6 | exact ho6
             have hs6 : w3.heap.size ≤ w6.heap.size := ho6'.size
             have b6 : Below w3.heap.size w3 w6 := ho6'.below (fun a ha => by cases ha) (Nat.le_refl _)
             have b6' := b6.mono hz3)
          | (refine step_app1 Tryd.elTexts (by rfl) (.tmp 70) (.tmp 71) (by rfl) (by rfl) (by first | exact hown6 | exact hown6.drew | exact (hown6.alloc _).drew | exact hown6.alloc _ | (rw [Nat.zero_add]; exact hown6) | (rw [Nat.zero_add]; exact hown6.drew)) (by rfl) (by first | exact Blk.new' _ _ _ _ (by simp) | exact (Blk.new' _ _ _ _ (by simp)).drew | exact (Blk.new w3 9 #[.string ⟨#[32]⟩]).drew.only ho6 (fun a ha => by cases ha)) (by rfl) (by simp [Value.oneCell']) (by simp only [maxLen]; omega) (by omega) (by first | omega | (simp; omega)) ?_
             intro A7 c7 w7 hown7 ho7 hm7
             try rw [Nat.zero_add] at hown7
             have ho7' : Only w6 w7 A6 := by first | exact only_alloc ho7 | exact only_drew ho7 | exact only_both ho7 | exact ho7
             have hs7 : w3.heap.size ≤ w7.heap.size := Nat.le_trans hs6 ho7'.size
             have b7 : Below w.heap.size w6 w7 := ho7'.below (fun a ha => (hown6.lt ha).1) (by omega)
             have b37 := b6'.trans b7)
          | (refine step_app Tryd.elTexts (by rfl) (.tmp 72) (.tmp 75) (by rfl) (by rfl) (by first | exact hown7 | exact hown7.drew | (rw [Nat.zero_add]; exact hown7) | (rw [Nat.zero_add]; exact hown7.drew)) (by rfl) (by first | exact hrb.below b37 | exact (hrb.below b37).drew) (tx_one _) (by simp only [maxLen]; omega) (by omega) (by first | omega | (simp; omega)) ?_
             intro A8 c8 w8 hown8 ho8 hm8
             try rw [Nat.zero_add] at hown8
             have ho8' : Only w7 w8 A7 := by first | exact ho8 | exact only_drew ho8
             have b8 : Below w.heap.size w7 w8 := ho8'.below (fun a ha => (hown7.lt ha).1) (by omega))))
      all_goals
        try simp only [Nat.zero_add]
        have b38 := b37.trans b8
        have hb8 := hb3.trans (b38)
        have hz8 := hb8.size
        have hown9 : Own w8 w.heap.size 9 1 A8 (m + 1 + (k - m)) c8 (txCells ((l.take m ++ [(⟨#[32]⟩ : ByteArray)]) ++ l.drop m)) := by simpa [txCells] using hown8
        have hO8 : Own w8 w1.heap.size 28 6 Ao 1 co (blkCells [⟨1, 0, 0, false, joinLF (l.map L), []⟩]) := by
          have h6 := hO.below b6 (Nat.le_refl _)
          have h7 : Own w7 w1.heap.size 28 6 Ao 1 co (blkCells [⟨1, 0, 0, false, joinLF (l.map L), []⟩]) := h6.only ho7' (h6.sep_ne hown6 (by decide))
          exact h7.only ho8' (h7.sep_ne hown7 (by decide))
        clear hown8 hown7 hown6 ho6 ho7 ho8 ho6' ho7' ho8' hm6 hm7 hm8 b6 b6' b7 b37 b8 hs6 hs7
      all_goals
        have HO8 := Lib.hid hO8
        have hT : ∀ W, Below w.heap.size w W → Calls Tryd.prog 21 #[.slice (some ad) k cap] W fun e w' => e = .returned (.string (S (joinLF (l.map L)))) ∧ w' = W := fun W hW => text_any (some ad) k cap w.heap.size l W (hr.below hW) h20 (fun x hx => (HALL.out x hx).2)
        have hTa : ∀ W, Below w3.heap.size w3 W → True := fun _ _ => trivial
        obtain ⟨T, hTe⟩ : ∃ T, S (joinLF (l.map L)) = T := ⟨_, rfl⟩
        rw [hTe] at hT
        have HT := Lib.hid hT
        have HTE := Lib.hid hTe
        clear hT hTa hTe hO8
        have HL : Hid (l.length = k) := HLN
        have hp2 := parse_any w8.heap.size ((l.take m ++ [(⟨#[32]⟩ : ByteArray)]) ++ l.drop m) A8 (m + 1 + (k - m)) c8 w8 hown9.reads (Nat.le_refl _) (lnOk_of (by
          intro y hy
          rcases List.mem_append.1 hy with hy | hy
          · rcases List.mem_append.1 hy with hy | hy
            · have := (HALL.out y (List.mem_of_mem_take hy)).2; omega
            · rw [List.mem_singleton.1 hy]; decide
          · have := (HALL.out y (List.mem_of_mem_drop hy)).2; omega)) (by omega) hown9.cap
        clear hown9
        rcases Nat.eq_zero_or_pos m with hm0 | hmpos
        · rw [hm0] at hp2
          rw [paras_b0, paras_a HALL.out HNE.out] at hp2
          rw [← hm0] at hp2
          have HP2 := Lib.hid hp2
          have HM0 := Lib.hid hm0
          have q0 : ((m : Int) == 0) = true := by simp; omega
          clear hp2 hm0
          go_upto_region 19 with (go_at_call 17; refine HP2.out.mono ?_; rintro e w10 ⟨Ap, m2, cp, rfl, hm2, hO2, b10⟩)
          have hb10 := hb8.trans (b10.mono hz8)
          have hz10 := hb10.size
          have hO10 := HO8.out.below b10 (Nat.le_refl _)
          have hm2' : m2 = 1 := hm2.symm
          subst hm2'
          obtain ⟨g, rfl, _, _⟩ := hO10.some_ (by omega)
          have k0 := hO10.cell (j := 0) rfl
          have k1 := hO10.cell (j := 1) rfl
          have k2 := hO10.cell (j := 2) rfl
          have k3 := hO10.cell (j := 3) rfl
          have k4 : w10.cell? ⟨g, 4, none⟩ = some (.string T) := by rw [← HTE.out]; exact hO10.cell (j := 4) rfl
          have k5 : w10.cell? ⟨g, 5, none⟩ = some (.string ⟨#[]⟩) := hO10.cell (j := 5) rfl
          have HSB := Lib.hid (fun W (hW : Below w10.heap.size w10 W) => sameBlocks_any (some ⟨g, 0, none⟩) Ap 1 1 co cp W.heap.size [⟨1, 0, 0, false, joinLF (l.map L), []⟩] [⟨1, 0, 0, false, joinLF (l.map L), []⟩] W ((hO10.below hW (Nat.le_refl _)).reads) ((hO2.below hW (Nat.le_refl _)).reads) (by decide) (by decide))
          clear b10 hm2 hb8 hz8 HP2
          go_quiet ((go_at_call 21; exact Calls.quiet_of_same (HT.out _ (below_drewN' hb10 _))))
          have b11 := below_drewN' (Below.refl w10.heap.size w10) nq
          have hb11 := below_drewN' hb10 nq
          have HSB2 := Lib.hid (HSB.out _ b11)
          rw [decide_eq_true rfl] at HSB2
          generalize w10.drewN nq = w11 at *
          clear k0 k1 k2 k3 k4 k5 HSB hO10 hO2
          go_wp2_with (go_at_call 19; refine HSB2.out.mono ?_; rintro e w12 ⟨rfl, b12⟩)
          go_ret
          exact ⟨rfl, hb11.trans (b12.mono hb11.size)⟩
        · rw [paras_b HALL.out hmpos (by rw [HLN.out]; exact hm)] at hp2
          have HP2 := Lib.hid hp2
          have q0 : ((m : Int) == 0) = false := by simp; omega
          clear hp2
          go_upto_region 19 with (go_at_call 17; refine HP2.out.mono ?_; rintro e w10 ⟨Ap, m2, cp, rfl, hm2, hO2, b10⟩)
          have hb10 := hb8.trans (b10.mono hz8)
          have hz10 := hb10.size
          have hO10 := HO8.out.below b10 (Nat.le_refl _)
          have hm2' : m2 = 2 := hm2.symm
          subst hm2'
          obtain ⟨g, rfl, _, _⟩ := hO10.some_ (by omega)
          obtain ⟨g2, rfl, _, _⟩ := hO2.some_ (by omega)
          have k0 := hO10.cell (j := 0) rfl
          have k1 := hO10.cell (j := 1) rfl
          have k2 := hO10.cell (j := 2) rfl
          have k3 := hO10.cell (j := 3) rfl
          have k4 : w10.cell? ⟨g, 4, none⟩ = some (.string T) := by rw [← HTE.out]; exact hO10.cell (j := 4) rfl
          have k5 : w10.cell? ⟨g, 5, none⟩ = some (.string ⟨#[]⟩) := hO10.cell (j := 5) rfl
          have f4 : w10.cell? ⟨g2, 4, none⟩ = some (.string (S (joinLF ((l.take m).map L)))) := hO2.cell (j := 4) rfl
          have f10 : w10.cell? ⟨g2, 10, none⟩ = some (.string (S (joinLF ((l.drop m).map L)))) := hO2.cell (j := 10) rfl
          have HT1 := Lib.hid (fun W (hW : Below w.heap.size w W) => text_any (some ad) m cap w.heap.size (l.take m) W (by have := (hr.below hW).pre (k := m) (by omega); rwa [← List.map_take] at this) (by omega) (fun x hx => (HALL.out x (List.mem_of_mem_take hx)).2))
          have HT2 := Lib.hid (fun W (hW : Below w.heap.size w W) => text_any (if cap = m then (some ad) else (some ad).map (·.add m)) (k - m) (cap - m) w.heap.size (l.drop m) W (by have := (hr.below hW).suf (k := m) (by omega) hnc; rwa [← List.map_drop] at this) (by omega) (fun x hx => (HALL.out x (List.mem_of_mem_drop hx)).2))
          rw [if_neg hne] at HT2
          generalize S (joinLF ((l.take m).map L)) = T1 at *
          generalize S (joinLF ((l.drop m).map L)) = T2 at *
          clear b10 hm2 hb8 hz8 HP2 hO10 hO2
          go_quiet ((go_at_call 21; exact Calls.quiet_of_same (HT.out _ (below_drewN' hb10 _))))
          have hb11 := below_drewN' hb10 nq
          clear k0 k1 k2 k3 k4 k5
          have f4' : (w10.drewN nq).cell? ⟨g2, 4, none⟩ = some (.string T1) := f4
          have f10' : (w10.drewN nq).cell? ⟨g2, 10, none⟩ = some (.string T2) := f10
          generalize w10.drewN nq = w11 at *
          clear f4 f10
          go_upto_region 23 with fail
          go_quiet ((first
            | (go_at_call_of 21 (Value.slice (some ad) m cap); exact Calls.quiet_of_same (HT1.out _ (below_drewN' hb11 _)))
            | (go_at_call 21; exact Calls.quiet_of_same (HT2.out _ (below_drewN' hb11 _)))))
          go_wp2_with fail
          go_ret
          exact ⟨rfl, below_drewN' hb11 _⟩
end Go.Proofs.YtommebalgghdjaaDoor
