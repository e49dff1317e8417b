/-
  A policy's text with remarks between its lines is the policy.
-/
import Derived.Test.YtofloedgclodnaaDoorPolRep
import Derived.Test.YtofloedgclodnaaDoorPolWrite
namespace Go.Proofs.YtofloedgclodnaaDoor

/-- a place behind an LF parts the lines -/
theorem joinT_cut : ∀ (ls : List (List UInt8)) (k : Nat), (∀ x ∈ ls, 10 ∉ x) → k ≤ (joinT ls).length → (k = 0 ∨ (joinT ls)[k - 1]? = some 10) →
    ∃ j, (joinT ls).take k = joinT (ls.take j) ∧ (joinT ls).drop k = joinT (ls.drop j)
  | ls, 0, _, _, _ => ⟨0, by simp [joinT], by simp⟩
  | [], k + 1, _, h, _ => by simp [joinT] at h
  | x :: t, k + 1, hno, hk, hc => by
    have e : joinT (x :: t) = (x ++ [10]) ++ joinT t := by simp [joinT]
    rw [e] at hk hc ⊢
    have hx := hno x (by simp)
    have hc' : ((x ++ [10]) ++ joinT t)[k]? = some 10 := by
      rcases hc with h | h
      · omega
      · simpa using h
    have hkx : x.length ≤ k := by
      by_cases h : x.length ≤ k
      · exact h
      · rw [List.getElem?_append_left (by simp; omega), List.getElem?_append_left (by omega)] at hc'
        exact absurd (List.mem_of_getElem? hc') hx
    have hl : (x ++ [10]).length = x.length + 1 := by simp
    obtain ⟨j, h1, h2⟩ := joinT_cut t (k - x.length) (fun y hy => hno y (List.mem_cons_of_mem _ hy)) (by rw [List.length_append, hl] at hk; omega) (by
      by_cases h : k = x.length
      · exact .inl (by omega)
      · right
        rw [List.getElem?_append_right (by omega), hl] at hc'
        rw [← hc']; congr 1 <;> omega)
    refine ⟨j + 1, ?_, ?_⟩
    · rw [List.take_append, List.take_of_length_le (by omega), hl, show k + 1 - (x.length + 1) = k - x.length by omega, h1]
      simp [joinT]
    · rw [List.drop_append, List.drop_eq_nil_of_le (by omega), hl, show k + 1 - (x.length + 1) = k - x.length by omega, h2]
      simp

theorem parseC_skip (b : List ByteArray) : ∀ (sk : List ByteArray), (∀ x ∈ sk, skipB x = true) → ∀ xs ps, parseC (sk ++ b) xs ps = parseC b xs ps
  | [], _, _, _ => rfl
  | x :: t, h, xs, ps => by
    rw [List.cons_append, parseC, h x (by simp), if_pos rfl]
    exact parseC_skip b t (fun y hy => h y (List.mem_cons_of_mem _ hy)) xs ps
theorem parseC_mid (sk b : List ByteArray) (h : ∀ x ∈ sk, skipB x = true) : ∀ (a xs : List ByteArray) (ps : List (Int × Int)), parseC (a ++ sk ++ b) xs ps = parseC (a ++ b) xs ps
  | [], xs, ps => by rw [List.nil_append, List.nil_append, parseC_skip b sk h]
  | x :: t, xs, ps => by
    rw [List.cons_append, List.cons_append, List.cons_append, parseC, parseC]
    split
    · exact parseC_mid sk b h t _ _
    · split
      · exact parseC_mid sk b h t _ _
      · rfl

theorem okB_facts {b : UInt8} (h : okB b = true) : b ≠ 32 ∧ b ≠ 10 ∧ b ≠ 9 ∧ b ≠ 35 ∧ b ≠ 0 ∧ b ≠ 13 ∧ b.toNat < 128 := by
  have hcs : (97 ≤ b.toNat ∧ b.toNat ≤ 122) ∨ (48 ≤ b.toNat ∧ b.toNat ≤ 57) ∨ b = 45 := by simpa [okB, or_assoc] using h
  rcases hcs with h | h | rfl
  · refine ⟨?_, ?_, ?_, ?_, ?_, ?_, by omega⟩ <;> (rintro rfl; revert h; decide)
  · refine ⟨?_, ?_, ?_, ?_, ?_, ?_, by omega⟩ <;> (rintro rfl; revert h; decide)
  · decide
theorem name_bytes {x : ByteArray} (h : nameT (L x) = true) : L x ≠ [] ∧ ∀ b ∈ L x, okB b = true := by
  unfold nameT at h
  rw [Bool.and_eq_true, Bool.and_eq_true] at h
  exact ⟨by simpa using h.1.1, fun b hb => List.all_eq_true.1 h.2 b hb⟩
theorem name_no32 {x : ByteArray} (h : nameT (L x) = true) : 32 ∉ L x := fun hm => (okB_facts ((name_bytes h).2 32 hm)).1 rfl

theorem words_level {x : ByteArray} (h : nameT (L x) = true) : (split32 (L (wlineA x))).map S = [levelB, x] := by
  have e : L (wlineA x) = [108, 101, 118, 101, 108] ++ 32 :: L x := by unfold wlineA; rw [L_append]; rfl
  rw [e, split32_app (L x) (by decide), split32_none (name_no32 h)]
  simp [levelB, S_lit, S_L]
theorem words_pair {a b : ByteArray} (ha : nameT (L a) = true) (hb : nameT (L b) = true) : (split32 (L (a ++ ⟨#[32, 60, 32]⟩ ++ b))).map S = [a, ⟨#[60]⟩, b] := by
  have e : L (a ++ ⟨#[32, 60, 32]⟩ ++ b) = L a ++ 32 :: ([60] ++ 32 :: L b) := by rw [L_append, L_append]; simp [L_lit]
  rw [e, split32_app _ (name_no32 ha), split32_app _ (by decide), split32_none (name_no32 hb)]
  simp [S_L]
  rfl
theorem skip_level (x : ByteArray) : skipB (wlineA x) = false := by
  have e : L (wlineA x) = [108, 101, 118, 101, 108, 32] ++ L x := by unfold wlineA; rw [L_append]; rfl
  unfold skipB
  rw [e]
  simp [blankT, Lib.hasPrefix, List.isPrefixOf]
theorem skip_pair {a : ByteArray} (b : ByteArray) (ha : nameT (L a) = true) : skipB (a ++ ⟨#[32, 60, 32]⟩ ++ b) = false := by
  obtain ⟨h0, h1⟩ := name_bytes ha
  unfold skipB
  rw [L_append, L_append]
  rcases hl : L a with _ | ⟨c, t⟩
  · exact absurd hl h0
  · have hc := okB_facts (h1 c (by rw [hl]; simp))
    simp [blankT, Lib.hasPrefix, List.isPrefixOf, hc.1, hc.2.2.1]
    exact fun h => hc.2.2.2.1 h.symm

theorem nms_pos (xs : List ByteArray) : ∀ (l : List ByteArray) (k j : Nat) (y : ByteArray), nmsT xs k l = true → l[j]? = some y → idxT xs y = ((k + j : Nat) : Int)
  | [], _, j, y, _, hy => by simp at hy
  | z :: t, k, j, y, h, hy => by
    rw [nmsT, Bool.and_eq_true, Bool.and_eq_true] at h
    cases j with
    | zero =>
      simp at hy
      rw [← hy]
      simpa using h.1.2
    | succ j =>
      rw [List.getElem?_cons_succ] at hy
      rw [nms_pos xs t (k + 1) j y h.2 hy]
      congr 1; omega
theorem idxF_at (x : ByteArray) : ∀ (k : Nat) (xs t : List ByteArray), x ∉ xs → idxF x k (xs ++ x :: t) = ((k + xs.length : Nat) : Int)
  | k, [], t, _ => by simp [idxF]
  | k, y :: l, t, h => by
    rw [List.cons_append, idxF, if_neg (fun e => h (by rw [e]; simp)), idxF_at x (k + 1) l t (fun e => h (List.mem_cons_of_mem _ e))]
    simp only [List.length_cons]; congr 1; omega
/-- where each name's index is its place, none stands twice -/
theorem nms_new {xs a t : List ByteArray} {x : ByteArray} (h : nmsT xs 0 xs = true) (e : xs = a ++ x :: t) : x ∉ a := by
  intro hm
  obtain ⟨i, hi⟩ := List.getElem?_of_mem hm
  have hil : i < a.length := (List.getElem?_eq_some_iff.1 hi).1
  have h1 := nms_pos xs xs 0 i x h (by rw [e, List.getElem?_append_left hil]; exact hi)
  have h2 := nms_pos xs xs 0 a.length x h (by rw [e, List.getElem?_append_right (Nat.le_refl _)]; simp)
  omega

theorem parse_names {xs : List ByteArray} (hn : ∀ x ∈ xs, nameT (L x) = true) (h : nmsT xs 0 xs = true) (h64 : xs.length ≤ 64) (r : List ByteArray) : ∀ (t a : List ByteArray), xs = a ++ t →
    parseC (t.map wlineA ++ r) a [] = parseC r xs []
  | [], a, e => by rw [List.append_nil] at e; rw [← e]; rfl
  | x :: t, a, e => by
    have hx := hn x (by rw [e]; simp)
    have hnew := nms_new h e
    have hl : (a ++ [x]).length = a.length + 1 := by simp
    have hi : idxT (a ++ [x]) x = (a.length : Int) := by
      have := idxF_at x 0 a [] hnew
      unfold idxT
      simpa using this
    have ha := addT_level a [] x
    have hle : a.length + 1 ≤ 64 := by
      have := congrArg List.length e
      simp at this; omega
    have he : ((a.length : Int) == ((a.length + 1 : Nat) : Int) - 1) = true := by simp
    rw [hi, hl, hx, he, decide_eq_true hle] at ha
    rw [List.map_cons, List.cons_append, parseC, skip_level, words_level hx, ha]
    simp only [Bool.false_eq_true, if_false, Bool.and_self, if_true]
    exact parse_names hn h h64 r t (a ++ [x]) (by rw [e]; simp)

theorem parse_pairs {xs : List ByteArray} (hn : ∀ x ∈ xs, nameT (L x) = true) (h : nmsT xs 0 xs = true) (h1 : 1 ≤ xs.length) {qs : List (Int × Int)} (hq : ∀ p ∈ qs, ∃ i j : Nat, p = ((i : Int), (j : Int)) ∧ i < xs.length ∧ j < xs.length ∧ i ≠ j) :
    ∀ (t a : List (Int × Int)), (∀ p ∈ t, p ∈ qs) → parseC (t.map (wlineB xs)) xs a = some (xs, a ++ t)
  | [], a, _ => by
    rw [List.map_nil, parseC, if_neg (by omega), List.append_nil]
  | p :: t, a, hsub => by
    obtain ⟨i, j, rfl, hi, hj, hij⟩ := hq p (hsub p (by simp))
    have ei : xs.getD i ⟨#[]⟩ = xs[i] := by rw [List.getD_eq_getElem?_getD, List.getElem?_eq_getElem hi]; rfl
    have ej : xs.getD j ⟨#[]⟩ = xs[j] := by rw [List.getD_eq_getElem?_getD, List.getElem?_eq_getElem hj]; rfl
    have ew : wlineB xs ((i : Int), (j : Int)) = xs[i] ++ ⟨#[32, 60, 32]⟩ ++ xs[j] := by
      unfold wlineB
      simp only [Int.toNat_natCast, ei, ej]
    have ni := hn xs[i] (List.getElem_mem hi)
    have nj := hn xs[j] (List.getElem_mem hj)
    have ii := nms_pos xs xs 0 i xs[i] h (List.getElem?_eq_getElem hi)
    have jj := nms_pos xs xs 0 j xs[j] h (List.getElem?_eq_getElem hj)
    rw [Nat.zero_add] at ii jj
    have hb : addT xs a [xs[i], ⟨#[60]⟩, xs[j]] = (true, xs, a ++ [((i : Int), (j : Int))]) := by
      simp only [addT, if_true, ii, jj]
      have e1 : decide ((0 : Int) ≤ (i : Int)) = true := decide_eq_true (by omega)
      have e2 : decide ((0 : Int) ≤ (j : Int)) = true := decide_eq_true (by omega)
      have e3 : ((i : Int) != (j : Int)) = true := by rw [bne_iff_ne]; omega
      rw [e1, e2, e3]; rfl
    rw [List.map_cons, ew, parseC, skip_pair _ ni, words_pair ni nj, hb]
    simp only [Bool.false_eq_true, if_false, if_true]
    rw [parse_pairs hn h h1 hq t (a ++ [((i : Int), (j : Int))]) (fun q hq => hsub q (List.mem_cons_of_mem _ hq))]
    simp

theorem parse_write {xs : List ByteArray} {ps : List (Int × Int)} (h : rightT xs ps = true) : parseC (wlines xs ps) [] [] = some (xs, ps) := by
  obtain ⟨r1, r2, r3, r4, r5⟩ := right_parts h
  unfold wlines
  rw [parse_names r3 r4 r2 _ xs [] rfl]
  have := parse_pairs r3 r4 r1 r5 ps [] (fun p hp => hp)
  simpa using this

theorem wline_bytes {xs : List ByteArray} {ps : List (Int × Int)} (h : rightT xs ps = true) : ∀ x ∈ wlines xs ps, ∀ b ∈ L x, Stays b ∧ b ≠ 10 := by
  obtain ⟨r1, r2, r3, r4, r5⟩ := right_parts h
  have hname : ∀ x ∈ xs, ∀ b ∈ L x, Stays b ∧ b ≠ 10 := fun x hx b hb => by
    have := okB_facts ((name_bytes (r3 x hx)).2 b hb)
    exact ⟨⟨this.2.2.2.2.1, this.2.2.2.2.2.2, this.2.2.2.2.2.1⟩, this.2.1⟩
  have hgd : ∀ (i : Nat) (b : UInt8), b ∈ L (xs.getD i ⟨#[]⟩) → Stays b ∧ b ≠ 10 := fun i b hb => by
    rw [List.getD_eq_getElem?_getD] at hb
    rcases hi : xs[i]? with _ | x
    · rw [hi] at hb; simp [L] at hb
    · rw [hi] at hb; exact hname x (List.mem_of_getElem? hi) b hb
  intro x hx b hb
  rcases List.mem_append.1 hx with hx | hx
  · obtain ⟨y, hy, rfl⟩ := List.mem_map.1 hx
    unfold wlineA at hb
    rw [L_append] at hb
    rcases List.mem_append.1 hb with hb | hb
    · have : ∀ c ∈ ([108, 101, 118, 101, 108, 32] : List UInt8), (c ≠ 0 ∧ c.toNat < 128 ∧ c ≠ 13) ∧ c ≠ 10 := by decide
      exact this b hb
    · exact hname y hy b hb
  · obtain ⟨p, hp, rfl⟩ := List.mem_map.1 hx
    unfold wlineB at hb
    rw [L_append, L_append] at hb
    rcases List.mem_append.1 hb with hb | hb
    · rcases List.mem_append.1 hb with hb | hb
      · exact hgd _ b hb
      · have : ∀ c ∈ ([32, 60, 32] : List UInt8), (c ≠ 0 ∧ c.toNat < 128 ∧ c ≠ 13) ∧ c ≠ 10 := by decide
        exact this b hb
    · exact hgd _ b hb

/-- remarks and blank lines change nothing -/
theorem lines_law {xs : List ByteArray} {ps : List (Int × Int)} (h : rightT xs ps = true) (more : ByteArray) (hm : ∀ b ∈ L more, b ≠ 10 ∧ b ≠ 13) (k : Nat) (hk : k ≤ (writeT xs ps).size)
    (hc : k = 0 ∨ (L (writeT xs ps))[k - 1]? = some 10) :
    parseT ((writeT xs ps).extract 0 k ++ ⟨#[35]⟩ ++ more ++ ⟨#[10, 10, 32, 9, 10]⟩ ++ (writeT xs ps).extract k (writeT xs ps).size) = some (xs, ps) := by
  have hw := wline_bytes h
  have hpw := parse_write h
  have hL : L (writeT xs ps) = joinT ((wlines xs ps).map L) := by unfold writeT; rw [if_pos h, L_S]
  have hsz : (writeT xs ps).size = (joinT ((wlines xs ps).map L)).length := by rw [← length_L, hL]
  rw [parseT_eq]
  have hb : ∀ x ∈ (wlines xs ps).map L, ∀ b ∈ x, Stays b ∧ b ≠ 10 := fun x hx b hb => by
    obtain ⟨y, hy, rfl⟩ := List.mem_map.1 hx
    exact hw y hy b hb
  obtain ⟨j, j1, j2⟩ := joinT_cut ((wlines xs ps).map L) k (fun x hx hh => (hb x hx 10 hh).2 rfl) (by omega) (by rw [← hL]; exact hc)
  have hst : ∀ ls : List (List UInt8), (∀ x ∈ ls, x ∈ (wlines xs ps).map L) → ∀ b ∈ joinT ls, Stays b := fun ls hls b hbj => by
    obtain ⟨x, hx, hbx⟩ := List.mem_flatMap.1 hbj
    rcases List.mem_append.1 hbx with hbx | hbx
    · exact (hb x (hls x hx) b hbx).1
    · rw [List.mem_singleton.1 hbx]; exact ⟨by decide, by decide, by decide⟩
  have htext : (writeT xs ps).extract 0 k ++ ⟨#[35]⟩ ++ more ++ ⟨#[10, 10, 32, 9, 10]⟩ ++ (writeT xs ps).extract k (writeT xs ps).size =
      S ((joinT (((wlines xs ps).map L).take j) ++ [35]) ++ L more ++ ([10, 10, 32, 9, 10] ++ joinT (((wlines xs ps).map L).drop j))) := by
    apply L_inj
    rw [L_S, L_append, L_append, L_append, L_append, L_extract, L_extract, hL, hsz, List.drop_zero, List.take_length, j1, j2]
    simp [L_lit]
  rw [htext]
  obtain ⟨m, hm1, hm2⟩ := repT_mid (joinT (((wlines xs ps).map L).take j) ++ [35]) (L more) ([10, 10, 32, 9, 10] ++ joinT (((wlines xs ps).map L).drop j)) (fun b hbm => by
      rcases List.mem_append.1 hbm with hbm | hbm
      · exact hst _ (fun x hx => List.mem_of_mem_take hx) b hbm
      · rw [List.mem_singleton.1 hbm]; exact ⟨by decide, by decide, by decide⟩) hm (fun b hbm => by
      rcases List.mem_append.1 hbm with hbm | hbm
      · have : ∀ c ∈ ([10, 10, 32, 9, 10] : List UInt8), c ≠ 0 ∧ c.toNat < 128 ∧ c ≠ 13 := by decide
        exact this b hbm
      · exact hst _ (fun x hx => List.mem_of_mem_drop hx) b hbm)
  have hj : joinT (((wlines xs ps).map L).take j) ++ [35] ++ m ++ ([10, 10, 32, 9, 10] ++ joinT (((wlines xs ps).map L).drop j)) =
      joinT (((wlines xs ps).map L).take j ++ [35 :: m, [], [32, 9]] ++ ((wlines xs ps).map L).drop j) := by
    rw [joinT_app, joinT_app]; simp [joinT]
  rw [hm1, hj]
  have hls : linesB (S (joinT (((wlines xs ps).map L).take j ++ [35 :: m, [], [32, 9]] ++ ((wlines xs ps).map L).drop j))) =
      (wlines xs ps).take j ++ [S (35 :: m), S [], S [32, 9]] ++ (wlines xs ps).drop j := by
    unfold linesB
    rw [L_S, lines_join]
    · simp only [List.map_append, ← List.map_take, ← List.map_drop, map_S_L]
      rfl
    · intro x hx
      rcases List.mem_append.1 hx with hx | hx
      · rcases List.mem_append.1 hx with hx | hx
        · exact fun h10 => (hb x (List.mem_of_mem_take hx) 10 h10).2 rfl
        · simp only [List.mem_cons, List.not_mem_nil, or_false] at hx
          rcases hx with rfl | rfl | rfl
          · simp only [List.mem_cons, not_or]; exact ⟨by decide, hm2⟩
          · simp
          · decide
      · exact fun h10 => (hb x (List.mem_of_mem_drop hx) 10 h10).2 rfl
  rw [hls, parseC_mid, List.take_append_drop, hpw]
  intro x hx
  simp only [List.mem_cons, List.not_mem_nil, or_false] at hx
  rcases hx with rfl | rfl | rfl
  · unfold skipB; rw [L_S]; simp [Lib.hasPrefix]
  · decide +kernel
  · decide +kernel
end Go.Proofs.YtofloedgclodnaaDoor
