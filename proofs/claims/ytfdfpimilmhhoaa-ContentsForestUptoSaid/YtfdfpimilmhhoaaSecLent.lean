/-
  bowdlerbook.copySecs, LentSecs, SameSecs and StaysSecs.
-/
import Derived.Test.YtfdfpimilmhhoaaHtml
import Derived.Test.YtfdfpimilmhhoaaSameInts
import Derived.Laws.StructEq
namespace Go.Proofs.Ytfdfpimilmhhoaa
open Go.RowKit
set_option linter.unusedVariables false

theorem Reads.sec {w : World} {B m : Nat} {A : Option Addr} {l : List Sec} (h : Reads w B 4 A m (secCells l)) {i : Nat} {p : Sec} (hp : l[i]? = some p) : ∃ ad, A = some ad ∧ ad.block < B ∧ i < m ∧
    w.cell? (ad.add (i * 4)) = some (.int .i64 p.level) ∧
    w.cell? ⟨(ad.add (i * 4)).block, (ad.add (i * 4)).off + 1, none⟩ = some (.string p.number) ∧
    w.cell? ⟨(ad.add (i * 4)).block, (ad.add (i * 4)).off + 2, none⟩ = some (.string p.anchor) ∧
    w.cell? ⟨(ad.add (i * 4)).block, (ad.add (i * 4)).off + 3, none⟩ = some (.string p.text) := by
  have hl : l.length = m := by have := h.1; rw [secCells_length] at this; omega
  have hi : i < m := by rw [← hl]; exact (List.getElem?_eq_some_iff.1 hp).1
  obtain ⟨ad, rfl, hb, hc0, hcj⟩ := h.elem hi
  have g := fun j (hj : j < 4) => secCells_get l i j hj hp
  exact ⟨ad, rfl, hb, hi, hc0 _ (by have := g 0 (by omega); rw [Nat.add_zero] at this; rw [this]; rfl), hcj 1 _ (by omega) (by rw [g 1 (by omega)]; rfl), hcj 2 _ (by omega) (by rw [g 2 (by omega)]; rfl), hcj 3 _ (by omega) (by rw [g 3 (by omega)]; rfl)⟩
theorem secb_same (a b : ByteArray) : (a == b) = true ↔ a = b := by
  rw [beq_toListBytes, beq_iff_eq, ByteArray.toList_eq, ByteArray.toList_eq]
  exact ⟨fun h => L_inj h, fun h => by rw [h]⟩
theorem secb_ne {a b : ByteArray} (h : ¬ a = b) : (a == b) = false ∧ (a.toList == b.toList) = false ∧ ¬ a.toList = b.toList := by
  have h1 : (a == b) = false := Bool.eq_false_iff.2 fun e => h ((secb_same _ _).1 e)
  have h2 : (a.toList == b.toList) = false := by rw [← beq_toListBytes]; exact h1
  exact ⟨h1, h2, fun e => by rw [e] at h2; simp at h2⟩
theorem sec_one (l : List Sec) : ∀ u ∈ secCells l, u.oneCell' = true := by
  intro u hu
  obtain ⟨x, _, hx⟩ := List.mem_flatMap.1 hu
  simp only [Sec.cells, List.mem_cons, List.not_mem_nil, or_false] at hx
  rcases hx with rfl | rfl | rfl | rfl <;> rfl

set_option maxHeartbeats 1000000 in
set_option maxRecDepth 100000 in
theorem sameSecs_any (A A' : Option Addr) (n n' c c' K : Nat) (xs ys : List Sec) (w : World) (ha : Reads w K 4 A n (secCells xs)) (hb : Reads w K 4 A' n' (secCells ys)) (hn : n ≤ 1099511627776) (hn' : n' ≤ 1099511627776) :
    Calls Try.prog 37 #[.slice A n c, .slice A' n' c'] w fun e w' => e = .returned (.bool (decide (xs = ys))) ∧ ∃ m, w' = w.drewN m := by
  have hl : xs.length = n := by have := ha.1; rw [secCells_length] at this; omega
  have hl' : ys.length = n' := by have := hb.1; rw [secCells_length] at this; omega
  have HL := Lib.hid hl
  have HL' := Lib.hid hl'
  clear hl hl'
  by_cases hnn : n = n'
  · subst hnn
    go_enter Try.func37, Try.ntmps37
    go_wp2_with fail
    go_loopw [5] (fun i wr => ∃ k m : Nat, k ≤ n ∧ i = .int .i64 k ∧ xs.take k = ys.take k ∧ wr = w.drewN m) (fun i _ => n - (intOf i).toNat)
    case atStart => exact ⟨0, 0, Nat.zero_le _, rfl, rfl, rfl⟩
    case round =>
      obtain ⟨k, m, hk, rfl, heq, rfl⟩ := hrel
      have HE := Lib.hid heq
      clear heq
      by_cases hlt : k < n
      · obtain ⟨x, hx⟩ : ∃ x, xs[k]? = some x := ⟨_, List.getElem?_eq_getElem (by rw [HL.out]; omega)⟩
        obtain ⟨y, hy⟩ : ∃ x, ys[k]? = some x := ⟨_, List.getElem?_eq_getElem (by rw [HL'.out]; omega)⟩
        obtain ⟨ad, rfl, _, _, g0, g1, g2, g3⟩ := ha.sec hx
        obtain ⟨ad', rfl, _, _, f0, f1, f2, f3⟩ := hb.sec hy
        have HT := Lib.hid (take_eq_succ hx hy HE.out)
        clear hx hy
        obtain ⟨xk, xd, xt, xu⟩ := x
        obtain ⟨yk, yd, yt, yu⟩ := y
        simp only at g0 g1 g2 g3 f0 f1 f2 f3
        by_cases hxy : xk = yk ∧ xd = yd ∧ xt = yt ∧ xu = yu
        · obtain ⟨rfl, rfl, rfl, rfl⟩ := hxy
          go_wp2_with fail
          go_quiet (fail)
          go_wp2_with fail
          go_roundw
          case rel => exact ⟨k + 1, m + nq, by omega, by go_num, HT.out.2 (by first | rfl | trivial), rfl⟩
          case measure => simp [intOf]; omega
        · have hne : ¬ xs = ys := fun h => hxy (by have := HT.out.1 (by rw [h]); injection this with h1 h2 h3 h4; exact ⟨h1, h2, h3, h4⟩)
          have HD := Lib.hid (decide_eq_false hne)
          clear hne HT
          have hc : (xk == yk) = false ∨ (xk = yk ∧ ¬ xd = yd) ∨ (xk = yk ∧ xd = yd ∧ ¬ xt = yt) ∨ (xk = yk ∧ xd = yd ∧ xt = yt ∧ ¬ xu = yu) := by
            by_cases h1 : xk = yk
            · by_cases h2 : xd = yd
              · by_cases h3 : xt = yt
                · exact .inr (.inr (.inr ⟨h1, h2, h3, fun h4 => hxy ⟨h1, h2, h3, h4⟩⟩))
                · exact .inr (.inr (.inl ⟨h1, h2, h3⟩))
              · exact .inr (.inl ⟨h1, h2⟩)
            · exact .inl (beq_eq_false_iff_ne.2 h1)
          clear hxy
          rcases hc with q | ⟨rfl, q⟩ | ⟨rfl, rfl, q⟩ | ⟨rfl, rfl, rfl, q⟩
          case' inr.inl => obtain ⟨q1, q2, q3⟩ := secb_ne q
          case' inr.inr.inl => obtain ⟨q1, q2, q3⟩ := secb_ne q
          case' inr.inr.inr => obtain ⟨q1, q2, q3⟩ := secb_ne q
          all_goals
            go_wp2_with fail
            go_quiet (fail)
            go_wp2_with fail
            go_ret
            refine ⟨?_, _, World.drewN_drewN _ _ _⟩
            rw [HD.out]
            rfl
      · have hkn : k = n := by omega
        subst hkn
        have hxy : xs = ys := by
          have := HE.out
          rwa [List.take_of_length_le (by rw [HL.out]; omega), List.take_of_length_le (by rw [HL'.out]; omega)] at this
        go_wp2_with fail
        go_ret
        rw [decide_eq_true hxy]
        exact ⟨rfl, m, rfl⟩
  · go_enter Try.func37, Try.ntmps37
    go_wp2_with fail
    go_ret
    have hne : ¬ xs = ys := fun h => hnn (by rw [← HL.out, ← HL'.out, h])
    rw [decide_eq_false hne]
    exact ⟨rfl, 0, rfl⟩

set_option maxHeartbeats 1000000 in
set_option maxRecDepth 100000 in
theorem copySecs_any (A : Option Addr) (n c K : Nat) (xs : List Sec) (w : World) (hr : Reads w K 4 A n (secCells xs)) (hn : n ≤ 1048576) :
    Calls Try.prog 31 #[.slice A n c] w fun e w' => ∃ A' c', e = .returned (.slice A' n c') ∧ Own w' w.heap.size 26 4 A' n c' (secCells xs) ∧ Below w.heap.size w w' := by
  go_enter Try.func31, Try.ntmps31
  go_wp2_with (at_builtin; refine wpList_app Try.elSecs rfl (.const (.slice none 0 0)) (.tmp 3) rfl rfl (Own.nil _ w.heap.size _ _) rfl hr (sec_one _) (by simp only [maxLen]; omega) (by omega) (Nat.le_refl _) ?_
               intro A6 c6 w6 hown6 ho6 hm6
               rw [Nat.zero_add, List.nil_append] at hown6)
  go_ret
  exact ⟨A6, c6, rfl, hown6, ho6.below (fun a ha => by cases ha) (Nat.le_refl _)⟩

def markS : Sec := ⟨-77, ⟨#[]⟩, ⟨#[]⟩, ⟨#[]⟩⟩
theorem secs_mark (xs : List Sec) : secCells (xs ++ [markS]) = secCells xs ++ [.int .i64 (-77), .string ⟨#[]⟩, .string ⟨#[]⟩, .string ⟨#[]⟩] := by simp [secCells, Sec.cells, markS]
set_option maxHeartbeats 1000000 in
set_option maxRecDepth 100000 in
theorem lentSecs_any (A : Option Addr) (n c K : Nat) (xs : List Sec) (w : World) (hr : Reads w K 4 A n (secCells xs)) (hn : n ≤ 1000000) :
    Calls Try.prog 8 #[.slice A n c] w fun e w' => ∃ B d, e = .returned (.slice B n d) ∧ Own w' w.heap.size 26 4 B (n + 1) d (secCells (xs ++ [markS])) ∧ Below w.heap.size w w' := by
  go_enter Try.func8, Try.ntmps8
  go_wp2_with (first
    | (go_at_call 31; refine (copySecs_any A n c K xs w hr (by omega)).mono ?_; rintro e w1 ⟨A1, c1, rfl, hO1, b1⟩
       have hz1 := b1.size)
    | (at_builtin; refine wpList_app1 Try.elSecs rfl (.tmp 4) (.tmp 6) rfl rfl (by exact hO1.alloc _) rfl (Blk.new' _ _ _ _ (by simp)) rfl (by simp [Value.oneCell']) (by simp only [maxLen]; omega) (by omega) (by simp; omega) ?_
       intro B d w2 hO2 ho2 hm2
       obtain ⟨q, rfl, _, _⟩ := hO2.some_ (by omega)
       have hcap := hO2.cap))
  go_ret
  exact ⟨_, _, rfl, by simpa [secCells, Sec.cells, markS] using hO2, b1.trans (ho2.of_alloc.below (fun a ha => (hO1.lt ha).1) hz1)⟩
set_option maxHeartbeats 1000000 in
set_option maxRecDepth 100000 in
theorem staysSecs_any (B A : Option Addr) (n d c K base : Nat) (xs : List Sec) (w : World) (hO : Own w base 26 4 B (n + 1) d (secCells (xs ++ [markS]))) (hr : Reads w K 4 A n (secCells xs)) (hn : n ≤ 1000000) :
    Calls Try.prog 16 #[.slice B n d, .slice A n c] w fun e w' => e = .returned (.bool true) ∧ ∃ m, w' = w.drewN m := by
  have hlen : xs.length = n := by have := hr.1; rw [secCells_length] at this; omega
  obtain ⟨q, rfl, _, _⟩ := hO.some_ (by omega)
  have hcap := hO.cap
  have k1 : ∀ m, (w.drewN m).cell? ⟨q, n * 4, none⟩ = some (.int .i64 (-77)) := fun m => (hO.drewN m).cell (by rw [secs_mark, List.getElem?_append_right (by rw [secCells_length]; omega), secCells_length, hlen, Nat.sub_self]; rfl)
  have hrd : Reads w w.heap.size 4 (some ⟨q, 0, none⟩) n (secCells xs) := by
    have h1 := (hO.take (m := n) (by omega)).reads
    have : (secCells (xs ++ [markS])).take (n * 4) = secCells xs := by
      rw [secs_mark, List.take_append_of_le_length (by rw [secCells_length]; omega), List.take_of_length_le (by rw [secCells_length]; omega)]
    rw [this] at h1
    exact h1
  have HS := Lib.hid (sameSecs_any (some ⟨q, 0, none⟩) A n n d c (w.heap.size + K) xs xs w (hrd.more (by omega)) (hr.more (by omega)) (by omega) (by omega))
  have hd : decide (xs = xs) = true := decide_eq_true rfl
  clear hlen hrd hO
  go_enter Try.func16, Try.ntmps16
  go_wp2_with (go_at_call 37; refine HS.out.mono ?_; rintro e w1 ⟨rfl, mm, rfl⟩; have k2 := k1 mm; rw [hd])
  go_ret
  exact ⟨rfl, mm, rfl⟩
end Go.Proofs.Ytfdfpimilmhhoaa
