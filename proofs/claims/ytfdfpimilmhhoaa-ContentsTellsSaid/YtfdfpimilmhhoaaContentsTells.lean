/-
  bowdlerlaw20.ContentsTells: its walk: it answers true, and turns nothing that was there.
-/
import Derived.Test.YtfdfpimilmhhoaaAlive
import Derived.Test.YtfdfpimilmhhoaaRefCont
import Derived.Test.YtfdfpimilmhhoaaIntApart
import Derived.Test.YtfdfpimilmhhoaaIntLent
namespace Go.Proofs.Ytfdfpimilmhhoaa
open Go.RowKit
set_option linter.unusedVariables false

theorem sameInts_true (A A' : Option Addr) (n c c' K : Nat) (xs : List Int) (w : World) (ha : Reads w K 1 A n (inCells xs)) (hb : Reads w K 1 A' n (inCells xs)) (hn : n ≤ 1099511627776) :
    Calls Try.prog 11 #[.slice A n c, .slice A' n c'] w fun e w' => e = .returned (.bool true) ∧ ∃ m, w' = w.drewN m :=
  (sameInts_any A A' n n c c' K xs xs w ha hb hn hn).mono fun e w' h => ⟨by rw [h.1, decide_eq_true rfl], h.2⟩
theorem nats_in (l : List Nat) : nats l = inCells (l.map fun n : Nat => (n : Int)) := by simp [List.map_map]
theorem depths_in (A : Option Addr) (n c : Nat) (zs : List Int) (w : World) (hr : Reads w w.heap.size 1 A n (inCells zs)) (hreach : n ≤ 1048576) :
    Calls Try.prog 9 #[.slice A n c] w fun e w' => ∃ A' c', e = .returned (.slice A' n c') ∧ Own w' w.heap.size 3 1 A' n c' (inCells ((dpDepths [] zs).map fun n : Nat => (n : Int))) ∧ Below w.heap.size w w' := by
  refine (depths_any A n c zs w hr (by omega)).mono ?_
  rintro e w' ⟨A', c', h1, h2, h3⟩
  exact ⟨A', c', h1, by rw [← nats_in]; exact h2, h3⟩
theorem refDepths_in (A : Option Addr) (n c : Nat) (zs : List Int) (w : World) (hr : Reads w w.heap.size 1 A n (inCells zs)) (hreach : n ≤ 1048576) :
    Calls Try.prog 12 #[.slice A n c] w fun e w' => ∃ A' c', e = .returned (.slice A' n c') ∧ Own w' w.heap.size 3 1 A' n c' (inCells ((dpDepths [] zs).map fun n : Nat => (n : Int))) ∧ Below w.heap.size w w' := by
  refine (refDepths_any A n c zs w hr hreach).mono ?_
  rintro e w' ⟨A', c', h1, h2, h3⟩
  exact ⟨A', c', h1, by rw [← nats_in]; exact h2, h3⟩
theorem Own.readsTakeI {w : World} {base n d : Nat} {B : Option Addr} {xs : List Int} {x : Int} (h : Own w base 3 1 B (n + 1) d (inCells (xs ++ [x]))) : Reads w w.heap.size 1 B n (inCells xs) := by
  have hl := h.len
  simp at hl
  have h1 := (h.take (m := n) (by omega)).reads
  have : (inCells (xs ++ [x])).take (n * 1) = inCells xs := by
    rw [Nat.mul_one, ← List.map_take, List.take_append_of_le_length (by omega), List.take_of_length_le (by omega)]
  rw [this] at h1
  exact h1
theorem Own.readsTakeS {w : World} {base n d : Nat} {B : Option Addr} {xs : List Sec} {x : Sec} (h : Own w base 26 4 B (n + 1) d (secCells (xs ++ [x]))) (hx : xs.length = n) : Reads w w.heap.size 4 B n (secCells xs) := by
  have h1 := (h.take (m := n) (by omega)).reads
  have : (secCells (xs ++ [x])).take (n * 4) = secCells xs := by
    unfold secCells
    rw [List.flatMap_append, List.take_append_of_le_length (by rw [secCells_length]; omega), List.take_of_length_le (by rw [secCells_length]; omega)]
  rw [this] at h1
  exact h1
theorem tells_next {l : List Sec} {k : Nat} {x : Sec} {m : Nat} (h : ∀ y ∈ l.take k, y.number.size + y.anchor.size + y.text.size ≤ m) (hx : l[k]? = some x) (h1 : x.number.size + x.anchor.size + x.text.size ≤ m) :
    ∀ y ∈ l.take (k + 1), y.number.size + y.anchor.size + y.text.size ≤ m := by
  intro y hy
  rw [List.take_add_one, hx] at hy
  simp only [Option.toList_some, List.mem_append, List.mem_singleton] at hy
  rcases hy with hy | rfl
  · exact h y hy
  · exact h1

set_option maxHeartbeats 8000000 in
set_option maxRecDepth 100000 in
theorem contentsTells_walk (A : Option Addr) (n c : Nat) (zs : List Int) (B : Option Addr) (m d : Nat) (l : List Sec) (depth : Int) (numbers : Bool) (w : World)
    (hr : Reads w w.heap.size 1 A n (ints zs)) (hw : Reads w w.heap.size 4 B m (secCells l) ∧ ∀ x ∈ l, x.number.size ≤ 140737488351232 ∧ x.anchor.size ≤ 140737488351232 ∧ x.text.size ≤ 140737488351232) (_ : (Lit.int .i64 depth).wf = true) :
    Calls Try.prog 3 #[.slice A n c, .slice B m d, .int .i64 depth, .bool numbers] w fun e w' => e = .returned (.bool true) ∧ Below w.heap.size w w' := by
  obtain ⟨hs, hR⟩ := hw
  have hzl : zs.length = n := by have := hr.1; simpa using this
  have hsl : l.length = m := by have := hs.1; rw [secCells_length] at this; omega
  by_cases hin : n ≤ 60 ∧ m ≤ 40
  · obtain ⟨h60, h40⟩ := hin
    have HZL := Lib.hid hzl
    have HSL := Lib.hid hsl
    have HR := Lib.hid hR
    clear hzl hsl hR
    go_enter Try.func3, Try.ntmps3
    go_wp2_with fail
    refine (alive_any _).mono ?_
    rintro e w1 ⟨rfl, b1⟩
    go_wp2_with fail
    go_loopw [30] (fun i wr => ∃ k q : Nat, k ≤ m ∧ i = .int .i64 k ∧ Hid (∀ x ∈ l.take k, x.number.size + x.anchor.size + x.text.size ≤ 100) ∧ wr = w1.drewN q) (fun i _ => m - (intOf i).toNat)
    case atStart => exact ⟨0, 0, Nat.zero_le _, rfl, Lib.hid (by simp), rfl⟩
    case round =>
      obtain ⟨k, q, hk, rfl, HSM, rfl⟩ := hrel
      by_cases hlt : k < m
      · obtain ⟨x, hx⟩ : ∃ x, l[k]? = some x := ⟨_, List.getElem?_eq_getElem (by rw [HSL.out]; omega)⟩
        obtain ⟨R1, R2, R3⟩ := HR.out x (List.mem_of_getElem? hx)
        obtain ⟨ad, rfl, hab, _, g0, g1, g2, g3⟩ := (hs.below b1).sec hx
        have HX := Lib.hid hx
        clear hx
        have q1 : IntKind.i64.wrap ((x.text.size : Int) + (x.anchor.size : Int)) = (x.text.size : Int) + (x.anchor.size : Int) := IntWalk.i64_in _ (by omega)
        have q2 : IntKind.i64.wrap ((x.text.size : Int) + (x.anchor.size : Int) + (x.number.size : Int)) = (x.text.size : Int) + (x.anchor.size : Int) + (x.number.size : Int) := IntWalk.i64_in _ (by omega)
        go_wp2_with fail
        go_quiet (fail)
        clear q1 q2
        by_cases h100 : 100 < x.text.size + x.anchor.size + x.number.size
        · go_wp2_with fail
          go_ret
          exact ⟨rfl, below_drewN' (below_drewN' b1 _) _⟩
        · go_wp2_with fail
          go_roundw
          case rel => exact ⟨k + 1, q + nq, by omega, by go_num, Lib.hid (tells_next HSM.out HX.out (by omega)), rfl⟩
          case measure => simp [intOf]; omega
      · have hkm : k = m := by omega
        subst hkm
        have HSM2 : Hid (∀ x ∈ l, x.number.size + x.anchor.size + x.text.size ≤ 1048576) := Lib.hid (by
          have h := HSM.out
          rw [List.take_of_length_le (by rw [HSL.out]; omega)] at h
          exact fun x hx => by have := h x hx; omega)
        have bw := below_drewN' b1 q
        generalize w1.drewN q = w2 at *
        have z2 := bw.size
        clear b1 HSM HR
        go_wp2_with fail
        refine (lentInts_any A n c w.heap.size zs w2 (hr.below bw) (by omega)).mono ?_
        rintro e w3 ⟨A3, c3, rfl, hO3, b3⟩
        have z3 := b3.size
        have bb3 := bw.trans (b3.mono z2)
        go_wp2_with fail
        refine (lentSecs_any B k d w.heap.size l w3 (hs.below bb3) (by omega)).mono ?_
        rintro e w4 ⟨B4, d4, rfl, hO4, b4⟩
        have z4 := b4.size
        have bb4 := bb3.trans (b4.mono (by omega))
        have HST0 : Hid (∀ W, Below w4.heap.size w4 W → Own W w2.heap.size 3 1 A3 (n + 1) c3 (inCells (zs ++ [markN])) ∧ Own W w3.heap.size 26 4 B4 (k + 1) d4 (secCells (l ++ [markS])) ∧ Reads W W.heap.size 1 A n (inCells zs) ∧ Reads W W.heap.size 4 B k (secCells l)) := Lib.hid fun W hW => by
          have h1 := bb4.trans (hW.mono (by omega))
          have h2 := h1.size
          exact ⟨(hO3.below b4 (Nat.le_refl _)).below hW (by omega), hO4.below hW (Nat.le_refl _), (hr.below h1).more h2, (hs.below h1).more h2⟩
        clear hO3 hO4 b3 b4 bw bb3 hr hs
        obtain ⟨G, hG⟩ : ∃ G, w4.heap.size = G := ⟨_, rfl⟩
        have hB5 : Blk (w4.alloc (.cells (ibkCells (.slice none 0 0) (.slice none 0 0)) 39)) w4.heap.size 39 (ibkCells (.slice none 0 0) (.slice none 0 0)) := Blk.new w4 _ _
        have b5 : Below w4.heap.size w4 (w4.alloc (.cells (ibkCells (.slice none 0 0) (.slice none 0 0)) 39)) := (Below.refl _ _).alloc (Nat.le_refl _) _
        have z5 : (w4.alloc (.cells (ibkCells (.slice none 0 0) (.slice none 0 0)) 39)).heap.size = G + 1 := by rw [← hG]; simp
        rw [hG] at hB5 HST0 z4 b5
        have hR5 : IBk (w4.alloc (.cells (ibkCells (.slice none 0 0) (.slice none 0 0)) 39)) G G [] [] := ⟨Nat.le_refl _, none, 0, none, 0, hB5, Own.nil _ _ _ _, Own.nil _ _ _ _, Sep.none_l⟩
        clear hB5
        obtain ⟨w5, hw5⟩ : ∃ w5, w4.alloc (.cells (ibkCells (.slice none 0 0) (.slice none 0 0)) 39) = w5 := ⟨_, rfl⟩
        rw [hw5] at hR5 b5 z5
        have HW5 := Lib.hid hw5
        clear hw5
        have HG := Lib.hid hG
        clear hG
        obtain ⟨o3, _, _, _⟩ := HST0.out w5 b5
        go_wp2_with fail
        rw [HG.out]
        refine (show Calls _ _ _ (w4.alloc (.cells (ibkCells (.slice none 0 0) (.slice none 0 0)) 39)) _ from HW5.out ▸ depths_in A3 n c3 zs w5 o3.readsTakeI (by omega)).mono ?_
        rintro e w6 ⟨A6, c6, rfl, hO6, b6⟩
        rw [HW5.out] at hO6 b6
        have hR6 := hR5.below b6 (by omega)
        have z6 := b6.size
        have bb6 : Below G w4 w6 := b5.trans (b6.mono (by omega))
        clear hR5 b5 b6 HW5 o3
        obtain ⟨o3, _, _, _⟩ := HST0.out w6 bb6
        go_wp2_with fail
        refine (depths_in A3 n c3 zs w6 o3.readsTakeI (by omega)).mono ?_
        rintro e w7 ⟨A7, c7, rfl, hO7, b7⟩
        have hS67 : Sep A6 A7 := fun p q hp hq => by have h1 := (hO6.lt hp).2; have h2 := (hO7.lt hq).1; omega
        have hR7 := hR6.below b7 (Nat.le_refl _)
        have hO67 := (hO6.below b7 (Nat.le_refl _)).base_le (base' := G) (by omega)
        have hO77 := hO7.base_le (base' := G) (by omega)
        have z7 := b7.size
        have bb7 : Below G w4 w7 := bb6.trans (b7.mono (by omega))
        have hdl : ((dpDepths [] zs).map fun n : Nat => (n : Int)).length = n := by simp [dpDepths_length, HZL.out]
        generalize hdz : ((dpDepths [] zs).map fun n : Nat => (n : Int)) = dz at *
        have HDZ := Lib.hid hdz
        have HDL := Lib.hid hdl
        clear hR6 hO6 hO7 b7 bb6 o3 hdz hdl
        go_wp2_with fail
        refine (ints_any _ G G [] [] A6 n c6 dz hR7 (by decide) (by decide) hO67 (by omega) (by omega)).mono ?_
        rintro e w8 ⟨rfl, A8, c8, hR8, hO8, k8, b8, z8⟩
        have hO68 := k8 _ _ _ _ _ hO67
        have hO78 := k8 _ _ _ _ _ hO77
        have bb8 := bb7.trans b8
        clear hR7 hO67 hO77 k8 b8 bb7
        go_wp2_with fail
        refine (ints_any _ G G _ _ A7 n c7 dz hR8 (by simp) (by simp) hO78 (by omega) (by omega)).mono ?_
        rintro e w9 ⟨rfl, A9, c9, hR9, hO9, k9, b9, z9⟩
        have hO69 := k9 _ _ _ _ _ hO68
        have hO79 := k9 _ _ _ _ _ hO78
        have hO89 := k9 _ _ _ _ _ hO8
        have bb9 := bb8.trans b9
        have hT9 : IRows w9 G [⟨A6, c6, dz⟩, ⟨A7, c7, dz⟩] := by
          refine ⟨?_, ?_⟩
          · intro r hr
            simp only [List.mem_cons, List.not_mem_nil, or_false] at hr
            rcases hr with rfl | rfl
            · rw [HDL.out]; exact hO69
            · rw [HDL.out]; exact hO79
          · simpa using hS67
        have hR9' : IBk w9 G G [⟨A6, c6, dz⟩, ⟨A7, c7, dz⟩] [⟨A8, c8, dz⟩, ⟨A9, c9, dz⟩] := hR9
        clear hR8 hO68 hO78 hO8 k9 b9 bb8 hR9 hS67
        have HST : Hid (∀ W, Below w9.heap.size w9 W → IBk W G G [⟨A6, c6, dz⟩, ⟨A7, c7, dz⟩] [⟨A8, c8, dz⟩, ⟨A9, c9, dz⟩] ∧ IRows W G [⟨A6, c6, dz⟩, ⟨A7, c7, dz⟩] ∧
            Own W w2.heap.size 3 1 A3 (n + 1) c3 (inCells (zs ++ [markN])) ∧ Own W w3.heap.size 26 4 B4 (k + 1) d4 (secCells (l ++ [markS])) ∧ Reads W W.heap.size 1 A n (inCells zs) ∧ Reads W W.heap.size 4 B k (secCells l) ∧
            Reads W W.heap.size 1 A6 n (inCells dz) ∧ Reads W W.heap.size 1 A7 n (inCells dz) ∧ Reads W W.heap.size 1 A8 n (inCells dz) ∧ Reads W W.heap.size 1 A9 n (inCells dz)) := Lib.hid fun W hW => by
          obtain ⟨p1, p2, p3, p4⟩ := HST0.out W (bb9.trans (hW.mono (by omega)))
          have hl : ∀ (A : Option Addr) b c, Own w9 b 3 1 A n c (inCells dz) → Reads W W.heap.size 1 A n (inCells dz) := fun A b c h => (h.below hW (Nat.le_refl _)).reads
          exact ⟨hR9'.below hW (Nat.le_refl _), hT9.below hW (Nat.le_refl _), p1, p2, p3, p4, hl _ _ _ hO69, hl _ _ _ hO79, hl _ _ _ hO89, hl _ _ _ hO9⟩
        clear hT9 hR9' hO69 hO79 hO89 hO9 HST0
        obtain ⟨_, _, _, _, r1, _⟩ := HST.out w9 (Below.refl _ _)
        go_wp2_with fail
        refine (refDepths_in A n c zs w9 r1 (by omega)).mono ?_
        rintro e w10 ⟨A10, c10, rfl, hO10, b10⟩
        rw [HDZ.out] at hO10
        have z10 := b10.size
        have r10 := hO10.reads
        clear r1
        obtain ⟨_, _, _, _, _, _, r6, r7, _, _⟩ := HST.out w10 b10
        go_wp2_with fail
        refine (sameInts_true A6 A10 n c6 c10 w10.heap.size dz _ r6 r10 (by omega)).mono ?_
        rintro e w11 ⟨rfl, m11, hw11⟩
        have b11 : Below w9.heap.size w9 w11 := by rw [hw11]; exact below_drewN' b10 m11
        have z11 := b11.size
        clear hw11 r6 r7 r10 hO10 b10
        obtain ⟨_, _, _, _, _, _, r6, r7, _, _⟩ := HST.out w11 b11
        go_wp2_with fail
        refine (sameInts_true A6 A7 n c6 c7 w11.heap.size dz _ r6 r7 (by omega)).mono ?_
        rintro e w12 ⟨rfl, m12, hw12⟩
        have b12 : Below w9.heap.size w9 w12 := by rw [hw12]; exact below_drewN' b11 m12
        have z12 := b12.size
        clear hw12 r6 r7 b11
        obtain ⟨_, _, _, o4, _, _, _, _, _, _⟩ := HST.out w12 b12
        go_wp2_with fail
        refine (html_any B4 k d4 l depth numbers w12 (o4.readsTakeS HSL.out) (by omega) HSM2.out).mono ?_
        rintro e w13 ⟨rfl, b13⟩
        have b13 := b12.trans (b13.mono z12)
        have z13 := b13.size
        clear o4 b12
        obtain ⟨_, _, _, _, _, r2, _, _, _, _⟩ := HST.out w13 b13
        go_wp2_with fail
        refine (refCont_any B k d l depth numbers w13 r2 (by omega) HSM2.out).mono ?_
        rintro e w14 ⟨rfl, b14⟩
        have b14 := b13.trans (b14.mono z13)
        have z14 := b14.size
        generalize S (htmlT (keepTo depth l) numbers) = tx at *
        clear r2 b13
        obtain ⟨_, _, o3, _, r1, _, _, _, _, _⟩ := HST.out w14 b14
        go_wp2_with fail
        refine (staysInts_any A3 A n c3 c w14.heap.size w2.heap.size zs w14 o3 r1 (by omega)).mono ?_
        rintro e w15 ⟨rfl, m15, hw15⟩
        have b15 : Below w9.heap.size w9 w15 := by rw [hw15]; exact below_drewN' b14 m15
        have z15 := b15.size
        clear hw15 o3 r1 b14
        obtain ⟨_, _, _, o4, _, r2, _, _, _, _⟩ := HST.out w15 b15
        go_wp2_with fail
        refine (staysSecs_any B4 B k d4 d w15.heap.size w3.heap.size l w15 o4 r2 (by omega)).mono ?_
        rintro e w16 ⟨rfl, m16, hw16⟩
        have b16 : Below w9.heap.size w9 w16 := by rw [hw16]; exact below_drewN' b15 m16
        have z16 := b16.size
        clear hw16 o4 r2 b15
        obtain ⟨hR, hT, _, _, _, _, _, _, r8, r9⟩ := HST.out w16 b16
        go_wp2_with fail
        refine (apartInts_any _ G G 2 _ _ hR hT rfl rfl (by omega) ?_ (by omega) ?_).mono ?_
        · intro r hr
          simp only [List.mem_cons, List.not_mem_nil, or_false] at hr
          have := HDL.out
          rcases hr with rfl | rfl <;> (simp only; omega)
        · intro i r q hr hq
          have : i = 0 ∨ i = 1 := by
            have := (List.getElem?_eq_some_iff.1 hr).1
            simp at this
            omega
          have h1 := HDL.out
          rcases this with rfl | rfl
          · simp at hr hq
            subst hr; subst hq
            exact ⟨rfl, by rw [h1]; exact r8⟩
          · simp at hr hq
            subst hr; subst hq
            exact ⟨rfl, by rw [h1]; exact r9⟩
        rintro e w17 ⟨rfl, b17⟩
        have bt := bb4.trans ((bb9.trans ((b16.mono (by omega)).trans b17)).mono (by omega))
        go_wp2_with fail
        go_ret
        exact ⟨rfl, bt⟩
  · rcases (by omega : 60 < n ∨ (n ≤ 60 ∧ 40 < m)) with h | ⟨h1, h2⟩
    all_goals
      clear hin
      go_enter Try.func3, Try.ntmps3
      go_wp2_with fail
      refine (alive_any _).mono ?_
      rintro e w1 ⟨rfl, b1⟩
      go_wp2_with fail
      go_ret
      exact ⟨rfl, b1⟩
end Go.Proofs.Ytfdfpimilmhhoaa
