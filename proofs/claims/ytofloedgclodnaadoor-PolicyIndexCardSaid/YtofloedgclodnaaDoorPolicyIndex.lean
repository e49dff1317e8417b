/-
  bowdlerlaw4.PolicyIndex: its walk: it answers true, and turns nothing that was there.
-/
import Derived.Test.YtofloedgclodnaaDoorPolAlive
import Derived.Test.YtofloedgclodnaaDoorOpenTexts
import Derived.Test.YtofloedgclodnaaDoorOpenPairs
namespace Go.Proofs.YtofloedgclodnaaDoor
open Go.RowKit

theorem nms_at (xs : List ByteArray) : ∀ (l : List ByteArray) (k j : Nat) (y : ByteArray), nmsT xs k l = true → l[j]? = some y → idxT xs y = ((k + j : Nat) : Int)
  | [], _, j, y, _, hy => by simp at hy
  | z :: t, k, j, y, h, hy => by
    rw [nmsT, Bool.and_eq_true, Bool.and_eq_true] at h
    cases j with
    | zero =>
      simp at hy
      rw [← hy]
      simpa using h.1.2
    | succ j =>
      rw [List.getElem?_cons_succ] at hy
      rw [nms_at xs t (k + 1) j y h.2 hy]
      congr 1; omega
theorem idxF_ge (x : ByteArray) : ∀ (k : Nat) (xs : List ByteArray), 0 ≤ idxF x k xs ↔ x ∈ xs
  | k, [] => by simp [idxF]
  | k, y :: t => by
    rw [idxF, List.mem_cons]
    have ih := idxF_ge x (k + 1) t
    split
    · rename_i h; simp [h]
    · rename_i h
      rw [ih]
      constructor
      · exact .inr
      · rintro (h1 | h1)
        · exact absurd h1 (by first | exact h | (intro e; exact h e.symm) | (intro e; apply h; simp [e]))
        · exact h1
theorem idx_mem (xs : List ByteArray) (x : ByteArray) : 0 ≤ idxT xs x ↔ x ∈ xs := idxF_ge x 0 xs

set_option maxHeartbeats 2000000 in
set_option maxRecDepth 100000 in
theorem policyIndex_walk (A : Option Addr) (n cap : Nat) (xs : List ByteArray) (B : Option Addr) (m cap2 : Nat) (ps : List (Int × Int)) (other : ByteArray) (w : World) (hg : Glb w)
    (hx : IsTexts w A n cap xs) (hp : IsPairs w B m cap2 ps) (_ : other.size ≤ 140737488351232) :
    Calls Tryd.prog 6 #[.slice A n cap, .slice B m cap2, .string other] w fun e w' => e = .returned (.bool true) ∧ Below w.heap.size w w' := by
  obtain ⟨hr, hnc, hcm, hsz⟩ := hx
  obtain ⟨hr2, hmc, hcm2⟩ := hp
  have hlen : xs.length = n := by have := hr.1; simpa using this
  have HL := Lib.hid hlen
  have HSZ := Lib.hid hsz
  clear hlen hsz
  have hmax : maxLen = 9223372036854775807 := rfl
  have bA : Below w.heap.size w (w.alloc (.cells #[.slice A n cap, .slice B m cap2] 25)) := (Below.refl _ _).alloc (Nat.le_refl _) _
  have hgA := hg.below bA
  by_cases h1 : 20 < n
  · go_enter Tryd.func6, Tryd.ntmps6
    go_wp2_with (go_at_call 16; refine (alive4_any _ hgA).mono ?_; rintro e w1 ⟨rfl, b1⟩)
    go_ret
    exact ⟨rfl, bA.trans (b1.mono (by simp))⟩
  by_cases h2 : 60 < other.size
  · go_enter Tryd.func6, Tryd.ntmps6
    go_wp2_with (go_at_call 16; refine (alive4_any _ hgA).mono ?_; rintro e w1 ⟨rfl, b1⟩)
    go_ret
    exact ⟨rfl, bA.trans (b1.mono (by simp))⟩
  have hsA : (w.alloc (.cells #[.slice A n cap, .slice B m cap2] 25)).heap.size = w.heap.size + 1 := by simp
  have B0 : Blk (w.alloc (.cells #[.slice A n cap, .slice B m cap2] 25)) w.heap.size 25 #[.slice A n cap, .slice B m cap2] := Blk.new _ _ _
  have HR := Lib.hid (right_any A B n cap m cap2 w.heap.size xs ps _ (hr.below bA) (hr2.below bA) (by rw [hsA]; omega) (by omega) (by omega) (fun x hx => by have := HSZ.out x hx; omega))
  have hsA' : w.heap.size < (w.alloc (.cells #[.slice A n cap, .slice B m cap2] 25)).heap.size := by rw [hsA]; omega
  clear hsA
  cases hrt : rightT xs ps
  · rw [hrt] at HR
    go_enter Tryd.func6, Tryd.ntmps6
    go_wp2_with (first
      | (go_at_call 15; refine HR.out.mono ?_; rintro e w1 ⟨rfl, b1⟩; have bb1 := bA.trans (b1.mono (Nat.le_of_lt hsA')); have hg1 := hg.below bb1)
      | (go_at_call 16; refine (alive4_any _ hg1).mono ?_; rintro e w2 ⟨rfl, b2⟩))
    go_ret
    exact ⟨rfl, bb1.trans (b2.mono bb1.size)⟩
  · rw [hrt] at HR
    obtain ⟨r1, r2, r3, r4, r5⟩ := right_parts hrt
    have HN := Lib.hid r4
    clear r1 r2 r3 r4 r5
    go_enter Tryd.func6, Tryd.ntmps6
    go_wp2_with (first
      | (go_at_call 15; refine HR.out.mono ?_; rintro e w1 ⟨rfl, b1⟩; have bb1 := bA.trans (b1.mono (Nat.le_of_lt hsA')); have hg1 := hg.below bb1)
      | (go_at_call 16; refine (alive4_any _ hg1).mono ?_; rintro e w2 ⟨rfl, b2⟩))
    have bb2 := bb1.trans (b2.mono bb1.size)
    have B2 := (B0.below b1 hsA').below b2 (by have := b1.size; omega)
    have hs2 : w.heap.size < w2.heap.size := B2.lt
    clear HR B0 b1 b2 bA hgA hsA' bb1 hg1
    go_loopw [8, 34] (fun s8 i wr => ∃ (k : Nat) (b : Bool), k ≤ n ∧ i = .int .i64 k ∧ s8 = .bool b ∧ (b = true ↔ other ∈ xs.take k) ∧ Below w2.heap.size w2 wr) (fun _ i _ => n - (intOf i).toNat)
    case atStart => exact ⟨0, false, Nat.zero_le _, rfl, rfl, by simp, Below.refl _ _⟩
    case round =>
      obtain ⟨k, b, hk, rfl, rfl, hbi, hb⟩ := hrel
      have hbw := bb2.trans (hb.mono (Nat.le_of_lt hs2))
      have hsr := hbw.size
      have Br := B2.below hb hs2
      have c0 : wr.cell? ⟨w.heap.size, 0, none⟩ = some (.slice A n cap) := Br.cell 0
      have c1 : wr.cell? ⟨w.heap.size, 0 + 1, none⟩ = some (.slice B m cap2) := Br.cell 1
      have hrr := hr.below hbw
      by_cases hlt : k < n
      · obtain ⟨ad, u, rfl, _, hx0, hc⟩ := hrr.at_ hlt
        obtain ⟨x, hx, rfl⟩ : ∃ x, xs[k]? = some x ∧ Value.string x = u := by simpa using hx0
        have hix : idxT xs x = (k : Int) := by have := nms_at xs xs 0 k x HN.out hx; simpa using this
        have hnext : other ∈ xs.take (k + 1) ↔ other ∈ xs.take k ∨ other = x := by
          rw [List.take_add_one, hx]; simp
        have HIX := Lib.hid hix
        have HNX := Lib.hid hnext
        have HBI := Lib.hid hbi
        clear hix hnext hbi hx hx0
        have hbne : ((k : Int) != (k : Int)) = false := by simp
        by_cases hxo : x = other
        · subst hxo
          cases b
          · go_wp2_with (go_at_call 21; refine (index_any (some ad) B n cap m cap2 w.heap.size xs x _ hrr hsr (by omega)).mono ?_; rintro e w3 ⟨rfl, b3⟩; rw [HIX.out])
            go_roundw
            case rel => exact ⟨k + 1, true, by omega, by go_num, by simp, by rw [HNX.out]; simp, hb.trans (b3.mono (by have := hb.size; omega))⟩
            case measure => simp [intOf]; omega
          · go_wp2_with (go_at_call 21; refine (index_any (some ad) B n cap m cap2 w.heap.size xs x _ hrr hsr (by omega)).mono ?_; rintro e w3 ⟨rfl, b3⟩; rw [HIX.out])
            go_roundw
            case rel => exact ⟨k + 1, true, by omega, by go_num, rfl, by rw [HNX.out]; simp, hb.trans (b3.mono (by have := hb.size; omega))⟩
            case measure => simp [intOf]; omega
        · obtain ⟨q1, q2, q3⟩ := bytes_ne hxo
          cases b
          · go_wp2_with (go_at_call 21; refine (index_any (some ad) B n cap m cap2 w.heap.size xs x _ hrr hsr (by omega)).mono ?_; rintro e w3 ⟨rfl, b3⟩; rw [HIX.out])
            go_roundw
            case rel => exact ⟨k + 1, false, by omega, by go_num, rfl, by rw [HNX.out]; have := HBI.out; simp at this ⊢; exact ⟨this, fun e => hxo e.symm⟩, hb.trans (b3.mono (by have := hb.size; omega))⟩
            case measure => simp [intOf]; omega
          · go_wp2_with (go_at_call 21; refine (index_any (some ad) B n cap m cap2 w.heap.size xs x _ hrr hsr (by omega)).mono ?_; rintro e w3 ⟨rfl, b3⟩; rw [HIX.out])
            go_roundw
            case rel => exact ⟨k + 1, true, by omega, by go_num, rfl, by rw [HNX.out]; have := HBI.out; simp at this ⊢; exact .inl this, hb.trans (b3.mono (by have := hb.size; omega))⟩
            case measure => simp [intOf]; omega
      · rw [List.take_of_length_le (by rw [HL.out]; omega)] at hbi
        have hdec : decide (0 ≤ idxT xs other) = b := by
          cases b
          · exact decide_eq_false (fun h => by simpa using hbi.2 ((idx_mem xs other).1 h))
          · exact decide_eq_true ((idx_mem xs other).2 (hbi.1 rfl))
        clear hbi
        generalize hiv : idxT xs other = iv at *
        have HIV := Lib.hid hiv
        clear hiv
        go_wp2_with (go_at_call 21; refine (index_any A B n cap m cap2 w.heap.size xs other _ hrr hsr (by omega)).mono ?_; rintro e w3 ⟨rfl, b3⟩; rw [HIV.out])
        go_ret
        exact ⟨by simp, hbw.trans (b3.mono hsr)⟩
end Go.Proofs.YtofloedgclodnaaDoor
