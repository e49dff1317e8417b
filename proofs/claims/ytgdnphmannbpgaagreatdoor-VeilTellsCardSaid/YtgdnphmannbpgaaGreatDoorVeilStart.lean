/-
  The four readers of the diamond; bowdlerlaw7.alive: it answers true.
-/
import Derived.Test.YtgdnphmannbpgaaGreatDoorVeilVeil
import Derived.Test.YtgdnphmannbpgaaGreatDoorGW
namespace Go.Proofs.YtgdnphmannbpgaaGreatDoor
open Go.RowKit
set_option linter.unusedVariables false

def nmD (i : Nat) : ByteArray := diaN.getD i ⟨#[]⟩
def diaS (i : Nat) : SeerT := ⟨diaN, diaL, i⟩
theorem dia_at : ∀ i, i < 4 → idxT diaN (nmD i) = (i : Int) := by decide +kernel
theorem dia_newV {i : Nat} (h : i < 4) : newV diaN diaP (nmD i) = (0, some (diaS i)) := by
  rw [dia_new, dia_at i h, if_neg (by omega)]; rfl
theorem diaS_ok {i : Nat} (h : i < 4) : SeerOk (diaS i) := (newV_ok (dia_newV h)).1
theorem diaS_good {i : Nat} (h : i < 4) : LatGood (diaS i).lat := newV_good (dia_newV h)
theorem tmod4 (k : Int) : (∃ i : Nat, i < 4 ∧ (k.tmod 4 + 4).tmod 4 = (i : Int)) ∧ -3 ≤ k.tmod 4 ∧ k.tmod 4 ≤ 3 := by
  have h1 := Int.tmod_lt_of_pos k (b := 4) (by omega)
  have h2 := Int.tmod_lt_of_pos (-k) (b := 4) (by omega)
  rw [Int.neg_tmod] at h2
  have h3 := Int.tmod_lt_of_pos (k.tmod 4 + 4) (b := 4) (by omega)
  have h4 := Int.tmod_nonneg (a := k.tmod 4 + 4) (4 : Int) (by omega)
  exact ⟨⟨((k.tmod 4 + 4).tmod 4).toNat, by omega, by omega⟩, by omega, by omega⟩
/-- a row of literal texts -/
theorem lit_reads (W : World) (xs : List ByteArray) (n : Nat) (h : xs.length = n) : Reads (W.alloc (.cells (txCells xs).toArray 9)) (W.alloc (.cells (txCells xs).toArray 9)).heap.size 1 (some ⟨W.heap.size, 0, none⟩) n (txCells xs) := by
  refine ⟨by simp [txCells, h], fun _ => ⟨_, rfl, by simp, fun j u hu => ?_⟩⟩
  have : (⟨W.heap.size, 0, none⟩ : Addr).add j = ⟨W.heap.size, j, none⟩ := by unfold Addr.add; split <;> simp_all
  rw [this, (Blk.new W _ _).cell j]
  simpa using hu
/-- all that a reader in memory answers, in this world and in all behind it -/
structure Kit (w : World) (g : Nat) (s : SeerT) : Prop where
  veil : ∀ W text, Below w.heap.size w W → text.size ≤ 200000 → Calls Tryz.prog 10 #[.pointer (some ⟨g, 0, none⟩), .string text] W fun e w' => e = .returned (.string (veilT s text)) ∧ Below W.heap.size W w'
  line : ∀ W l A n c u, Below w.heap.size w W → l.size ≤ 1048576 → Reads W W.heap.size 1 A n (txCells u) → n ≤ 1000000 → Calls Tryz.prog 11 #[.pointer (some ⟨g, 0, none⟩), .string l, .slice A n c] W fun e w' => e = .returned (.string (lineT s l u)) ∧ Below W.heap.size W w'
  sees : ∀ W A n c u, Below w.heap.size w W → Reads W W.heap.size 1 A n (txCells u) → n ≤ 1000000 → Calls Tryz.prog 8 #[.pointer (some ⟨g, 0, none⟩), .slice A n c] W fun e w' => e = .returned (.bool (seesT s u)) ∧ Below W.heap.size W w'
  lit : ∀ W (u : List ByteArray) (n : Nat), Below w.heap.size w W → u.length = n → n ≤ 1000000 → Calls Tryz.prog 8 #[.pointer (some ⟨g, 0, none⟩), .slice (some ⟨W.heap.size, 0, none⟩) n n] (W.alloc (.cells (txCells u).toArray 9)) fun e w' => e = .returned (.bool (seesT s u)) ∧ Below W.heap.size W w'
  unk : ∀ W x, Below w.heap.size w W → Calls Tryz.prog 9 #[.pointer (some ⟨g, 0, none⟩), .string x] W fun e w' => e = .returned (.bool (decide (idxT s.names x < 0))) ∧ Below W.heap.size W w'
theorem kit_of {w : World} {g : Nat} {s : SeerT} (hg : Glb w) (h : SeerR w w.heap.size g s) (ok : SeerOk s) : Kit w g s := by
  have hs : ∀ W A n c u, Below w.heap.size w W → Reads W W.heap.size 1 A n (txCells u) → n ≤ 1000000 → Calls Tryz.prog 8 #[.pointer (some ⟨g, 0, none⟩), .slice A n c] W fun e w' => e = .returned (.bool (seesT s u)) ∧ Below W.heap.size W w' := fun W A n c u b hr hn =>
    sees_at g w.heap.size s A n c u W (h.below b) ok b.size hr (by omega)
  refine ⟨fun W text b ht => ?_, fun W l A n c u b hl hr hn => ?_, hs, fun W u n b hu hn => ?_, fun W x b => ?_⟩
  · exact veil_any g w.heap.size s text W (hg.below b) (h.below b) ok b.size ht
  · exact line_any g w.heap.size s l A n c u W (hg.below b) (h.below b) ok b.size hr hn hl
  · exact (hs _ _ _ _ _ (b.alloc b.size _) (lit_reads W u n hu) hn).mono fun e w' ⟨e1, b2⟩ => ⟨e1, ((Below.refl _ _).alloc (Nat.le_refl _) _).trans (b2.mono (by simp))⟩
  · exact unknown_any g w.heap.size s x W (h.below b) b.size (by rw [ok.len]; exact ok.lat.n64)
theorem Kit.up {w w' : World} {g : Nat} {s : SeerT} (h : Kit w g s) (b : Below w.heap.size w w') : Kit w' g s := by
  have k : ∀ {W}, Below w'.heap.size w' W → Below w.heap.size w W := fun b2 => b.trans (b2.mono b.size)
  exact ⟨fun W t b2 => h.veil W t (k b2), fun W l A n c u b2 => h.line W l A n c u (k b2), fun W A n c u b2 => h.sees W A n c u (k b2), fun W u n b2 => h.lit W u n (k b2), fun W x b2 => h.unk W x (k b2)⟩
/-- New, of the diamond -/
theorem newDia_any (i : Nat) (hi : i < 4) (A B : Option Addr) (K : Nat) (W : World) (hg : Glb W) (hr : Reads W K 1 A 4 (txCells diaN)) (hr2 : Reads W K 2 B 4 (prCells diaP)) (hK : K ≤ W.heap.size) :
    Calls Tryz.prog 5 #[.agg #[.slice A 4 4, .slice B 4 4], .string (nmD i)] W fun e w' => ∃ g, e = .returned (.tuple #[.pointer (some ⟨g, 0, none⟩), .int .i64 0]) ∧ Kit w' g (diaS i) ∧ Glb w' ∧ Below W.heap.size W w' := by
  refine (veilNew_any A B 4 4 4 4 K diaN diaP (nmD i) W hr hr2 hK (by omega) (by omega) (by decide)).mono ?_
  rintro e w' ⟨b, h | h⟩
  · obtain ⟨k, h1, _⟩ := h
    rw [dia_newV hi] at h1
    simp at h1
  · obtain ⟨s, g, h1, rfl, h3⟩ := h
    rw [dia_newV hi] at h1
    simp only [Prod.mk.injEq, Option.some.injEq, true_and] at h1
    subst h1
    have hg' : Glb w' := hg.below b
    exact ⟨g, rfl, kit_of hg' h3 (diaS_ok hi), hg', b⟩
theorem newDia_from {w : World} {A B : Option Addr} (hg : Glb w) (hr : Reads w w.heap.size 1 A 4 (txCells diaN)) (hr2 : Reads w w.heap.size 2 B 4 (prCells diaP)) (i : Nat) (hi : i < 4) (W : World) (b : Below w.heap.size w W) :
    Calls Tryz.prog 5 #[.agg #[.slice A 4 4, .slice B 4 4], .string (nmD i)] W fun e w' => ∃ g, e = .returned (.tuple #[.pointer (some ⟨g, 0, none⟩), .int .i64 0]) ∧ Kit w' g (diaS i) ∧ Glb w' ∧ Below w.heap.size w w' :=
  (newDia_any i hi A B w.heap.size W (hg.below b) (hr.below b) (hr2.below b) b.size).mono fun e w' ⟨g, e1, k, hg2, b2⟩ => ⟨g, e1, k, hg2, b.trans (b2.mono b.size)⟩
theorem newNone_any (A B : Option Addr) (K : Nat) (W : World) (hr : Reads W K 1 A 4 (txCells diaN)) (hr2 : Reads W K 2 B 4 (prCells diaP)) (hK : K ≤ W.heap.size) :
    Calls Tryz.prog 5 #[.agg #[.slice A 4 4, .slice B 4 4], .string ⟨#[110, 111, 110, 101]⟩] W fun e w' => e = .returned (.tuple #[.pointer none, .int .i64 2]) ∧ Below W.heap.size W w' := by
  have hv : newV diaN diaP ⟨#[110, 111, 110, 101]⟩ = (2, none) := by
    rw [dia_new, if_pos (by decide +kernel)]
  refine (veilNew_any A B 4 4 4 4 K diaN diaP _ W hr hr2 hK (by omega) (by omega) (by decide)).mono ?_
  rintro e w' ⟨b, h | h⟩
  · obtain ⟨k, h1, rfl⟩ := h
    rw [hv] at h1
    simp only [Prod.mk.injEq, and_true] at h1
    exact ⟨by rw [← h1], b⟩
  · obtain ⟨s, g, h1, _⟩ := h
    rw [hv] at h1
    simp at h1
theorem al1 : seesT (diaS 1) [⟨#[108, 111, 119]⟩, ⟨#[108, 101, 102, 116]⟩] = true := by decide +kernel
theorem al2 : seesT (diaS 1) [⟨#[108, 101, 102, 116]⟩, ⟨#[114, 105, 103, 104, 116]⟩] = false := by decide +kernel
theorem al3 : seesT (diaS 1) [⟨#[111, 100, 100]⟩] = false := by decide +kernel
theorem al4 : decide (idxT (diaS 1).names ⟨#[111, 100, 100]⟩ < 0) = true := by decide +kernel
theorem al5 : veilT (diaS 1) ⟨#[97, 32, 123, 124, 104, 105, 103, 104, 58, 32, 98, 124, 125, 32, 99, 10]⟩ = ⟨#[97, 32, 123, 124, 104, 105, 103, 104, 58, 124, 125, 32, 99, 10]⟩ := by decide +kernel
theorem al6 : veilT (diaS 1) ⟨#[58, 58, 58, 123, 114, 105, 103, 104, 116, 125, 10, 120, 10, 58, 58, 58, 10, 121]⟩ = ⟨#[58, 58, 58, 123, 114, 105, 103, 104, 116, 125, 10, 58, 58, 58, 10, 121, 10]⟩ := by decide +kernel

set_option maxHeartbeats 2000000 in
set_option maxRecDepth 100000 in
theorem alive7_any (w : World) (hg : Glb w) : Calls Tryz.prog 4 #[] w fun e w' => e = .returned (.bool true) ∧ Below w.heap.size w w' := by
  have HG := Lib.hid hg
  go_enter Tryz.func4, Tryz.ntmps4
  go_upto_region 1 with fail
  go_upto_region 2 with (first
    | (go_at_call 18; refine (diamond_any w).mono ?_; rintro e w1 ⟨A, B, rfl, hA, hB, b1⟩)
    | (go_at_call 5; refine (newDia_any 1 (by omega) A B w1.heap.size w1 (HG.out.below b1) hA hB (Nat.le_refl _)).mono ?_; rintro e w2 ⟨g, rfl, kt, hg2, b2⟩))
  have bb2 := b1.trans (b2.mono b1.size)
  go_upto_region 3 with (first
    | (go_at_call 18; refine (diamond_any w2).mono ?_; rintro e w3 ⟨A2, B2, rfl, hA2, hB2, b3⟩)
    | (go_at_call 5; refine (newNone_any A2 B2 w3.heap.size w3 hA2 hB2 (Nat.le_refl _)).mono ?_; rintro e w4 ⟨rfl, b4⟩))
  have bb : Below w2.heap.size w2 w4 := b3.trans (b4.mono b3.size)
  have KT := Lib.hid kt
  clear kt
  have st0 := trivial
  go_wp2_with (first
    | (go_at_call 8; have st1 := st0; clear st0; refine (KT.out.lit _ [⟨#[108, 111, 119]⟩, ⟨#[108, 101, 102, 116]⟩] 2 bb rfl (by omega)).mono ?_; rw [al1]; rintro e w5 ⟨rfl, b5⟩; have bb := bb.trans (b5.mono bb.size))
    | (go_at_call 8; have st2 := st1; clear st1; refine (KT.out.lit _ [⟨#[108, 101, 102, 116]⟩, ⟨#[114, 105, 103, 104, 116]⟩] 2 bb rfl (by omega)).mono ?_; rw [al2]; rintro e w5 ⟨rfl, b5⟩; have bb := bb.trans (b5.mono bb.size))
    | (go_at_call 8; refine (KT.out.lit _ [⟨#[111, 100, 100]⟩] 1 bb rfl (by omega)).mono ?_; rw [al3]; rintro e w5 ⟨rfl, b5⟩; have bb := bb.trans (b5.mono bb.size))
    | (go_at_call 9; refine (KT.out.unk _ _ bb).mono ?_; rw [al4]; rintro e w5 ⟨rfl, b5⟩; have bb := bb.trans (b5.mono bb.size))
    | (go_at_call 10; have st3 := st2; clear st2; refine (KT.out.veil _ ⟨#[97, 32, 123, 124, 104, 105, 103, 104, 58, 32, 98, 124, 125, 32, 99, 10]⟩ bb (by decide)).mono ?_; rw [al5]; rintro e w5 ⟨rfl, b5⟩; have bb := bb.trans (b5.mono bb.size))
    | (go_at_call 10; refine (KT.out.veil _ ⟨#[58, 58, 58, 123, 114, 105, 103, 104, 116, 125, 10, 120, 10, 58, 58, 58, 10, 121]⟩ bb (by decide)).mono ?_; rw [al6]; rintro e w5 ⟨rfl, b5⟩; have bb := bb.trans (b5.mono bb.size)))
  go_ret
  exact ⟨rfl, bb2.trans (bb.mono bb2.size)⟩
end Go.Proofs.YtgdnphmannbpgaaGreatDoor
