/-
  emph.opener: its contract: the nearest row ahead that may be paired.
-/
import Derived.Test.YtfdfpimilmhhoaaPair
namespace Go.Proofs.Ytfdfpimilmhhoaa
open Go.RowKit

abbrev pcCells (l : List Pc) : List Value := l.flatMap Pc.cells

theorem Reads.pc {w : World} {B m : Nat} {A : Option Addr} {l : List Pc} (h : Reads w B 7 A m (pcCells l)) {i : Nat} {p : Pc} (hp : l[i]? = some p) : ∃ ad, A = some ad ∧ ad.block < B ∧ i < m ∧
    w.cell? (ad.add (i * 7)) = some (.int .u8 (p.sign.toNat : Int)) ∧
    w.cell? ⟨(ad.add (i * 7)).block, (ad.add (i * 7)).off + 1, none⟩ = some (.int .i64 p.n) ∧
    w.cell? ⟨(ad.add (i * 7)).block, (ad.add (i * 7)).off + 2, none⟩ = some (.bool p.opn) ∧
    w.cell? ⟨(ad.add (i * 7)).block, (ad.add (i * 7)).off + 3, none⟩ = some (.bool p.cls) ∧
    w.cell? ⟨(ad.add (i * 7)).block, (ad.add (i * 7)).off + 4, none⟩ = some (.slice p.A p.ln p.cp) ∧
    w.cell? ⟨(ad.add (i * 7)).block, (ad.add (i * 7)).off + 5, none⟩ = some (.int .i64 p.left) ∧
    w.cell? ⟨(ad.add (i * 7)).block, (ad.add (i * 7)).off + 6, none⟩ = some (.bool p.shut) := by
  have hl : l.length = m := by have := h.1; rw [flat_length _ 7 pc_len] at this; omega
  have hi : i < m := by rw [← hl]; exact (List.getElem?_eq_some_iff.1 hp).1
  obtain ⟨ad, rfl, hb, hc0, hcj⟩ := h.elem hi
  have g := fun j (hj : j < 7) => flat_get Pc.cells 7 pc_len l i j hj hp
  refine ⟨ad, rfl, hb, hi, hc0 _ (by have := g 0 (by omega); rw [Nat.add_zero] at this; rw [this]; rfl), hcj 1 _ (by omega) (by rw [g 1 (by omega)]; rfl), hcj 2 _ (by omega) (by rw [g 2 (by omega)]; rfl), hcj 3 _ (by omega) (by rw [g 3 (by omega)]; rfl),
    hcj 4 _ (by omega) (by rw [g 4 (by omega)]; rfl), hcj 5 _ (by omega) (by rw [g 5 (by omega)]; rfl), hcj 6 _ (by omega) (by rw [g 6 (by omega)]; rfl)⟩

def openAt (l : List Pc) (b : Pc) : Nat → Int
  | 0 => -1
  | k + 1 => match l[k]? with
    | some a => if pairT a b then (k : Int) else openAt l b k
    | none => -1

theorem openAt_lt (l : List Pc) (b : Pc) : ∀ k, openAt l b k < k ∧ -1 ≤ openAt l b k
  | 0 => ⟨by simp [openAt], by simp [openAt]⟩
  | k + 1 => by
    have := openAt_lt l b k
    unfold openAt
    split
    · split <;> omega
    · omega

def PcFit (p : Pc) : Prop := p.left < 1 ∨ (0 ≤ p.n ∧ p.n ≤ 1048576)

set_option maxHeartbeats 2000000 in
set_option maxRecDepth 100000 in
theorem opener_any (A : Option Addr) (m c : Nat) (l : List Pc) (closer : Nat) (b : Pc) (w : World) (hr : Reads w w.heap.size 7 A m (pcCells l)) (hb : l[closer]? = some b) (hm : m ≤ 1048576)
    (hfit : ∀ p ∈ l, PcFit p) (hbn : 0 ≤ b.n ∧ b.n ≤ 1048576) :
    Calls Try.prog 71 #[.slice A m c, .int .i64 closer] w fun e w' => e = .returned (.int .i64 (openAt l b closer)) ∧ Below w.heap.size w w' := by
  have hcm : closer < m := by obtain ⟨_, _, _, h, _⟩ := hr.pc hb; exact h
  go_enter Try.func71, Try.ntmps71
  go_wp2_with fail
  go_loopw [5] (fun at_ wr => ∃ k : Nat, k ≤ closer ∧ at_ = .int .i64 ((k : Int) - 1) ∧ openAt l b k = openAt l b closer ∧ Below w.heap.size w wr) (fun at_ _ => (intOf at_ + 1).toNat)
  case atStart => exact ⟨closer, Nat.le_refl _, rfl, rfl, Below.refl _ _⟩
  case round =>
    obtain ⟨k, hk, rfl, heq, hbw⟩ := hrel
    have HE := Lib.hid heq
    clear heq
    rcases k with _ | k
    · go_wp2_with fail
      go_quiet (fail)
      go_wp2_with fail
      go_ret
      exact ⟨by rw [← HE.out]; rfl, below_drewN' hbw nq⟩
    · obtain ⟨ad, hA, _, _, b0, b1, b2, b3, b4, b5, b6⟩ := (hr.below hbw).pc hb
      have hln : l.length = m := by have := hr.1; rw [flat_length _ 7 pc_len] at this; omega
      obtain ⟨a, ha⟩ : ∃ a, l[k]? = some a := ⟨_, List.getElem?_eq_getElem (by omega)⟩
      obtain ⟨ad', hA', _, hkm, a0, a1, a2, a3, a4, a5, a6⟩ := (hr.below hbw).pc ha
      obtain rfl : ad' = ad := by rw [hA] at hA'; injection hA' with hA'; exact hA'.symm
      subst hA
      have hfa := hfit a (List.mem_of_getElem? ha)
      have hk1 : ((k + 1 : Nat) : Int) - 1 = k := by omega
      have HX : Hid (openAt l b (k + 1) = if pairT a b then (k : Int) else openAt l b k) := Lib.hid (by rw [openAt]; simp only [ha])
      clear ha hA' hln hb
      have q : decide ((k : Int) ≥ 0) = true := decide_eq_true (by omega)
      have q' : decide (0 ≤ (k : Int)) = true := decide_eq_true (by omega)
      rw [hk1]
      clear hk1
      go_wp2_with fail
      go_still_tail 11, (by kernel_rfl)
      have hbw2 := hbw.drew
      change wpList _ _ _ _ _ wr.drew
      generalize wr.drew = w2 at *
      clear a0 a1 a2 a3 a4 a5 a6 b0 b1 b2 b3 b4 b5 b6 hbw q q'
      by_cases hp : pairT a b = true
      · go_wp2_with (go_at_call 99; refine (pair_any a b _ hfa hbn).mono ?_; rintro e w3 ⟨rfl, b3w⟩; rw [hp])
        go_ret
        refine ⟨?_, hbw2.trans (b3w.mono hbw2.size)⟩
        rw [← HE.out, HX.out, if_pos hp]
        rfl
      · have hp' : pairT a b = false := by simpa using hp
        go_wp2_with (go_at_call 99; refine (pair_any a b _ hfa hbn).mono ?_; rintro e w3 ⟨rfl, b3w⟩; rw [hp'])
        have hbw3 := hbw2.trans (b3w.mono hbw2.size)
        go_roundw
        case rel => exact ⟨k, by omega, by go_num, by rw [← HE.out, HX.out, if_neg hp], hbw3⟩
        case measure => simp [intOf]
end Go.Proofs.Ytfdfpimilmhhoaa
