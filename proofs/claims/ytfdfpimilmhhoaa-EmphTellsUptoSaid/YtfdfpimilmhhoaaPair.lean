/-
  emph.pair: its contract: may a row be paired with the one that closes it?
-/
import Derived.Test.YtfdfpimilmhhoaaInl
namespace Go.Proofs.Ytfdfpimilmhhoaa
open Go.RowKit

def t3 (n : Int) : Bool := n.tmod 3 == 0
def pairT (a b : Pc) : Bool :=
  if a.sign ≠ b.sign ∨ a.opn = false ∨ a.left < 1 then false
  else !(a.opn && a.cls || b.opn && b.cls) || !t3 (a.n + b.n) || t3 a.n && t3 b.n

theorem three_t (n : Int) (w : World) : Calls Try.prog 108 #[.int .i64 n] w fun e w' => e = .returned (.bool (t3 n)) ∧ w = w' :=
  (three_any n w).mono fun _ _ ⟨h, h'⟩ => ⟨h, h'.symm⟩

set_option maxHeartbeats 4000000 in
set_option maxRecDepth 100000 in
theorem pair_any (a b : Pc) (w : World) (ha : a.left < 1 ∨ (0 ≤ a.n ∧ a.n ≤ 1048576)) (hb : 0 ≤ b.n ∧ b.n ≤ 1048576) :
    Calls Try.prog 99 #[a.agg, b.agg] w fun e w' => e = .returned (.bool (pairT a b)) ∧ Below w.heap.size w w' := by
  obtain ⟨sa, an, ao, ac, aA, aln, acp, al, aleft, ash⟩ := a
  obtain ⟨sb, bn, bo, bc, bA, bln, bcp, bl, bleft, bsh⟩ := b
  simp only at ha hb
  simp only [Pc.agg]
  have bb : ∀ o1 o2, Below w.heap.size w ((w.alloc o1).alloc o2) := fun o1 o2 => ((Below.refl _ _).alloc (Nat.le_refl _) _).alloc (by simp) _
  by_cases hs : sa = sb
  · subst hs
    cases ao with
    | false =>
      go_enter Try.func99, Try.ntmps99
      go_wp2_with fail
      go_ret
      exact ⟨by simp [pairT], bb _ _⟩
    | true =>
      by_cases hl : aleft < 1
      · go_enter Try.func99, Try.ntmps99
        go_wp2_with fail
        go_ret
        exact ⟨by simp [pairT, hl], bb _ _⟩
      · have han : 0 ≤ an ∧ an ≤ 1048576 := by omega
        obtain ⟨h1, h2⟩ := han
        obtain ⟨h3, h4⟩ := hb
        clear ha
        have HP := Lib.hid (show pairT ⟨sa, an, true, ac, aA, aln, acp, al, aleft, ash⟩ ⟨sa, bn, bo, bc, bA, bln, bcp, bl, bleft, bsh⟩ = (!(ac || bo && bc) || !t3 (an + bn) || t3 an && t3 bn) from by simp [pairT, hl])
        have hcases : (ac = false ∧ bo = false) ∨ (ac = false ∧ bo = true ∧ bc = false) ∨ ((ac = false ∧ bo = true ∧ bc = true ∨ ac = true) ∧ (t3 (an + bn) = false ∨ (t3 (an + bn) = true ∧ t3 an = false) ∨ (t3 (an + bn) = true ∧ t3 an = true))) := by
          cases ac <;> cases bo <;> cases bc <;> cases t3 (an + bn) <;> cases t3 an <;> simp
        rcases hcases with ⟨rfl, rfl⟩ | ⟨rfl, rfl, rfl⟩ | ⟨⟨rfl, rfl, rfl⟩ | rfl, q | ⟨q, q1⟩ | ⟨q, q1⟩⟩
        all_goals
          go_enter Try.func99, Try.ntmps99
          go_wp2_with (go_at_call 108; refine (three_t _ _).mono ?_; rintro e w' ⟨rfl, rfl⟩)
          go_ret
          refine ⟨?_, bb _ _⟩
          rw [HP.out]
          simp [*]
  · have q : ((sa.toNat : Int) != (sb.toNat : Int)) = true := by simpa using fun h => hs (UInt8.toNat_inj.1 (by omega))
    go_enter Try.func99, Try.ntmps99
    go_wp2_with fail
    go_ret
    exact ⟨by simp [pairT, hs], bb _ _⟩
end Go.Proofs.Ytfdfpimilmhhoaa
