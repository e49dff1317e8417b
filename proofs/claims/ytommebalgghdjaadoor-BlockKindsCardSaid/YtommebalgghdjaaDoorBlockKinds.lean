/-
  bowdlerlaw9.BlockKinds: its walk: it answers true, and turns nothing that was there.
-/
import Derived.Test.YtommebalgghdjaaDoorAliveB
namespace Go.Proofs.YtommebalgghdjaaDoor
open Go.RowKit

def kindS : List ByteArray := [⟨#[97]⟩, ⟨#[35, 32, 97]⟩, ⟨#[62, 32, 97]⟩, ⟨#[45, 32, 97]⟩, ⟨#[32, 32, 32, 32, 97]⟩, ⟨#[45, 45, 45]⟩, ⟨#[60, 98, 62]⟩, ⟨#[126, 126, 126]⟩, ⟨#[49, 41, 32, 97]⟩, ⟨#[91, 120, 93, 58, 32, 47, 117]⟩]
def kindN : List Nat := [1, 1, 2, 3, 1, 1, 1, 1, 3, 1]
def kindK : List Int := [1, 2, 3, 4, 6, 7, 8, 6, 4, 1]
def kindOk (s : ByteArray) (n : Nat) (k : Int) : Bool := match parseT [L s] with
  | [] => false
  | b :: l => decide (l.length + 1 = n) && decide (b.kind = k) && decide (b.depth = 0) && decide (s.size ≤ 20)
theorem kinds_ok : ∀ m, m < 10 → (match kindS[m]?, kindN[m]?, kindK[m]? with | some s, some n, some k => kindOk s n k | _, _, _ => false) = true := by decide +kernel
theorem kinds_law {m : Nat} (h : m < 10) : ∃ s n k b l, kindS[m]? = some s ∧ kindN[m]? = some n ∧ kindK[m]? = some k ∧ parseT [L s] = b :: l ∧ l.length + 1 = n ∧ b.kind = k ∧ b.depth = 0 ∧ s.size ≤ 20 := by
  have := kinds_ok m h
  split at this
  · rename_i s n k e1 e2 e3
    unfold kindOk at this
    split at this
    · cases this
    · rename_i b l e
      simp only [Bool.and_eq_true, decide_eq_true_eq] at this
      obtain ⟨⟨⟨h1, h2⟩, h3⟩, h4⟩ := this
      exact ⟨s, n, k, b, l, e1, e2, e3, e, h1, h2, h3, h4⟩
  · cases this
theorem tmod10 (k : Int) : (∃ i : Nat, i < 10 ∧ (k.tmod 10 + 10).tmod 10 = (i : Int)) ∧ -9 ≤ k.tmod 10 ∧ k.tmod 10 ≤ 9 := by
  have h1 := Int.tmod_lt_of_pos k (b := 10) (by omega)
  have h2 := Int.tmod_lt_of_pos (-k) (b := 10) (by omega)
  rw [Int.neg_tmod] at h2
  have h3 := Int.tmod_lt_of_pos (k.tmod 10 + 10) (b := 10) (by omega)
  have h4 := Int.tmod_nonneg (a := k.tmod 10 + 10) (10 : Int) (by omega)
  exact ⟨⟨((k.tmod 10 + 10).tmod 10).toNat, by omega, by omega⟩, by omega, by omega⟩

set_option maxHeartbeats 2000000 in
set_option maxRecDepth 100000 in
theorem blockKinds_walk (kk : Int) (w : World) (_ : Glb w) (_ : (Lit.int .i64 kk).wf = true) :
    Calls Tryd.prog 11 #[.int .i64 kk] w fun e w' => e = .returned (.bool true) ∧ Below w.heap.size w w' := by
  obtain ⟨⟨m, hm, hmod⟩, hb1, hb2⟩ := tmod10 kk
  obtain ⟨s, n, k, b, l, hs, hn, hk, hp, hln, hbk, hbd, hsz⟩ := kinds_law hm
  have HS := Lib.hid hs
  have HN := Lib.hid hn
  have HK := Lib.hid hk
  have HP := Lib.hid hp
  have HLN := Lib.hid hln
  clear hs hn hk hp hln
  go_enter Tryd.func11, Tryd.ntmps11
  go_upto_region 3 with (go_at_call 16; refine (aliveB_any _).mono ?_; rintro e w1 ⟨rfl, b1⟩)
  have z1 := b1.size
  go_upto_region 7 with fail
  have cs : (((w1.alloc (.cells #[.string ⟨#[97]⟩, .string ⟨#[35, 32, 97]⟩, .string ⟨#[62, 32, 97]⟩, .string ⟨#[45, 32, 97]⟩, .string ⟨#[32, 32, 32, 32, 97]⟩, .string ⟨#[45, 45, 45]⟩, .string ⟨#[60, 98, 62]⟩, .string ⟨#[126, 126, 126]⟩, .string ⟨#[49, 41, 32, 97]⟩, .string ⟨#[91, 120, 93, 58, 32, 47, 117]⟩] 9)).alloc (.cells #[.int .i64 1, .int .i64 1, .int .i64 2, .int .i64 3, .int .i64 1, .int .i64 1, .int .i64 1, .int .i64 1, .int .i64 3, .int .i64 1] 3)).alloc (.cells #[.int .i64 1, .int .i64 2, .int .i64 3, .int .i64 4, .int .i64 6, .int .i64 7, .int .i64 8, .int .i64 6, .int .i64 4, .int .i64 1] 3)).cell? ⟨w1.heap.size, m, none⟩ = some (.string s) := by
    have h1 := (((Blk.new w1 9 #[.string ⟨#[97]⟩, .string ⟨#[35, 32, 97]⟩, .string ⟨#[62, 32, 97]⟩, .string ⟨#[45, 32, 97]⟩, .string ⟨#[32, 32, 32, 32, 97]⟩, .string ⟨#[45, 45, 45]⟩, .string ⟨#[60, 98, 62]⟩, .string ⟨#[126, 126, 126]⟩, .string ⟨#[49, 41, 32, 97]⟩, .string ⟨#[91, 120, 93, 58, 32, 47, 117]⟩]).alloc (.cells #[.int .i64 1, .int .i64 1, .int .i64 2, .int .i64 3, .int .i64 1, .int .i64 1, .int .i64 1, .int .i64 1, .int .i64 3, .int .i64 1] 3)).alloc (.cells #[.int .i64 1, .int .i64 2, .int .i64 3, .int .i64 4, .int .i64 6, .int .i64 7, .int .i64 8, .int .i64 6, .int .i64 4, .int .i64 1] 3)).cell m
    rw [h1]
    have := congrArg (Option.map Value.string) HS.out
    rw [← List.getElem?_map] at this
    simpa [kindS] using this
  have b2 : Below w.heap.size w (((w1.alloc (.cells #[.string ⟨#[97]⟩, .string ⟨#[35, 32, 97]⟩, .string ⟨#[62, 32, 97]⟩, .string ⟨#[45, 32, 97]⟩, .string ⟨#[32, 32, 32, 32, 97]⟩, .string ⟨#[45, 45, 45]⟩, .string ⟨#[60, 98, 62]⟩, .string ⟨#[126, 126, 126]⟩, .string ⟨#[49, 41, 32, 97]⟩, .string ⟨#[91, 120, 93, 58, 32, 47, 117]⟩] 9)).alloc (.cells #[.int .i64 1, .int .i64 1, .int .i64 2, .int .i64 3, .int .i64 1, .int .i64 1, .int .i64 1, .int .i64 1, .int .i64 3, .int .i64 1] 3)).alloc (.cells #[.int .i64 1, .int .i64 2, .int .i64 3, .int .i64 4, .int .i64 6, .int .i64 7, .int .i64 8, .int .i64 6, .int .i64 4, .int .i64 1] 3)) := ((b1.alloc z1 _).alloc (by simp; omega) _).alloc (by simp; omega) _
  have cn : (((w1.alloc (.cells #[.string ⟨#[97]⟩, .string ⟨#[35, 32, 97]⟩, .string ⟨#[62, 32, 97]⟩, .string ⟨#[45, 32, 97]⟩, .string ⟨#[32, 32, 32, 32, 97]⟩, .string ⟨#[45, 45, 45]⟩, .string ⟨#[60, 98, 62]⟩, .string ⟨#[126, 126, 126]⟩, .string ⟨#[49, 41, 32, 97]⟩, .string ⟨#[91, 120, 93, 58, 32, 47, 117]⟩] 9)).alloc (.cells #[.int .i64 1, .int .i64 1, .int .i64 2, .int .i64 3, .int .i64 1, .int .i64 1, .int .i64 1, .int .i64 1, .int .i64 3, .int .i64 1] 3)).alloc (.cells #[.int .i64 1, .int .i64 2, .int .i64 3, .int .i64 4, .int .i64 6, .int .i64 7, .int .i64 8, .int .i64 6, .int .i64 4, .int .i64 1] 3)).cell? ⟨w1.heap.size + 1, m, none⟩ = some (.int .i64 (n : Int)) := by
    have h1 := ((Blk.new' (w1.alloc (.cells #[.string ⟨#[97]⟩, .string ⟨#[35, 32, 97]⟩, .string ⟨#[62, 32, 97]⟩, .string ⟨#[45, 32, 97]⟩, .string ⟨#[32, 32, 32, 32, 97]⟩, .string ⟨#[45, 45, 45]⟩, .string ⟨#[60, 98, 62]⟩, .string ⟨#[126, 126, 126]⟩, .string ⟨#[49, 41, 32, 97]⟩, .string ⟨#[91, 120, 93, 58, 32, 47, 117]⟩] 9)) 3 #[.int .i64 1, .int .i64 1, .int .i64 2, .int .i64 3, .int .i64 1, .int .i64 1, .int .i64 1, .int .i64 1, .int .i64 3, .int .i64 1] (w1.heap.size + 1) (by simp)).alloc (.cells #[.int .i64 1, .int .i64 2, .int .i64 3, .int .i64 4, .int .i64 6, .int .i64 7, .int .i64 8, .int .i64 6, .int .i64 4, .int .i64 1] 3)).cell m
    rw [h1]
    have := congrArg (Option.map fun n : Nat => Value.int .i64 (n : Int)) HN.out
    rw [← List.getElem?_map] at this
    simpa [kindN] using this
  have ck : (((w1.alloc (.cells #[.string ⟨#[97]⟩, .string ⟨#[35, 32, 97]⟩, .string ⟨#[62, 32, 97]⟩, .string ⟨#[45, 32, 97]⟩, .string ⟨#[32, 32, 32, 32, 97]⟩, .string ⟨#[45, 45, 45]⟩, .string ⟨#[60, 98, 62]⟩, .string ⟨#[126, 126, 126]⟩, .string ⟨#[49, 41, 32, 97]⟩, .string ⟨#[91, 120, 93, 58, 32, 47, 117]⟩] 9)).alloc (.cells #[.int .i64 1, .int .i64 1, .int .i64 2, .int .i64 3, .int .i64 1, .int .i64 1, .int .i64 1, .int .i64 1, .int .i64 3, .int .i64 1] 3)).alloc (.cells #[.int .i64 1, .int .i64 2, .int .i64 3, .int .i64 4, .int .i64 6, .int .i64 7, .int .i64 8, .int .i64 6, .int .i64 4, .int .i64 1] 3)).cell? ⟨w1.heap.size + 1 + 1, m, none⟩ = some (.int .i64 k) := by
    have h1 := (Blk.new' ((w1.alloc (.cells #[.string ⟨#[97]⟩, .string ⟨#[35, 32, 97]⟩, .string ⟨#[62, 32, 97]⟩, .string ⟨#[45, 32, 97]⟩, .string ⟨#[32, 32, 32, 32, 97]⟩, .string ⟨#[45, 45, 45]⟩, .string ⟨#[60, 98, 62]⟩, .string ⟨#[126, 126, 126]⟩, .string ⟨#[49, 41, 32, 97]⟩, .string ⟨#[91, 120, 93, 58, 32, 47, 117]⟩] 9)).alloc (.cells #[.int .i64 1, .int .i64 1, .int .i64 2, .int .i64 3, .int .i64 1, .int .i64 1, .int .i64 1, .int .i64 1, .int .i64 3, .int .i64 1] 3)) 3 #[.int .i64 1, .int .i64 2, .int .i64 3, .int .i64 4, .int .i64 6, .int .i64 7, .int .i64 8, .int .i64 6, .int .i64 4, .int .i64 1] (w1.heap.size + 1 + 1) (by simp)).cell m
    rw [h1]
    have := congrArg (Option.map (Value.int .i64)) HK.out
    rw [← List.getElem?_map] at this
    simpa [kindK] using this
  have hz3 : (((w1.alloc (.cells #[.string ⟨#[97]⟩, .string ⟨#[35, 32, 97]⟩, .string ⟨#[62, 32, 97]⟩, .string ⟨#[45, 32, 97]⟩, .string ⟨#[32, 32, 32, 32, 97]⟩, .string ⟨#[45, 45, 45]⟩, .string ⟨#[60, 98, 62]⟩, .string ⟨#[126, 126, 126]⟩, .string ⟨#[49, 41, 32, 97]⟩, .string ⟨#[91, 120, 93, 58, 32, 47, 117]⟩] 9)).alloc (.cells #[.int .i64 1, .int .i64 1, .int .i64 2, .int .i64 3, .int .i64 1, .int .i64 1, .int .i64 1, .int .i64 1, .int .i64 3, .int .i64 1] 3)).alloc (.cells #[.int .i64 1, .int .i64 2, .int .i64 3, .int .i64 4, .int .i64 6, .int .i64 7, .int .i64 8, .int .i64 6, .int .i64 4, .int .i64 1] 3)).heap.size = w1.heap.size + 1 + 1 + 1 := by simp
  generalize (((w1.alloc (.cells #[.string ⟨#[97]⟩, .string ⟨#[35, 32, 97]⟩, .string ⟨#[62, 32, 97]⟩, .string ⟨#[45, 32, 97]⟩, .string ⟨#[32, 32, 32, 32, 97]⟩, .string ⟨#[45, 45, 45]⟩, .string ⟨#[60, 98, 62]⟩, .string ⟨#[126, 126, 126]⟩, .string ⟨#[49, 41, 32, 97]⟩, .string ⟨#[91, 120, 93, 58, 32, 47, 117]⟩] 9)).alloc (.cells #[.int .i64 1, .int .i64 1, .int .i64 2, .int .i64 3, .int .i64 1, .int .i64 1, .int .i64 1, .int .i64 1, .int .i64 3, .int .i64 1] 3)).alloc (.cells #[.int .i64 1, .int .i64 2, .int .i64 3, .int .i64 4, .int .i64 6, .int .i64 7, .int .i64 8, .int .i64 6, .int .i64 4, .int .i64 1] 3)) = w3 at *
  have hpp := parse_any (w3.heap.size + 1) [s] (some ⟨w3.heap.size, 0, none⟩) 1 1 (w3.alloc (.cells #[.string s] 9)) (reads_fresh w3 _ _ 1 1 _ rfl rfl) (by simp) (lnOk_of (by
    intro x hx
    rw [List.mem_singleton.1 hx]; omega)) (by decide) (by decide)
  rw [List.map_singleton, HP.out] at hpp
  rw [hz3] at hpp
  have HPP := Lib.hid hpp
  clear hmod
  go_upto_region 8 with (go_at_call 17; refine HPP.out.mono ?_; rintro e w4 ⟨A, mm, c, rfl, hmm, hO, b4⟩)
  have b5 : Below w.heap.size w w4 := (b2.alloc (by omega) _).trans (b4.mono (by simp; omega))
  have cn4 : w4.cell? ⟨w1.heap.size + 1, m, none⟩ = some (.int .i64 (n : Int)) := (b4.cell (by simp; omega)).trans (((Below.refl w3.heap.size w3).alloc (Nat.le_refl _) _).cell (p := ⟨w1.heap.size + 1, m, none⟩) (by simp; omega) |>.trans cn)
  have ck4 : w4.cell? ⟨w1.heap.size + 1 + 1, m, none⟩ = some (.int .i64 k) := (b4.cell (by simp; omega)).trans (((Below.refl w3.heap.size w3).alloc (Nat.le_refl _) _).cell (p := ⟨w1.heap.size + 1 + 1, m, none⟩) (by simp; omega) |>.trans ck)
  have hmn : mm = n := by rw [← hmm, List.length_cons, HLN.out]
  subst hmn
  obtain ⟨g, rfl, _, _⟩ := hO.some_ (by have := HLN.out; omega)
  have k0 : w4.cell? ⟨g, 0, none⟩ = some (.int .i64 k) := by rw [← hbk]; exact hO.cell rfl
  have k1 : w4.cell? ⟨g, 0 + 1, none⟩ = some (.int .i64 0) := by rw [← hbd]; exact hO.cell (j := 1) rfl
  have hpos : 0 < mm := by have := HLN.out; omega
  clear hO b4 b2 cn ck cs hz3 hmm hbk hbd
  go_quiet (fail)
  go_wp2_with fail
  go_ret
  exact ⟨rfl, below_drewN' b5 _⟩
end Go.Proofs.YtommebalgghdjaaDoor
