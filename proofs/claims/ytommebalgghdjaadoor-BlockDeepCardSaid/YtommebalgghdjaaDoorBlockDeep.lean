/-
  bowdlerlaw9.BlockDeep: its walk: it answers true, and turns nothing that was there.
-/
import Derived.Test.YtommebalgghdjaaDoorBlockStart
namespace Go.Proofs.YtommebalgghdjaaDoor
open Go.RowKit

def dl (k : Nat) : List UInt8 := (List.replicate k ([62, 32] : List UInt8)).flatten
theorem dl_cons (k : Nat) : dl (k + 1) = [62, 32] ++ dl k := by unfold dl; rw [List.replicate_succ, List.flatten_cons]
theorem dl_snoc (k : Nat) : dl (k + 1) = dl k ++ [62, 32] := by unfold dl; rw [List.replicate_succ', List.flatten_append]; simp
theorem dl_len (k : Nat) : (dl k).length = 2 * k := by
  induction k with
  | zero => rfl
  | succ k ih => rw [dl_cons, List.length_append, ih]; simp; omega
theorem dl_S (k : Nat) : S (dl k) ++ (⟨#[62, 32]⟩ : ByteArray) = S (dl (k + 1)) := by rw [S_append, dl_snoc]; rfl
theorem dl_S' (k : Nat) : (⟨#[62, 32]⟩ : ByteArray) ++ S (dl k ++ [120]) = S (dl (k + 1) ++ [120]) := by rw [append_S, dl_cons]; rfl
def deepOk (n : Nat) : Bool := match (parseT [dl n ++ [120]])[min n 12]? with
  | some b => decide ((parseT [dl n ++ [120]]).length = min n 12 + 1) && decide (b.kind = 1) && decide (b.depth = (min n 12 : Nat)) && decide (b.text = dl (n - min n 12) ++ [120])
  | none => false
theorem deep_ok : ∀ n, n < 21 → 1 ≤ n → deepOk n = true := by decide +kernel
theorem deep_law {n : Nat} (h1 : 1 ≤ n) (h2 : n ≤ 20) : ∃ m b, m = min n 12 ∧ (parseT [dl n ++ [120]])[m]? = some b ∧ (parseT [dl n ++ [120]]).length = m + 1 ∧ b.kind = 1 ∧ b.depth = (m : Nat) ∧ b.text = dl (n - m) ++ [120] := by
  have := deep_ok n (by omega) h1
  unfold deepOk at this
  split at this
  · rename_i b e
    simp only [Bool.and_eq_true, decide_eq_true_eq] at this
    obtain ⟨⟨⟨g1, g2⟩, g3⟩, g4⟩ := this
    exact ⟨_, b, rfl, e, g1, g2, g3, g4⟩
  · cases this

set_option maxHeartbeats 3000000 in
set_option maxRecDepth 100000 in
theorem blockDeep_walk (nn : Int) (w : World) (_ : Glb w) (_ : (Lit.int .i64 nn).wf = true) :
    Calls Tryd.prog 9 #[.int .i64 nn] w fun e w' => e = .returned (.bool true) ∧ Below w.heap.size w w' := by
  have hcs : nn < 1 ∨ 20 < nn ∨ (1 ≤ nn ∧ nn ≤ 20) := by omega
  rcases hcs with h | h | ⟨h1, h20⟩
  · go_enter Tryd.func9, Tryd.ntmps9
    go_wp2_with (go_at_call 16; refine (aliveB_any _).mono ?_; rintro e w1 ⟨rfl, b1⟩)
    go_ret
    exact ⟨rfl, b1⟩
  · go_enter Tryd.func9, Tryd.ntmps9
    go_wp2_with (go_at_call 16; refine (aliveB_any _).mono ?_; rintro e w1 ⟨rfl, b1⟩)
    go_ret
    exact ⟨rfl, b1⟩
  obtain ⟨n, rfl⟩ := Int.eq_ofNat_of_zero_le (a := nn) (by omega)
  obtain ⟨m, b, hm, hbm, hbl, hk, hd, ht⟩ := deep_law (n := n) (by omega) (by omega)
  have HBM := Lib.hid hbm
  have HBL := Lib.hid hbl
  have hmn : m ≤ n := by omega
  have hm12 : m ≤ 12 := by omega
  have HM := Lib.hid hm
  clear hbm hbl hm
  go_enter Tryd.func9, Tryd.ntmps9
  go_wp2_with (go_at_call 16; refine (aliveB_any _).mono ?_; rintro e w1 ⟨rfl, b1⟩)
  have z1 := b1.size
  go_loop [3, 4] (fun s3 s4 => ∃ k : Nat, k ≤ n ∧ s4 = .int .i64 k ∧ s3 = .string (S (dl k))) (fun _ s4 => n - (intOf s4).toNat)
  case atStart => exact ⟨0, Nat.zero_le _, rfl, rfl⟩
  case round =>
    obtain ⟨k, hkn, rfl, rfl⟩ := hrel
    by_cases hlt : k < n
    · have hsz : (S (dl k)).size ≤ 40 := by rw [size_S, dl_len]; omega
      have HS := Lib.hid (dl_S k)
      generalize S (dl k) = X at *
      have r1 : ¬ 9223372036854775807 < X.size + (⟨#[62, 32]⟩ : ByteArray).size := by have : (⟨#[62, 32]⟩ : ByteArray).size = 2 := rfl; omega
      go_wp2_with fail
      go_round
      case rel => exact ⟨k + 1, by omega, by go_num, by rw [HS.out]⟩
      case measure => simp [intOf]; omega
    · have hkn : k = n := by omega
      subst hkn
      have hsz : (S (dl k)).size ≤ 40 := by rw [size_S, dl_len]; omega
      have hL : L (S (dl k) ++ ⟨#[120]⟩) = dl k ++ [120] := by rw [L_append, L_S]; rfl
      have HL := Lib.hid hL
      clear hL
      generalize S (dl k) = X at *
      have r1 : ¬ 9223372036854775807 < X.size + (⟨#[120]⟩ : ByteArray).size := by have : (⟨#[120]⟩ : ByteArray).size = 1 := rfl; omega
      have hxs : (X ++ (⟨#[120]⟩ : ByteArray)).size ≤ 41 := by rw [ByteArray.size_append]; have : (⟨#[120]⟩ : ByteArray).size = 1 := rfl; omega
      have hp := parse_any (w1.heap.size + 1) [X ++ ⟨#[120]⟩] (some ⟨w1.heap.size, 0, none⟩) 1 1 (w1.alloc (.cells #[.string (X ++ ⟨#[120]⟩)] 9)) (reads_fresh w1 _ _ 1 1 _ rfl rfl) (by simp) (lnOk_of (by
        intro x hx
        rw [List.mem_singleton.1 hx]; omega)) (by decide) (by decide)
      rw [List.map_singleton, HL.out] at hp
      have HP := Lib.hid hp
      clear hp
      have b2 : Below w.heap.size w (w1.alloc (.cells #[.string (X ++ ⟨#[120]⟩)] 9)) := b1.alloc z1 _
      go_upto_region 9 with (go_at_call 17; refine HP.out.mono ?_; rintro e w3 ⟨Ao, mm, co, rfl, hmm, hO, b3⟩)
      have b4 := b2.trans (b3.mono (by simp; omega))
      have hmm2 : mm = m + 1 := by rw [← hmm, HBL.out]
      subst hmm2
      obtain ⟨ad, rfl, _, c0, c1, _, _, c4, _⟩ := hO.reads.blk HBM.out (by omega)
      rw [hk] at c0
      rw [hd] at c1
      rw [ht] at c4
      have x1 : IntKind.wrap .i64 ((m : Int) + 1) = (m : Int) + 1 := IntWalk.i64_in _ (by omega)
      have x2 : min (k : Int) 12 = (m : Int) := by have := HM.out; omega
      clear hO b3 b2 HP hmm hk hd
      obtain ⟨T, hT⟩ : ∃ T, S (dl (k - m) ++ [120]) = T := ⟨_, rfl⟩
      rw [hT] at c4
      have HT := Lib.hid hT
      clear hT ht r1 hxs
      go_wp2_with fail
      go_loop [7, 8] (fun s7 s8 => ∃ q : Nat, m ≤ q ∧ q ≤ k ∧ s8 = .int .i64 q ∧ s7 = .string (S (dl (q - m) ++ [120]))) (fun _ s8 => k - (intOf s8).toNat)
      case atStart => exact ⟨m, Nat.le_refl _, hmn, rfl, by rw [Nat.sub_self]; rfl⟩
      case round =>
        obtain ⟨q, hmq, hqk, rfl, rfl⟩ := hrel
        by_cases hlt2 : q < k
        · have hsz2 : (S (dl (q - m) ++ [120])).size ≤ 41 := by rw [size_S, List.length_append, dl_len]; simp; omega
          have hs' := dl_S' (q - m)
          rw [show q - m + 1 = q + 1 - m by omega] at hs'
          have HS := Lib.hid hs'
          clear hs'
          generalize S (dl (q - m) ++ [120]) = Y at *
          have r1 : ¬ 9223372036854775807 < (⟨#[62, 32]⟩ : ByteArray).size + Y.size := by have : (⟨#[62, 32]⟩ : ByteArray).size = 2 := rfl; omega
          go_wp2_with fail
          go_round
          case rel => exact ⟨q + 1, by omega, by omega, by go_num, by rw [HS.out]⟩
          case measure => simp [intOf]; omega
        · have hqn : q = k := by omega
          subst hqn
          rw [HT.out]
          go_wp2_with fail
          go_ret
          exact ⟨rfl, b4⟩
end Go.Proofs.YtommebalgghdjaaDoor
