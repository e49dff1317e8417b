/-
  bowdlerlaw4.PolicyMany: its walk: it answers true, and turns nothing that was there.
-/
import Derived.Test.YtofloedgclodnaaDoorPolAlive
import Derived.Test.YtofloedgclodnaaDoorPolRep
namespace Go.Proofs.YtofloedgclodnaaDoor
open Go.RowKit

def nmL (k : Nat) : List UInt8 := [108, (97 + k / 26).toUInt8, (97 + k % 26).toUInt8]
def lnL (k : Nat) : List UInt8 := [108, 101, 118, 101, 108, 32] ++ nmL k
def nmB (k : Nat) : ByteArray := S (nmL k)
def lnB (k : Nat) : ByteArray := S (lnL k)
def manyL (n : Nat) : List UInt8 := joinT ((List.range n).map lnL)

theorem many_dec : ∀ k < 80, (split32 (L (lnB k))).map S = [levelB, nmB k] ∧ skipB (lnB k) = false ∧ nameT (L (nmB k)) = true := by decide +kernel
theorem many_inj : ∀ i < 80, ∀ j < 80, nmL i = nmL j → i = j := by decide +kernel
theorem many_stays : ∀ k < 80, ∀ b ∈ lnL k, b ≠ 0 ∧ b.toNat < 128 ∧ b ≠ 13 ∧ b ≠ 10 := by decide +kernel

theorem idxF_new (x : ByteArray) : ∀ (k : Nat) (xs : List ByteArray), x ∉ xs → idxF x k (xs ++ [x]) = ((k + xs.length : Nat) : Int)
  | k, [], _ => by simp [idxF]
  | k, y :: t, h => by
    rw [List.cons_append, idxF, if_neg (fun e => h (by rw [e]; simp)), idxF_new x (k + 1) t (fun e => h (List.mem_cons_of_mem _ e))]
    simp only [List.length_cons]; congr 1; omega
theorem idxT_new {x : ByteArray} {xs : List ByteArray} (h : x ∉ xs) : idxT (xs ++ [x]) x = (xs.length : Int) := by
  have := idxF_new x 0 xs h
  unfold idxT
  simpa using this

theorem many_run : ∀ (t j : Nat), j + t ≤ 80 → j ≤ 64 → 1 ≤ j + t →
    parseC ((List.range' j t).map lnB) ((List.range j).map nmB) [] = if j + t ≤ 64 then some ((List.range (j + t)).map nmB, []) else none
  | 0, j, h1, h2, h3 => by
    rw [if_pos (by omega)]
    simp only [List.range'_zero, List.map_nil, parseC, Nat.add_zero]
    rw [if_neg (by simp; omega)]
  | t + 1, j, h1, h2, h3 => by
    obtain ⟨d1, d2, d3⟩ := many_dec j (by omega)
    have hnew : nmB j ∉ (List.range j).map nmB := by
      intro h
      obtain ⟨i, hi, e⟩ := List.mem_map.1 h
      have hij : i < j := by simpa using hi
      have e2 : nmL i = nmL j := by have := congrArg L e; simpa [nmB] using this
      have := many_inj i (by omega) j (by omega) e2
      omega
    have hx : (List.range j).map nmB ++ [nmB j] = (List.range (j + 1)).map nmB := by rw [List.range_succ]; simp
    have hl : ((List.range j).map nmB ++ [nmB j]).length = j + 1 := by simp
    have ha := addT_level ((List.range j).map nmB) [] (nmB j)
    rw [idxT_new hnew, hl, d3, hx] at ha
    rw [List.range'_succ, List.map_cons, parseC, d2, d1, ha]
    have he : ((((List.range j).map nmB).length : Int) == ((j + 1 : Nat) : Int) - 1) = true := by simp
    simp only [Bool.false_eq_true, if_false, he, Bool.true_and]
    by_cases h64 : j + 1 ≤ 64
    · rw [decide_eq_true h64]
      rw [if_pos rfl]
      rw [many_run t (j + 1) (by omega) (by omega) (by omega)]
      rw [show j + 1 + t = j + (t + 1) by omega]
    · rw [decide_eq_false h64, if_neg (by simp), if_neg (by omega)]

theorem many_parse (n : Nat) (h1 : 1 ≤ n) (h2 : n ≤ 80) : parseT (S (manyL n)) = if n ≤ 64 then some ((List.range n).map nmB, []) else none := by
  rw [parseT_eq]
  have hst : ∀ x ∈ (List.range n).map lnL, ∀ b ∈ x, b ≠ 0 ∧ b.toNat < 128 ∧ b ≠ 13 ∧ b ≠ 10 := by
    intro x hx b hb
    obtain ⟨k, hk, rfl⟩ := List.mem_map.1 hx
    exact many_stays k (by have : k < n := by simpa using hk
                           omega) b hb
  have hrep : repT (S (manyL n)) = manyL n := repT_stays _ (by
    intro b hb
    obtain ⟨x, hx, hb⟩ := List.mem_flatMap.1 hb
    rcases List.mem_append.1 hb with hb | hb
    · have := hst x hx b hb; exact ⟨this.1, this.2.1, this.2.2.1⟩
    · rw [List.mem_singleton.1 hb]; exact ⟨by decide, by decide, by decide⟩)
  have hln : linesB (S (manyL n)) = (List.range' 0 n).map lnB := by
    unfold linesB
    rw [L_S]
    unfold manyL
    rw [lines_join (fun x hx h10 => (hst x hx 10 h10).2.2.2 rfl), List.map_map, List.range_eq_range']
    rfl
  rw [hrep, hln]
  have := many_run n 0 (by omega) (by omega) (by omega)
  simpa using this

theorem convert_two (b c : UInt8) (w : World) : (convert 37 9 (.slice (some ⟨w.heap.size, 0, none⟩) 2 2)).run Tryd.prog (w.alloc (.cells #[.int .u8 (b.toNat : Int), .int .u8 (c.toNat : Int)] 5)) = .ok (.string (S [b, c])) (w.alloc (.cells #[.int .u8 (b.toNat : Int), .int .u8 (c.toNat : Int)] 5)) := by
  refine run_convert_bytes_back _ _ _ 5 _ 2 [b, c] Tryd.underlying37 Tryd.underlying5 Tryd.underlying9 (fun j hj => ?_)
  have hB := Blk.new w 5 #[.int .u8 (b.toNat : Int), .int .u8 (c.toNat : Int)]
  have : j = 0 ∨ j = 1 := by simp at hj; omega
  rcases this with rfl | rfl
  · exact hB.cell 0
  · exact hB.cell 1

theorem manyL_succ (k : Nat) : manyL (k + 1) = manyL k ++ (lnL k ++ [10]) := by
  unfold manyL
  rw [List.range_succ, List.map_append, joinT_app]
  simp [joinT]
theorem manyL_len (k : Nat) : (manyL k).length = 10 * k := by
  induction k with
  | zero => rfl
  | succ k ih => rw [manyL_succ, List.length_append, ih]; simp [lnL, nmL]; omega

set_option maxHeartbeats 2000000 in
set_option maxRecDepth 100000 in
theorem policyMany_walk (n : Int) (w : World) (hg : Glb w) (_ : (Lit.int .i64 n).wf = true) :
    Calls Tryd.prog 5 #[.int .i64 n] w fun e w' => e = .returned (.bool true) ∧ Below w.heap.size w w' := by
  by_cases h1 : n < 1
  · go_enter Tryd.func5, Tryd.ntmps5
    go_wp2_with (go_at_call 16; refine (alive4_any _ hg).mono ?_; rintro e w1 ⟨rfl, b1⟩)
    go_ret
    exact ⟨rfl, b1⟩
  by_cases h2 : 80 < n
  · go_enter Tryd.func5, Tryd.ntmps5
    go_wp2_with (go_at_call 16; refine (alive4_any _ hg).mono ?_; rintro e w1 ⟨rfl, b1⟩)
    go_ret
    exact ⟨rfl, b1⟩
  obtain ⟨n, rfl⟩ := Int.eq_ofNat_of_zero_le (a := n) (by omega)
  have hn1 : 1 ≤ n := by omega
  have hn80 : n ≤ 80 := by omega
  have HP := Lib.hid (many_parse n hn1 hn80)
  go_enter Tryd.func5, Tryd.ntmps5
  go_wp2_with (go_at_call 16; refine (alive4_any _ hg).mono ?_; rintro e w1 ⟨rfl, b1⟩)
  have hs1 := b1.size
  go_loopw [3, 4] (fun s3 s4 wr => ∃ k : Nat, k ≤ n ∧ s4 = .int .i64 k ∧ s3 = .string (S (manyL k)) ∧ Below w.heap.size w wr) (fun _ s4 _ => n - (intOf s4).toNat)
  case atStart => exact ⟨0, Nat.zero_le _, rfl, rfl, b1⟩
  case round =>
    obtain ⟨k, hk, rfl, rfl, hb⟩ := hrel
    have hsr := hb.size
    have hml := manyL_len k
    by_cases hlt : k < n
    · have HM := Lib.hid (manyL_succ k)
      obtain ⟨b, hbb⟩ : ∃ b : UInt8, b = (97 + k / 26).toUInt8 := ⟨_, rfl⟩
      obtain ⟨c, hcc⟩ : ∃ c : UInt8, c = (97 + k % 26).toUInt8 := ⟨_, rfl⟩
      have qb : (b.toNat : Int) = 97 + (k : Int) / 26 := by
        rw [hbb]
        have : (97 + k / 26).toUInt8.toNat = 97 + k / 26 := by simp; omega
        rw [this]; omega
      have qc : (c.toNat : Int) = 97 + (k : Int) % 26 := by
        rw [hcc]
        have : (97 + k % 26).toUInt8.toNat = 97 + k % 26 := by simp; omega
        rw [this]; omega
      have hcv := convert_two b c wr
      rw [qb, qc] at hcv
      clear qb qc
      have HLN : Hid (lnL k = [108, 101, 118, 101, 108, 32, 108, b, c]) := Lib.hid (by rw [hbb, hcc]; rfl)
      clear hbb hcc
      go_wp2_with fail
      go_roundw
      case rel =>
        refine ⟨k + 1, by omega, by go_num, ?_, hb.alloc hsr _⟩
        rw [HM.out, HLN.out]
        congr 1
      case measure => simp [intOf]; omega
    · have hkn : k = n := by omega
      subst hkn
      have hgr := hg.below hb
      have hpar := parse_any (S (manyL k)) wr hgr (by simp [S]; omega)
      rw [HP.out] at hpar
      have HQ := Lib.hid hpar
      clear hpar HP
      have HML := Lib.hid hml
      clear hml
      by_cases h64 : k ≤ 64
      · have HQ2 := HQ.out
        rw [if_pos h64] at HQ2
        have HQ := Lib.hid HQ2
        clear HQ2
        have d1 : decide ((k : Int) ≤ 64) = true := decide_eq_true (by omega)
        go_wp2_with fail
        refine HQ.out.mono ?_
        rintro e w2 ⟨b2, -, h⟩
        obtain ⟨A, m, c, B, m2, d, rfl, hX, _⟩ := h _ rfl
        have hmk : m = k := by have := hX.len; simpa [txCells] using this.symm
        subst hmk
        have bb := hb.trans (b2.mono hsr)
        clear HQ h hX b2
        go_wp2_with fail
        go_ret
        exact ⟨rfl, bb.alloc bb.size _⟩
      · have HQ2 := HQ.out
        rw [if_neg h64] at HQ2
        have HQ := Lib.hid HQ2
        clear HQ2
        have d1 : decide ((k : Int) ≤ 64) = false := decide_eq_false (by omega)
        go_wp2_with fail
        refine HQ.out.mono ?_
        rintro e w2 ⟨b2, h, -⟩
        obtain rfl := h (by trivial)
        have bb := hb.trans (b2.mono hsr)
        clear HQ h b2
        go_wp2_with fail
        go_ret
        exact ⟨rfl, bb.alloc bb.size _⟩
end Go.Proofs.YtofloedgclodnaaDoor
