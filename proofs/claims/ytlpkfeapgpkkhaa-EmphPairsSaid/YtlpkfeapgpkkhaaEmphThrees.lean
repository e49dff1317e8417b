/-
  bowdlerlaw14.EmphThrees: its walk: it answers true, and turns nothing that was there.
-/
import Derived.Test.YtlpkfeapgpkkhaaAliveE
namespace Go.Proofs.Ytlpkfeapgpkkhaa
open Go.RowKit

def wordW : List Inl := [⟨1, 0, ⟨#[119]⟩, ⟨#[]⟩, ⟨#[]⟩⟩]
def anyNot (l : List Inl) : Bool := l.any (fun x => x.kind != 1)
theorem anyNot_snoc (l : List Inl) (x : Inl) : anyNot (l ++ [x]) = (anyNot l || x.kind != 1) := by simp [anyNot]
theorem threes_fin : ∀ n m : Fin 10, 1 ≤ n.val → 1 ≤ m.val → anyNot (groupT [rowPc 42 (n.val : Int) true false, nodePc none 0 0 wordW, rowPc 42 (m.val : Int) true true]) = !(((n.val : Int) + m.val) % 3 == 0 && ((n.val : Int) % 3 != 0 || (m.val : Int) % 3 != 0)) := by
  decide +kernel
theorem threes_g (n m : Int) (h : 1 ≤ n ∧ n ≤ 9 ∧ 1 ≤ m ∧ m ≤ 9) (A : Option Addr) (k c : Nat) : anyNot (groupT [rowPc 42 n true false, nodePc A k c wordW, rowPc 42 m true true]) = !((n + m) % 3 == 0 && (n % 3 != 0 || m % 3 != 0)) := by
  have e : groupT [rowPc 42 n true false, nodePc A k c wordW, rowPc 42 m true true] = groupT [rowPc 42 n true false, nodePc none 0 0 wordW, rowPc 42 m true true] := by
    rw [groupT_era]; rfl
  rw [e]
  have := threes_fin ⟨n.toNat, by omega⟩ ⟨m.toNat, by omega⟩ (by simp; omega) (by simp; omega)
  simp only at this
  rw [show ((n.toNat : Nat) : Int) = n by omega, show ((m.toNat : Nat) : Int) = m by omega] at this
  exact this

theorem Own.le_max {w : World} {base e size n c : Nat} {A : Option Addr} {xs : List Value} (h : Own w base e size A n c xs) : n ≤ 9223372036854775807 := by
  rcases h.2 with ⟨h0, hn⟩ | ⟨g, cap, cur, hv, hb, hh, hnc, hcm, hsz, ht⟩
  · omega
  · unfold maxLen at hcm; omega
theorem small3 {p q r : Pc} (h1 : Small p ∧ p.shut = false) (h2 : Small q ∧ q.shut = false) (h3 : Small r ∧ r.shut = false) :
    (∀ x ∈ [p, q, r], x.left = max x.n 0 ∧ x.shut = false) ∧ GInv 1048576 1152921504606846976 [p, q, r] := by
  have h : ∀ x ∈ [p, q, r], Small x ∧ x.shut = false := by
    intro x hx
    simp only [List.mem_cons, List.not_mem_nil, or_false] at hx
    rcases hx with rfl | rfl | rfl <;> assumption
  exact ⟨fun x hx => ⟨(h x hx).1.1, (h x hx).2⟩, ginv_of (fun x hx => (h x hx).1) (by simp)⟩
/-- a row, nodes, a row -/
theorem group3_any (g a : Nat) (s1 s2 : UInt8) (n m : Int) (o1 c1 o2 c2 : Bool) (k : Nat) (l : List Inl) (w : World) (hn : 0 ≤ n ∧ n ≤ 40) (hm : 0 ≤ m ∧ m ≤ 40) (hl : k ≤ 60) (ht : txtLen l ≤ 9007199254740992)
    (hr : Blk w g 38 #[.int .u8 (s1.toNat : Int), .int .i64 n, .bool o1, .bool c1, .slice none 0 0, .int .u8 0, .int .i64 0, .bool false, .bool false, .slice (some ⟨a, 0, none⟩) k k, .int .u8 (s2.toNat : Int), .int .i64 m, .bool o2, .bool c2, .slice none 0 0])
    (hL : Reads w w.heap.size 5 (some ⟨a, 0, none⟩) k (inlCells l)) :
    Calls Try.prog 13 #[.slice (some ⟨g, 0, none⟩) 3 3] w fun e w' => ∃ A' c', e = .returned (.slice A' (groupT [rowPc s1 n o1 c1, nodePc none 0 0 l, rowPc s2 m o2 c2]).length c') ∧
      Own w' w.heap.size 51 5 A' (groupT [rowPc s1 n o1 c1, nodePc none 0 0 l, rowPc s2 m o2 c2]).length c' (inlCells (groupT [rowPc s1 n o1 c1, nodePc none 0 0 l, rowPc s2 m o2 c2])) ∧ Below w.heap.size w w' := by
  have hll : l.length = k := by have := hL.1; rw [flat_length _ 5 inl_len] at this; omega
  have e : groupT [rowPc s1 n o1 c1, nodePc none 0 0 l, rowPc s2 m o2 c2] = groupT [rowPc s1 n o1 c1, nodePc (some ⟨a, 0, none⟩) k k l, rowPc s2 m o2 c2] := by
    conv => rhs; rw [groupT_era]
    rfl
  rw [e]
  obtain ⟨s1', s2'⟩ := small3 (p := rowPc s1 n o1 c1) (q := nodePc (some ⟨a, 0, none⟩) k k l) (r := rowPc s2 m o2 c2) ⟨small_row _ _ _ _ hn.1 hn.2, rfl⟩ ⟨small_node _ _ _ (by omega) ht, rfl⟩ ⟨small_row _ _ _ _ hm.1 hm.2, rfl⟩
  refine group_any (some ⟨g, 0, none⟩) 3 3 _ w ⟨rfl, fun _ => ⟨_, rfl, hr.lt, fun j u hu => ?_⟩⟩ ?_ s1' s2'
  · have : (⟨g, 0, none⟩ : Addr).add j = ⟨g, j, none⟩ := by unfold Addr.add; split <;> simp_all
    rw [this, hr.cell j]
    simpa [itCells, rowPc, nodePc] using hu
  · intro p hp
    simp only [List.mem_cons, List.not_mem_nil, or_false] at hp
    rcases hp with rfl | rfl | rfl
    · exact Reads.none_
    · exact hL
    · exact Reads.none_

set_option maxHeartbeats 1000000 in
set_option maxRecDepth 100000 in
theorem emphThrees_walk (n m : Int) (w : World) (_ : (Lit.int .i64 n).wf = true) (_ : (Lit.int .i64 m).wf = true) :
    Calls Try.prog 9 #[.int .i64 n, .int .i64 m] w fun e w' => e = .returned (.bool true) ∧ Below w.heap.size w w' := by
  by_cases hin : 1 ≤ n ∧ n ≤ 9 ∧ 1 ≤ m ∧ m ≤ 9
  · have HK := Lib.hid (threes_g n m hin)
    obtain ⟨h1, h2, h3, h4⟩ := hin
    have q1 : decide (n < 1) = false := decide_eq_false (by omega)
    have q2 : decide (9 < n) = false := decide_eq_false (by omega)
    have q3 : decide (m < 1) = false := decide_eq_false (by omega)
    have q4 : decide (9 < m) = false := decide_eq_false (by omega)
    go_enter Try.func9, Try.ntmps9
    go_wp2_with fail
    refine (alive_any _).mono ?_
    rintro e w1 ⟨rfl, b1⟩
    have z1 := b1.size
    go_wp2_with fail
    refine (group3_any (w1.heap.size + 1 + 1) w1.heap.size 42 42 n m true false true true 1 wordW _ (by omega) (by omega) (by omega) (by simp [wordW, txtLen]) (Blk.new' _ _ _ _ (by simp)) ?_).mono ?_
    · exact (((reads_new w1 _ _ 5 1 _ rfl rfl).alloc (by simp) _).alloc (by simp) _).more (by simp)
    rintro e w2 ⟨A1, c1, rfl, hown, b2⟩
    have bb2 : Below w.heap.size w w2 := (((b1.alloc z1 _).alloc (by simp; omega) _).alloc (by simp; omega) _).trans (b2.mono (by simp; omega))
    have z2 := bb2.size
    have HKs := Lib.hid (HK.out none 0 0)
    generalize groupT [rowPc 42 n true false, nodePc none 0 0 wordW, rowPc 42 m true true] = l at *
    have HO := Lib.hid hown.reads
    have hlm := hown.le_max
    clear b2 hown b1 z1
    go_wp2_with fail
    go_loopw [7, 41] (fun s7 i wr => ∃ k : Nat, k ≤ l.length ∧ i = .int .i64 k ∧ s7 = .bool (anyNot (l.take k)) ∧ Below w2.heap.size w2 wr) (fun _ i _ => l.length - (intOf i).toNat)
    case atStart => exact ⟨0, Nat.zero_le _, rfl, rfl, Below.refl _ _⟩
    case round =>
      obtain ⟨k, hk, rfl, rfl, hb⟩ := hrel
      by_cases hlt : k < l.length
      · obtain ⟨x, hx⟩ : ∃ x, l[k]? = some x := ⟨_, List.getElem?_eq_getElem hlt⟩
        obtain ⟨ad, hA, _, _, g0, g1, g2, g3, g4⟩ := (HO.out.below hb).inl hx
        subst hA
        have hbs := hb.size
        have HT : Hid (anyNot (l.take (k + 1)) = (anyNot (l.take k) || x.kind != 1)) := Lib.hid (by rw [List.take_add_one, hx, Option.toList_some, anyNot_snoc])
        clear hx
        generalize anyNot (l.take k) = b at *
        cases b
        all_goals
          go_wp2_with fail
          go_roundw
          case rel => exact ⟨k + 1, by omega, by go_num, by rw [HT.out]; simp, hb.alloc hbs _⟩
          case measure => simp [intOf]; omega
      · have hkl : k = l.length := by omega
        subst hkl
        rw [List.take_length, HKs.out]
        have bb := bb2.trans (hb.mono z2)
        clear HO HK HKs hb bb2
        cases r1 : ((n + m) % 3 == 0) <;> cases r2 : (n % 3 != 0) <;> cases r3 : (m % 3 != 0)
        all_goals
          go_wp2_with fail
          go_ret
          exact ⟨rfl, bb⟩
  · rcases (by omega : n < 1 ∨ (1 ≤ n ∧ m < 1) ∨ (1 ≤ n ∧ 1 ≤ m ∧ 9 < n) ∨ (1 ≤ n ∧ 1 ≤ m ∧ n ≤ 9 ∧ 9 < m)) with h | ⟨h1, h2⟩ | ⟨h1, h2, h3⟩ | ⟨h1, h2, h3, h4⟩
    all_goals
      clear hin
      go_enter Try.func9, Try.ntmps9
      go_wp2_with fail
      refine (alive_any _).mono ?_
      rintro e w1 ⟨rfl, b1⟩
      go_wp2_with fail
      go_ret
      exact ⟨rfl, b1⟩
end Go.Proofs.Ytlpkfeapgpkkhaa
