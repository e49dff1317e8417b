/-
  line: the contracts of its functions.
-/
import Derived.Test.YtfjapjoomnallaaGreatDoorChecked
import Derived.Test.YtfjapjoomnallaaGreatDoorLineB
import Derived.Test.YtfjapjoomnallaaGreatDoorSameTexts
namespace Go.Proofs.YtfjapjoomnallaaGreatDoor
open Go.RowKit

theorem Tryz.infoStr : (Tryz.prog.info? 9).map (fun i => (i.zero, i.size, i.bytes)) = some (some (.string ⟨#[]⟩), 1, 16) := by kernel_rfl
theorem Tryz.elTexts : Elem Tryz.prog 34 9 1 16 := Elem.mk' Tryz.underlying34 Tryz.infoStr rfl (by decide)
theorem tx_one (l : List ByteArray) : ∀ u ∈ txCells l, u.oneCell' = true := by
  intro u hu
  obtain ⟨x, _, rfl⟩ := List.mem_map.1 hu
  rfl

/-- the library's own variable holds some number -/
def Glb (w : World) : Prop := ∃ m, w.cell? ⟨0, 0, none⟩ = some (.int .i64 m)
theorem Glb.lt {w : World} (h : Glb w) : 0 < w.heap.size := by
  obtain ⟨m, hm⟩ := h
  exact World.block_lt_of_cell? w _ hm
theorem Glb.below {w w' : World} (h : Glb w) (hb : Below w.heap.size w w') : Glb w' := by
  have hl := h.lt
  obtain ⟨m, hm⟩ := h
  exact ⟨m, (hb.cell (p := ⟨0, 0, none⟩) hl).trans hm⟩
theorem Glb.alloc {w : World} (h : Glb w) (o : Obj) : Glb (w.alloc o) := h.below ((Below.refl _ _).alloc (Nat.le_refl _) _)

def linesB (s : ByteArray) : List ByteArray := (linesT (L s)).map S
theorem map_S_L (xs : List ByteArray) : (xs.map L).map S = xs := by
  rw [List.map_map]
  conv => rhs; rw [← List.map_id xs]
  congr 1

set_option maxHeartbeats 1000000 in
set_option maxRecDepth 100000 in
theorem split_any (s : ByteArray) (w : World) (hg : Glb w) (hs : s.size ≤ 1048576) :
    Calls Tryz.prog 5 #[.string s] w fun e w' => ∃ A n c, e = .returned (.slice A n c) ∧ Own w' w.heap.size 9 1 A n c (txCells (linesB s)) ∧ Below w.heap.size w w' := by
  obtain ⟨m, hm⟩ := hg
  have hsp := Tryz.strings_Split s ⟨#[10]⟩ m w (by omega) hm (Nat.le_refl _)
  have hk := split_kit _ s rfl
  have hlen := Lib.splitB_all ⟨#[10]⟩ (Nat.le_refl _) 0 _ s rfl
  have hcl := Lib.countB_le ⟨#[10]⟩ (Nat.le_refl _) s.size s (Nat.le_refl _)
  generalize Lib.splitB ⟨#[10]⟩ 0 (Lib.countB s ⟨#[10]⟩) s = xs at *
  generalize Lib.countB s ⟨#[10]⟩ = k at *
  have HS := Lib.hid hsp
  have HK := Lib.hid hk
  have HL := Lib.hid hlen
  clear hsp hk hm hlen
  obtain ⟨last, hla⟩ : ∃ last, xs[k]? = some last := ⟨_, List.getElem?_eq_getElem (by rw [HL.out]; omega)⟩
  have hgl : (split10 (L s)).getLast? = some (L last) := by
    rw [← HK.out, List.getLast?_map, List.getLast?_eq_getElem?, HL.out, show k + 1 - 1 = k by omega, hla]; rfl
  have hown : Own (w.alloc (.cells (xs.map Value.string).toArray 9)) w.heap.size 9 1 (some ⟨w.heap.size, 0, none⟩) (k + 1) (k + 1) (txCells xs) := by
    have := World.ownsRow_lit (base := w.heap.size) (e := 9) (size := 1) w (xs.map Value.string).toArray (k + 1) (Nat.le_refl _) (by unfold maxLen; omega) (by simp [HL.out])
    simpa [Own, txCells] using this
  have hc := hown.cell (j := k) (u := .string last) (by simp [txCells, hla])
  have bb : Below w.heap.size w (w.alloc (.cells (xs.map Value.string).toArray 9)) := (Below.refl _ _).alloc (Nat.le_refl _) _
  go_enter Tryz.func5, Tryz.ntmps5
  go_wp2_with fail
  refine HS.out.mono ?_
  rintro e w1 ⟨rfl, rfl⟩
  generalize w.alloc (.cells (xs.map Value.string).toArray 9) = w1 at *
  clear hla
  by_cases hl : last.size = 0
  · have hle : L last = [] := List.eq_nil_of_length_eq_zero (by simpa using hl)
    have hT : txCells (linesB s) = (txCells xs).take k := by
      have e1 : linesT (L s) = (split10 (L s)).dropLast := by unfold linesT; rw [if_pos (by rw [hgl, hle])]
      rw [linesB, e1, ← HK.out, ← List.map_dropLast, map_S_L, txCells, txCells, ← List.map_take, List.dropLast_eq_take, HL.out]; rfl
    have HT := Lib.hid hT
    have hlz := bytes_none hl
    rw [hlz] at hc
    clear hgl hle hT hlz hl
    go_wp2_with fail
    go_ret
    refine ⟨_, k, _, rfl, ?_, bb⟩
    rw [HT.out]
    have := hown.take (m := k) (by omega)
    rwa [Nat.mul_one] at this
  · have hT : txCells (linesB s) = txCells xs := by
      have e1 : linesT (L s) = split10 (L s) := by
        unfold linesT; rw [if_neg]
        rw [hgl]
        intro e
        injection e with e
        exact hl (by have := congrArg List.length e; simpa using this)
      rw [linesB, e1, ← HK.out, map_S_L]
    have HT := Lib.hid hT
    obtain ⟨t1, t2, t3⟩ := bytes_some hl
    clear hgl hT hl
    go_wp2_with fail
    go_ret
    refine ⟨_, k + 1, _, rfl, ?_, bb⟩
    rw [HT.out]
    exact hown

theorem joinT_take (xs : List ByteArray) {k : Nat} {x : ByteArray} (hx : xs[k]? = some x) : joinT ((xs.take (k + 1)).map L) = joinT ((xs.take k).map L) ++ (L x ++ [10]) := by
  rw [List.take_add_one, hx, Option.toList_some, List.map_append, joinT_app]; simp [joinT]
theorem joinT_take_le (xs : List ByteArray) (k : Nat) : (joinT ((xs.take k).map L)).length ≤ (joinT (xs.map L)).length := by
  conv => rhs; rw [← List.take_append_drop k xs, List.map_append, joinT_app, List.length_append]
  omega

set_option maxHeartbeats 1000000 in
set_option maxRecDepth 100000 in
theorem join_any (A : Option Addr) (n c K : Nat) (xs : List ByteArray) (w : World) (hr : Reads w K 1 A n (txCells xs)) (hK : K ≤ w.heap.size) (hb : (joinT (xs.map L)).length ≤ 140737488355328) :
    Calls Tryz.prog 10 #[.slice A n c] w fun e w' => e = .returned (.string (S (joinT (xs.map L)))) ∧ Below w.heap.size w w' := by
  have hlen : xs.length = n := by have := hr.1; simpa using this
  have hn : n ≤ 140737488355328 := by
    have h1 : xs.length ≤ (joinT (xs.map L)).length := by
      rw [joinT_len]
      clear hb hr hlen
      induction xs with
      | nil => simp
      | cons x xs ih => simp only [List.map_cons, List.sum_cons, List.length_cons] at *; omega
    omega
  have HL := Lib.hid hlen
  clear hlen
  go_enter Tryz.func10, Tryz.ntmps10
  go_wp2_with fail
  go_loopw [8] (fun i wr => ∃ k : Nat, k ≤ n ∧ i = .int .i64 k ∧ Bld w.heap.size w.heap.size (joinT ((xs.take k).map L)) wr ∧ Below w.heap.size w wr) (fun i _ => n - (intOf i).toNat)
  case atStart => exact ⟨0, Nat.zero_le _, rfl, Bld.new w, (Below.refl _ _).alloc (Nat.le_refl _) _⟩
  case round =>
    obtain ⟨k, hk, rfl, hB, hbw⟩ := hrel
    by_cases hlt : k < n
    · obtain ⟨ad, u, rfl, _, hx0, hc⟩ := (hr.keep (w' := wr) fun p hp => hbw.cell (by omega)).at_ hlt
      obtain ⟨x, hx, rfl⟩ : ∃ x, xs[k]? = some x ∧ Value.string x = u := by simpa using hx0
      have HT := Lib.hid (joinT_take xs hx)
      have hle := joinT_take_le xs (k + 1)
      rw [HT.out, List.length_append, List.length_append] at hle
      simp only [length_L, List.length_singleton] at hle
      clear hx hx0
      generalize joinT ((xs.take k).map L) = kl at *
      have hbs := hbw.size
      go_wp2_with fail
      refine (writeString_any w.heap.size w.heap.size kl _ _ hB (by simp only [ByteArray.size_append, size_lit, List.size_toArray, List.length_cons, List.length_nil]; omega) hbs).mono ?_
      rintro e w1 ⟨rfl, hB1, b1, k1⟩
      go_wp2_with fail
      go_roundw
      case rel =>
        refine ⟨k + 1, by omega, by go_num, ?_, hbw.trans b1⟩
        rw [HT.out]
        simpa only [L_append, L_lit] using hB1
      case measure => simp [intOf]; omega
    · have hkn : k = n := by omega
      subst hkn
      rw [List.take_of_length_le (by rw [HL.out]; omega)] at hB
      go_wp2_with fail
      refine (string_any w.heap.size w.heap.size _ _ hB hbw.size).mono ?_
      rintro e w1 ⟨rfl, hB1, b1, k1⟩
      go_wp2_with fail
      go_ret
      exact ⟨rfl, hbw.trans b1⟩
end Go.Proofs.YtfjapjoomnallaaGreatDoor
