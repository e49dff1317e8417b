/-
  line: the contracts of its functions.
-/
import Derived.Test.YtommebalgghdjaaDoorChecked
import Derived.Test.YtommebalgghdjaaDoorLineB
import Derived.Test.YtommebalgghdjaaDoorSameTexts
namespace Go.Proofs.YtommebalgghdjaaDoor
open Go.RowKit

theorem Tryd.infoStr : (Tryd.prog.info? 9).map (fun i => (i.zero, i.size, i.bytes)) = some (some (.string ⟨#[]⟩), 1, 16) := by kernel_rfl
theorem Tryd.elTexts : Elem Tryd.prog 22 9 1 16 := Elem.mk' Tryd.underlying22 Tryd.infoStr rfl (by decide)
theorem tx_one (l : List ByteArray) : ∀ u ∈ txCells l, u.oneCell' = true := by
  intro u hu
  obtain ⟨x, _, rfl⟩ := List.mem_map.1 hu
  rfl

/-- the library's own variable holds some number -/
def Glb (w : World) : Prop := ∃ m, w.cell? ⟨0, 0, none⟩ = some (.int .i64 m)
theorem Glb.lt {w : World} (h : Glb w) : 0 < w.heap.size := by
  obtain ⟨m, hm⟩ := h
  exact World.block_lt_of_cell? w _ hm
theorem Glb.below {w w' : World} (h : Glb w) (hb : Below w.heap.size w w') : Glb w' := by
  have hl := h.lt
  obtain ⟨m, hm⟩ := h
  exact ⟨m, (hb.cell (p := ⟨0, 0, none⟩) hl).trans hm⟩
theorem Glb.alloc {w : World} (h : Glb w) (o : Obj) : Glb (w.alloc o) := h.below ((Below.refl _ _).alloc (Nat.le_refl _) _)

def linesB (s : ByteArray) : List ByteArray := (linesT (L s)).map S
theorem map_S_L (xs : List ByteArray) : (xs.map L).map S = xs := by
  rw [List.map_map]
  conv => rhs; rw [← List.map_id xs]
  congr 1


theorem joinT_take (xs : List ByteArray) {k : Nat} {x : ByteArray} (hx : xs[k]? = some x) : joinT ((xs.take (k + 1)).map L) = joinT ((xs.take k).map L) ++ (L x ++ [10]) := by
  rw [List.take_add_one, hx, Option.toList_some, List.map_append, joinT_app]; simp [joinT]
theorem joinT_take_le (xs : List ByteArray) (k : Nat) : (joinT ((xs.take k).map L)).length ≤ (joinT (xs.map L)).length := by
  conv => rhs; rw [← List.take_append_drop k xs, List.map_append, joinT_app, List.length_append]
  omega

set_option maxHeartbeats 1000000 in
set_option maxRecDepth 100000 in
theorem join_any (A : Option Addr) (n c K : Nat) (xs : List ByteArray) (w : World) (hr : Reads w K 1 A n (txCells xs)) (hK : K ≤ w.heap.size) (hb : (joinT (xs.map L)).length ≤ 140737488355328) :
    Calls Tryd.prog 77 #[.slice A n c] w fun e w' => e = .returned (.string (S (joinT (xs.map L)))) ∧ Below w.heap.size w w' := by
  have hlen : xs.length = n := by have := hr.1; simpa using this
  have hn : n ≤ 140737488355328 := by
    have h1 : xs.length ≤ (joinT (xs.map L)).length := by
      rw [joinT_len]
      clear hb hr hlen
      induction xs with
      | nil => simp
      | cons x xs ih => simp only [List.map_cons, List.sum_cons, List.length_cons] at *; omega
    omega
  have HL := Lib.hid hlen
  clear hlen
  go_enter Tryd.func77, Tryd.ntmps77
  go_wp2_with fail
  go_loopw [8] (fun i wr => ∃ k : Nat, k ≤ n ∧ i = .int .i64 k ∧ Bld w.heap.size w.heap.size (joinT ((xs.take k).map L)) wr ∧ Below w.heap.size w wr) (fun i _ => n - (intOf i).toNat)
  case atStart => exact ⟨0, Nat.zero_le _, rfl, Bld.new w, (Below.refl _ _).alloc (Nat.le_refl _) _⟩
  case round =>
    obtain ⟨k, hk, rfl, hB, hbw⟩ := hrel
    by_cases hlt : k < n
    · obtain ⟨ad, u, rfl, _, hx0, hc⟩ := (hr.keep (w' := wr) fun p hp => hbw.cell (by omega)).at_ hlt
      obtain ⟨x, hx, rfl⟩ : ∃ x, xs[k]? = some x ∧ Value.string x = u := by simpa using hx0
      have HT := Lib.hid (joinT_take xs hx)
      have hle := joinT_take_le xs (k + 1)
      rw [HT.out, List.length_append, List.length_append] at hle
      simp only [length_L, List.length_singleton] at hle
      clear hx hx0
      generalize joinT ((xs.take k).map L) = kl at *
      have hbs := hbw.size
      go_wp2_with fail
      refine (writeString_any w.heap.size w.heap.size kl _ _ hB (by simp only [ByteArray.size_append, size_lit, List.size_toArray, List.length_cons, List.length_nil]; omega) hbs).mono ?_
      rintro e w1 ⟨rfl, hB1, b1, k1⟩
      go_wp2_with fail
      go_roundw
      case rel =>
        refine ⟨k + 1, by omega, by go_num, ?_, hbw.trans b1⟩
        rw [HT.out]
        simpa only [L_append, L_lit] using hB1
      case measure => simp [intOf]; omega
    · have hkn : k = n := by omega
      subst hkn
      rw [List.take_of_length_le (by rw [HL.out]; omega)] at hB
      go_wp2_with fail
      refine (string_any w.heap.size w.heap.size _ _ hB hbw.size).mono ?_
      rintro e w1 ⟨rfl, hB1, b1, k1⟩
      go_wp2_with fail
      go_ret
      exact ⟨rfl, hbw.trans b1⟩
end Go.Proofs.YtommebalgghdjaaDoor
