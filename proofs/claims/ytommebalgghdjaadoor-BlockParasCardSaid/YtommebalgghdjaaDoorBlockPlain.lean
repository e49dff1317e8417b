/-
  bowdlerlaw9.Plain: its contract.
-/
import Derived.Test.YtommebalgghdjaaDoorBlockParse
namespace Go.Proofs.YtommebalgghdjaaDoor
open Go.RowKit

def plainX (x : ByteArray) : Bool := decide (x.size ≤ 100) && !(L x).contains 10
def plainT (ls : List ByteArray) : Bool := ls.all plainX && decide (ls.length ≤ 40)

theorem take10 (x : ByteArray) {j : Nat} (h : j < x.size) (hn : ¬ x[j]'h = 10) (ih : 10 ∉ (L x).take j) : 10 ∉ (L x).take (j + 1) := by
  have hl : j < (L x).length := by simpa using h
  rw [List.take_add_one, List.getElem?_eq_getElem hl, Option.toList_some, List.mem_append, List.mem_singleton]
  rintro (hb | hb)
  · exact ih hb
  · exact hn hb.symm

set_option maxHeartbeats 1500000 in
set_option maxRecDepth 100000 in
theorem plain_any (A : Option Addr) (n c K : Nat) (ls : List ByteArray) (w : World) (hr : Reads w K 1 A n (txCells ls)) (hn : n ≤ 9223372036854775807) (hsz : ∀ x ∈ ls, x.size ≤ 9223372036854775807) :
    Calls Tryd.prog 15 #[.slice A n c] w fun e w' => e = .returned (.bool (plainT ls)) ∧ w' = w := by
  have hlen : ls.length = n := by have := hr.1; simpa using this
  have HL := Lib.hid hlen
  have HSZ := Lib.hid hsz
  clear hlen hsz
  go_enter Tryd.func15, Tryd.ntmps15
  go_wp2_with fail
  go_loop [8] (fun s8 => ∃ k : Nat, k ≤ n ∧ s8 = .int .i64 k ∧ ∀ x ∈ ls.take k, plainX x = true) (fun s8 => n - (intOf s8).toNat)
  case atStart => exact ⟨0, Nat.zero_le _, rfl, by simp⟩
  case round =>
    obtain ⟨k, hk, rfl, hall⟩ := hrel
    have HALL := Lib.hid hall
    clear hall
    by_cases hlt : k < n
    · obtain ⟨ad, u, rfl, _, hx0, hc⟩ := hr.at_ hlt
      obtain ⟨x, hx, rfl⟩ : ∃ x, ls[k]? = some x ∧ Value.string x = u := by simpa using hx0
      have hxm := HSZ.out x (List.mem_of_getElem? hx)
      have hbad : plainX x = false → plainT ls = false := fun h => by
        have : ls.all plainX = false := by rw [List.all_eq_false]; exact ⟨x, List.mem_of_getElem? hx, by rw [h]; decide⟩
        unfold plainT; rw [this]; rfl
      have HBAD := Lib.hid hbad
      have HX := Lib.hid hx
      clear hx hx0 hbad
      by_cases h100 : 100 < x.size
      · have HF : Hid (plainT ls = false) := Lib.hid (HBAD.out (by unfold plainX; rw [decide_eq_false (by omega)]; rfl))
        go_wp2_with fail
        go_ret
        rw [HF.out]
        exact ⟨rfl, rfl⟩
      · go_wp2_with fail
        go_loop [5] (fun s5 => ∃ j : Nat, j ≤ x.size ∧ s5 = .int .i64 j ∧ 10 ∉ (L x).take j) (fun s5 => x.size - (intOf s5).toNat)
        case atStart => exact ⟨0, Nat.zero_le _, rfl, by simp⟩
        case round =>
          obtain ⟨j, hj, rfl, hno⟩ := hrel
          have HNO := Lib.hid hno
          clear hno
          by_cases hjl : j < x.size
          · by_cases hb : x[j]'hjl = 10
            · have HF : Hid (plainT ls = false) := Lib.hid (HBAD.out (by
                have hm : (10 : UInt8) ∈ L x := by rw [← hb]; exact List.getElem_mem (by simpa using hjl)
                unfold plainX; rw [List.contains_iff_mem.2 hm, Bool.not_true, Bool.and_false]))
              go_wp2_with fail
              go_ret
              rw [HF.out]
              exact ⟨rfl, rfl⟩
            · have HT := Lib.hid (take10 x hjl hb HNO.out)
              have q : ((x[j].toNat : Int) == 10) = false := byte_ne (n := 10) (by decide) hb
              clear hb
              go_wp2_with fail
              go_round
              case rel => exact ⟨j + 1, by omega, by go_num, HT.out⟩
              case measure => simp [intOf]; omega
          · go_wp2_with fail
            go_round
            case rel =>
              refine ⟨k + 1, by omega, by go_num, ?_⟩
              intro y hy
              rw [List.take_add_one, HX.out, Option.toList_some, List.mem_append, List.mem_singleton] at hy
              rcases hy with hy | rfl
              · exact HALL.out y hy
              · have hn10 := HNO.out
                rw [List.take_of_length_le (by simp; omega)] at hn10
                unfold plainX
                rw [decide_eq_true (by omega), Bool.true_and]
                cases hcc : (L y).contains 10
                · rfl
                · exact absurd (List.contains_iff_mem.1 hcc) hn10
            case measure => simp [intOf]; omega
    · have hkn : k = n := by omega
      subst hkn
      have HF : Hid (plainT ls = decide ((k : Int) ≤ 40)) := Lib.hid (by
        have hall := HALL.out
        rw [List.take_of_length_le (by rw [HL.out]; omega)] at hall
        unfold plainT
        rw [List.all_eq_true.2 hall, Bool.true_and, HL.out]
        by_cases h : k ≤ 40
        · rw [decide_eq_true h, decide_eq_true (by omega)]
        · rw [decide_eq_false h, decide_eq_false (by omega)])
      go_wp2_with fail
      go_ret
      rw [HF.out]
      exact ⟨rfl, rfl⟩
end Go.Proofs.YtommebalgghdjaaDoor
