/-
  veil.signs: its contract.
-/
import Derived.Test.YteeoohnkfdffnaaGreatDoorVeilDia
namespace Go.Proofs.YteeoohnkfdffnaaGreatDoor
open Go.RowKit
set_option linter.unusedVariables false

/-- how far the first row of signs goes: what is left, at a place, with so many found -/
def signsG : Nat → Nat → List UInt8 → Nat
  | _, n, [] => n
  | pos, n, b :: t => if b = 35 then signsG (pos + 1) (pos + 1) t else if 0 < n then n else signsG (pos + 1) n t
def signsT (l : List UInt8) : Nat := signsG 0 0 l
/-- bytes that are no signs, ahead of all signs -/
theorem signsG_skip : ∀ (k pos : Nat) (l : List UInt8), (∀ b ∈ l.take k, b ≠ 35) → k ≤ l.length → signsG pos 0 l = signsG (pos + k) 0 (l.drop k)
  | 0, pos, l, _, _ => rfl
  | k + 1, pos, [], _, h => by simp at h
  | k + 1, pos, b :: t, h, hk => by
    have hb : b ≠ 35 := h b (by simp)
    rw [signsG, if_neg hb, if_neg (by omega), signsG_skip k (pos + 1) t (fun x hx => h x (by simp [hx])) (by simpa using hk), List.drop_succ_cons, show pos + 1 + k = pos + (k + 1) by omega]

set_option maxHeartbeats 2000000 in
set_option maxRecDepth 100000 in
theorem signs_any (s : ByteArray) (w : World) (hs : s.size ≤ 9223372036854775806) :
    Calls Tryz.prog 44 #[.string s] w fun e w' => e = .returned (.int .i64 (signsT (L s) : Int)) ∧ signsT (L s) ≤ s.size ∧ Below w.heap.size w w' := by
  obtain ⟨V, hV⟩ : ∃ V, signsT (L s) = V := ⟨_, rfl⟩
  rw [hV]
  have HV := Lib.hid hV
  clear hV
  go_enter Tryz.func44, Tryz.ntmps44
  go_wp2_with fail
  go_loopw [3] (fun s3 wr => ∃ pos n : Nat, s3 = .int .i64 n ∧ pos ≤ s.size ∧ n ≤ pos ∧ Hid (signsG pos n ((L s).drop pos) = V) ∧ wr.heap[w.heap.size]? = some (.stringIter s pos) ∧ Below w.heap.size w wr)
    (fun _ wr => s.size - wr.iterPos w.heap.size)
  case atStart =>
    refine ⟨0, 0, rfl, by omega, Nat.le_refl _, Lib.hid HV.out, ?_, (Below.refl _ w).alloc (Nat.le_refl _) _⟩
    exact World.iter_heap w s 0
  case round =>
    obtain ⟨pos, n, rfl, hps, hnp, HG, hit, hbw⟩ := hrel
    have hsz : w.heap.size < wr.heap.size := (Array.getElem?_eq_some_iff.1 hit).1
    by_cases hp : pos < s.size
    · have hnx : ∀ ty, (Instr.next (.pointer (some ⟨w.heap.size, 0, none⟩)) true ty).run Tryz.prog wr = _ := fun ty => Lib.run_next_any_at wr w.heap.size s pos ty hit hp
      obtain ⟨⟨dlo, dhi⟩, dw, dle, dmid⟩ := decode_span s pos hp
      have hpl : pos < (L s).length := by simpa using hp
      have hit2 := Lib.iterAt_heap wr w.heap.size s pos (pos + (Utf8.decode s pos).2) hit
      have hbw2 := Lib.below_iterAt hbw (k := w.heap.size) (by omega) s (pos + (Utf8.decode s pos).2)
      have hd : (L s).drop pos = (L s)[pos]'hpl :: (L s).drop (pos + 1) := List.drop_eq_getElem_cons hpl
      have hg := HG.out
      rw [hd, signsG] at hg
      obtain ⟨b, hb⟩ : ∃ b, (L s)[pos]'hpl = b := ⟨_, rfl⟩
      rw [hb] at dlo dhi hg
      by_cases h35 : b = 35
      · rw [if_pos h35] at hg
        have hdd := dlo (by rw [h35]; decide)
        rw [hdd] at hnx hit2 hbw2
        have hb35 : b.toNat = 35 := by rw [h35]; rfl
        rw [hb35] at hnx
        have HG2 := Lib.hid hg
        have Hit := Lib.hid hit
        clear hdd dlo dhi dmid hit hbw hb hg hd h35 hb35
        go_wp2_with fail
        go_roundw
        case rel => exact ⟨pos + 1, pos + 1, by go_num, by omega, Nat.le_refl _, HG2, hit2, hbw2⟩
        case measure => simp only [World.iterPos, hit2, Hit.out]; omega
      · rw [if_neg h35] at hg
        have hr : (Utf8.decode s pos).1 ≠ 35 := by
          by_cases hlo : b.toNat < 128
          · rw [dlo hlo]
            exact fun e => h35 (UInt8.toNat_inj.1 (Eq.trans e rfl))
          · have := dhi (by omega); omega
        have c3 : (((Utf8.decode s pos).1 : Int) == 35) = false := by rw [beq_eq_false_iff_ne]; omega
        have hskip : n = 0 → signsG (pos + (Utf8.decode s pos).2) n ((L s).drop (pos + (Utf8.decode s pos).2)) = V := fun hn => by
          subst hn
          have := signsG_skip (Utf8.decode s pos).2 pos ((L s).drop pos) (fun x hx => by
            rw [List.mem_iff_getElem?] at hx
            obtain ⟨j, hj⟩ := hx
            rw [List.getElem?_take] at hj
            split at hj
            · rename_i hjk
              rw [List.getElem?_drop] at hj
              obtain ⟨hjl, e⟩ := List.getElem?_eq_some_iff.1 hj
              rcases Nat.eq_zero_or_pos j with h0 | h0
              · subst h0
                rw [← e]
                simp only [Nat.add_zero]
                rw [hb]
                exact h35
              · have := dmid (pos + j) (by simpa using hjl) (by omega) (by omega)
                rw [e] at this
                intro e2
                rw [e2] at this
                exact absurd this (by decide)
            · cases hj) (by rw [List.length_drop, length_L]; omega)
          rw [List.drop_drop] at this
          rw [← this]
          exact HG.out
        have HSK := Lib.hid hskip
        have Hit := Lib.hid hit
        have HGE := Lib.hid hg
        clear dlo dhi dmid hit hb hg hd h35 hskip hr
        rcases Nat.eq_zero_or_pos n with h0 | h0
        · have HG2 : Hid (signsG (pos + (Utf8.decode s pos).2) n ((L s).drop (pos + (Utf8.decode s pos).2)) = V) := Lib.hid (HSK.out h0)
          have q1 : ¬ 0 < n := by omega
          clear h0
          go_wp2_with fail
          go_roundw
          case rel => exact ⟨pos + (Utf8.decode s pos).2, n, rfl, by omega, by omega, HG2, hit2, hbw2⟩
          case measure => simp only [World.iterPos, hit2, Hit.out]; omega
        · have HN : Hid (n = V) := Lib.hid (by have := HGE.out; rwa [if_pos h0] at this)
          go_wp2_with fail
          go_ret
          rw [← HN.out]
          exact ⟨rfl, by omega, hbw2⟩
    · have hnx : ∀ ty, (Instr.next (.pointer (some ⟨w.heap.size, 0, none⟩)) true ty).run Tryz.prog wr = _ := fun ty => Lib.run_next_end_at wr w.heap.size s pos ty hit hp
      have HN : Hid (n = V) := Lib.hid (by
        have := HG.out
        rwa [List.drop_of_length_le (by simp; omega), signsG] at this)
      go_wp2_with fail
      go_ret
      rw [← HN.out]
      exact ⟨rfl, by omega, hbw⟩
end Go.Proofs.YteeoohnkfdffnaaGreatDoor
