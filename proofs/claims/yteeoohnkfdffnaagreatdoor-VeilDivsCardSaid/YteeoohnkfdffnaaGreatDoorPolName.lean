/-
  policy.name and policy.Index: their contracts.
-/
import Derived.Test.YteeoohnkfdffnaaGreatDoorGB
namespace Go.Proofs.YteeoohnkfdffnaaGreatDoor
open Go.RowKit

def okB (b : UInt8) : Bool := (decide (97 ≤ b.toNat) && decide (b.toNat ≤ 122)) || (decide (48 ≤ b.toNat) && decide (b.toNat ≤ 57)) || b == 45
def nameT (l : List UInt8) : Bool := !l.isEmpty && decide (l.length ≤ 20) && l.all okB

set_option maxHeartbeats 2000000 in
set_option maxRecDepth 100000 in
theorem name_any (s : ByteArray) (w : World) (hs : s.size ≤ 9223372036854775807) :
    Calls Tryz.prog 31 #[.string s] w fun e w' => e = .returned (.bool (nameT (L s))) ∧ Below w.heap.size w w' := by
  go_enter Tryz.func31, Tryz.ntmps31
  go_wp2_with fail
  go_loopw [4] (fun _ wr => ∃ pos : Nat, pos ≤ s.size ∧ (∀ b ∈ (L s).take pos, okB b = true) ∧ wr.heap[w.heap.size]? = some (.stringIter s pos) ∧ Below w.heap.size w wr)
    (fun _ wr => s.size - wr.iterPos w.heap.size)
  case atStart =>
    refine ⟨0, by omega, by simp, ?_, (Below.refl _ w).alloc (Nat.le_refl _) _⟩
    exact World.iter_heap w s 0
  case round =>
    obtain ⟨pos, hps, hall, hit, hbw⟩ := hrel
    have hsz : w.heap.size < wr.heap.size := (Array.getElem?_eq_some_iff.1 hit).1
    have HALL := Lib.hid hall
    clear hall
    by_cases hp : pos < s.size
    · have hnx : ∀ ty, (Instr.next (.pointer (some ⟨w.heap.size, 0, none⟩)) true ty).run Tryz.prog wr = _ := fun ty => Lib.run_next_any_at wr w.heap.size s pos ty hit hp
      obtain ⟨⟨dlo, dhi⟩, dw, dle, dmid⟩ := decode_span s pos hp
      have hpl : pos < (L s).length := by simpa using hp
      have hit2 := Lib.iterAt_heap wr w.heap.size s pos (pos + (Utf8.decode s pos).2) hit
      have hbw2 := Lib.below_iterAt hbw (k := w.heap.size) (by omega) s (pos + (Utf8.decode s pos).2)
      obtain ⟨b, hb⟩ : ∃ b, (L s)[pos]'hpl = b := ⟨_, rfl⟩
      have hb2 : (L s)[pos]? = some b := by rw [List.getElem?_eq_getElem hpl, hb]
      rw [hb] at dlo dhi
      by_cases hok : okB b = true
      · have hcs : (97 ≤ b.toNat ∧ b.toNat ≤ 122) ∨ (48 ≤ b.toNat ∧ b.toNat ≤ 57) ∨ b = 45 := by
          simpa [okB, or_assoc] using hok
        have hd := dlo (by rcases hcs with h | h | h; omega; omega; rw [h]; decide)
        rw [hd] at hnx hit2 hbw2
        have HA : Hid (∀ x ∈ (L s).take (pos + 1), okB x = true) := Lib.hid (by
          intro x hx
          rw [List.take_add_one, hb2, Option.toList_some, List.mem_append, List.mem_singleton] at hx
          rcases hx with hx | rfl
          · exact HALL.out x hx
          · exact hok)
        have Hit := Lib.hid hit
        clear hd dlo dhi dmid hit hbw hb hb2 hok
        rcases hcs with ⟨h1, h2⟩ | ⟨h1, h2⟩ | rfl
        case' inl =>
          have q1 : decide ((b.toNat : Int) < 97) = false := decide_eq_false (by omega)
          have q2 : decide (122 < (b.toNat : Int)) = false := decide_eq_false (by omega)
        case' inr.inl =>
          have q1 : decide ((b.toNat : Int) < 97) = true := decide_eq_true (by omega)
          have q2 : decide ((b.toNat : Int) < 48) = false := decide_eq_false (by omega)
          have q3 : decide (57 < (b.toNat : Int)) = false := decide_eq_false (by omega)
        all_goals
          go_wp2_with fail
          go_roundw
          case rel => exact ⟨pos + 1, by omega, HA.out, hit2, hbw2⟩
          case measure => simp only [World.iterPos, hit2, Hit.out]; omega
      · have HR : Hid (nameT (L s) = false) := Lib.hid (by
          have : (L s).all okB = false := by
            cases h : (L s).all okB with
            | false => rfl
            | true => exact absurd (List.all_eq_true.1 h b (List.mem_of_getElem? hb2)) hok
          unfold nameT; rw [this, Bool.and_false])
        have hno : ¬ (97 ≤ b.toNat ∧ b.toNat ≤ 122) ∧ ¬ (48 ≤ b.toNat ∧ b.toNat ≤ 57) ∧ b.toNat ≠ 45 := by
          simp only [okB, Bool.or_eq_true, Bool.and_eq_true, decide_eq_true_eq, beq_iff_eq, not_or] at hok
          refine ⟨hok.1.1, hok.1.2, fun e => hok.2 (UInt8.toNat_inj.1 (by rw [e]; rfl))⟩
        have hr : ¬ (97 ≤ (Utf8.decode s pos).1 ∧ (Utf8.decode s pos).1 ≤ 122) ∧ ¬ (48 ≤ (Utf8.decode s pos).1 ∧ (Utf8.decode s pos).1 ≤ 57) ∧ (Utf8.decode s pos).1 ≠ 45 := by
          by_cases hlo : b.toNat < 128
          · rw [dlo hlo]; exact hno
          · have := dhi (by omega); omega
        have c1 : decide (((Utf8.decode s pos).1 : Int) < 97) = true ∨ (decide (((Utf8.decode s pos).1 : Int) < 97) = false ∧ decide (122 < ((Utf8.decode s pos).1 : Int)) = true) := by
          by_cases h : (Utf8.decode s pos).1 < 97
          · exact .inl (decide_eq_true (by omega))
          · exact .inr ⟨decide_eq_false (by omega), decide_eq_true (by omega)⟩
        have c2 : decide (((Utf8.decode s pos).1 : Int) < 48) = true ∨ (decide (((Utf8.decode s pos).1 : Int) < 48) = false ∧ decide (57 < ((Utf8.decode s pos).1 : Int)) = true) := by
          by_cases h : (Utf8.decode s pos).1 < 48
          · exact .inl (decide_eq_true (by omega))
          · exact .inr ⟨decide_eq_false (by omega), decide_eq_true (by omega)⟩
        have c3 : (((Utf8.decode s pos).1 : Int) != 45) = true := by rw [bne_iff_ne]; omega
        clear dlo dhi dmid hit hbw hb hb2 hok hno hr
        rcases c1 with q1 | ⟨q1, q2⟩
        all_goals rcases c2 with q3 | ⟨q3, q4⟩
        all_goals
          go_wp2_with fail
          go_ret
          rw [HR.out]
          exact ⟨rfl, hbw2⟩
    · have hnx : ∀ ty, (Instr.next (.pointer (some ⟨w.heap.size, 0, none⟩)) true ty).run Tryz.prog wr = _ := fun ty => Lib.run_next_end_at wr w.heap.size s pos ty hit hp
      have hpe : pos = s.size := by omega
      have hA : (L s).all okB = true := List.all_eq_true.2 (by
        have := HALL.out
        rwa [List.take_of_length_le (by simp; omega)] at this)
      by_cases h0 : s.size = 0
      · have hz := bytes_none h0
        subst hz
        clear hA
        go_wp2_with fail
        go_ret
        exact ⟨rfl, hbw⟩
      · obtain ⟨t1, t2, t3⟩ := bytes_some h0
        have HR : Hid (nameT (L s) = decide ((s.size : Int) ≤ 20)) := Lib.hid (by
          unfold nameT
          rw [hA, Bool.and_true]
          have hne : (L s).isEmpty = false := by
            cases h : L s with
            | nil => exact absurd (by have := congrArg List.length h; simpa using this) h0
            | cons => rfl
          rw [hne, length_L]
          by_cases h20 : s.size ≤ 20
          · rw [decide_eq_true h20, decide_eq_true (by omega : (s.size : Int) ≤ 20)]; rfl
          · rw [decide_eq_false h20, decide_eq_false (by omega : ¬ (s.size : Int) ≤ 20)]; rfl)
        clear hA hpe
        go_wp2_with fail
        go_ret
        rw [HR.out]
        exact ⟨rfl, hbw⟩

/-- where a text stands in a list of texts, from k on; -1: nowhere -/
def idxF (x : ByteArray) : Nat → List ByteArray → Int
  | _, [] => -1
  | k, z :: zs => if x = z then k else idxF x (k + 1) zs
def idxT (xs : List ByteArray) (x : ByteArray) : Int := idxF x 0 xs

set_option maxHeartbeats 1000000 in
set_option maxRecDepth 100000 in
theorem sIndex_any (A : Option Addr) (n c K : Nat) (xs : List ByteArray) (x : ByteArray) (w : World) (hr : Reads w K 1 A n (txCells xs)) (hn : n ≤ 9223372036854775807) :
    Calls Tryz.prog 65 #[.slice A n c, .string x] w fun e w' => e = .returned (.int .i64 (idxT xs x)) ∧ w = w' := by
  have hlen : xs.length = n := by have := hr.1; simpa using this
  have HL := Lib.hid hlen
  clear hlen
  go_enter Tryz.func65, Tryz.ntmps65
  go_wp2_with fail
  go_loop [8] (fun s8 => ∃ k : Nat, k ≤ n ∧ s8 = .int .i64 k ∧ idxF x 0 xs = idxF x k (xs.drop k)) (fun s8 => n - (intOf s8).toNat)
  case atStart => exact ⟨0, Nat.zero_le _, rfl, rfl⟩
  case round =>
    obtain ⟨k, hk, rfl, hix⟩ := hrel
    by_cases hlt : k < n
    · obtain ⟨ad, u, rfl, _, hx0, hc⟩ := hr.at_ hlt
      obtain ⟨y, hy, rfl⟩ : ∃ y, xs[k]? = some y ∧ Value.string y = u := by simpa using hx0
      have hlt2 : k < xs.length := by rw [HL.out]; exact hlt
      have hd : xs.drop k = y :: xs.drop (k + 1) := by
        rw [List.drop_eq_getElem_cons hlt2]
        rw [List.getElem?_eq_getElem hlt2] at hy
        rw [Option.some.inj hy]
      rw [hd, idxF] at hix
      have HIX := Lib.hid hix
      clear hix hd hy hx0
      by_cases hxy : x = y
      · have HR : Hid (idxT xs x = (k : Int)) := Lib.hid (by have := HIX.out; rw [if_pos hxy] at this; exact this)
        clear HIX
        subst hxy
        go_wp2_with fail
        go_ret
        rw [HR.out]
        exact ⟨rfl, rfl⟩
      · have HR : Hid (idxF x 0 xs = idxF x (k + 1) (xs.drop (k + 1))) := Lib.hid (by have := HIX.out; rw [if_neg hxy] at this; exact this)
        obtain ⟨t1, t2, t3⟩ := bytes_ne hxy
        clear HIX hxy
        go_wp2_with fail
        go_round
        case rel => exact ⟨k + 1, by omega, by go_num, HR.out⟩
        case measure => simp [intOf]; omega
    · have HR : Hid (idxT xs x = -1) := Lib.hid (by
        unfold idxT; rw [hix, List.drop_eq_nil_of_le (by rw [HL.out]; omega)]; rfl)
      clear hix
      go_wp2_with fail
      go_ret
      rw [HR.out]
      exact ⟨rfl, rfl⟩

set_option maxRecDepth 100000 in
theorem index_any (A B : Option Addr) (n c n2 c2 K : Nat) (xs : List ByteArray) (x : ByteArray) (w : World) (hr : Reads w K 1 A n (txCells xs)) (hK : K ≤ w.heap.size) (hn : n ≤ 9223372036854775807) :
    Calls Tryz.prog 30 #[.agg #[.slice A n c, .slice B n2 c2], .string x] w fun e w' => e = .returned (.int .i64 (idxT xs x)) ∧ Below w.heap.size w w' := by
  go_enter Tryz.func30, Tryz.ntmps30
  go_wp2_with fail
  refine (sIndex_any A n c K xs x _ (hr.alloc hK _) hn).mono ?_
  rintro e w1 ⟨rfl, rfl⟩
  go_wp2_with fail
  go_ret
  exact ⟨rfl, (Below.refl _ _).alloc (Nat.le_refl _) _⟩
end Go.Proofs.YteeoohnkfdffnaaGreatDoor
