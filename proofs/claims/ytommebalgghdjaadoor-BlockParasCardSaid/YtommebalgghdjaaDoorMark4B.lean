/-
  mark: the contracts of number and Item.
-/
import Derived.Test.YtommebalgghdjaaDoorMark3B
namespace Go.Proofs.YtommebalgghdjaaDoor
open Go.RowKit

theorem digT_at {l : List UInt8} {p : Nat} (hp : p ≤ 9) (hpl : p ≤ l.length) (hall : ∀ b ∈ l.take p, isD b = true) (hend : p = 9 ∨ p = l.length ∨ ∃ b, l[p]? = some b ∧ isD b = false) : digT l = l.take p := by
  unfold digT
  have e : l.take 9 = l.take p ++ (l.drop p).take (9 - p) := by
    rw [← List.take_append_drop p l, List.take_append, List.take_of_length_le (i := 9) (by simp; omega)]
    have hlen : (l.take p).length = p := by simp; omega
    rw [hlen, List.take_append_drop p l]
  have hall2 : ∀ (a b : List UInt8), (∀ x ∈ a, isD x = true) → List.takeWhile isD (a ++ b) = a ++ List.takeWhile isD b := by
    intro a b ha
    induction a with
    | nil => rfl
    | cons x a ih => rw [List.cons_append, List.takeWhile_cons, if_pos (ha x (by simp)), ih fun y hy => ha y (by simp [hy])]; rfl
  rw [e, hall2 _ _ hall]
  rcases hend with h | h | ⟨b, h1, h2⟩
  · subst h; simp
  · subst h; simp
  · have hlt : p < l.length := (List.getElem?_eq_some_iff.1 h1).1
    rw [List.drop_eq_getElem_cons hlt]
    have hb : l[p] = b := by rw [List.getElem?_eq_getElem hlt] at h1; exact Option.some.inj h1
    rw [hb]
    cases 9 - p with
    | zero => simp
    | succ m => rw [List.take_succ_cons, List.takeWhile_cons, if_neg (by simp [h2])]; simp
theorem valT_snoc (l : List UInt8) (b : UInt8) : valT (l ++ [b]) = valT l * 10 + (b.toNat - 48) := by unfold valT; rw [List.foldl_append]; rfl
theorem foldl_lt (l : List UInt8) (h : ∀ b ∈ l, isD b = true) : ∀ acc, l.foldl (fun v b => v * 10 + (b.toNat - 48)) acc < (acc + 1) * 10 ^ l.length := by
  induction l with
  | nil => intro acc; simp
  | cons b l ih =>
    intro acc
    have h1 := ih (fun x hx => h x (by simp [hx])) (acc * 10 + (b.toNat - 48))
    have h2 := h b (by simp)
    simp [isD] at h2
    rw [List.foldl_cons, List.length_cons, Nat.pow_succ]
    have h3 : (acc * 10 + (b.toNat - 48) + 1) * 10 ^ l.length ≤ ((acc + 1) * 10) * 10 ^ l.length := Nat.mul_le_mul_right _ (by omega)
    have h4 : (acc + 1) * (10 ^ l.length * 10) = ((acc + 1) * 10) * 10 ^ l.length := by rw [Nat.mul_comm (10 ^ l.length) 10, Nat.mul_assoc]
    omega
theorem valT_lt (l : List UInt8) (h : ∀ b ∈ l, isD b = true) : valT l < 10 ^ l.length := by
  have := foldl_lt l h 0
  unfold valT
  omega

set_option maxHeartbeats 1000000 in
set_option maxRecDepth 100000 in
theorem number_any (s : ByteArray) (w : World) (hs : s.size ≤ 1048576) :
    Calls Tryd.prog 91 #[.string s] w fun e w' => e = .returned (.tuple #[.int .i64 ((digT (L s)).length : Int), .int .i64 (valT (digT (L s)) : Int)]) ∧ Below w.heap.size w w' := by
  go_enter Tryd.func91, Tryd.ntmps91
  go_wp2_with fail
  go_loopw [4] (fun s4 wr => ∃ pos : Nat, pos ≤ s.size ∧ pos ≤ 9 ∧ (∀ b ∈ (L s).take pos, isD b = true) ∧ s4 = .int .i64 (valT ((L s).take pos) : Int) ∧ wr.heap[w.heap.size]? = some (.stringIter s pos) ∧ Below w.heap.size w wr)
    (fun _ wr => s.size - wr.iterPos w.heap.size)
  case atStart =>
    refine ⟨0, by omega, by omega, by simp, rfl, ?_, (Below.refl _ w).alloc (Nat.le_refl _) _⟩
    exact World.iter_heap w s 0
  case round =>
    obtain ⟨pos, hps, hp9, hall, rfl, hit, hbw⟩ := hrel
    have hsz : w.heap.size < wr.heap.size := (Array.getElem?_eq_some_iff.1 hit).1
    have hvl := valT_lt _ hall
    have hv9 : valT ((L s).take pos) < 1000000000 := by
      have h1 : 10 ^ ((L s).take pos).length ≤ 10 ^ 9 := Nat.pow_le_pow_right (by decide) (by simp; omega)
      have h2 : (10 : Nat) ^ 9 = 1000000000 := by decide
      omega
    clear hvl
    have HALL := Lib.hid hall
    by_cases hp : pos < s.size
    · have hnx : ∀ ty, (Instr.next (.pointer (some ⟨w.heap.size, 0, none⟩)) true ty).run Tryd.prog wr = _ := fun ty => Lib.run_next_any_at wr w.heap.size s pos ty hit hp
      obtain ⟨⟨dlo, dhi⟩, dw, dle, dmid⟩ := decode_span s pos hp
      have hpl : pos < (L s).length := by simpa using hp
      have hit2 := Lib.iterAt_heap wr w.heap.size s pos (pos + (Utf8.decode s pos).2) hit
      have hbw2 := Lib.below_iterAt hbw (k := w.heap.size) (by omega) s (pos + (Utf8.decode s pos).2)
      obtain ⟨b, hb⟩ : ∃ b, (L s)[pos]'hpl = b := ⟨_, rfl⟩
      have hb2 : (L s)[pos]? = some b := by rw [List.getElem?_eq_getElem hpl, hb]
      rw [hb] at dlo dhi
      by_cases hD : isD b = true
      · have hbl : 48 ≤ b.toNat ∧ b.toNat ≤ 57 := by simpa [isD] using hD
        have hd := dlo (by omega)
        rw [hd] at hnx hit2 hbw2
        by_cases h9 : pos = 9
        · have HR : Hid (digT (L s) = (L s).take 9) := Lib.hid (digT_at (by omega) (by omega) (by rw [← h9]; exact hall) (.inl rfl))
          have HL : Hid (((L s).take 9).length = 9) := Lib.hid (by simp; omega)
          subst h9
          have q1 : decide ((b.toNat : Int) < 48) = false := decide_eq_false (by omega)
          have q2 : decide (57 < (b.toNat : Int)) = false := decide_eq_false (by omega)
          obtain ⟨v, hv⟩ : ∃ v, valT ((L s).take 9) = v := ⟨_, rfl⟩
          have HVV := Lib.hid hv
          rw [hv] at hv9 ⊢
          clear hv
          clear hd dlo dhi dmid hall hit hbw hb hb2 hD
          go_wp2_with fail
          go_ret2
          rw [HR.out, HL.out, HVV.out]
          exact ⟨rfl, hbw2⟩
        · have HV : Hid (valT ((L s).take (pos + 1)) = valT ((L s).take pos) * 10 + (b.toNat - 48)) := Lib.hid (by rw [List.take_add_one, hb2, Option.toList_some, valT_snoc])
          have HA : Hid (∀ x ∈ (L s).take (pos + 1), isD x = true) := Lib.hid (by
            intro x hx
            rw [List.take_add_one, hb2, Option.toList_some, List.mem_append, List.mem_singleton] at hx
            rcases hx with hx | rfl
            · exact hall x hx
            · exact hD)
          have q1 : decide ((b.toNat : Int) < 48) = false := decide_eq_false (by omega)
          have q2 : decide (57 < (b.toNat : Int)) = false := decide_eq_false (by omega)
          have q3 : ((pos : Int) == 9) = false := beq_eq_false_iff_ne.2 (by omega)
          have Hit := Lib.hid hit
          obtain ⟨v, hv⟩ : ∃ v, valT ((L s).take pos) = v := ⟨_, rfl⟩
          have HVV := Lib.hid hv
          have HV := Lib.hid (HV.out.trans (by rw [hv]))
          rw [hv] at hv9 ⊢
          clear hv hd dlo dhi dmid hall hit hbw hb hb2 hD
          go_wp2_with fail
          go_roundw
          case rel => exact ⟨pos + 1, by omega, by omega, HA.out, by rw [HV.out]; exact congrArg (Value.int .i64) (by omega), hit2, hbw2⟩
          case measure => simp only [World.iterPos, hit2, Hit.out]; omega
      · have HR : Hid (digT (L s) = (L s).take pos) := Lib.hid (digT_at (by omega) (by omega) hall (.inr (.inr ⟨b, hb2, by simpa using hD⟩)))
        have HL : Hid (((L s).take pos).length = pos) := Lib.hid (by simp; omega)
        have hD2 : ¬ (48 ≤ b.toNat ∧ b.toNat ≤ 57) := by simpa [isD] using hD
        have q : decide (((Utf8.decode s pos).1 : Int) < 48) = true ∨ (decide (((Utf8.decode s pos).1 : Int) < 48) = false ∧ decide (57 < ((Utf8.decode s pos).1 : Int)) = true) := by
          by_cases hlo : b.toNat < 128
          · rw [dlo hlo]
            by_cases h48 : b.toNat < 48
            · exact .inl (decide_eq_true (by simp only; omega))
            · exact .inr ⟨decide_eq_false (by simp only; omega), decide_eq_true (by simp only; omega)⟩
          · have := dhi (by omega)
            exact .inr ⟨decide_eq_false (by omega), decide_eq_true (by omega)⟩
        obtain ⟨v, hv⟩ : ∃ v, valT ((L s).take pos) = v := ⟨_, rfl⟩
        have HVV := Lib.hid hv
        rw [hv] at hv9 ⊢
        clear hv dlo dhi dmid hall hit hbw hb hb2 hD hD2
        rcases q with q | ⟨q, q2⟩
        all_goals
          go_wp2_with fail
          go_ret2
          rw [HR.out, HL.out, HVV.out]
          exact ⟨rfl, hbw2⟩
    · have hnx : ∀ ty, (Instr.next (.pointer (some ⟨w.heap.size, 0, none⟩)) true ty).run Tryd.prog wr = _ := fun ty => Lib.run_next_end_at wr w.heap.size s pos ty hit hp
      have hpe : pos = s.size := by omega
      have HR : Hid (digT (L s) = (L s).take pos) := Lib.hid (digT_at (by omega) (by simp; omega) hall (.inr (.inl (by simp; omega))))
      have HL : Hid (((L s).take pos).length = pos) := Lib.hid (by simp; omega)
      obtain ⟨v, hv⟩ : ∃ v, valT ((L s).take pos) = v := ⟨_, rfl⟩
      have HVV := Lib.hid hv
      rw [hv] at hv9 ⊢
      clear hv hall
      go_wp2_with fail
      go_ret2
      rw [HR.out, HL.out, HVV.out]
      subst hpe
      exact ⟨rfl, hbw⟩

def itemV : Option (UInt8 × Int × Nat × List UInt8) → Value
  | none => .tuple #[.int .u8 0, .int .i64 0, .int .i64 0, .string ⟨#[]⟩, .bool false]
  | some (c, v, n, t) => .tuple #[.int .u8 (c.toNat : Int), .int .i64 v, .int .i64 n, .string (S t), .bool true]
def signOk (n : Nat) (c : UInt8) : Bool := if n = 0 then [45, 43, 42].contains c else (c == 46 || c == 41)
theorem itemT_cases (l : List UInt8) : (¬ colT 0 l ≤ 3 ∧ itemT l = none) ∨ (colT 0 l ≤ 3 ∧ restT l = [] ∧ itemT l = none) ∨ (colT 0 l ≤ 3 ∧ (∃ c r, restT l = c :: r) ∧ ruleT l = true ∧ itemT l = none) ∨
    (colT 0 l ≤ 3 ∧ (∃ c r, restT l = c :: r) ∧ ruleT l = false ∧ (((restT l).drop (digT (restT l)).length = [] ∧ itemT l = none) ∨
      ∃ c rest, (restT l).drop (digT (restT l)).length = c :: rest ∧ ((signOk (digT (restT l)).length c = false ∧ itemT l = none) ∨
        (signOk (digT (restT l)).length c = true ∧ (((∃ b t, rest = b :: t ∧ b ≠ 32) ∧ itemT l = none) ∨
          ((rest = [] ∨ ∃ t, rest = 32 :: t) ∧ itemT l = some (c, (if (digT (restT l)).length = 0 then -1 else (valT (digT (restT l)) : Int)), colT 0 l + (digT (restT l)).length + 1 + gapT rest, rest.drop (min (gapT rest) rest.length)))))))) := by
  by_cases h : colT 0 l ≤ 3
  · cases hr : restT l with
    | nil =>
      refine .inr (.inl ⟨h, rfl, ?_⟩)
      unfold itemT; dsimp only; rw [hr]
      split <;> simp
    | cons c0 r0 =>
      cases hR : ruleT l with
      | true => exact .inr (.inr (.inl ⟨h, ⟨c0, r0, rfl⟩, rfl, by unfold itemT; dsimp only; rw [if_neg]; rintro ⟨_, h2⟩; exact h2 hR⟩))
      | false =>
        refine .inr (.inr (.inr ⟨h, ⟨c0, r0, rfl⟩, rfl, ?_⟩))
        have e0 : colT 0 l ≤ 3 ∧ ¬ ruleT l = true := ⟨h, by rw [hR]; simp⟩
        rw [← hr]
        generalize hn : (digT (restT l)).length = n
        cases hd : (restT l).drop n with
        | nil =>
          refine .inl ⟨rfl, ?_⟩
          unfold itemT; dsimp only; rw [if_pos e0, hn, hd]
        | cons c rest =>
          refine .inr ⟨c, rest, rfl, ?_⟩
          have e1 : itemT l = if signOk n c = true ∧ (rest = [] ∨ rest.head? = some 32) then some (c, (if n = 0 then -1 else (valT (digT (restT l)) : Int)), colT 0 l + n + 1 + gapT rest, rest.drop (min (gapT rest) rest.length)) else none := by
            unfold itemT signOk; dsimp only; rw [if_pos e0, hn, hd]
          cases hs : signOk n c with
          | false => exact .inl ⟨rfl, by rw [e1, if_neg]; rw [hs]; simp⟩
          | true =>
            refine .inr ⟨rfl, ?_⟩
            cases rest with
            | nil => exact .inr ⟨.inl rfl, by rw [e1, if_pos ⟨hs, .inl rfl⟩]⟩
            | cons b t =>
              by_cases hb : b = 32
              · subst hb
                exact .inr ⟨.inr ⟨t, rfl⟩, by rw [e1, if_pos ⟨hs, .inr rfl⟩]⟩
              · exact .inl ⟨⟨b, t, rfl, hb⟩, by rw [e1, if_neg]; rintro ⟨_, h2 | h2⟩; cases h2; simp at h2; exact hb h2⟩
  · exact .inl ⟨h, by unfold itemT; dsimp only; rw [if_neg fun hh => h hh.1]⟩
end Go.Proofs.YtommebalgghdjaaDoor
