/- Joined texts: PolName, PolRight. -/
import Derived.Test.YtgdnphmannbpgaaGreatDoorGB
/-
  policy.name and policy.Index: their contracts.
-/
namespace Go.Proofs.YtgdnphmannbpgaaGreatDoor
open Go.RowKit

def okB (b : UInt8) : Bool := (decide (97 ≤ b.toNat) && decide (b.toNat ≤ 122)) || (decide (48 ≤ b.toNat) && decide (b.toNat ≤ 57)) || b == 45
def nameT (l : List UInt8) : Bool := !l.isEmpty && decide (l.length ≤ 20) && l.all okB

set_option maxHeartbeats 2000000 in
set_option maxRecDepth 100000 in
theorem name_any (s : ByteArray) (w : World) (hs : s.size ≤ 9223372036854775807) :
    Calls Tryz.prog 21 #[.string s] w fun e w' => e = .returned (.bool (nameT (L s))) ∧ Below w.heap.size w w' := by
  go_enter Tryz.func21, Tryz.ntmps21
  go_wp2_with fail
  go_loopw [4] (fun _ wr => ∃ pos : Nat, pos ≤ s.size ∧ (∀ b ∈ (L s).take pos, okB b = true) ∧ wr.heap[w.heap.size]? = some (.stringIter s pos) ∧ Below w.heap.size w wr)
    (fun _ wr => s.size - wr.iterPos w.heap.size)
  case atStart =>
    refine ⟨0, by omega, by simp, ?_, (Below.refl _ w).alloc (Nat.le_refl _) _⟩
    exact World.iter_heap w s 0
  case round =>
    obtain ⟨pos, hps, hall, hit, hbw⟩ := hrel
    have hsz : w.heap.size < wr.heap.size := (Array.getElem?_eq_some_iff.1 hit).1
    have HALL := Lib.hid hall
    clear hall
    by_cases hp : pos < s.size
    · have hnx : ∀ ty, (Instr.next (.pointer (some ⟨w.heap.size, 0, none⟩)) true ty).run Tryz.prog wr = _ := fun ty => Lib.run_next_any_at wr w.heap.size s pos ty hit hp
      obtain ⟨⟨dlo, dhi⟩, dw, dle, dmid⟩ := decode_span s pos hp
      have hpl : pos < (L s).length := by simpa using hp
      have hit2 := Lib.iterAt_heap wr w.heap.size s pos (pos + (Utf8.decode s pos).2) hit
      have hbw2 := Lib.below_iterAt hbw (k := w.heap.size) (by omega) s (pos + (Utf8.decode s pos).2)
      obtain ⟨b, hb⟩ : ∃ b, (L s)[pos]'hpl = b := ⟨_, rfl⟩
      have hb2 : (L s)[pos]? = some b := by rw [List.getElem?_eq_getElem hpl, hb]
      rw [hb] at dlo dhi
      by_cases hok : okB b = true
      · have hcs : (97 ≤ b.toNat ∧ b.toNat ≤ 122) ∨ (48 ≤ b.toNat ∧ b.toNat ≤ 57) ∨ b = 45 := by
          simpa [okB, or_assoc] using hok
        have hd := dlo (by rcases hcs with h | h | h; omega; omega; rw [h]; decide)
        rw [hd] at hnx hit2 hbw2
        have HA : Hid (∀ x ∈ (L s).take (pos + 1), okB x = true) := Lib.hid (by
          intro x hx
          rw [List.take_add_one, hb2, Option.toList_some, List.mem_append, List.mem_singleton] at hx
          rcases hx with hx | rfl
          · exact HALL.out x hx
          · exact hok)
        have Hit := Lib.hid hit
        clear hd dlo dhi dmid hit hbw hb hb2 hok
        rcases hcs with ⟨h1, h2⟩ | ⟨h1, h2⟩ | rfl
        case' inl =>
          have q1 : decide ((b.toNat : Int) < 97) = false := decide_eq_false (by omega)
          have q2 : decide (122 < (b.toNat : Int)) = false := decide_eq_false (by omega)
        case' inr.inl =>
          have q1 : decide ((b.toNat : Int) < 97) = true := decide_eq_true (by omega)
          have q2 : decide ((b.toNat : Int) < 48) = false := decide_eq_false (by omega)
          have q3 : decide (57 < (b.toNat : Int)) = false := decide_eq_false (by omega)
        all_goals
          go_wp2_with fail
          go_roundw
          case rel => exact ⟨pos + 1, by omega, HA.out, hit2, hbw2⟩
          case measure => simp only [World.iterPos, hit2, Hit.out]; omega
      · have HR : Hid (nameT (L s) = false) := Lib.hid (by
          have : (L s).all okB = false := by
            cases h : (L s).all okB with
            | false => rfl
            | true => exact absurd (List.all_eq_true.1 h b (List.mem_of_getElem? hb2)) hok
          unfold nameT; rw [this, Bool.and_false])
        have hno : ¬ (97 ≤ b.toNat ∧ b.toNat ≤ 122) ∧ ¬ (48 ≤ b.toNat ∧ b.toNat ≤ 57) ∧ b.toNat ≠ 45 := by
          simp only [okB, Bool.or_eq_true, Bool.and_eq_true, decide_eq_true_eq, beq_iff_eq, not_or] at hok
          refine ⟨hok.1.1, hok.1.2, fun e => hok.2 (UInt8.toNat_inj.1 (by rw [e]; rfl))⟩
        have hr : ¬ (97 ≤ (Utf8.decode s pos).1 ∧ (Utf8.decode s pos).1 ≤ 122) ∧ ¬ (48 ≤ (Utf8.decode s pos).1 ∧ (Utf8.decode s pos).1 ≤ 57) ∧ (Utf8.decode s pos).1 ≠ 45 := by
          by_cases hlo : b.toNat < 128
          · rw [dlo hlo]; exact hno
          · have := dhi (by omega); omega
        have c1 : decide (((Utf8.decode s pos).1 : Int) < 97) = true ∨ (decide (((Utf8.decode s pos).1 : Int) < 97) = false ∧ decide (122 < ((Utf8.decode s pos).1 : Int)) = true) := by
          by_cases h : (Utf8.decode s pos).1 < 97
          · exact .inl (decide_eq_true (by omega))
          · exact .inr ⟨decide_eq_false (by omega), decide_eq_true (by omega)⟩
        have c2 : decide (((Utf8.decode s pos).1 : Int) < 48) = true ∨ (decide (((Utf8.decode s pos).1 : Int) < 48) = false ∧ decide (57 < ((Utf8.decode s pos).1 : Int)) = true) := by
          by_cases h : (Utf8.decode s pos).1 < 48
          · exact .inl (decide_eq_true (by omega))
          · exact .inr ⟨decide_eq_false (by omega), decide_eq_true (by omega)⟩
        have c3 : (((Utf8.decode s pos).1 : Int) != 45) = true := by rw [bne_iff_ne]; omega
        clear dlo dhi dmid hit hbw hb hb2 hok hno hr
        rcases c1 with q1 | ⟨q1, q2⟩
        all_goals rcases c2 with q3 | ⟨q3, q4⟩
        all_goals
          go_wp2_with fail
          go_ret
          rw [HR.out]
          exact ⟨rfl, hbw2⟩
    · have hnx : ∀ ty, (Instr.next (.pointer (some ⟨w.heap.size, 0, none⟩)) true ty).run Tryz.prog wr = _ := fun ty => Lib.run_next_end_at wr w.heap.size s pos ty hit hp
      have hpe : pos = s.size := by omega
      have hA : (L s).all okB = true := List.all_eq_true.2 (by
        have := HALL.out
        rwa [List.take_of_length_le (by simp; omega)] at this)
      by_cases h0 : s.size = 0
      · have hz := bytes_none h0
        subst hz
        clear hA
        go_wp2_with fail
        go_ret
        exact ⟨rfl, hbw⟩
      · obtain ⟨t1, t2, t3⟩ := bytes_some h0
        have HR : Hid (nameT (L s) = decide ((s.size : Int) ≤ 20)) := Lib.hid (by
          unfold nameT
          rw [hA, Bool.and_true]
          have hne : (L s).isEmpty = false := by
            cases h : L s with
            | nil => exact absurd (by have := congrArg List.length h; simpa using this) h0
            | cons => rfl
          rw [hne, length_L]
          by_cases h20 : s.size ≤ 20
          · rw [decide_eq_true h20, decide_eq_true (by omega : (s.size : Int) ≤ 20)]; rfl
          · rw [decide_eq_false h20, decide_eq_false (by omega : ¬ (s.size : Int) ≤ 20)]; rfl)
        clear hA hpe
        go_wp2_with fail
        go_ret
        rw [HR.out]
        exact ⟨rfl, hbw⟩

/-- where a text stands in a list of texts, from k on; -1: nowhere -/
def idxF (x : ByteArray) : Nat → List ByteArray → Int
  | _, [] => -1
  | k, z :: zs => if x = z then k else idxF x (k + 1) zs
def idxT (xs : List ByteArray) (x : ByteArray) : Int := idxF x 0 xs

set_option maxHeartbeats 1000000 in
set_option maxRecDepth 100000 in
theorem sIndex_any (A : Option Addr) (n c K : Nat) (xs : List ByteArray) (x : ByteArray) (w : World) (hr : Reads w K 1 A n (txCells xs)) (hn : n ≤ 9223372036854775807) :
    Calls Tryz.prog 52 #[.slice A n c, .string x] w fun e w' => e = .returned (.int .i64 (idxT xs x)) ∧ w = w' := by
  have hlen : xs.length = n := by have := hr.1; simpa using this
  have HL := Lib.hid hlen
  clear hlen
  go_enter Tryz.func52, Tryz.ntmps52
  go_wp2_with fail
  go_loop [8] (fun s8 => ∃ k : Nat, k ≤ n ∧ s8 = .int .i64 k ∧ idxF x 0 xs = idxF x k (xs.drop k)) (fun s8 => n - (intOf s8).toNat)
  case atStart => exact ⟨0, Nat.zero_le _, rfl, rfl⟩
  case round =>
    obtain ⟨k, hk, rfl, hix⟩ := hrel
    by_cases hlt : k < n
    · obtain ⟨ad, u, rfl, _, hx0, hc⟩ := hr.at_ hlt
      obtain ⟨y, hy, rfl⟩ : ∃ y, xs[k]? = some y ∧ Value.string y = u := by simpa using hx0
      have hlt2 : k < xs.length := by rw [HL.out]; exact hlt
      have hd : xs.drop k = y :: xs.drop (k + 1) := by
        rw [List.drop_eq_getElem_cons hlt2]
        rw [List.getElem?_eq_getElem hlt2] at hy
        rw [Option.some.inj hy]
      rw [hd, idxF] at hix
      have HIX := Lib.hid hix
      clear hix hd hy hx0
      by_cases hxy : x = y
      · have HR : Hid (idxT xs x = (k : Int)) := Lib.hid (by have := HIX.out; rw [if_pos hxy] at this; exact this)
        clear HIX
        subst hxy
        go_wp2_with fail
        go_ret
        rw [HR.out]
        exact ⟨rfl, rfl⟩
      · have HR : Hid (idxF x 0 xs = idxF x (k + 1) (xs.drop (k + 1))) := Lib.hid (by have := HIX.out; rw [if_neg hxy] at this; exact this)
        obtain ⟨t1, t2, t3⟩ := bytes_ne hxy
        clear HIX hxy
        go_wp2_with fail
        go_round
        case rel => exact ⟨k + 1, by omega, by go_num, HR.out⟩
        case measure => simp [intOf]; omega
    · have HR : Hid (idxT xs x = -1) := Lib.hid (by
        unfold idxT; rw [hix, List.drop_eq_nil_of_le (by rw [HL.out]; omega)]; rfl)
      clear hix
      go_wp2_with fail
      go_ret
      rw [HR.out]
      exact ⟨rfl, rfl⟩

set_option maxRecDepth 100000 in
theorem index_any (A B : Option Addr) (n c n2 c2 K : Nat) (xs : List ByteArray) (x : ByteArray) (w : World) (hr : Reads w K 1 A n (txCells xs)) (hK : K ≤ w.heap.size) (hn : n ≤ 9223372036854775807) :
    Calls Tryz.prog 20 #[.agg #[.slice A n c, .slice B n2 c2], .string x] w fun e w' => e = .returned (.int .i64 (idxT xs x)) ∧ Below w.heap.size w w' := by
  go_enter Tryz.func20, Tryz.ntmps20
  go_wp2_with fail
  refine (sIndex_any A n c K xs x _ (hr.alloc hK _) hn).mono ?_
  rintro e w1 ⟨rfl, rfl⟩
  go_wp2_with fail
  go_ret
  exact ⟨rfl, (Below.refl _ _).alloc (Nat.le_refl _) _⟩
end Go.Proofs.YtgdnphmannbpgaaGreatDoor
/-
  policy.Right, with what it hands to slices.ContainsFunc: contracts.
-/
namespace Go.Proofs.YtgdnphmannbpgaaGreatDoor
open Go.RowKit

def badP (n a b : Int) : Bool := decide (min a b < 0) || decide (n ≤ max a b) || a == b

set_option maxHeartbeats 2000000 in
set_option maxRecDepth 100000 in
theorem badPair_any (a b n : Int) (p : Addr) (w : World) (hp : p.block < w.heap.size) (hc : w.cell? p = some (.int .i64 n)) :
    Calls Tryz.prog 23 #[.agg #[.int .i64 a, .int .i64 b], .pointer (some p)] w fun e w' => e = .returned (.bool (badP n a b)) ∧ Below w.heap.size w w' := by
  go_enter Tryz.func23, Tryz.ntmps23
  go_wp2_with fail
  all_goals go_ret
  all_goals refine ⟨?_, (Below.refl _ w).alloc (Nat.le_refl _) _⟩
  all_goals first
    | rfl
    | (show Ending.returned (Value.bool true) = _
       unfold badP
       first
        | simp only [decide_eq_true (by assumption : min a b < 0), Bool.true_or]
        | simp only [decide_eq_true (by assumption : n ≤ max a b), Bool.true_or, Bool.or_true])

def prCells (ps : List (Int × Int)) : List Value := ps.flatMap fun p => [.int .i64 p.1, .int .i64 p.2]
def badF (n : Int) : Nat → List (Int × Int) → Int
  | _, [] => -1
  | k, p :: ps => if badP n p.1 p.2 then k else badF n (k + 1) ps

theorem prCells_length (ps : List (Int × Int)) : (prCells ps).length = ps.length * 2 := by
  induction ps with
  | nil => rfl
  | cons p ps ih => simp [prCells] at ih ⊢; omega
theorem prCells_at : ∀ (ps : List (Int × Int)) (k : Nat) (hk : k < ps.length), (prCells ps)[k * 2]? = some (.int .i64 (ps[k]).1) ∧ (prCells ps)[k * 2 + 1]? = some (.int .i64 (ps[k]).2)
  | p :: ps, 0, _ => ⟨rfl, rfl⟩
  | p :: ps, k + 1, hk => by
    have ih := prCells_at ps k (by simpa using hk)
    have e : prCells (p :: ps) = .int .i64 p.1 :: .int .i64 p.2 :: prCells ps := rfl
    rw [e, show (k + 1) * 2 = k * 2 + 1 + 1 by omega]
    simpa using ih

set_option maxHeartbeats 2000000 in
set_option maxRecDepth 100000 in
theorem badIndex_any (A : Option Addr) (m c K : Nat) (ps : List (Int × Int)) (n : Int) (p : Addr) (w : World) (hr : Reads w K 2 A m (prCells ps)) (hm : m ≤ 9223372036854775807)
    (hK : K ≤ w.heap.size) (hp : p.block < w.heap.size) (hc : w.cell? p = some (.int .i64 n)) :
    Calls Tryz.prog 53 #[.slice A m c, .func (.func 23) #[] #[.pointer (some p)]] w fun e w' => e = .returned (.int .i64 (badF n 0 ps)) ∧ Below w.heap.size w w' := by
  have hlen : ps.length = m := by have := hr.1; rw [prCells_length] at this; omega
  have HL := Lib.hid hlen
  clear hlen
  go_enter Tryz.func53, Tryz.ntmps53
  go_wp2_with fail
  go_loopw [8] (fun s8 wr => ∃ k : Nat, k ≤ m ∧ s8 = .int .i64 k ∧ badF n 0 ps = badF n k (ps.drop k) ∧ Below w.heap.size w wr) (fun s8 _ => m - (intOf s8).toNat)
  case atStart => exact ⟨0, Nat.zero_le _, rfl, rfl, Below.refl _ _⟩
  case round =>
    obtain ⟨k, hk, rfl, hix, hbw⟩ := hrel
    by_cases hlt : k < m
    · have hlt2 : k < ps.length := by rw [HL.out]; exact hlt
      have hd : ps.drop k = ps[k] :: ps.drop (k + 1) := List.drop_eq_getElem_cons hlt2
      rw [hd, badF] at hix
      have hcat := prCells_at ps k hlt2
      generalize ps[k] = q at hix hcat
      have HIX := Lib.hid hix
      clear hix hd
      have hrw := hr.below (hbw.mono hK)
      obtain ⟨ad, rfl, _, hc0, hc1⟩ := hrw.elem hlt
      have c0 := hc0 _ hcat.1
      have c1 := hc1 1 _ (by decide) hcat.2
      have hpr : p.block < wr.heap.size := by have := hbw.size; omega
      have hcr : wr.cell? p = some (.int .i64 n) := (hbw.cell hp).trans hc
      obtain ⟨q1, q2⟩ := q
      clear hc0 hc1 hcat hrw
      cases hbad : badP n q1 q2
      · have HR : Hid (badF n 0 ps = badF n (k + 1) (ps.drop (k + 1))) := Lib.hid (by have := HIX.out; rw [if_neg (by rw [hbad]; decide)] at this; exact this)
        clear HIX
        go_wp2_with (go_at_call 23; refine (badPair_any q1 q2 n p _ hpr hcr).mono ?_; rintro e w1 ⟨rfl, hb1⟩; rw [hbad])
        go_roundw
        case rel => exact ⟨k + 1, by omega, by go_num, HR.out, hbw.trans (hb1.mono (by have := hbw.size; omega))⟩
        case measure => simp [intOf]; omega
      · have HR : Hid (badF n 0 ps = (k : Int)) := Lib.hid (by have := HIX.out; rw [if_pos hbad] at this; exact this)
        clear HIX
        go_wp2_with (go_at_call 23; refine (badPair_any q1 q2 n p _ hpr hcr).mono ?_; rintro e w1 ⟨rfl, hb1⟩; rw [hbad])
        go_ret
        rw [HR.out]
        exact ⟨rfl, hbw.trans (hb1.mono (by have := hbw.size; omega))⟩
    · have HR : Hid (badF n 0 ps = -1) := Lib.hid (by
        rw [hix, List.drop_eq_nil_of_le (by rw [HL.out]; omega)]; rfl)
      clear hix
      go_wp2_with fail
      go_ret
      rw [HR.out]
      exact ⟨rfl, hbw⟩

theorem badF_ge (n : Int) : ∀ (ps : List (Int × Int)) (k : Nat), decide (0 ≤ badF n k ps) = ps.any fun q => badP n q.1 q.2
  | [], _ => rfl
  | q :: ps, k => by
    rw [badF, List.any_cons]
    cases badP n q.1 q.2
    · exact badF_ge n ps (k + 1)
    · simp

set_option maxRecDepth 100000 in
theorem badAny_any (A : Option Addr) (m c K : Nat) (ps : List (Int × Int)) (n : Int) (p : Addr) (w : World) (hr : Reads w K 2 A m (prCells ps)) (hm : m ≤ 9223372036854775807)
    (hK : K ≤ w.heap.size) (hp : p.block < w.heap.size) (hc : w.cell? p = some (.int .i64 n)) :
    Calls Tryz.prog 22 #[.slice A m c, .func (.func 23) #[] #[.pointer (some p)]] w fun e w' => e = .returned (.bool (ps.any fun q => badP n q.1 q.2)) ∧ Below w.heap.size w w' := by
  have HR := Lib.hid (badF_ge n ps 0)
  go_enter Tryz.func22, Tryz.ntmps22
  go_wp2_with (go_at_call 53; refine (badIndex_any A m c K ps n p _ hr hm hK hp hc).mono ?_; rintro e w1 ⟨rfl, hb1⟩)
  go_ret
  rw [← HR.out]
  exact ⟨rfl, hb1⟩

/-- names that may stand, from k on -/
def nmsT (xs : List ByteArray) : Nat → List ByteArray → Bool
  | _, [] => true
  | k, y :: ys => nameT (L y) && (idxT xs y == (k : Int)) && nmsT xs (k + 1) ys
def rightT (xs : List ByteArray) (ps : List (Int × Int)) : Bool :=
  decide (1 ≤ xs.length) && decide (xs.length ≤ 64) && nmsT xs 0 xs && !(ps.any fun q => badP xs.length q.1 q.2)

set_option maxHeartbeats 4000000 in
set_option maxRecDepth 100000 in
theorem right_any (A B : Option Addr) (n c n2 c2 K : Nat) (xs : List ByteArray) (ps : List (Int × Int)) (w : World) (hr : Reads w K 1 A n (txCells xs)) (hr2 : Reads w K 2 B n2 (prCells ps))
    (hK : K ≤ w.heap.size) (hn : n ≤ 9223372036854775807) (hn2 : n2 ≤ 9223372036854775807) (hsz : ∀ x ∈ xs, x.size ≤ 9223372036854775807) :
    Calls Tryz.prog 6 #[.agg #[.slice A n c, .slice B n2 c2]] w fun e w' => e = .returned (.bool (rightT xs ps)) ∧ Below w.heap.size w w' := by
  have hlen : xs.length = n := by have := hr.1; simpa using this
  have HL := Lib.hid hlen
  clear hlen
  by_cases h1 : n < 1
  · have HR : Hid (rightT xs ps = false) := Lib.hid (by unfold rightT; rw [decide_eq_false (by rw [HL.out]; omega : ¬ 1 ≤ xs.length)]; rfl)
    go_enter Tryz.func6, Tryz.ntmps6
    go_wp2_with fail
    go_ret
    rw [HR.out]
    exact ⟨rfl, ((Below.refl _ _).alloc (Nat.le_refl _) _).alloc (by simp) _⟩
  by_cases h2 : 64 < n
  · have HR : Hid (rightT xs ps = false) := Lib.hid (by unfold rightT; rw [decide_eq_false (by rw [HL.out]; omega : ¬ xs.length ≤ 64), Bool.and_false]; rfl)
    go_enter Tryz.func6, Tryz.ntmps6
    go_wp2_with fail
    go_ret
    rw [HR.out]
    exact ⟨rfl, ((Below.refl _ _).alloc (Nat.le_refl _) _).alloc (by simp) _⟩
  go_enter Tryz.func6, Tryz.ntmps6
  go_wp2_with fail
  go_loopw [18] (fun s18 wr => ∃ k : Nat, k ≤ n ∧ s18 = .int .i64 k ∧ nmsT xs 0 xs = nmsT xs k (xs.drop k) ∧ Blk wr w.heap.size 26 #[.slice A n c, .slice B n2 c2] ∧ Blk wr (w.heap.size + 1) 3 #[.int .i64 n] ∧ Below w.heap.size w wr) (fun s18 _ => n - (intOf s18).toNat)
  case atStart =>
    refine ⟨0, Nat.zero_le _, rfl, rfl, (Blk.new _ _ _).alloc _, Blk.new' _ _ _ _ (by simp), ((Below.refl _ _).alloc (Nat.le_refl _) _).alloc (by simp) _⟩
  case round =>
    obtain ⟨k, hk, rfl, hix, hB1, hB2, hbw⟩ := hrel
    have hsz2 := hB2.lt
    by_cases hlt : k < n
    · have hlt2 : k < xs.length := by rw [HL.out]; exact hlt
      have hd : xs.drop k = xs[k] :: xs.drop (k + 1) := List.drop_eq_getElem_cons hlt2
      obtain ⟨ad, u, rfl, _, hx0, hc⟩ := (hr.below (hbw.mono hK)).at_ hlt
      obtain ⟨y, hy, rfl⟩ : ∃ y, xs[k]? = some y ∧ Value.string y = u := by simpa using hx0
      have hyx : xs[k] = y := by rw [List.getElem?_eq_getElem hlt2] at hy; exact Option.some.inj hy
      rw [hd, hyx, nmsT] at hix
      have hys : y.size ≤ 9223372036854775807 := hsz y (List.mem_of_getElem? hy)
      have HIX := Lib.hid hix
      have hsz1 : w.heap.size < wr.heap.size := hB1.lt
      have c0 : wr.cell? ⟨w.heap.size, 0, none⟩ = some (.slice (some ad) n c) := hB1.cell 0
      have c1 : wr.cell? ⟨w.heap.size, 0 + 1, none⟩ = some (.slice B n2 c2) := hB1.cell 1
      clear hix hd hy hx0 hyx
      cases hnm : nameT (L y)
      · have HR : Hid (rightT xs ps = false) := Lib.hid (by
          unfold rightT; rw [HIX.out, hnm]; simp)
        clear HIX
        go_wp2_with (go_at_call 21; refine (name_any y _ hys).mono ?_; rintro e w1 ⟨rfl, hb1⟩; rw [hnm])
        go_ret
        rw [HR.out]
        exact ⟨rfl, hbw.trans (hb1.mono (by have := hbw.size; omega))⟩
      · by_cases hi : idxT xs y = (k : Int)
        · have hi1 : (idxT xs y != (k : Int)) = false := by rw [bne_eq_false_iff_eq]; exact hi
          have HR : Hid (nmsT xs 0 xs = nmsT xs (k + 1) (xs.drop (k + 1))) := Lib.hid (by rw [HIX.out, hnm, hi]; simp)
          clear HIX
          go_wp2_with (first
            | (go_at_call 21; refine (name_any y _ hys).mono ?_; rintro e w1 ⟨rfl, hb1⟩; rw [hnm]
               have d0 : w1.cell? ⟨w.heap.size, 0, none⟩ = some (.slice (some ad) n c) := (hb1.cell (by show w.heap.size < _; omega)).trans c0
               have d1 : w1.cell? ⟨w.heap.size, 0 + 1, none⟩ = some (.slice B n2 c2) := (hb1.cell (by show w.heap.size < _; omega)).trans c1
               have hbw1 := hbw.trans (hb1.mono (Nat.le_of_lt hsz1))
               have hK1 : K ≤ w1.heap.size := by have := hb1.size; omega)
            | (go_at_call 20; refine (index_any (some ad) B n c n2 c2 K xs y _ (hr.below (hbw1.mono hK)) hK1 hn).mono ?_; rintro e w2 ⟨rfl, hb2⟩
               have hbw2 := hbw1.trans (hb2.mono (by have := hb1.size; omega))))
          go_roundw
          case rel => exact ⟨k + 1, by omega, by go_num, HR.out, (hB1.below hb1 (by omega)).below hb2 (by have := hb1.size; omega), (hB2.below hb1 (by omega)).below hb2 (by have := hb1.size; omega), hbw2⟩
          case measure => simp [intOf]; omega
        · have hi1 : (idxT xs y != (k : Int)) = true := by rw [bne_iff_ne]; exact hi
          have HR : Hid (rightT xs ps = false) := Lib.hid (by
            unfold rightT; rw [HIX.out, hnm, beq_eq_false_iff_ne.2 hi]; simp)
          clear HIX
          go_wp2_with (first
            | (go_at_call 21; refine (name_any y _ hys).mono ?_; rintro e w1 ⟨rfl, hb1⟩; rw [hnm]
               have d0 : w1.cell? ⟨w.heap.size, 0, none⟩ = some (.slice (some ad) n c) := (hb1.cell (by show w.heap.size < _; omega)).trans c0
               have d1 : w1.cell? ⟨w.heap.size, 0 + 1, none⟩ = some (.slice B n2 c2) := (hb1.cell (by show w.heap.size < _; omega)).trans c1
               have hbw1 := hbw.trans (hb1.mono (Nat.le_of_lt hsz1))
               have hK1 : K ≤ w1.heap.size := by have := hb1.size; omega)
            | (go_at_call 20; refine (index_any (some ad) B n c n2 c2 K xs y _ (hr.below (hbw1.mono hK)) hK1 hn).mono ?_; rintro e w2 ⟨rfl, hb2⟩
               have hbw2 := hbw1.trans (hb2.mono (by have := hb1.size; omega))))
          go_ret
          rw [HR.out]
          exact ⟨rfl, hbw2⟩
    · have HN : Hid (nmsT xs 0 xs = true) := Lib.hid (by
        rw [hix, List.drop_eq_nil_of_le (by rw [HL.out]; omega)]; rfl)
      have c1 : wr.cell? ⟨w.heap.size, 0 + 1, none⟩ = some (.slice B n2 c2) := hB1.cell 1
      have cn : wr.cell? ⟨w.heap.size + 1, 0, none⟩ = some (.int .i64 n) := hB2.cell 0
      have HR : Hid (rightT xs ps = !(ps.any fun q => badP n q.1 q.2)) := Lib.hid (by
        unfold rightT; rw [HN.out, HL.out, decide_eq_true (by omega : 1 ≤ n), decide_eq_true (by omega : n ≤ 64)]; simp)
      clear hix
      go_wp2_with (go_at_call 22; refine (badAny_any B n2 c2 K ps n ⟨w.heap.size + 1, 0, none⟩ _ (hr2.below (hbw.mono hK)) hn2 (by omega) (by omega) cn).mono ?_; rintro e w1 ⟨rfl, hb1⟩)
      go_ret
      rw [HR.out]
      exact ⟨rfl, hbw.trans (hb1.mono (by have := hbw.size; omega))⟩
end Go.Proofs.YtgdnphmannbpgaaGreatDoor
