/-
  frame.part, with what it hands to slices.ContainsFunc: contracts.
-/
import Derived.Test.YteeoohnkfdffnaaGreatDoorWriteLaw
import Derived.Lib.IndexAny
namespace Go.Proofs.YteeoohnkfdffnaaGreatDoor
open Go.RowKit

/-- a line that no run may have -/
def badLine (d : Int) (s : ByteArray) : Bool := (opensT (L s)).2 || (shutsT (L s) && decide (0 < d)) || (L s).contains 10

theorem lf_any (s : ByteArray) (w : World) : Calls Tryz.prog 117 #[.string s, .string ⟨#[10]⟩] w fun e w' => e = .returned (.bool ((L s).contains 10)) ∧ w' = w := by
  have := Tryz.strings_Contains_one s 10 w
  rwa [← Lib.contains_iff_indexByte] at this

set_option maxHeartbeats 2000000 in
set_option maxRecDepth 100000 in
theorem badLine_any (s : ByteArray) (d : Int) (p : Addr) (w : World) (hs : s.size ≤ 9223372036854775807) (hp : p.block < w.heap.size) (hc : w.cell? p = some (.int .i64 d)) :
    Calls Tryz.prog 116 #[.string s, .pointer (some p)] w fun e w' => e = .returned (.bool (badLine d s)) ∧ Below w.heap.size w w' := by
  have HO := Lib.hid (fun w => opens_any s w hs)
  have HS := Lib.hid (fun w => shuts_any s w hs)
  have HC := Lib.hid (fun w => lf_any s w)
  unfold badLine
  obtain ⟨⟨lbl, is⟩, hop⟩ : ∃ y, opensT (L s) = y := ⟨_, rfl⟩
  rw [hop] at HO
  rw [hop]
  clear hop
  generalize (L s).contains 10 = v3 at *
  generalize shutsT (L s) = v2 at *
  simp only at HO ⊢
  generalize S lbl = sl at *
  cases is
  · cases v2
    · cases v3
      all_goals
        go_enter Tryz.func116, Tryz.ntmps116
        go_wp2_with (first
          | (go_at_call 71; refine (HO.out _).mono ?_; rintro e w1 ⟨rfl, b1⟩)
          | (go_at_call 72; refine (HS.out _).mono ?_; rintro e w2 ⟨rfl, b2⟩)
          | (go_at_call 117; refine (HC.out _).mono ?_; rintro e w3 ⟨rfl, rfl⟩))
        go_ret
        exact ⟨rfl, b1.trans (b2.mono b1.size)⟩
    · by_cases hd : 0 < d
      · have HD := Lib.hid (decide_eq_true hd)
        go_enter Tryz.func116, Tryz.ntmps116
        go_wp2_with (first
          | (go_at_call 71; refine (HO.out _).mono ?_; rintro e w1 ⟨rfl, b1⟩)
          | (go_at_call 72; refine (HS.out _).mono ?_; rintro e w2 ⟨rfl, b2⟩
             have b3 := b1.trans (b2.mono b1.size)
             have c3 := (b3.cell hp).trans hc)
          | (go_at_call 117; refine (HC.out _).mono ?_; rintro e w3 ⟨rfl, rfl⟩))
        go_ret
        rw [HD.out]
        exact ⟨rfl, b3⟩
      · have HD := Lib.hid (decide_eq_false hd)
        cases v3
        all_goals
          go_enter Tryz.func116, Tryz.ntmps116
          go_wp2_with (first
            | (go_at_call 71; refine (HO.out _).mono ?_; rintro e w1 ⟨rfl, b1⟩)
            | (go_at_call 72; refine (HS.out _).mono ?_; rintro e w2 ⟨rfl, b2⟩
               have b3 := b1.trans (b2.mono b1.size)
               have c3 := (b3.cell hp).trans hc)
            | (go_at_call 117; refine (HC.out _).mono ?_; rintro e w3 ⟨rfl, rfl⟩))
          go_ret
          rw [HD.out]
          exact ⟨rfl, b3⟩
  · go_enter Tryz.func116, Tryz.ntmps116
    go_wp2_with (go_at_call 71; refine (HO.out _).mono ?_; rintro e w1 ⟨rfl, b1⟩)
    go_ret
    exact ⟨rfl, b1⟩

def firstT {α : Type} (f : α → Bool) : Nat → List α → Int
  | _, [] => -1
  | k, x :: xs => if f x then k else firstT f (k + 1) xs
theorem firstT_ge {α : Type} (f : α → Bool) : ∀ (xs : List α) (k : Nat), decide (0 ≤ firstT f k xs) = xs.any f
  | [], _ => rfl
  | x :: xs, k => by
    rw [firstT, List.any_cons]
    cases f x
    · exact firstT_ge f xs (k + 1)
    · simp

set_option maxHeartbeats 2000000 in
set_option maxRecDepth 100000 in
theorem badIndex6_any (A : Option Addr) (n c K : Nat) (xs : List ByteArray) (d : Int) (p : Addr) (w : World) (hr : Reads w K 1 A n (txCells xs)) (hn : n ≤ 9223372036854775807) (hsz : ∀ x ∈ xs, x.size ≤ 9223372036854775807)
    (hK : K ≤ w.heap.size) (hp : p.block < w.heap.size) (hc : w.cell? p = some (.int .i64 d)) :
    Calls Tryz.prog 128 #[.slice A n c, .func (.func 116) #[] #[.pointer (some p)]] w fun e w' => e = .returned (.int .i64 (firstT (badLine d) 0 xs)) ∧ Below w.heap.size w w' := by
  have hlen : xs.length = n := by have := hr.1; simpa using this
  have HL := Lib.hid hlen
  clear hlen
  go_enter Tryz.func128, Tryz.ntmps128
  go_wp2_with fail
  go_loopw [8] (fun s8 wr => ∃ k : Nat, k ≤ n ∧ s8 = .int .i64 k ∧ firstT (badLine d) 0 xs = firstT (badLine d) k (xs.drop k) ∧ Below w.heap.size w wr) (fun s8 _ => n - (intOf s8).toNat)
  case atStart => exact ⟨0, Nat.zero_le _, rfl, rfl, Below.refl _ _⟩
  case round =>
    obtain ⟨k, hk, rfl, hix, hbw⟩ := hrel
    by_cases hlt : k < n
    · have hlt2 : k < xs.length := by rw [HL.out]; exact hlt
      have hd : xs.drop k = xs[k] :: xs.drop (k + 1) := List.drop_eq_getElem_cons hlt2
      rw [hd, firstT] at hix
      obtain ⟨ad, u, rfl, _, hx0, hcx⟩ := (hr.below (hbw.mono hK)).at_ hlt
      obtain ⟨x, hx, rfl⟩ : ∃ x, xs[k]? = some x ∧ Value.string x = u := by simpa using hx0
      have hxk : xs[k] = x := by rw [List.getElem?_eq_getElem hlt2] at hx; exact Option.some.inj hx
      rw [hxk] at hix
      have hxs := hsz x (List.mem_of_getElem? hx)
      have HIX := Lib.hid hix
      clear hix hd hx hx0 hxk
      have hpr : p.block < wr.heap.size := by have := hbw.size; omega
      have hcr : wr.cell? p = some (.int .i64 d) := (hbw.cell hp).trans hc
      cases hbad : badLine d x
      · have HR : Hid (firstT (badLine d) 0 xs = firstT (badLine d) (k + 1) (xs.drop (k + 1))) := Lib.hid (by have := HIX.out; rw [if_neg (by rw [hbad]; decide)] at this; exact this)
        clear HIX
        go_wp2_with (go_at_call 116; refine (badLine_any x d p _ hxs hpr hcr).mono ?_; rintro e w1 ⟨rfl, hb1⟩; rw [hbad])
        go_roundw
        case rel => exact ⟨k + 1, by omega, by go_num, HR.out, hbw.trans (hb1.mono (by have := hbw.size; omega))⟩
        case measure => simp [intOf]; omega
      · have HR : Hid (firstT (badLine d) 0 xs = (k : Int)) := Lib.hid (by have := HIX.out; rw [if_pos hbad] at this; exact this)
        clear HIX
        go_wp2_with (go_at_call 116; refine (badLine_any x d p _ hxs hpr hcr).mono ?_; rintro e w1 ⟨rfl, hb1⟩; rw [hbad])
        go_ret
        rw [HR.out]
        exact ⟨rfl, hbw.trans (hb1.mono (by have := hbw.size; omega))⟩
    · have HR : Hid (firstT (badLine d) 0 xs = -1) := Lib.hid (by
        rw [hix, List.drop_eq_nil_of_le (by rw [HL.out]; omega)]; rfl)
      clear hix
      go_wp2_with fail
      go_ret
      rw [HR.out]
      exact ⟨rfl, hbw⟩

set_option maxRecDepth 100000 in
theorem badAny6_any (A : Option Addr) (n c K : Nat) (xs : List ByteArray) (d : Int) (p : Addr) (w : World) (hr : Reads w K 1 A n (txCells xs)) (hn : n ≤ 9223372036854775807) (hsz : ∀ x ∈ xs, x.size ≤ 9223372036854775807)
    (hK : K ≤ w.heap.size) (hp : p.block < w.heap.size) (hc : w.cell? p = some (.int .i64 d)) :
    Calls Tryz.prog 115 #[.slice A n c, .func (.func 116) #[] #[.pointer (some p)]] w fun e w' => e = .returned (.bool (xs.any (badLine d))) ∧ Below w.heap.size w w' := by
  have HR := Lib.hid (firstT_ge (badLine d) xs 0)
  go_enter Tryz.func115, Tryz.ntmps115
  go_wp2_with (go_at_call 128; refine (badIndex6_any A n c K xs d p _ hr hn hsz hK hp hc).mono ?_; rintro e w1 ⟨rfl, hb1⟩)
  go_ret
  rw [← HR.out]
  exact ⟨rfl, hb1⟩

/-- what a part's text may have at most -/
def PartSz (p : PartT) : Prop := p.label.size ≤ 9223372036854775807 ∧ ∀ x ∈ p.lines, x.size ≤ 9223372036854775807

set_option maxHeartbeats 4000000 in
set_option maxRecDepth 100000 in
theorem part_any (p : PartT) (A : Option Addr) (n c K : Nat) (w : World) (hl : p.lines.length = n) (hr : Reads w K 1 A n (txCells p.lines)) (hn : n ≤ 9223372036854775807) (hz : PartSz p) (hK : K ≤ w.heap.size) :
    Calls Tryz.prog 91 #[.agg #[.int .i64 p.depth, .bool p.div, .string p.label, .bool p.opn, .slice A n c]] w fun e w' => e = .returned (.bool (partT p)) ∧ Below w.heap.size w w' := by
  obtain ⟨d, v, lb, o, ls⟩ := p
  obtain ⟨z1, z2⟩ := hz
  simp only at hl z1 z2 hr ⊢
  have bA : Below w.heap.size w (w.alloc (.cells #[.int .i64 d, .bool v, .string lb, .bool o, .slice A n c] 73)) := (Below.refl _ _).alloc (Nat.le_refl _) _
  have B0 : Blk (w.alloc (.cells #[.int .i64 d, .bool v, .string lb, .bool o, .slice A n c] 73)) w.heap.size 73 #[.int .i64 d, .bool v, .string lb, .bool o, .slice A n c] := Blk.new _ _ _
  have HLB := Lib.hid (fun w => label_any lb w z1)
  have HBA : Hid (∀ w1, Below w.heap.size w w1 → w.heap.size < w1.heap.size → w1.cell? ⟨w.heap.size, 0, none⟩ = some (.int .i64 d) → Calls Tryz.prog 115 #[.slice A n c, .func (.func 116) #[] #[.pointer (some ⟨w.heap.size, 0, none⟩)]] w1 fun e w' => e = .returned (.bool (ls.any (badLine d))) ∧ Below w1.heap.size w1 w') :=
    Lib.hid fun w1 hb hlt hc => badAny6_any A n c K ls d ⟨w.heap.size, 0, none⟩ w1 (hr.below (hb.mono hK)) hn z2 (by omega) hlt hc
  have d0 : (w.alloc (.cells #[.int .i64 d, .bool v, .string lb, .bool o, .slice A n c] 73)).cell? ⟨w.heap.size, 0, none⟩ = some (.int .i64 d) := B0.cell 0
  have d1 : (w.alloc (.cells #[.int .i64 d, .bool v, .string lb, .bool o, .slice A n c] 73)).cell? ⟨w.heap.size, 0 + 1, none⟩ = some (.bool v) := B0.cell 1
  have d2 : (w.alloc (.cells #[.int .i64 d, .bool v, .string lb, .bool o, .slice A n c] 73)).cell? ⟨w.heap.size, 0 + 2, none⟩ = some (.string lb) := B0.cell 2
  have d3 : (w.alloc (.cells #[.int .i64 d, .bool v, .string lb, .bool o, .slice A n c] 73)).cell? ⟨w.heap.size, 0 + 3, none⟩ = some (.bool o) := B0.cell 3
  have d4 : (w.alloc (.cells #[.int .i64 d, .bool v, .string lb, .bool o, .slice A n c] 73)).cell? ⟨w.heap.size, 0 + 4, none⟩ = some (.slice A n c) := B0.cell 4
  have hlt : w.heap.size < (w.alloc (.cells #[.int .i64 d, .bool v, .string lb, .bool o, .slice A n c] 73)).heap.size := B0.lt
  have hPT : partT ⟨d, v, lb, o, ls⟩ = if v then decide (n = 0) && labelT (L lb) else decide (0 < n) && decide (lb.size = 0) && !o && !(ls.any (badLine d)) := by
    have e1 : ls.isEmpty = decide (n = 0) := by rw [← hl]; cases ls <;> simp
    have e2 : (!ls.isEmpty) = decide (0 < n) := by rw [← hl]; cases ls <;> simp
    show (if v = true then ls.isEmpty && labelT (L lb) else !ls.isEmpty && decide (lb.size = 0) && !o && !(ls.any (badLine d))) = _
    rw [e2, e1]
  rw [hPT]
  clear hPT
  cases v
  · simp only [Bool.false_eq_true, if_false]
    by_cases h1 : 0 < n
    · by_cases h2 : lb.size = 0
      · have e0 := bytes_none h2
        subst e0
        rw [decide_eq_true h1, decide_eq_true h2]
        clear h2
        cases o
        · have HB := Lib.hid (HBA.out _ bA hlt d0)
          go_enter Tryz.func91, Tryz.ntmps91
          go_wp2_with (go_at_call 115; refine HB.out.mono ?_; rintro e w1 ⟨rfl, b1⟩)
          go_ret
          exact ⟨rfl, bA.trans (b1.mono (by omega))⟩
        · go_enter Tryz.func91, Tryz.ntmps91
          go_wp2_with fail
          go_ret
          exact ⟨rfl, bA⟩
      · rw [decide_eq_true h1, decide_eq_false h2]
        obtain ⟨e1, e2, e3⟩ := bytes_some h2
        go_enter Tryz.func91, Tryz.ntmps91
        go_wp2_with fail
        go_ret
        exact ⟨rfl, bA⟩
    · rw [decide_eq_false h1]
      go_enter Tryz.func91, Tryz.ntmps91
      go_wp2_with fail
      go_ret
      exact ⟨rfl, bA⟩
  · simp only [if_true]
    by_cases h1 : n = 0
    · subst h1
      rw [decide_eq_true (Eq.refl 0)]
      go_enter Tryz.func91, Tryz.ntmps91
      go_wp2_with (go_at_call 78; refine (HLB.out _).mono ?_; rintro e w1 ⟨rfl, b1⟩)
      go_ret
      exact ⟨rfl, bA.trans (b1.mono (by omega))⟩
    · rw [decide_eq_false h1]
      have q1 : ((n : Int) == 0) = false := beq_eq_false_iff_ne.2 (by omega)
      go_enter Tryz.func91, Tryz.ntmps91
      go_wp2_with fail
      go_ret
      exact ⟨rfl, bA⟩
end Go.Proofs.YteeoohnkfdffnaaGreatDoor
