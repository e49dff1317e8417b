/- Joined texts: Part, Right, Right2, Write6, Write7. -/
import Derived.Test.YtgdnphmannbpgaaGreatDoorGG
import Derived.Lib.IndexAny
import Derived.Test.YtgdnphmannbpgaaGreatDoorGB
import Derived.Deep.DeepCutAuto
/-
  frame.part, with what it hands to slices.ContainsFunc: contracts.
-/
namespace Go.Proofs.YtgdnphmannbpgaaGreatDoor
open Go.RowKit

/-- a line that no run may have -/
def badLine (d : Int) (s : ByteArray) : Bool := (opensT (L s)).2 || (shutsT (L s) && decide (0 < d)) || (L s).contains 10

theorem lf_any (s : ByteArray) (w : World) : Calls Tryz.prog 109 #[.string s, .string ⟨#[10]⟩] w fun e w' => e = .returned (.bool ((L s).contains 10)) ∧ w' = w := by
  have := Tryz.strings_Contains_one s 10 w
  rwa [← Lib.contains_iff_indexByte] at this

set_option maxHeartbeats 2000000 in
set_option maxRecDepth 100000 in
theorem badLine_any (s : ByteArray) (d : Int) (p : Addr) (w : World) (hs : s.size ≤ 9223372036854775807) (hp : p.block < w.heap.size) (hc : w.cell? p = some (.int .i64 d)) :
    Calls Tryz.prog 108 #[.string s, .pointer (some p)] w fun e w' => e = .returned (.bool (badLine d s)) ∧ Below w.heap.size w w' := by
  have HO := Lib.hid (fun w => opens_any s w hs)
  have HS := Lib.hid (fun w => shuts_any s w hs)
  have HC := Lib.hid (fun w => lf_any s w)
  unfold badLine
  obtain ⟨⟨lbl, is⟩, hop⟩ : ∃ y, opensT (L s) = y := ⟨_, rfl⟩
  rw [hop] at HO
  rw [hop]
  clear hop
  generalize (L s).contains 10 = v3 at *
  generalize shutsT (L s) = v2 at *
  simp only at HO ⊢
  generalize S lbl = sl at *
  cases is
  · cases v2
    · cases v3
      all_goals
        go_enter Tryz.func108, Tryz.ntmps108
        go_wp2_with (first
          | (go_at_call 58; refine (HO.out _).mono ?_; rintro e w1 ⟨rfl, b1⟩)
          | (go_at_call 59; refine (HS.out _).mono ?_; rintro e w2 ⟨rfl, b2⟩)
          | (go_at_call 109; refine (HC.out _).mono ?_; rintro e w3 ⟨rfl, rfl⟩))
        go_ret
        exact ⟨rfl, b1.trans (b2.mono b1.size)⟩
    · by_cases hd : 0 < d
      · have HD := Lib.hid (decide_eq_true hd)
        go_enter Tryz.func108, Tryz.ntmps108
        go_wp2_with (first
          | (go_at_call 58; refine (HO.out _).mono ?_; rintro e w1 ⟨rfl, b1⟩)
          | (go_at_call 59; refine (HS.out _).mono ?_; rintro e w2 ⟨rfl, b2⟩
             have b3 := b1.trans (b2.mono b1.size)
             have c3 := (b3.cell hp).trans hc)
          | (go_at_call 109; refine (HC.out _).mono ?_; rintro e w3 ⟨rfl, rfl⟩))
        go_ret
        rw [HD.out]
        exact ⟨rfl, b3⟩
      · have HD := Lib.hid (decide_eq_false hd)
        cases v3
        all_goals
          go_enter Tryz.func108, Tryz.ntmps108
          go_wp2_with (first
            | (go_at_call 58; refine (HO.out _).mono ?_; rintro e w1 ⟨rfl, b1⟩)
            | (go_at_call 59; refine (HS.out _).mono ?_; rintro e w2 ⟨rfl, b2⟩
               have b3 := b1.trans (b2.mono b1.size)
               have c3 := (b3.cell hp).trans hc)
            | (go_at_call 109; refine (HC.out _).mono ?_; rintro e w3 ⟨rfl, rfl⟩))
          go_ret
          rw [HD.out]
          exact ⟨rfl, b3⟩
  · go_enter Tryz.func108, Tryz.ntmps108
    go_wp2_with (go_at_call 58; refine (HO.out _).mono ?_; rintro e w1 ⟨rfl, b1⟩)
    go_ret
    exact ⟨rfl, b1⟩

def firstT {α : Type} (f : α → Bool) : Nat → List α → Int
  | _, [] => -1
  | k, x :: xs => if f x then k else firstT f (k + 1) xs
theorem firstT_ge {α : Type} (f : α → Bool) : ∀ (xs : List α) (k : Nat), decide (0 ≤ firstT f k xs) = xs.any f
  | [], _ => rfl
  | x :: xs, k => by
    rw [firstT, List.any_cons]
    cases f x
    · exact firstT_ge f xs (k + 1)
    · simp

set_option maxHeartbeats 2000000 in
set_option maxRecDepth 100000 in
theorem badIndex6_any (A : Option Addr) (n c K : Nat) (xs : List ByteArray) (d : Int) (p : Addr) (w : World) (hr : Reads w K 1 A n (txCells xs)) (hn : n ≤ 9223372036854775807) (hsz : ∀ x ∈ xs, x.size ≤ 9223372036854775807)
    (hK : K ≤ w.heap.size) (hp : p.block < w.heap.size) (hc : w.cell? p = some (.int .i64 d)) :
    Calls Tryz.prog 120 #[.slice A n c, .func (.func 108) #[] #[.pointer (some p)]] w fun e w' => e = .returned (.int .i64 (firstT (badLine d) 0 xs)) ∧ Below w.heap.size w w' := by
  have hlen : xs.length = n := by have := hr.1; simpa using this
  have HL := Lib.hid hlen
  clear hlen
  go_enter Tryz.func120, Tryz.ntmps120
  go_wp2_with fail
  go_loopw [8] (fun s8 wr => ∃ k : Nat, k ≤ n ∧ s8 = .int .i64 k ∧ firstT (badLine d) 0 xs = firstT (badLine d) k (xs.drop k) ∧ Below w.heap.size w wr) (fun s8 _ => n - (intOf s8).toNat)
  case atStart => exact ⟨0, Nat.zero_le _, rfl, rfl, Below.refl _ _⟩
  case round =>
    obtain ⟨k, hk, rfl, hix, hbw⟩ := hrel
    by_cases hlt : k < n
    · have hlt2 : k < xs.length := by rw [HL.out]; exact hlt
      have hd : xs.drop k = xs[k] :: xs.drop (k + 1) := List.drop_eq_getElem_cons hlt2
      rw [hd, firstT] at hix
      obtain ⟨ad, u, rfl, _, hx0, hcx⟩ := (hr.below (hbw.mono hK)).at_ hlt
      obtain ⟨x, hx, rfl⟩ : ∃ x, xs[k]? = some x ∧ Value.string x = u := by simpa using hx0
      have hxk : xs[k] = x := by rw [List.getElem?_eq_getElem hlt2] at hx; exact Option.some.inj hx
      rw [hxk] at hix
      have hxs := hsz x (List.mem_of_getElem? hx)
      have HIX := Lib.hid hix
      clear hix hd hx hx0 hxk
      have hpr : p.block < wr.heap.size := by have := hbw.size; omega
      have hcr : wr.cell? p = some (.int .i64 d) := (hbw.cell hp).trans hc
      cases hbad : badLine d x
      · have HR : Hid (firstT (badLine d) 0 xs = firstT (badLine d) (k + 1) (xs.drop (k + 1))) := Lib.hid (by have := HIX.out; rw [if_neg (by rw [hbad]; decide)] at this; exact this)
        clear HIX
        go_wp2_with (go_at_call 108; refine (badLine_any x d p _ hxs hpr hcr).mono ?_; rintro e w1 ⟨rfl, hb1⟩; rw [hbad])
        go_roundw
        case rel => exact ⟨k + 1, by omega, by go_num, HR.out, hbw.trans (hb1.mono (by have := hbw.size; omega))⟩
        case measure => simp [intOf]; omega
      · have HR : Hid (firstT (badLine d) 0 xs = (k : Int)) := Lib.hid (by have := HIX.out; rw [if_pos hbad] at this; exact this)
        clear HIX
        go_wp2_with (go_at_call 108; refine (badLine_any x d p _ hxs hpr hcr).mono ?_; rintro e w1 ⟨rfl, hb1⟩; rw [hbad])
        go_ret
        rw [HR.out]
        exact ⟨rfl, hbw.trans (hb1.mono (by have := hbw.size; omega))⟩
    · have HR : Hid (firstT (badLine d) 0 xs = -1) := Lib.hid (by
        rw [hix, List.drop_eq_nil_of_le (by rw [HL.out]; omega)]; rfl)
      clear hix
      go_wp2_with fail
      go_ret
      rw [HR.out]
      exact ⟨rfl, hbw⟩

set_option maxRecDepth 100000 in
theorem badAny6_any (A : Option Addr) (n c K : Nat) (xs : List ByteArray) (d : Int) (p : Addr) (w : World) (hr : Reads w K 1 A n (txCells xs)) (hn : n ≤ 9223372036854775807) (hsz : ∀ x ∈ xs, x.size ≤ 9223372036854775807)
    (hK : K ≤ w.heap.size) (hp : p.block < w.heap.size) (hc : w.cell? p = some (.int .i64 d)) :
    Calls Tryz.prog 107 #[.slice A n c, .func (.func 108) #[] #[.pointer (some p)]] w fun e w' => e = .returned (.bool (xs.any (badLine d))) ∧ Below w.heap.size w w' := by
  have HR := Lib.hid (firstT_ge (badLine d) xs 0)
  go_enter Tryz.func107, Tryz.ntmps107
  go_wp2_with (go_at_call 120; refine (badIndex6_any A n c K xs d p _ hr hn hsz hK hp hc).mono ?_; rintro e w1 ⟨rfl, hb1⟩)
  go_ret
  rw [← HR.out]
  exact ⟨rfl, hb1⟩

/-- what a part's text may have at most -/
def PartSz (p : PartT) : Prop := p.label.size ≤ 9223372036854775807 ∧ ∀ x ∈ p.lines, x.size ≤ 9223372036854775807

set_option maxHeartbeats 4000000 in
set_option maxRecDepth 100000 in
theorem part_any (p : PartT) (A : Option Addr) (n c K : Nat) (w : World) (hl : p.lines.length = n) (hr : Reads w K 1 A n (txCells p.lines)) (hn : n ≤ 9223372036854775807) (hz : PartSz p) (hK : K ≤ w.heap.size) :
    Calls Tryz.prog 83 #[.agg #[.int .i64 p.depth, .bool p.div, .string p.label, .bool p.opn, .slice A n c]] w fun e w' => e = .returned (.bool (partT p)) ∧ Below w.heap.size w w' := by
  obtain ⟨d, v, lb, o, ls⟩ := p
  obtain ⟨z1, z2⟩ := hz
  simp only at hl z1 z2 hr ⊢
  have bA : Below w.heap.size w (w.alloc (.cells #[.int .i64 d, .bool v, .string lb, .bool o, .slice A n c] 67)) := (Below.refl _ _).alloc (Nat.le_refl _) _
  have B0 : Blk (w.alloc (.cells #[.int .i64 d, .bool v, .string lb, .bool o, .slice A n c] 67)) w.heap.size 67 #[.int .i64 d, .bool v, .string lb, .bool o, .slice A n c] := Blk.new _ _ _
  have HLB := Lib.hid (fun w => label_any lb w z1)
  have HBA : Hid (∀ w1, Below w.heap.size w w1 → w.heap.size < w1.heap.size → w1.cell? ⟨w.heap.size, 0, none⟩ = some (.int .i64 d) → Calls Tryz.prog 107 #[.slice A n c, .func (.func 108) #[] #[.pointer (some ⟨w.heap.size, 0, none⟩)]] w1 fun e w' => e = .returned (.bool (ls.any (badLine d))) ∧ Below w1.heap.size w1 w') :=
    Lib.hid fun w1 hb hlt hc => badAny6_any A n c K ls d ⟨w.heap.size, 0, none⟩ w1 (hr.below (hb.mono hK)) hn z2 (by omega) hlt hc
  have d0 : (w.alloc (.cells #[.int .i64 d, .bool v, .string lb, .bool o, .slice A n c] 67)).cell? ⟨w.heap.size, 0, none⟩ = some (.int .i64 d) := B0.cell 0
  have d1 : (w.alloc (.cells #[.int .i64 d, .bool v, .string lb, .bool o, .slice A n c] 67)).cell? ⟨w.heap.size, 0 + 1, none⟩ = some (.bool v) := B0.cell 1
  have d2 : (w.alloc (.cells #[.int .i64 d, .bool v, .string lb, .bool o, .slice A n c] 67)).cell? ⟨w.heap.size, 0 + 2, none⟩ = some (.string lb) := B0.cell 2
  have d3 : (w.alloc (.cells #[.int .i64 d, .bool v, .string lb, .bool o, .slice A n c] 67)).cell? ⟨w.heap.size, 0 + 3, none⟩ = some (.bool o) := B0.cell 3
  have d4 : (w.alloc (.cells #[.int .i64 d, .bool v, .string lb, .bool o, .slice A n c] 67)).cell? ⟨w.heap.size, 0 + 4, none⟩ = some (.slice A n c) := B0.cell 4
  have hlt : w.heap.size < (w.alloc (.cells #[.int .i64 d, .bool v, .string lb, .bool o, .slice A n c] 67)).heap.size := B0.lt
  have hPT : partT ⟨d, v, lb, o, ls⟩ = if v then decide (n = 0) && labelT (L lb) else decide (0 < n) && decide (lb.size = 0) && !o && !(ls.any (badLine d)) := by
    have e1 : ls.isEmpty = decide (n = 0) := by rw [← hl]; cases ls <;> simp
    have e2 : (!ls.isEmpty) = decide (0 < n) := by rw [← hl]; cases ls <;> simp
    show (if v = true then ls.isEmpty && labelT (L lb) else !ls.isEmpty && decide (lb.size = 0) && !o && !(ls.any (badLine d))) = _
    rw [e2, e1]
  rw [hPT]
  clear hPT
  cases v
  · simp only [Bool.false_eq_true, if_false]
    by_cases h1 : 0 < n
    · by_cases h2 : lb.size = 0
      · have e0 := bytes_none h2
        subst e0
        rw [decide_eq_true h1, decide_eq_true h2]
        clear h2
        cases o
        · have HB := Lib.hid (HBA.out _ bA hlt d0)
          go_enter Tryz.func83, Tryz.ntmps83
          go_wp2_with (go_at_call 107; refine HB.out.mono ?_; rintro e w1 ⟨rfl, b1⟩)
          go_ret
          exact ⟨rfl, bA.trans (b1.mono (by omega))⟩
        · go_enter Tryz.func83, Tryz.ntmps83
          go_wp2_with fail
          go_ret
          exact ⟨rfl, bA⟩
      · rw [decide_eq_true h1, decide_eq_false h2]
        obtain ⟨e1, e2, e3⟩ := bytes_some h2
        go_enter Tryz.func83, Tryz.ntmps83
        go_wp2_with fail
        go_ret
        exact ⟨rfl, bA⟩
    · rw [decide_eq_false h1]
      go_enter Tryz.func83, Tryz.ntmps83
      go_wp2_with fail
      go_ret
      exact ⟨rfl, bA⟩
  · simp only [if_true]
    by_cases h1 : n = 0
    · subst h1
      rw [decide_eq_true (Eq.refl 0)]
      go_enter Tryz.func83, Tryz.ntmps83
      go_wp2_with (go_at_call 70; refine (HLB.out _).mono ?_; rintro e w1 ⟨rfl, b1⟩)
      go_ret
      exact ⟨rfl, bA.trans (b1.mono (by omega))⟩
    · rw [decide_eq_false h1]
      have q1 : ((n : Int) == 0) = false := beq_eq_false_iff_ne.2 (by omega)
      go_enter Tryz.func83, Tryz.ntmps83
      go_wp2_with fail
      go_ret
      exact ⟨rfl, bA⟩
end Go.Proofs.YtgdnphmannbpgaaGreatDoor
/-
  frame.Right, with what it hands to slices.ContainsFunc: contracts.
-/
namespace Go.Proofs.YtgdnphmannbpgaaGreatDoor
open Go.RowKit

/-- parts that can be read, with their lines -/
def PartsIn (w : World) (K : Nat) (A : Option Addr) (n : Nat) (ps : List PartR) : Prop :=
  Reads w K 5 A n (partCells ps) ∧ ∀ p ∈ ps, Reads w K 1 p.la p.t.lines.length (txCells p.t.lines)
theorem PartsIn.below {w w' : World} {K n : Nat} {A : Option Addr} {ps : List PartR} (h : PartsIn w K A n ps) (hb : Below K w w') : PartsIn w' K A n ps := ⟨h.1.below hb, fun p hp => (h.2 p hp).below hb⟩
theorem Parts.reads {w : World} {base n c : Nat} {A : Option Addr} {ps : List PartR} (h : Parts w base A n c ps) : PartsIn w w.heap.size A n ps := ⟨h.1.reads, fun p hp => (h.2.1 p hp).reads⟩
theorem PartsIn.len {w : World} {K n : Nat} {A : Option Addr} {ps : List PartR} (h : PartsIn w K A n ps) : ps.length = n := by have := h.1.1; rw [parts_length] at this; omega
theorem Reads.part {w : World} {B n : Nat} {A : Option Addr} {ps : List PartR} (h : Reads w B 5 A n (partCells ps)) {k : Nat} {p : PartR} (hp : ps[k]? = some p) (hk : k < n) :
    ∃ ad, A = some ad ∧ ad.block < B ∧ w.cell? (ad.add (k * 5)) = some (.int .i64 p.t.depth) ∧ w.cell? ⟨(ad.add (k * 5)).block, (ad.add (k * 5)).off + 1, none⟩ = some (.bool p.t.div) ∧ w.cell? ⟨(ad.add (k * 5)).block, (ad.add (k * 5)).off + 2, none⟩ = some (.string p.t.label) ∧
      w.cell? ⟨(ad.add (k * 5)).block, (ad.add (k * 5)).off + 3, none⟩ = some (.bool p.t.opn) ∧ w.cell? ⟨(ad.add (k * 5)).block, (ad.add (k * 5)).off + 4, none⟩ = some (.slice p.la p.t.lines.length p.lc) := by
  obtain ⟨ad, e, hb, h0, hj⟩ := h.elem hk
  have g := fun j (hj : j < 5) => flat_get PartR.cells 5 part_len ps k j hj hp
  exact ⟨ad, e, hb, h0 _ ((g 0 (by omega)).trans rfl), hj 1 _ (by omega) ((g 1 (by omega)).trans rfl), hj 2 _ (by omega) ((g 2 (by omega)).trans rfl), hj 3 _ (by omega) ((g 3 (by omega)).trans rfl), hj 4 _ (by omega) ((g 4 (by omega)).trans rfl)⟩

set_option maxHeartbeats 1000000 in
set_option maxRecDepth 100000 in
theorem notOpen_any (p : PartR) (w : World) :
    Calls Tryz.prog 85 #[.agg #[.int .i64 p.t.depth, .bool p.t.div, .string p.t.label, .bool p.t.opn, .slice p.la p.t.lines.length p.lc]] w fun e w' => e = .returned (.bool (!p.t.opn)) ∧ Below w.heap.size w w' := by
  obtain ⟨⟨d, v, lb, o, ls⟩, la, lc⟩ := p
  simp only
  generalize ls.length = n
  have bA : Below w.heap.size w (w.alloc (.cells #[.int .i64 d, .bool v, .string lb, .bool o, .slice la n lc] 67)) := (Below.refl _ _).alloc (Nat.le_refl _) _
  cases o
  all_goals
    go_enter Tryz.func85, Tryz.ntmps85
    go_wp2_with fail
    go_ret
    exact ⟨rfl, bA⟩

set_option maxHeartbeats 2000000 in
set_option maxRecDepth 100000 in
theorem notOpenIndex_any (A : Option Addr) (n c K : Nat) (ps : List PartR) (w : World) (hr : Reads w K 5 A n (partCells ps)) (hn : n ≤ 9223372036854775807) (hK : K ≤ w.heap.size) :
    Calls Tryz.prog 110 #[.slice A n c, .func (.func 85) #[] #[]] w fun e w' => e = .returned (.int .i64 (firstT (fun p : PartR => !p.t.opn) 0 ps)) ∧ Below w.heap.size w w' := by
  have hlen : ps.length = n := by have := hr.1; rw [parts_length] at this; omega
  have HL := Lib.hid hlen
  clear hlen
  go_enter Tryz.func110, Tryz.ntmps110
  go_wp2_with fail
  go_loopw [8] (fun s8 wr => ∃ k : Nat, k ≤ n ∧ s8 = .int .i64 k ∧ firstT (fun p : PartR => !p.t.opn) 0 ps = firstT (fun p : PartR => !p.t.opn) k (ps.drop k) ∧ Below w.heap.size w wr) (fun s8 _ => n - (intOf s8).toNat)
  case atStart => exact ⟨0, Nat.zero_le _, rfl, rfl, Below.refl _ _⟩
  case round =>
    obtain ⟨k, hk, rfl, hix, hbw⟩ := hrel
    by_cases hlt : k < n
    · have hlt2 : k < ps.length := by rw [HL.out]; exact hlt
      have hd : ps.drop k = ps[k] :: ps.drop (k + 1) := List.drop_eq_getElem_cons hlt2
      rw [hd, firstT] at hix
      obtain ⟨ad, rfl, _, c0, c1, c2, c3, c4⟩ := (hr.below (hbw.mono hK)).part (List.getElem?_eq_getElem hlt2) hlt
      generalize ps[k] = p at *
      have HIX := Lib.hid hix
      clear hix hd
      have HN := Lib.hid (fun w => notOpen_any p w)
      obtain ⟨⟨d, v, lb, o, ls⟩, la, lc⟩ := p
      simp only at HN HIX c0 c1 c2 c3 c4
      generalize ls.length = m at *
      cases o
      · have HR : Hid (firstT (fun p : PartR => !p.t.opn) 0 ps = (k : Int)) := Lib.hid (by have := HIX.out; simpa using this)
        clear HIX
        go_wp2_with (go_at_call 85; refine (HN.out _).mono ?_; rintro e w1 ⟨rfl, hb1⟩)
        go_ret
        rw [HR.out]
        exact ⟨rfl, hbw.trans (hb1.mono (by have := hbw.size; omega))⟩
      · have HR : Hid (firstT (fun p : PartR => !p.t.opn) 0 ps = firstT (fun p : PartR => !p.t.opn) (k + 1) (ps.drop (k + 1))) := Lib.hid (by have := HIX.out; simpa using this)
        clear HIX
        go_wp2_with (go_at_call 85; refine (HN.out _).mono ?_; rintro e w1 ⟨rfl, hb1⟩)
        go_roundw
        case rel => exact ⟨k + 1, by omega, by go_num, HR.out, hbw.trans (hb1.mono (by have := hbw.size; omega))⟩
        case measure => simp [intOf]; omega
    · have HR : Hid (firstT (fun p : PartR => !p.t.opn) 0 ps = -1) := Lib.hid (by
        rw [hix, List.drop_eq_nil_of_le (by rw [HL.out]; omega)]; rfl)
      clear hix
      go_wp2_with fail
      go_ret
      rw [HR.out]
      exact ⟨rfl, hbw⟩

set_option maxRecDepth 100000 in
theorem notOpenAny_any (A : Option Addr) (n c K : Nat) (ps : List PartR) (w : World) (hr : Reads w K 5 A n (partCells ps)) (hn : n ≤ 9223372036854775807) (hK : K ≤ w.heap.size) :
    Calls Tryz.prog 84 #[.slice A n c, .func (.func 85) #[] #[]] w fun e w' => e = .returned (.bool (ps.any fun p => !p.t.opn)) ∧ Below w.heap.size w w' := by
  have HR := Lib.hid (firstT_ge (fun p : PartR => !p.t.opn) ps 0)
  go_enter Tryz.func84, Tryz.ntmps84
  go_wp2_with (go_at_call 110; refine (notOpenIndex_any A n c K ps _ hr hn hK).mono ?_; rintro e w1 ⟨rfl, hb1⟩)
  go_ret
  rw [← HR.out]
  exact ⟨rfl, hb1⟩

theorem rtFold_take {l : List PartT} {k : Nat} {x : PartT} {st : RtS} (h : rtFold (some rtInit) (l.take k) = some st) (hx : l[k]? = some x) : rtFold (some rtInit) (l.take (k + 1)) = rtStep st x := by
  rw [List.take_add_one, hx, Option.toList_some, rtFold_snoc, h]; rfl
theorem right6_false {l : List PartT} {k : Nat} {x : PartT} {st : RtS} (h : rtFold (some rtInit) (l.take k) = some st) (hx : l[k]? = some x) (hs : rtStep st x = none) : right6 l = false := by
  have h1 := rtFold_take h hx
  rw [hs] at h1
  have h2 : rtFold (some rtInit) l = none := by
    rw [← List.take_append_drop (k + 1) l]
    unfold rtFold at h1 ⊢
    rw [List.foldl_append, h1]
    exact rtFold_none _
  unfold right6
  rw [h2]; rfl
/-- what holds of the state on the way -/
def RtOk (st : RtS) (k : Nat) (prev : Option PartT) : Prop := 0 ≤ st.least ∧ 0 ≤ st.most ∧ st.most ≤ (st.inn.length : Int) ∧ st.inn.length ≤ k ∧ st.prev = prev
theorem RtOk.step {st st' : RtS} {k : Nat} {prev : Option PartT} {x : PartT} (h : RtOk st k prev) (hs : rtStep st x = some st') : RtOk st' (k + 1) (some x) := by
  obtain ⟨h1, h2, h3, h4, _⟩ := h
  obtain ⟨g1, g2, _, _, _, rfl⟩ := rtStep_some hs
  have hl : (rtIn st x).length = x.depth.toNat + 1 := by unfold rtIn; simp; omega
  refine ⟨?_, ?_, ?_, ?_, rfl⟩
  · show 0 ≤ (if x.opn = true then x.depth + 1 else st.least)
    split <;> omega
  · show 0 ≤ (if x.div = true then x.depth + 1 else x.depth)
    split <;> omega
  · show (if x.div = true then x.depth + 1 else x.depth) ≤ ((rtIn st x).length : Int)
    rw [hl]
    split <;> omega
  · show (rtIn st x).length ≤ k + 1
    rw [hl]; omega
theorem rtOk_take (l : List PartT) : ∀ (k : Nat) (st : RtS), k ≤ l.length → rtFold (some rtInit) (l.take k) = some st → RtOk st k (if k = 0 then none else l[k - 1]?)
  | 0, st, _, h => by
    have : rtInit = st := Option.some.inj h
    subst this
    exact ⟨Int.le_refl _, Int.le_refl _, Int.le_refl _, Nat.le_refl _, rfl⟩
  | k + 1, st, hk, h => by
    obtain ⟨x, hx⟩ : ∃ x, l[k]? = some x := ⟨_, List.getElem?_eq_getElem (by omega)⟩
    rcases h0 : rtFold (some rtInit) (l.take k) with _ | st0
    · rw [List.take_add_one, hx, Option.toList_some, rtFold_snoc, h0] at h; cases h
    · rw [rtFold_take h0 hx] at h
      have := (rtOk_take l k st0 (by omega) h0).step h
      rw [if_neg (by omega)]
      simpa [hx] using this
end Go.Proofs.YtgdnphmannbpgaaGreatDoor
/-
  frame.Right: its contract.
-/
namespace Go.Proofs.YtgdnphmannbpgaaGreatDoor
open Go.RowKit

theorem partCells_take (rs : List PartR) (k : Nat) : (partCells rs).take (k * 5) = partCells (rs.take k) := by
  induction rs generalizing k with
  | nil => simp [partCells]
  | cons x t ih =>
    rcases k with _ | k
    · simp [partCells]
    · have := ih k
      have e : partCells (x :: t) = x.cells ++ partCells t := rfl
      rw [e, List.take_append, part_len, List.take_of_length_le (by rw [part_len]; omega), show (k + 1) * 5 - 5 = k * 5 by omega, this]
      rfl

set_option maxHeartbeats 8000000 in
set_option maxRecDepth 100000 in
theorem right6_any (A : Option Addr) (n c K : Nat) (ps : List PartR) (w : World) (hr : PartsIn w K A n ps) (hn : n ≤ 1048576) (hK : K ≤ w.heap.size) (hz : ∀ p ∈ ps, PartSz p.t ∧ p.t.lines.length ≤ 9223372036854775807) :
    Calls Tryz.prog 65 #[.slice A n c] w fun e w' => e = .returned (.bool (right6 (ps.map (·.t)))) ∧ Below w.heap.size w w' := by
  have HL := Lib.hid hr.len
  go_enter Tryz.func65, Tryz.ntmps65
  go_wp2_with fail
  go_loopw [3, 4, 5, 10] (fun s3 s4 s5 s10 wr => ∃ (k : Nat) (st : RtS) (rs : List PartR) (A5 : Option Addr) (n5 c5 : Nat), k ≤ n ∧ s10 = .int .i64 k ∧ s3 = .int .i64 st.most ∧ s4 = .int .i64 st.least ∧ s5 = .slice A5 n5 c5 ∧
    rtFold (some rtInit) ((ps.map (·.t)).take k) = some st ∧ rs.map (·.t) = st.inn ∧ Own wr w.heap.size 67 5 A5 n5 c5 (partCells rs) ∧ Below w.heap.size w wr) (fun _ _ _ s10 _ => n - (intOf s10).toNat)
  case atStart => exact ⟨0, rtInit, [], none, 0, 0, Nat.zero_le _, rfl, rfl, rfl, rfl, rfl, rfl, Own.nil _ _ _ _, Below.refl _ _⟩
  case round =>
    obtain ⟨k, st, rs, A5, n5, c5, hk, rfl, rfl, rfl, rfl, hf, hin, hown, hb⟩ := hrel
    have hzw := hb.size
    have hok := rtOk_take (ps.map (·.t)) k st (by rw [List.length_map, HL.out]; exact hk) hf
    have hn5 : rs.length = n5 := by have := hown.len; rw [parts_length] at this; omega
    have hi5 : st.inn.length = n5 := by rw [← hin, List.length_map, hn5]
    obtain ⟨most, least, prev, inn⟩ := st
    obtain ⟨o1, o2, o3, o4, o5⟩ := hok
    simp only at o1 o2 o3 o4 o5 hin hi5
    have HF := Lib.hid hf
    have HIN := Lib.hid hin
    have HN5 := Lib.hid hn5
    rw [hi5] at o3 o4
    clear hf hin hn5 hi5
    by_cases hlt : k < n
    · obtain ⟨p, hp⟩ : ∃ p, ps[k]? = some p := ⟨_, List.getElem?_eq_getElem (by rw [HL.out]; exact hlt)⟩
      have hpl : (ps.map (·.t))[k]? = some p.t := by rw [List.getElem?_map, hp]; rfl
      have hbK := hb.mono hK
      have hrw := hr.1.below hbK
      obtain ⟨ad, rfl, had, c0, c1, c2, c3, c4⟩ := hrw.part hp hlt
      obtain ⟨hz1, hz2⟩ := hz p (List.mem_of_getElem? hp)
      have hlr := hr.2 p (List.mem_of_getElem? hp)
      have HPV : Hid (∀ j, k = j + 1 → ∃ q, ps[j]? = some q ∧ prev = some q.t) := Lib.hid fun j hj => by
        obtain ⟨q, hq⟩ : ∃ q, ps[j]? = some q := ⟨_, List.getElem?_eq_getElem (by rw [HL.out]; omega)⟩
        refine ⟨q, hq, ?_⟩
        rw [o5, if_neg (by omega), List.getElem?_map, show k - 1 = j by omega, hq]; rfl
      have HP0 : Hid (k = 0 → prev = none) := Lib.hid fun h => by rw [o5, if_pos h]
      have HT := Lib.hid (rtFold_take HF.out hpl)
      have HR : Hid (rtStep ⟨most, least, prev, inn⟩ p.t = none → right6 (ps.map (·.t)) = false) := Lib.hid (right6_false HF.out hpl)
      have HPA : Hid (∀ w1, Below w.heap.size w w1 → Calls Tryz.prog 83 #[.agg #[.int .i64 p.t.depth, .bool p.t.div, .string p.t.label, .bool p.t.opn, .slice p.la p.t.lines.length p.lc]] w1 fun e w' => e = .returned (.bool (partT p.t)) ∧ Below w1.heap.size w1 w') :=
        Lib.hid fun w1 hb1 => part_any p.t p.la p.t.lines.length p.lc K w1 rfl (hlr.below (hb1.mono hK)) hz2 hz1 (by have := hb1.size; omega)
      clear hp hpl hz1 hz2 hlr o5 HF
      obtain ⟨⟨d, v, lb, o, ls⟩, la, lc⟩ := p
      simp only at c0 c1 c2 c3 c4 HT HR HPA
      obtain ⟨m, hm⟩ : ∃ m, ls.length = m := ⟨_, rfl⟩
      rw [hm] at c4 HPA
      go_upto_region 7 with fail
      have hbW := hb.alloc hzw (.cells #[.int .i64 d, .bool v, .string lb, .bool o, .slice la m lc] 67)
      have hownW := hown.alloc (.cells #[.int .i64 d, .bool v, .string lb, .bool o, .slice la m lc] 67)
      have B0 : Blk (wr.alloc (.cells #[.int .i64 d, .bool v, .string lb, .bool o, .slice la m lc] 67)) wr.heap.size 67 #[.int .i64 d, .bool v, .string lb, .bool o, .slice la m lc] := Blk.new _ _ _
      obtain ⟨g, hg⟩ : ∃ g, wr.heap.size = g := ⟨_, rfl⟩
      rw [hg] at B0
      simp only [hg]
      have hgb : w.heap.size ≤ g := by omega
      have HAG : Hid (∀ a, A5 = some a → a.block < g) := Lib.hid fun a ha => by have := (hown.lt ha).2; omega
      clear hb hown hbK hrw c0 c1 c2 c3 c4
      generalize wr.alloc (.cells #[.int .i64 d, .bool v, .string lb, .bool o, .slice la m lc] 67) = W at *
      have hzW := hbW.size
      have hgW := B0.lt
      have d0 : W.cell? ⟨g, 0, none⟩ = some (.int .i64 d) := B0.cell 0
      have d1 : W.cell? ⟨g, 0 + 1, none⟩ = some (.bool v) := B0.cell 1
      have d2 : W.cell? ⟨g, 0 + 2, none⟩ = some (.string lb) := B0.cell 2
      have d3 : W.cell? ⟨g, 0 + 3, none⟩ = some (.bool o) := B0.cell 3
      have d4 : W.cell? ⟨g, 0 + 4, none⟩ = some (.slice la m lc) := B0.cell 4
      by_cases hA : d < least
      · have HX := Lib.hid (HR.out (by unfold rtStep; rw [if_pos (.inl hA)]))
        go_wp2_with fail
        go_ret
        rw [HX.out]
        exact ⟨rfl, hbW⟩
      by_cases hB : most < d
      · have HX := Lib.hid (HR.out (by unfold rtStep; rw [if_pos (.inr (.inl hB))]))
        go_wp2_with fail
        go_ret
        rw [HX.out]
        exact ⟨rfl, hbW⟩
      obtain ⟨pt, hpt⟩ : ∃ pt, partT ⟨d, v, lb, o, ls⟩ = pt := ⟨_, rfl⟩
      rw [hpt] at HPA
      cases pt
      · have HX := Lib.hid (HR.out (by unfold rtStep; rw [if_pos (.inr (.inr hpt))]))
        go_wp2_with (go_at_call 83; refine (HPA.out _ hbW).mono ?_; rintro e w1 ⟨rfl, b1⟩)
        go_ret
        rw [HX.out]
        exact ⟨rfl, hbW.trans (b1.mono hzW)⟩
      obtain ⟨dn, rfl⟩ : ∃ dn : Nat, d = dn := ⟨d.toNat, by omega⟩
      have hdn : dn ≤ n5 := by omega
      have hdk : dn ≤ k := by omega
      have hcl : ¬ ((dn : Int) < least ∨ most < (dn : Int) ∨ partT ⟨(dn : Int), v, lb, o, ls⟩ = false) := by rintro (h | h | h) <;> first | omega | (rw [hpt] at h; cases h)
      have hvo : v = false → o = false := fun h => (part_run hpt h).2.2.1
      have HCL := Lib.hid hcl
      have HVO := Lib.hid hvo
      clear hpt hcl hvo
      obtain ⟨cl, hcl⟩ : ∃ cl, clash prev ⟨(dn : Int), v, lb, o, ls⟩ = cl := ⟨_, rfl⟩
      have HCS := Lib.hid hcl
      clear hcl
      go_upto_region 9 with (go_at_call 83; refine (HPA.out _ hbW).mono ?_; rintro e w1 ⟨rfl, b1⟩)
      have hb1 := hbW.trans (b1.mono hzW)
      have hown1 := hownW.below b1 (Nat.le_refl _)
      have B1 := B0.below b1 hgW
      have hrw1 := hr.1.below (hb1.mono hK)
      have hz1 := hb1.size
      clear hbW hownW B0 d0 d1 d2 d3 d4 b1 hzW hgW HPA
      go_cut [56] (fun s wx => s = .bool cl ∧ ∃ mm, wx = w1.drewN mm)
      case first =>
        have e0 : w1.cell? ⟨g, 0, none⟩ = some (.int .i64 dn) := B1.cell 0
        have e1 : w1.cell? ⟨g, 0 + 1, none⟩ = some (.bool v) := B1.cell 1
        rcases Nat.eq_zero_or_pos k with hk0 | hpos
        · subst hk0
          have hcf : cl = false := by rw [← HCS.out, HP0.out rfl]; rfl
          subst hcf
          go_wp2_with fail
          go_quiet (fail)
          go_wp2_with fail
          go_meet
          exact ⟨rfl, _, rfl⟩
        · obtain ⟨j, hj⟩ : ∃ j, k = j + 1 := ⟨k - 1, by omega⟩
          obtain ⟨q, hq, hpq⟩ := HPV.out j hj
          obtain ⟨ad', had', _, f0, f1, _, _, _⟩ := hrw1.part hq (by omega)
          have had'' : ad = ad' := Option.some.inj had'
          subst had''
          have hcq : cl = (!v && !q.t.div && decide (q.t.depth = (dn : Int))) := by rw [← HCS.out, hpq]; rfl
          obtain ⟨⟨qd, qv, _, _, _⟩, _, _⟩ := q
          simp only at f0 f1 hcq
          have x1 : IntKind.wrap .i64 ((k : Int) - 1) = (k : Int) - 1 := IntWalk.i64_in _ (by omega)
          have x2 : (0 : Int) ≤ (k : Int) - 1 := by omega
          have x3 : ((k : Int) - 1).toNat = j := by omega
          have x4 : (k : Int) - 1 < (n : Int) := by omega
          have x7 : decide ((0 : Int) < (k : Int)) = true := decide_eq_true (by omega)
          clear hj hq hpq had' hrw1
          cases v
          · cases qv
            · by_cases hde : qd = (dn : Int)
              · rw [decide_eq_true hde] at hcq
                have hcf : cl = true := hcq
                have y1 : (qd == (dn : Int)) = true := beq_iff_eq.2 hde
                subst hcf
                clear hcq hde
                go_wp2_with fail
                go_quiet (fail)
                go_wp2_with fail
                go_meet
                exact ⟨rfl, _, rfl⟩
              · rw [decide_eq_false hde] at hcq
                have hcf : cl = false := hcq
                have y1 : (qd == (dn : Int)) = false := beq_eq_false_iff_ne.2 hde
                subst hcf
                clear hcq hde
                go_wp2_with fail
                go_quiet (fail)
                go_wp2_with fail
                go_meet
                exact ⟨rfl, _, rfl⟩
            · have hcf : cl = false := hcq
              subst hcf
              clear hcq
              go_wp2_with fail
              go_quiet (fail)
              go_wp2_with fail
              go_meet
              exact ⟨rfl, _, rfl⟩
          · have hcf : cl = false := hcq
            subst hcf
            clear hcq
            go_wp2_with fail
            go_quiet (fail)
            go_wp2_with fail
            go_meet
            exact ⟨rfl, _, rfl⟩
      case rest =>
        obtain ⟨rfl, mm, rfl⟩ := hcut
        cases cl
        · have HST : Hid (rtStep ⟨most, least, prev, inn⟩ ⟨(dn : Int), v, lb, o, ls⟩ = if o && (rtIn ⟨most, least, prev, inn⟩ ⟨(dn : Int), v, lb, o, ls⟩).any (fun y => !y.opn) then none else
              some ⟨if v then (dn : Int) + 1 else dn, if o then (dn : Int) + 1 else least, some ⟨(dn : Int), v, lb, o, ls⟩, rtIn ⟨most, least, prev, inn⟩ ⟨(dn : Int), v, lb, o, ls⟩⟩) :=
            Lib.hid (by unfold rtStep; rw [if_neg HCL.out, if_neg (by rw [HCS.out]; decide)])
          have HIN2 : Hid ((rs.take dn ++ [PartR.mk ⟨(dn : Int), v, lb, o, ls⟩ la lc]).map PartR.t = rtIn ⟨most, least, prev, inn⟩ ⟨(dn : Int), v, lb, o, ls⟩) := Lib.hid (by
            unfold rtIn; rw [List.map_append, List.map_take, HIN.out]; simp)
          have hownD : Own (w1.drewN mm) w.heap.size 67 5 A5 dn c5 (partCells (rs.take dn)) := by
            have := (hown1.drewN mm).take (m := dn) hdn
            rwa [show (partCells rs).take (dn * 5) = partCells (rs.take dn) from partCells_take rs dn] at this
          have hcap : dn ≤ c5 := hownD.cap
          have BD : Blk (w1.drewN mm) g 67 #[.int .i64 dn, .bool v, .string lb, .bool o, .slice la m lc] := B1.drewN mm
          have hbD := below_drewN' hb1 mm
          have hzD := hbD.size
          clear hown1 B1 hb1 hrw1 HPV HP0
          generalize w1.drewN mm = W at *
          have q1 : (0 : Int) ≤ (dn : Int) := by omega
          have q2 : ((dn : Int)).toNat = dn := by omega
          have q3 : (dn : Int) ≤ (c5 : Int) := by omega
          have hgW := BD.lt
          have e0 : W.cell? ⟨g, 0, none⟩ = some (.int .i64 dn) := BD.cell 0
          have e1 : W.cell? ⟨g, 0 + 1, none⟩ = some (.bool v) := BD.cell 1
          have e2 : W.cell? ⟨g, 0 + 2, none⟩ = some (.string lb) := BD.cell 2
          have e3 : W.cell? ⟨g, 0 + 3, none⟩ = some (.bool o) := BD.cell 3
          have e4 : W.cell? ⟨g, 0 + 4, none⟩ = some (.slice la m lc) := BD.cell 4
          go_upto_region 11 with fail
          have hsW : W.heap.size ≤ W.heap.size := Nat.le_refl _
          have hS : ∀ w3, Only (W.alloc (.cells #[.int .i64 dn, .bool v, .string lb, .bool o, .slice la m lc] 67)) w3 A5 → Blk w3 g 67 #[.int .i64 dn, .bool v, .string lb, .bool o, .slice la m lc] := fun w3 ho =>
            (BD.alloc _).only ho (fun a ha => by have := HAG.out a ha; omega)
          go_region_held3 (fun w' => w'.cell? ⟨g, 0, none⟩ = some (.int .i64 dn) ∧ w'.cell? ⟨g, 0 + 1, none⟩ = some (.bool v) ∧ w'.cell? ⟨g, 0 + 2, none⟩ = some (.string lb) ∧ w'.cell? ⟨g, 0 + 3, none⟩ = some (.bool o) ∧ w'.cell? ⟨g, 0 + 4, none⟩ = some (.slice la m lc)) (go_keep)
            ((refine step_app1 Tryz.elParts (by rfl) (.tmp 60) (.tmp 62) (by rfl) (by rfl) (by exact Own.drew (hownD.alloc _)) (by rfl) (Blk.new' _ _ _ _ (by simp)) (by rfl) (by simp [Value.oneCell']) (by simp only [maxLen]; omega) (by omega) (by simp; omega) ?_; intro A' c' w3 hown3 ho hmv; have ho' : Only (W.alloc (.cells #[.int .i64 dn, .bool v, .string lb, .bool o, .slice la m lc] 67)) w3 A5 := ⟨ho.os, ho.tape, ho.output, ho.size, ho.block⟩; have B3 := hS w3 ho'; have z0 := B3.cell 0; have z1 := B3.cell 1; have z2 := B3.cell 2; have z3 := B3.cell 3; have z4 := B3.cell 4))
          have hb3 := hbD.trans (ho'.of_alloc.below (fun a ha => (hownD.lt ha).1) hzD)
          have hz3 := hb3.size
          have hown4 : Own w3 w.heap.size 67 5 A' (dn + 1) c' (partCells (rs.take dn ++ [PartR.mk ⟨(dn : Int), v, lb, o, ls⟩ la lc])) := by
            rw [partCells_app]
            simp only [partCells, List.flatMap_cons, List.flatMap_nil, List.append_nil]
            simpa [PartR.cells, hm, partCells] using hown3
          have hg3 := B3.lt
          have hS3 : ∀ w4, Below w3.heap.size w3 w4 → w4.cell? ⟨g, 0, none⟩ = some (.int .i64 dn) ∧ w4.cell? ⟨g, 0 + 1, none⟩ = some (.bool v) ∧ w4.cell? ⟨g, 0 + 2, none⟩ = some (.string lb) ∧ w4.cell? ⟨g, 0 + 3, none⟩ = some (.bool o) ∧ w4.cell? ⟨g, 0 + 4, none⟩ = some (.slice la m lc) := fun w4 b4 => by
            have B4 := B3.below b4 hg3
            exact ⟨B4.cell 0, B4.cell 1, B4.cell 2, B4.cell 3, B4.cell 4⟩
          clear e0 e1 e2 e3 e4 BD hS hownD hown3 ho ho' hmv hsW B3 hbD hgW hzD hg3
          cases o
          · have HX : Hid (rtFold (some rtInit) ((ps.map (·.t)).take (k + 1)) = some ⟨if v then (dn : Int) + 1 else dn, least, some ⟨(dn : Int), v, lb, false, ls⟩, rtIn ⟨most, least, prev, inn⟩ ⟨(dn : Int), v, lb, false, ls⟩⟩) := Lib.hid (by
              rw [HT.out, HST.out]; rfl)
            cases v
            all_goals
              go_wp2_with fail
              go_roundw
              case rel =>
                exact ⟨k + 1, _, _, A', dn + 1, c', by omega, by go_num, by simp only [Bool.false_eq_true, if_false, if_true], rfl, rfl, HX.out, HIN2.out, hown4, hb3⟩
              case measure => simp [intOf]; omega
          · have hv1 : v = true := by
              cases v
              · exact absurd (HVO.out rfl) (by decide)
              · rfl
            subst hv1
            have HCA : Hid (Calls Tryz.prog 84 #[.slice A' (dn + 1) c', .func (.func 85) #[] #[]] w3 fun e w' => e = .returned (.bool ((rtIn ⟨most, least, prev, inn⟩ ⟨(dn : Int), true, lb, true, ls⟩).any (fun y => !y.opn))) ∧ Below w3.heap.size w3 w') := Lib.hid (by
              have := notOpenAny_any A' (dn + 1) c' w3.heap.size (rs.take dn ++ [PartR.mk ⟨(dn : Int), true, lb, true, ls⟩ la lc]) w3 hown4.reads (by omega) (Nat.le_refl _)
              rw [← HIN2.out, List.any_map]
              exact this)
            obtain ⟨an, han⟩ : ∃ an, (rtIn ⟨most, least, prev, inn⟩ ⟨(dn : Int), true, lb, true, ls⟩).any (fun y => !y.opn) = an := ⟨_, rfl⟩
            rw [han] at HCA
            have HAN := Lib.hid han
            clear han
            cases an
            · have HX : Hid (rtFold (some rtInit) ((ps.map (·.t)).take (k + 1)) = some ⟨(dn : Int) + 1, (dn : Int) + 1, some ⟨(dn : Int), true, lb, true, ls⟩, rtIn ⟨most, least, prev, inn⟩ ⟨(dn : Int), true, lb, true, ls⟩⟩) := Lib.hid (by
                rw [HT.out, HST.out, HAN.out]; rfl)
              have HB3 := Lib.hid (fun (w4 : World) (b4 : Below w3.heap.size w3 w4) => hS3 w4 b4)
              go_wp2_with (go_at_call 84; refine HCA.out.mono ?_; rintro e w4 ⟨rfl, b4⟩; obtain ⟨y0, y1, y2, y3, y4⟩ := HB3.out w4 b4)
              go_roundw
              case rel =>
                exact ⟨k + 1, _, _, A', dn + 1, c', by omega, by go_num, rfl, rfl, rfl, HX.out, HIN2.out, hown4.below b4 (Nat.le_refl _), hb3.trans (b4.mono hz3)⟩
              case measure => simp [intOf]; omega
            · have HX := Lib.hid (HR.out (by rw [HST.out, HAN.out]; rfl))
              go_wp2_with (go_at_call 84; refine HCA.out.mono ?_; rintro e w4 ⟨rfl, b4⟩)
              go_ret
              rw [HX.out]
              exact ⟨rfl, hb3.trans (b4.mono hz3)⟩
        · have HX := Lib.hid (HR.out (by unfold rtStep; rw [if_neg HCL.out, if_pos HCS.out]))
          go_wp2_with fail
          go_ret
          rw [HX.out]
          exact ⟨rfl, below_drewN' hb1 _⟩
    · have hkn : k = n := by omega
      subst hkn
      have HX : Hid (right6 (ps.map (·.t)) = true) := Lib.hid (by
        have := HF.out
        rw [List.take_of_length_le (by rw [List.length_map, HL.out]; omega)] at this
        unfold right6
        rw [this]; rfl)
      go_wp2_with fail
      go_ret
      rw [HX.out]
      exact ⟨rfl, hb⟩
end Go.Proofs.YtgdnphmannbpgaaGreatDoor
/-
  frame.Write, with the function within it that ends divisions: contracts.
-/
namespace Go.Proofs.YtgdnphmannbpgaaGreatDoor
open Go.RowKit

/-- what a Write holds: two variables, with their rows -/
structure WSt (w : World) (base gi go : Nat) (Ai : Option Addr) (ci : Nat) (out : List ByteArray) (rs : List PartR) : Prop where
  bi : Blk w gi 63 #[.slice Ai rs.length ci]
  own : Own w base 67 5 Ai rs.length ci (partCells rs)
  bo : ∃ Ao co, Blk w go 22 #[.slice Ao out.length co] ∧ Own w base 9 1 Ao out.length co (txCells out)
theorem WSt.below {w w' : World} {base gi go K ci : Nat} {Ai : Option Addr} {out : List ByteArray} {rs : List PartR} (h : WSt w base gi go Ai ci out rs) (hb : Below K w w') (hK : w.heap.size ≤ K) : WSt w' base gi go Ai ci out rs := by
  obtain ⟨h1, h2, Ao, co, h3, h4⟩ := h
  exact ⟨h1.below hb (by have := h1.lt; omega), h2.below hb hK, Ao, co, h3.below hb (by have := h3.lt; omega), h4.below hb hK⟩
theorem WSt.alloc {w : World} {base gi go ci : Nat} {Ai : Option Addr} {out : List ByteArray} {rs : List PartR} (h : WSt w base gi go Ai ci out rs) (o : Obj) : WSt (w.alloc o) base gi go Ai ci out rs := by
  obtain ⟨h1, h2, Ao, co, h3, h4⟩ := h
  exact ⟨h1.alloc o, h2.alloc o, Ao, co, h3.alloc o, h4.alloc o⟩
/-- blocks that hold a part stay -/
def KeepsP (w w' : World) : Prop := ∀ k cs, Blk w k 67 cs → Blk w' k 67 cs
theorem KeepsP.trans {a b c : World} (h : KeepsP a b) (k : KeepsP b c) : KeepsP a c := fun i cs hi => k i cs (h i cs hi)
theorem KeepsP.alloc (w : World) (o : Obj) : KeepsP w (w.alloc o) := fun _ _ h => h.alloc o
theorem KeepsP.set_ {w : World} {g t : Nat} {cs : Array Value} (h : Blk w g t cs) (hne : t ≠ 67) (u : Value) : KeepsP w (w.setCell ⟨g, 0, none⟩ u) := fun _ _ hk => hk.far (hk.ne_ h (Ne.symm hne)) u
theorem KeepsP.only {w w' : World} {base n c : Nat} {A : Option Addr} {xs : List Value} (h : Own w base 9 1 A n c xs) (ho : Only w w' A) : KeepsP w w' := fun _ _ hk => hk.only ho (h.blk_ne hk (by decide))

theorem Own.setBlk {w : World} {base e size n c g t : Nat} {A : Option Addr} {xs : List Value} {cs : Array Value} (h : Own w base e size A n c xs) (hb : Blk w g t cs) (hne : e ≠ t) (u : Value) : Own (w.setCell ⟨g, 0, none⟩ u) base e size A n c xs :=
  h.only (only_setCell w g 0 u) (fun a b ha hb' => by
    injection hb' with hb'
    rw [← hb']
    exact h.blk_ne hb hne a ha)

def lenAt (w : World) (p : Addr) : Nat := match w.cell? p with
  | some (.slice _ n _) => n
  | _ => 0
theorem notOpn_snoc (l : List PartT) (x : PartT) (d : Nat) (h : d ≤ l.length) : notOpn ((l ++ [x]).drop d) = notOpn (l.drop d) + (if x.opn then 0 else 1) := by
  unfold notOpn
  rw [List.drop_append_of_le_length h, List.countP_append]
  cases h : x.opn <;> simp [h]

set_option maxHeartbeats 4000000 in
set_option maxRecDepth 100000 in
theorem end_any (base gi go d : Nat) (Ai : Option Addr) (ci : Nat) (out : List ByteArray) (rs : List PartR) (w : World) (h : WSt w base gi go Ai ci out rs) (h1 : base ≤ gi) (h2 : base ≤ go) (hbs : base ≤ w.heap.size) (hd : d ≤ 1048576) (hN : out.length + rs.length ≤ 1099511627776) :
    Calls Tryz.prog 66 #[.int .i64 (d : Int), .pointer (some ⟨gi, 0, none⟩), .pointer (some ⟨go, 0, none⟩)] w fun e w' => e = .returned (.tuple #[]) ∧
      WSt w' base gi go Ai ci (out ++ List.replicate (notOpn ((rs.map (·.t)).drop d)) shutB) (rs.take d) ∧ Below base w w' ∧ KeepsP w w' := by
  have HN := Lib.hid hN
  clear hN
  go_enter Tryz.func66, Tryz.ntmps66
  go_wp2_with fail
  go_loopw [4] (fun _ wr => ∃ (m : Nat) (out' : List ByteArray), m ≤ rs.length ∧ min d rs.length ≤ m ∧ WSt wr base gi go Ai ci out' (rs.take m) ∧ out'.length + m ≤ out.length + rs.length ∧
    out' ++ List.replicate (notOpn (((rs.take m).map (·.t)).drop d)) shutB = out ++ List.replicate (notOpn ((rs.map (·.t)).drop d)) shutB ∧ base ≤ wr.heap.size ∧ Below base w wr ∧ KeepsP w wr) (fun _ wr => lenAt wr ⟨gi, 0, none⟩)
  case atStart => exact ⟨rs.length, out, Nat.le_refl _, Nat.min_le_right _ _, by rw [List.take_length]; exact h, Nat.le_refl _, by rw [List.take_length], hbs, Below.refl _ _, fun _ _ h => h⟩
  case round =>
    obtain ⟨m, out', hm, hmd, hW, hNm, hout, hbr, hb, hkp⟩ := hrel
    obtain ⟨b1, own, Ao, co, b2, own2⟩ := hW
    have hml : (rs.take m).length = m := by rw [List.length_take]; omega
    rw [hml] at b1 own
    have HO := Lib.hid hout
    have HML := Lib.hid hml
    have HNM := Lib.hid hNm
    have HMD := Lib.hid hmd
    clear hout hml hNm hmd
    have e0 : wr.cell? ⟨gi, 0, none⟩ = some (.slice Ai m ci) := b1.cell 0
    by_cases hlt : d < m
    · obtain ⟨j, rfl⟩ : ∃ j, m = j + 1 := ⟨m - 1, by omega⟩
      obtain ⟨p, hp⟩ : ∃ p, rs[j]? = some p := ⟨_, List.getElem?_eq_getElem (by omega)⟩
      have hpj : (rs.take (j + 1))[j]? = some p := by rw [List.getElem?_take, if_pos (by omega)]; exact hp
      obtain ⟨g, rfl, hgb, hgl⟩ := own.some_ (by omega)
      have k3 : wr.cell? ⟨g, j * 5 + 3, none⟩ = some (.bool p.t.opn) := own.cell ((flat_get PartR.cells 5 part_len (rs.take (j + 1)) j 3 (by omega) hpj).trans rfl)
      have hcap := own.cap
      have hmeas : Hid (lenAt wr ⟨gi, 0, none⟩ = j + 1) := Lib.hid (by unfold lenAt; rw [e0])
      have HTK : Hid (notOpn (((rs.take (j + 1)).map (·.t)).drop d) = notOpn (((rs.take j).map (·.t)).drop d) + (if p.t.opn then 0 else 1)) := Lib.hid (by
        rw [List.take_add_one, hp, Option.toList_some, List.map_append]
        exact notOpn_snoc _ _ _ (by simp; omega))
      have f0 := b1.frozen 0
      have f1 := b2.frozen 0
      have e1 : wr.cell? ⟨go, 0, none⟩ = some (.slice Ao out'.length co) := b2.cell 0
      have hjn : j + 1 ≤ 1099511627776 := by have := HN.out; omega
      have hon : out'.length + 1 ≤ 1099511627777 := by have := HN.out; have := HNM.out; omega
      have hti : (rs.take (j + 1)).take j = rs.take j := by rw [List.take_take, Nat.min_eq_left (by omega)]
      have hownj : Own wr base 67 5 (some ⟨g, 0, none⟩) j ci (partCells (rs.take j)) := by
        have := own.take (m := j) (by omega)
        rwa [partCells_take, hti] at this
      have hjl : (rs.take j).length = j := by rw [List.length_take]; omega
      have HJL := Lib.hid hjl
      clear hp hpj hti hjl
      cases hop : p.t.opn
      · rw [hop] at k3
        have HOP : Hid (notOpn (((rs.take (j + 1)).map (·.t)).drop d) = notOpn (((rs.take j).map (·.t)).drop d) + 1) := Lib.hid (by rw [HTK.out, hop]; rfl)
        clear HTK hop
        generalize hol : out'.length = ol at *
        have HOL := Lib.hid hol
        clear hol
        go_upto_region 3 with (at_builtin; refine wpList_app1 Tryz.elTexts rfl (.tmp 16) (.tmp 17) rfl rfl (by exact own2.alloc _) rfl (Blk.new' _ _ _ _ (by simp)) rfl (by simp [Value.oneCell']) (by simp only [maxLen]; omega) (by omega) (by simp; omega) ?_
                               intro A2 c2 w2 hr2 ho2 hm2
                               have b1' := (b1.alloc (.cells #[.string ⟨#[58, 58, 58]⟩] 9)).only ho2 (own2.blk_ne b1 (by decide))
                               have b2' := (b2.alloc (.cells #[.string ⟨#[58, 58, 58]⟩] 9)).only ho2 (own2.blk_ne b2 (by decide))
                               have hown' := (hownj.alloc (.cells #[.string ⟨#[58, 58, 58]⟩] 9)).only ho2 (hownj.sep_ne own2 (by decide))
                               have hk2 := (KeepsP.alloc wr (.cells #[.string ⟨#[58, 58, 58]⟩] 9)).trans (KeepsP.only (own2.alloc _) ho2)
                               have hb2 := hb.trans (ho2.of_alloc.below (fun a ha => (own2.lt ha).1) hbr)
                               have g1 := b2'.frozen 0
                               have g2 : w2.cell? ⟨go, 0, none⟩ = some (.slice Ao ol co) := b2'.cell 0)
        have b2'' : Blk (w2.setCell ⟨go, 0, none⟩ (.slice A2 (ol + 1) c2)) go 22 #[.slice A2 (ol + 1) c2] := b2'.set_ 0 _
        have b1'' := b1'.far (p := ⟨go, 0, none⟩) (b1'.ne_ b2' (by decide)) (.slice A2 (ol + 1) c2)
        have hown'' := hown'.setBlk b2' (by decide) (.slice A2 (ol + 1) c2)
        have hr2'' := hr2.setBlk b2' (by decide) (.slice A2 (ol + 1) c2)
        have hk3 := hk2.trans (KeepsP.set_ b2' (by decide) (.slice A2 (ol + 1) c2))
        have hb3 := hb2.setCell (p := ⟨go, 0, none⟩) h2 (.slice A2 (ol + 1) c2)
        generalize w2.setCell ⟨go, 0, none⟩ (.slice A2 (ol + 1) c2) = w3 at *
        have b1f : Blk (w3.setCell ⟨gi, 0, none⟩ (.slice (some ⟨g, 0, none⟩) j ci)) gi 63 #[.slice (some ⟨g, 0, none⟩) j ci] := b1''.set_ 0 _
        have y0 : w3.cell? ⟨gi, 0, none⟩ = some (.slice (some ⟨g, 0, none⟩) (j + 1) ci) := b1''.cell 0
        have y1 := b1''.frozen 0
        go_wp2_with fail
        go_roundw
        case rel =>
          refine ⟨j, out' ++ [shutB], by omega, by have := HMD.out; omega, ⟨by rw [HJL.out]; exact b1f, by rw [HJL.out]; exact hown''.setBlk b1'' (by decide) _, A2, c2, ?_, ?_⟩, ?_, ?_, ?_, ?_, ?_⟩
          · have := b2''.far (p := ⟨gi, 0, none⟩) (b2''.ne_ b1'' (by decide)) (.slice (some ⟨g, 0, none⟩) j ci)
            rw [List.length_append, HOL.out]; exact this
          · have := hr2''.setBlk b1'' (by decide) (.slice (some ⟨g, 0, none⟩) j ci)
            rw [List.length_append, HOL.out]
            simpa [txCells, shutB] using this
          · have := HNM.out
            rw [List.length_append, HOL.out]; simp only [List.length_singleton]; omega
          · rw [← HO.out, HOP.out, List.append_assoc]
            rfl
          · have := hb3.size; simp [World.setCell]; omega
          · exact hb3.setCell (p := ⟨gi, 0, none⟩) h1 _
          · exact hkp.trans (hk3.trans (KeepsP.set_ b1'' (by decide) _))
        case measure =>
          have : lenAt (w3.setCell ⟨gi, 0, none⟩ (.slice (some ⟨g, 0, none⟩) j ci)) ⟨gi, 0, none⟩ = j := by unfold lenAt; rw [show (w3.setCell ⟨gi, 0, none⟩ (.slice (some ⟨g, 0, none⟩) j ci)).cell? ⟨gi, 0, none⟩ = some (.slice (some ⟨g, 0, none⟩) j ci) from b1f.cell 0]
          have := hmeas.out
          omega
      · rw [hop] at k3
        have HOP : Hid (notOpn (((rs.take (j + 1)).map (·.t)).drop d) = notOpn (((rs.take j).map (·.t)).drop d)) := Lib.hid (by rw [HTK.out, hop]; rfl)
        clear HTK hop
        have b1f : Blk (wr.setCell ⟨gi, 0, none⟩ (.slice (some ⟨g, 0, none⟩) j ci)) gi 63 #[.slice (some ⟨g, 0, none⟩) j ci] := b1.set_ 0 _
        have b2f := b2.far (p := ⟨gi, 0, none⟩) (b2.ne_ b1 (by decide)) (.slice (some ⟨g, 0, none⟩) j ci)
        have o2f := own2.setBlk b1 (by decide) (.slice (some ⟨g, 0, none⟩) j ci)
        have o1f := hownj.setBlk b1 (by decide) (.slice (some ⟨g, 0, none⟩) j ci)
        have hbf := hb.setCell (p := ⟨gi, 0, none⟩) h1 (.slice (some ⟨g, 0, none⟩) j ci)
        have hkf := KeepsP.set_ b1 (by decide) (.slice (some ⟨g, 0, none⟩) j ci)
        go_wp2_with fail
        go_roundw
        case rel =>
          exact ⟨j, out', by omega, by have := HMD.out; omega, ⟨by rw [HJL.out]; exact b1f, by rw [HJL.out]; exact o1f, Ao, co, b2f, o2f⟩, by have := HNM.out; omega, by rw [← HO.out, HOP.out], by simp [World.setCell]; omega, hbf, hkp.trans hkf⟩
        case measure =>
          have : lenAt (wr.setCell ⟨gi, 0, none⟩ (.slice (some ⟨g, 0, none⟩) j ci)) ⟨gi, 0, none⟩ = j := by unfold lenAt; rw [show (wr.setCell ⟨gi, 0, none⟩ (.slice (some ⟨g, 0, none⟩) j ci)).cell? ⟨gi, 0, none⟩ = some (.slice (some ⟨g, 0, none⟩) j ci) from b1f.cell 0]
          have := hmeas.out
          omega
    · have hmm : m = min d rs.length := by have := HMD.out; omega
      have hz : ¬ (d : Int) < (m : Int) := by omega
      go_wp2_with fail
      go_end0
      have htk : rs.take d = rs.take m := by
        rw [hmm]
        rcases Nat.le_total d rs.length with h | h
        · rw [Nat.min_eq_left h]
        · rw [Nat.min_eq_right h, List.take_of_length_le h, List.take_length]
      have hnil : ((rs.take m).map (·.t)).drop d = [] := List.drop_eq_nil_of_le (by rw [List.length_map, HML.out]; omega)
      have hout := HO.out
      rw [hnil] at hout
      have hout' : out' = out ++ List.replicate (notOpn ((rs.map (·.t)).drop d)) shutB := by rw [← hout]; simp [notOpn]
      rw [htk, ← hout']
      exact ⟨rfl, ⟨by rw [HML.out]; exact b1, by rw [HML.out]; exact own, Ao, co, b2, own2⟩, hb, hkp⟩
end Go.Proofs.YtgdnphmannbpgaaGreatDoor
/-
  frame.Write: its contract.
-/
namespace Go.Proofs.YtgdnphmannbpgaaGreatDoor
open Go.RowKit

/-- how many lines parts may stand for, at most -/
def lineN (l : List PartT) : Nat := (l.map fun p => p.lines.length + 2).sum
theorem lineN_take (l : List PartT) (k : Nat) : lineN (l.take k) ≤ lineN l := by
  conv => rhs; rw [← List.take_append_drop k l]
  unfold lineN
  rw [List.map_append, List.sum_append]
  omega
theorem lineN_get {l : List PartT} {k : Nat} {x : PartT} (h : l[k]? = some x) : lineN (l.take (k + 1)) = lineN (l.take k) + (x.lines.length + 2) := by
  rw [List.take_add_one, h, Option.toList_some]
  unfold lineN
  rw [List.map_append, List.sum_append]
  simp
theorem notOpn_le (l : List PartT) : notOpn l ≤ l.length := List.countP_le_length
theorem wrFold_len (l : List PartT) : ∀ k, (wrFold (l.take k)).out.length + (wrFold (l.take k)).inn.length ≤ lineN (l.take k)
  | 0 => by simp [wrFold, wrInit, lineN]
  | k + 1 => by
    have ih := wrFold_len l k
    rcases hk : l[k]? with _ | x
    · have : l.length ≤ k := by rw [List.getElem?_eq_none_iff] at hk; exact hk
      rw [List.take_of_length_le (by omega)] at ih ⊢
      exact ih
    · rw [lineN_get hk, List.take_add_one, hk, Option.toList_some, wrFold_snoc]
      generalize wrFold (l.take k) = ws at *
      unfold wrStep
      have h1 := notOpn_le (ws.inn.drop x.depth.toNat)
      simp only [List.length_append, List.length_replicate, List.length_take, List.length_drop] at h1 ⊢
      cases x.div <;> simp <;> omega
theorem right6_each {l : List PartT} (h : right6 l = true) : ∀ (k : Nat) x, l[k]? = some x → partT x = true ∧ 0 ≤ x.depth ∧ x.depth ≤ k := by
  intro k x hx
  obtain ⟨s, hs⟩ := Option.isSome_iff_exists.1 h
  have hk : k < l.length := (List.getElem?_eq_some_iff.1 hx).1
  rcases h0 : rtFold (some rtInit) (l.take k) with _ | st0
  · exfalso
    have : rtFold (some rtInit) l = none := by
      rw [← List.take_append_drop k l]
      unfold rtFold at h0 ⊢
      rw [List.foldl_append, h0]
      exact rtFold_none _
    rw [this] at hs; cases hs
  · rcases h1 : rtStep st0 x with _ | st1
    · have := right6_false h0 hx h1
      rw [h] at this; cases this
    · obtain ⟨g1, g2, g3, _⟩ := rtStep_some h1
      obtain ⟨o1, o2, o3, o4, _⟩ := rtOk_take l k st0 (by omega) h0
      exact ⟨g3, by omega, by omega⟩

/-- lines behind those that are there: the append's row, then the store -/
theorem WSt.outApp {w w' : World} {base gi go ci m c2 co : Nat} {Ai Ao A2 : Option Addr} {out news : List ByteArray} {rs : List PartR} (h : WSt w base gi go Ai ci out rs) (h2 : base ≤ go) (hbs : base ≤ w.heap.size)
    (bo : Blk w go 22 #[.slice Ao out.length co]) (own2 : Own w base 9 1 Ao out.length co (txCells out)) (hm : news.length = m)
    (ho : Only w w' Ao) (hr : Own w' base 9 1 A2 (out.length + m) c2 (txCells out ++ txCells news)) :
    WSt (w'.setCell ⟨go, 0, none⟩ (.slice A2 (out.length + m) c2)) base gi go Ai ci (out ++ news) rs ∧ Below base w (w'.setCell ⟨go, 0, none⟩ (.slice A2 (out.length + m) c2)) ∧ KeepsP w (w'.setCell ⟨go, 0, none⟩ (.slice A2 (out.length + m) c2)) := by
  have b1 := h.bi.only ho (own2.blk_ne h.bi (by decide))
  have b2 := bo.only ho (own2.blk_ne bo (by decide))
  have o1 := h.own.only ho (h.own.sep_ne own2 (by decide))
  refine ⟨⟨b1.far (p := ⟨go, 0, none⟩) (b1.ne_ b2 (by decide)) _, o1.setBlk b2 (by decide) _, A2, c2, ?_, ?_⟩, (ho.below (fun a ha => (own2.lt ha).1) hbs).setCell (p := ⟨go, 0, none⟩) h2 _, (KeepsP.only own2 ho).trans (KeepsP.set_ b2 (by decide) _)⟩
  · rw [List.length_append, hm]; exact b2.set_ 0 _
  · have := hr.setBlk b2 (by decide) (.slice A2 (out.length + m) c2)
    rw [List.length_append, hm]
    simpa [txCells] using this
/-- a division more -/
theorem WSt.inApp {w w' : World} {base gi go ci c2 : Nat} {Ai A2 : Option Addr} {out : List ByteArray} {rs : List PartR} {q : PartR} (h : WSt w base gi go Ai ci out rs) (h1 : base ≤ gi) (hbs : base ≤ w.heap.size)
    (ho : Only w w' Ai) (hr : Own w' base 67 5 A2 (rs.length + 1) c2 (partCells rs ++ q.cells)) :
    WSt (w'.setCell ⟨gi, 0, none⟩ (.slice A2 (rs.length + 1) c2)) base gi go A2 c2 out (rs ++ [q]) ∧ Below base w (w'.setCell ⟨gi, 0, none⟩ (.slice A2 (rs.length + 1) c2)) := by
  obtain ⟨k1, k2, Ao, co, k3, k4⟩ := h
  have b1 := k1.only ho (k2.blk_ne k1 (by decide))
  have b2 := k3.only ho (k2.blk_ne k3 (by decide))
  have o2 := k4.only ho (k4.sep_ne k2 (by decide))
  refine ⟨⟨?_, ?_, Ao, co, b2.far (p := ⟨gi, 0, none⟩) (b2.ne_ b1 (by decide)) _, o2.setBlk b1 (by decide) _⟩, (ho.below (fun a ha => (k2.lt ha).1) hbs).setCell (p := ⟨gi, 0, none⟩) h1 _⟩
  · rw [List.length_append]; exact b1.set_ 0 _
  · have := hr.setBlk b1 (by decide) (.slice A2 (rs.length + 1) c2)
    rw [List.length_append, partCells_app]
    simpa [partCells] using this

set_option maxHeartbeats 8000000 in
set_option maxRecDepth 100000 in
theorem write6_any (A : Option Addr) (n c K : Nat) (ps : List PartR) (w : World) (hr : PartsIn w K A n ps) (hn : n ≤ 1048576) (hK : K ≤ w.heap.size) (hz : ∀ p ∈ ps, PartSz p.t ∧ p.t.lines.length ≤ 9223372036854775807) (hN : lineN (ps.map (·.t)) ≤ 1099511627776) :
    Calls Tryz.prog 33 #[.slice A n c] w fun e w' => ∃ A' c', e = .returned (.tuple #[.slice A' (write6 (ps.map (·.t))).length c', .bool (right6 (ps.map (·.t)))]) ∧
      Own w' w.heap.size 9 1 A' (write6 (ps.map (·.t))).length c' (txCells (write6 (ps.map (·.t)))) ∧ Below w.heap.size w w' := by
  have HL := Lib.hid hr.len
  have HRT : Hid (∀ w1, Below w.heap.size w w1 → Calls Tryz.prog 65 #[.slice A n c] w1 fun e w' => e = .returned (.bool (right6 (ps.map (·.t)))) ∧ Below w1.heap.size w1 w') :=
    Lib.hid fun w1 hb => right6_any A n c K ps w1 (hr.below (hb.mono hK)) hn (by have := hb.size; omega) hz
  unfold write6
  cases hrt : right6 (ps.map (·.t))
  · rw [hrt] at HRT
    go_enter Tryz.func33, Tryz.ntmps33
    go_wp2_with (go_at_call 65; refine (HRT.out _ (Below.refl _ _)).mono ?_; rintro e w1 ⟨rfl, b1⟩)
    go_ret2
    exact ⟨none, 0, rfl, Own.nil _ _ _ _, b1⟩
  · rw [hrt] at HRT
    rw [if_pos rfl]
    have HE := Lib.hid (right6_each hrt)
    have HNN := Lib.hid hN
    clear hrt hN
    go_enter Tryz.func33, Tryz.ntmps33
    go_upto_region 6 with (go_at_call 65; refine (HRT.out _ (Below.refl _ _)).mono ?_; rintro e w1 ⟨rfl, b1⟩)
    obtain ⟨q, hq⟩ : ∃ q, w1.heap.size = q := ⟨_, rfl⟩
    have hqb : w.heap.size ≤ q := by rw [← hq]; exact b1.size
    have hB1 : Blk ((w1.alloc (.cells #[.slice none 0 0] 22)).alloc (.cells #[.slice none 0 0] 63)) q 22 #[.slice none 0 0] := (Blk.new' _ _ _ _ hq).alloc _
    have hB2 : Blk ((w1.alloc (.cells #[.slice none 0 0] 22)).alloc (.cells #[.slice none 0 0] 63)) (q + 1) 63 #[.slice none 0 0] := Blk.new' _ _ _ _ (by simp [hq])
    have hb2 : Below w.heap.size w ((w1.alloc (.cells #[.slice none 0 0] 22)).alloc (.cells #[.slice none 0 0] 63)) := (b1.alloc b1.size _).alloc (by simp; omega) _
    simp only [hq]
    clear hq b1 HRT
    generalize (w1.alloc (.cells #[.slice none 0 0] 22)).alloc (.cells #[.slice none 0 0] 63) = w2 at *
    have hW0 : WSt w2 w.heap.size (q + 1) q none 0 [] [] := ⟨hB2, Own.nil _ _ _ _, none, 0, hB1, Own.nil _ _ _ _⟩
    clear hB1 hB2
    go_wp2_with fail
    go_loopw [15] (fun s15 wr => ∃ (k : Nat) (rs : List PartR) (Ai : Option Addr) (ci : Nat), k ≤ n ∧ s15 = .int .i64 k ∧ WSt wr w.heap.size (q + 1) q Ai ci (wrFold ((ps.map (·.t)).take k)).out rs ∧ rs.map (·.t) = (wrFold ((ps.map (·.t)).take k)).inn ∧ Below w.heap.size w wr) (fun s15 _ => n - (intOf s15).toNat)
    case atStart => exact ⟨0, [], none, 0, Nat.zero_le _, rfl, hW0, rfl, hb2⟩
    case round =>
      clear hW0 hb2
      obtain ⟨k, rs, Ai, ci, hk, rfl, hW, hin, hb⟩ := hrel
      have hzw := hb.size
      have hle := wrFold_len (ps.map (·.t)) k
      have hle2 := lineN_take (ps.map (·.t)) k
      have hirs : rs.length = (wrFold ((ps.map (·.t)).take k)).inn.length := by rw [← hin, List.length_map]
      by_cases hlt : k < n
      · obtain ⟨p, hp⟩ : ∃ p, ps[k]? = some p := ⟨_, List.getElem?_eq_getElem (by rw [HL.out]; exact hlt)⟩
        have hpl : (ps.map (·.t))[k]? = some p.t := by rw [List.getElem?_map, hp]; rfl
        have hbK := hb.mono hK
        obtain ⟨ad, rfl, had, c0, c1, c2, c3, c4⟩ := (hr.1.below hbK).part hp hlt
        have hlr := hr.2 p (List.mem_of_getElem? hp)
        obtain ⟨pt, pd0, pdk⟩ := HE.out k p.t hpl
        have hF : wrFold ((ps.map (·.t)).take (k + 1)) = wrStep (wrFold ((ps.map (·.t)).take k)) p.t := by rw [List.take_add_one, hpl, Option.toList_some, wrFold_snoc]
        have hle3 := lineN_take (ps.map (·.t)) (k + 1)
        rw [lineN_get hpl] at hle3
        have hNt := HNN.out
        have HF := Lib.hid hF
        have HIN := Lib.hid hin
        clear hp hpl hF hin
        generalize wrFold ((ps.map (·.t)).take k) = ws at *
        obtain ⟨out, inn⟩ := ws
        simp only at hW hle hirs
        obtain ⟨⟨d, v, lb, o, ls⟩, la, lc⟩ := p
        simp only at c0 c1 c2 c3 c4 pt pd0 pdk hlr hle3
        obtain ⟨dn, rfl⟩ : ∃ dn : Nat, d = dn := ⟨d.toNat, by omega⟩
        obtain ⟨m, hm⟩ : ∃ m, ls.length = m := ⟨_, rfl⟩
        rw [hm] at c4 hlr hle3
        have hom : out.length + rs.length + m + 2 ≤ 1099511627776 := by omega
        have hkk : dn ≤ k := by omega
        have HM := Lib.hid hm
        clear hle hle2 hle3 hNt hirs hm
        go_upto_region 9 with fail
        have hbW := hb.alloc hzw (.cells #[.int .i64 dn, .bool v, .string lb, .bool o, .slice la m lc] 67)
        have hWW := hW.alloc (.cells #[.int .i64 dn, .bool v, .string lb, .bool o, .slice la m lc] 67)
        have B0 : Blk (wr.alloc (.cells #[.int .i64 dn, .bool v, .string lb, .bool o, .slice la m lc] 67)) wr.heap.size 67 #[.int .i64 dn, .bool v, .string lb, .bool o, .slice la m lc] := Blk.new _ _ _
        obtain ⟨g, hg⟩ : ∃ g, wr.heap.size = g := ⟨_, rfl⟩
        rw [hg] at B0
        simp only [hg]
        have HAG : Hid (∀ a, Ai = some a → a.block < g) := Lib.hid fun a ha => by have := (hW.own.lt ha).2; omega
        clear hb hW hbK c0 c1 c2 c3 c4 hzw hg
        generalize wr.alloc (.cells #[.int .i64 dn, .bool v, .string lb, .bool o, .slice la m lc] 67) = W at *
        have hzW := hbW.size
        have d0 : W.cell? ⟨g, 0, none⟩ = some (.int .i64 dn) := B0.cell 0
        have HEND := Lib.hid (end_any w.heap.size (q + 1) q dn Ai ci out rs W hWW (by omega) hqb hzW (by omega) (by omega))
        go_upto_region 10 with (go_at_call 66; refine HEND.out.mono ?_; rintro e w3 ⟨rfl, hW3, hb3, hk3⟩)
        have B3 := hk3 _ _ B0
        have hbw3 := hbW.trans hb3
        have hz3 := hbw3.size
        clear HEND hWW hbW B0 d0 hb3 hk3 hzW
        have hRP : Hid (notOpn ((rs.map (·.t)).drop dn) ≤ rs.length) := Lib.hid (by have := notOpn_le ((rs.map (·.t)).drop dn); simp at this; omega)
        have hout3 : (out ++ List.replicate (notOpn ((rs.map (·.t)).drop dn)) shutB).length + m + 2 ≤ 1099511627776 := by
          have := hRP.out
          simp only [List.length_append, List.length_replicate]; omega
        have HOUT3 : Hid (out ++ List.replicate (notOpn ((rs.map (·.t)).drop dn)) shutB = out ++ List.replicate (notOpn (inn.drop dn)) shutB) := Lib.hid (by rw [show rs.map (·.t) = inn from HIN.out])
        generalize out ++ List.replicate (notOpn ((rs.map (·.t)).drop dn)) shutB = out3 at *
        have hi3 : (rs.take dn).map (·.t) = inn.take dn := by rw [List.map_take]; rw [show rs.map (·.t) = inn from HIN.out]
        have hi3l : (rs.take dn).length ≤ dn := by rw [List.length_take]; exact Nat.min_le_left _ _
        generalize rs.take dn = rs3 at *
        have HI3 := Lib.hid hi3
        clear hi3 hRP
        have e1 : w3.cell? ⟨g, 0 + 1, none⟩ = some (.bool v) := B3.cell 1
        cases v
        · obtain ⟨p1, p2, p3, p4⟩ := part_run pt rfl
          obtain ⟨Ao, co, bo, own2⟩ := hW3.bo
          have hsrc : Reads w3 K 1 la m (txCells ls) := hlr.below (hbw3.mono hK)
          have e4 : w3.cell? ⟨g, 0 + 4, none⟩ = some (.slice la m lc) := B3.cell 4
          have e0 : w3.cell? ⟨q, 0, none⟩ = some (.slice Ao out3.length co) := bo.cell 0
          obtain ⟨ol, hol⟩ : ∃ ol, out3.length = ol := ⟨_, rfl⟩
          rw [hol] at e0 own2 hout3
          have HOL := Lib.hid hol
          clear hol
          go_upto_region 14 with (at_builtin; refine wpList_app Tryz.elTexts rfl (.tmp 36) (.tmp 38) rfl rfl own2 rfl hsrc (tx_one _) (by simp only [maxLen]; omega) (by omega) hz3 ?_
                                  intro A2 c2 w4 hr4 ho4 hm4
                                  have hbo4 := bo.only ho4 (own2.blk_ne bo (by decide))
                                  have g1 := hbo4.frozen 0
                                  have g2 : w4.cell? ⟨q, 0, none⟩ = some (.slice Ao out3.length co) := hbo4.cell 0)
          have HO := HOL.out
          subst HO
          obtain ⟨hW4, hb4, _⟩ := hW3.outApp (news := ls) hqb hz3 bo own2 HM.out ho4 hr4
          go_wp2_with fail
          go_roundw
          case rel =>
            refine ⟨k + 1, rs3, Ai, ci, by omega, by go_num, ?_, ?_, hbw3.trans hb4⟩
            · rw [HF.out]
              unfold wrStep
              simp only [Bool.false_eq_true, if_false, List.append_nil, Int.toNat_natCast]
              rw [← HOUT3.out]
              exact hW4
            · rw [HF.out, HI3.out]
              unfold wrStep
              simp
          case measure => simp [intOf]; omega
        · obtain ⟨p1, p2⟩ := part_div pt rfl
          have hls : ls = [] := p1
          subst hls
          have hm0 : m = 0 := HM.out.symm
          subst hm0
          have hlb : lb.size ≤ 40 := by
            have h2 : labelT (L lb) = true := p2
            unfold labelT at h2
            rw [Bool.and_eq_true, Bool.and_eq_true, decide_eq_true_eq] at h2
            simpa using h2.1.2
          clear p1 p2 pt
          obtain ⟨Ao, co, bo, own2⟩ := hW3.bo
          have e2 : w3.cell? ⟨g, 0 + 2, none⟩ = some (.string lb) := B3.cell 2
          have e0 : w3.cell? ⟨q, 0, none⟩ = some (.slice Ao out3.length co) := bo.cell 0
          have s1 : ¬ 9223372036854775807 < 4 + lb.size := by omega
          have s2 : ¬ 9223372036854775807 < 4 + lb.size + 1 := by omega
          obtain ⟨ol, hol⟩ : ∃ ol, out3.length = ol := ⟨_, rfl⟩
          rw [hol] at e0 own2 hout3
          have HOL := Lib.hid hol
          clear hol
          go_upto_region 12 with (at_builtin; refine wpList_app1 Tryz.elTexts rfl (.tmp 25) (.tmp 30) rfl rfl (by exact own2.alloc _) rfl (Blk.new' _ _ _ _ (by simp)) rfl (by simp [Value.oneCell']) (by simp only [maxLen]; omega) (by omega) (by simp; omega) ?_
                                  intro A2 c2 w4 hr4 ho4 hm4
                                  have hbo4 := (bo.alloc _).only ho4 (own2.blk_ne bo (by decide))
                                  have g1 := hbo4.frozen 0
                                  have g2 : w4.cell? ⟨q, 0, none⟩ = some (.slice Ao out3.length co) := hbo4.cell 0)
          have HO := HOL.out
          subst HO
          obtain ⟨hW4, hb4, hk4⟩ := (hW3.alloc _).outApp (news := [openB lb]) hqb (by simp; omega) (bo.alloc _) (own2.alloc _) rfl ho4 hr4
          have hbw4 := (hbw3.alloc hz3 _).trans hb4
          have B4 := hk4 _ _ (B3.alloc _)
          clear hW3 B3 bo own2 ho4 hm4 hr4 g1 g2 hbo4 e0 e1 e2 hb4 hk4 hbw3 hz3
          generalize w4.setCell ⟨q, 0, none⟩ (.slice A2 (out3.length + 1) c2) = W at *
          have hz4 := hbw4.size
          have f0 : W.cell? ⟨g, 0, none⟩ = some (.int .i64 dn) := B4.cell 0
          have f1 : W.cell? ⟨g, 0 + 1, none⟩ = some (.bool true) := B4.cell 1
          have f2 : W.cell? ⟨g, 0 + 2, none⟩ = some (.string lb) := B4.cell 2
          have f3 : W.cell? ⟨g, 0 + 3, none⟩ = some (.bool o) := B4.cell 3
          have f4 : W.cell? ⟨g, 0 + 4, none⟩ = some (.slice la 0 lc) := B4.cell 4
          have bi := hW4.bi
          have owni := hW4.own
          have i0 : W.cell? ⟨q + 1, 0, none⟩ = some (.slice Ai rs3.length ci) := bi.cell 0
          obtain ⟨rl, hrl⟩ : ∃ rl, rs3.length = rl := ⟨_, rfl⟩
          rw [hrl] at i0 owni hi3l
          have HRL := Lib.hid hrl
          clear hrl
          go_upto_region 13 with (at_builtin; refine wpList_app1 Tryz.elParts rfl (.tmp 32) (.tmp 34) rfl rfl (by exact owni.alloc _) rfl (Blk.new' _ _ _ _ (by simp)) rfl (by simp [Value.oneCell']) (by simp only [maxLen]; omega) (by omega) (by simp; omega) ?_
                                  intro A3 c3 w5 hr5 ho5 hm5
                                  have hbi5 := (bi.alloc _).only ho5 (owni.blk_ne bi (by decide))
                                  have g1 := hbi5.frozen 0
                                  have g2 : w5.cell? ⟨q + 1, 0, none⟩ = some (.slice Ai rs3.length ci) := hbi5.cell 0)
          have HRO := HRL.out
          subst HRO
          have B5 := (B4.alloc _).only ho5 (fun a ha => by have := HAG.out a ha; omega)
          have B6 := B5.far (p := ⟨q + 1, 0, none⟩) (B5.ne_ hbi5 (by decide)) (.slice A3 (rs3.length + 1) c3)
          obtain ⟨hW6, hb6⟩ := (hW4.alloc _).inApp (q := PartR.mk ⟨(dn : Int), true, lb, o, []⟩ la lc) (by omega) (by simp; omega) ho5 hr5
          have hbw6 := (hbw4.alloc hz4 _).trans hb6
          clear hW4 B4 bi owni ho5 hm5 hr5 g1 g2 hbi5 f0 f1 f2 f3 f4 i0 hb6 hbw4 hz4 B5
          generalize w5.setCell ⟨q + 1, 0, none⟩ (.slice A3 (rs3.length + 1) c3) = W6 at *
          have hz6 := hbw6.size
          obtain ⟨Ao6, co6, bo6, own6⟩ := hW6.bo
          have h4 : W6.cell? ⟨g, 0 + 4, none⟩ = some (.slice la 0 lc) := B6.cell 4
          have h0 : W6.cell? ⟨q, 0, none⟩ = some (.slice Ao6 (out3 ++ [openB lb]).length co6) := bo6.cell 0
          have hbnd : (out3 ++ [openB lb]).length + 0 ≤ 1099511627776 := by rw [List.length_append, List.length_singleton]; omega
          have HOO : Hid (out3 ++ [openB lb] = out ++ List.replicate (notOpn (inn.drop dn)) shutB ++ [openB lb]) := Lib.hid (by rw [HOUT3.out])
          generalize out3 ++ [openB lb] = out6 at *
          obtain ⟨ol, hol⟩ : ∃ ol, out6.length = ol := ⟨_, rfl⟩
          rw [hol] at h0 own6 hbnd
          have HOL := Lib.hid hol
          clear hol
          go_upto_region 14 with (at_builtin; refine wpList_app Tryz.elTexts rfl (.tmp 36) (.tmp 38) rfl rfl own6 rfl (Reads.none_ (w := W6) (B := K) (size := 1) (A := la)) (by simp) (by simp only [maxLen]; omega) (by omega) hz6 ?_
                                  intro A7 c7 w7 hr7 ho7 hm7
                                  have hbo7 := bo6.only ho7 (own6.blk_ne bo6 (by decide))
                                  have g1 := hbo7.frozen 0
                                  have g2 : w7.cell? ⟨q, 0, none⟩ = some (.slice Ao6 out6.length co6) := hbo7.cell 0)
          have HO := HOL.out
          subst HO
          obtain ⟨hW7, hb7, _⟩ := hW6.outApp (news := []) hqb hz6 bo6 own6 rfl ho7 hr7
          go_wp2_with fail
          go_roundw
          case rel =>
            refine ⟨k + 1, rs3 ++ [PartR.mk ⟨(dn : Int), true, lb, o, []⟩ la lc], A3, c3, by omega, by go_num, ?_, ?_, hbw6.trans hb7⟩
            · rw [HF.out]
              unfold wrStep
              simp only [if_true, List.append_nil, Int.toNat_natCast]
              rw [← HOO.out]
              rw [List.append_nil] at hW7
              exact hW7
            · rw [HF.out, List.map_append, HI3.out]
              unfold wrStep
              simp
          case measure => simp [intOf]; omega
      · have hkn : k = n := by omega
        subst hkn
        rw [List.take_of_length_le (by rw [List.length_map, HL.out]; omega)] at hW hin hle
        have hNt := HNN.out
        have hend := end_any w.heap.size (q + 1) q 0 Ai ci (wrFold (ps.map (·.t))).out rs wr hW (by omega) hqb hzw (by omega) (by
          rw [List.take_of_length_le (by rw [List.length_map, HL.out]; omega)] at hirs hle2
          omega)
        have hfin : (wrFold (ps.map (·.t))).out ++ List.replicate (notOpn ((rs.map (·.t)).drop 0)) shutB = lines6 (ps.map (·.t)) := by
          unfold lines6
          rw [hin, List.drop_zero]
        rw [hfin] at hend
        have HEND := Lib.hid hend
        clear hend hfin hle hle2 hirs hin hW
        obtain ⟨fin, hfe⟩ : ∃ fin, lines6 (ps.map (·.t)) = fin := ⟨_, rfl⟩
        rw [hfe] at HEND
        have HFE := Lib.hid hfe
        clear hfe
        go_upto_region 16 with (go_at_call 66; refine HEND.out.mono ?_; rintro e w3 ⟨rfl, hW3, hb3, hk3⟩)
        obtain ⟨_, _, Ao, co, bo, own2⟩ := hW3
        have e1 : w3.cell? ⟨q, 0, none⟩ = some (.slice Ao fin.length co) := bo.cell 0
        go_wp2_with fail
        go_ret2
        rw [HFE.out]
        exact ⟨Ao, co, rfl, own2, hb.trans hb3⟩
end Go.Proofs.YtgdnphmannbpgaaGreatDoor
