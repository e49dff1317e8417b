/- Joined texts: OpenPairs, Lat, LatSpec, LatBounds. -/
import Derived.Test.YtgdnphmannbpgaaGreatDoorGB
import Derived.Test.YtgdnphmannbpgaaGreatDoorGJ
import Derived.Lib.EndianBits
import Derived.Deep.DeepCutAuto
/-
  Opening a slice of pairs of integers.
-/
namespace Go.Proofs.YtgdnphmannbpgaaGreatDoor
open Go.RowKit Go.ChangeShapes Go.WideShapes Go.Deep

theorem trod_arr2 {H : Type} {enc : TypeId × Value → H} {P : Program} {w : World} {base : Nat} {sp : Nat → Bool} {held : Bool} {k e : TypeId} {fuel : Nat} {cs : List Value} {x : DataW H × List MemPlace}
    (hu : P.underlying k = some (.array 2 e)) (he : P.underlying e = some (.int .i64)) (hc : P.cellsOf k = 2) (hc1 : P.cellsOf e = 1) (h : DataW.trod enc P w base sp held fuel k cs = some x) : ∃ a b : Int, cs = [.int .i64 a, .int .i64 b] := by
  cases fuel with
  | zero => simp [DataW.trod] at h
  | succ m =>
    rw [DataW.trod_step] at h
    unfold DataW.trodStep at h
    simp only [hu, hc, hc1] at h
    split at h
    · rename_i hl
      match cs, hl with
      | [u, v], _ =>
        simp only [Option.map_eq_some_iff] at h
        obtain ⟨ys, hy, _⟩ := h
        rw [show List.range 2 = [0, 1] from rfl, List.mapM_cons] at hy
        simp only [bind, Option.bind_eq_some_iff, List.mapM_cons, List.mapM_nil, pure] at hy
        obtain ⟨y0, h0, y1, ⟨z, h1, _⟩, _⟩ := hy
        obtain ⟨a, e0, _⟩ := DataW.trod_int he h0
        obtain ⟨b, e1, _⟩ := DataW.trod_int he h1
        simp at e0 e1
        exact ⟨a, b, by rw [e0, e1]⟩
    · cases h

/-- what a slice of pairs that came in gives -/
def IsPairs (W : World) (a : Option Addr) (len cap : Nat) (l : List (Int × Int)) : Prop := Reads W W.heap.size 2 a len (prCells l) ∧ len ≤ cap ∧ cap ≤ maxLen

theorem open_pairs {H : Type} {enc : TypeId × Value → H} {W : World} {sp : Nat → Bool} {held : Bool} {a : Option Addr} {len cap : Nat} {d : DataW H} {p : List MemPlace}
    (h : DataW.Trod enc Tryz.prog W 0 sp held 23 (.slice a len cap) d p) : ∃ l : List (Int × Int), IsPairs W a len cap l := by
  obtain ⟨fuel, hf⟩ := h
  have hc2 : Tryz.prog.cellsOf 53 = 2 := by kernel_rfl
  rcases open_slice Tryz.underlying23 hf with ⟨hcs, _⟩ | ⟨b, len', cap', m, n, D, Pl, hcs, _, hl, hm, hmm, _, hi⟩
  · simp [Value.cells] at hcs
    obtain ⟨rfl, rfl, rfl⟩ := hcs
    exact ⟨[], Reads.none_, Nat.le_refl _, Nat.zero_le _⟩
  · simp [Value.cells] at hcs
    obtain ⟨rfl, rfl, rfl⟩ := hcs
    have hlm : len ≤ m := by rw [hmm]; split <;> omega
    have hall : ∀ i, i < len → ∃ x : Int × Int, ∀ j, j < 2 → W.cell? (b.add (i * 2 + j)) = [Value.int .i64 x.1, .int .i64 x.2][j]? := by
      intro i him
      obtain ⟨cs', hc, ht'⟩ := hi i (by omega)
      rw [hc2] at hc
      obtain ⟨x, y, rfl⟩ := trod_arr2 Tryz.underlying53 Tryz.underlying3 hc2 (by kernel_rfl) ht'
      obtain ⟨_, hcl, hat⟩ := World.cells?_some hc
      refine ⟨(x, y), fun j hj => ?_⟩
      have := hat j hj
      rwa [Go.Deep.add_add] at this
    obtain ⟨l, hll, hl'⟩ := choose_list hall
    refine ⟨l, ⟨by rw [prCells_length]; omega, fun h0 => ⟨b, rfl, ?_, fun j u hu => ?_⟩⟩, hl, hm⟩
    · obtain ⟨x, hx0⟩ : ∃ x, l[0]? = some x := ⟨_, List.getElem?_eq_getElem (by omega)⟩
      have := hl' 0 x hx0 0 (by omega)
      have := World.block_lt_of_cell? W _ (this.trans rfl)
      simpa [Addr.add] using this
    · have hj : j < l.length * 2 := by rw [← prCells_length]; exact (List.getElem?_eq_some_iff.1 hu).1
      have hjl : j / 2 < l.length := by omega
      have h1 := hl' (j / 2) l[j / 2] (List.getElem?_eq_getElem hjl)
      have h2 := prCells_at l (j / 2) hjl
      rcases (by omega : j = j / 2 * 2 + 0 ∨ j = j / 2 * 2 + 1) with h3 | h3
      · have := h1 0 (by omega)
        rw [← h3] at this
        rw [this, ← hu]
        rw [Nat.add_zero] at h3
        rw [← h3] at h2
        rw [h2.1]; rfl
      · have := h1 1 (by omega)
        rw [← h3] at this
        rw [this, ← hu]
        rw [← h3] at h2
        rw [h2.2]; rfl
end Go.Proofs.YtgdnphmannbpgaaGreatDoor
/-
  A lattice in memory; contracts of in, Len, Leq, Join, Meet, Top, Bottom.
-/
namespace Go.Proofs.YtgdnphmannbpgaaGreatDoor
open Go.RowKit
set_option linter.unusedVariables false

/-- a lattice: the masks of those above each, the tables -/
structure LatT where
  n : Nat
  up : List Nat
  join : List (List Nat)
  meet : List (List Nat)
  deriving DecidableEq
/-- a table in memory: rows of numbers -/
def Tab (w : World) (K : Nat) (A : Option Addr) (n : Nat) (t : List (List Nat)) : Prop :=
  t.length = n ∧ ∀ a row, t[a]? = some row → row.length = n ∧ ∃ ad B c, A = some ad ∧ ad.block < K ∧ w.cell? (ad.add a) = some (.slice B n c) ∧ Reads w K 1 B n (row.map fun x : Nat => Value.int .i64 (x : Int))
structure LatR (w : World) (K p : Nat) (t : LatT) : Prop where
  plt : p < K
  ex : ∃ A1 c1 A2 n2 c2 A3 c3 A4 c4, Blk w p 98 #[.slice A1 t.n c1, .slice A2 n2 c2, .slice A3 t.n c3, .slice A4 t.n c4] ∧
    Reads w K 1 A1 t.n (t.up.map fun x : Nat => Value.int .u64 (x : Int)) ∧ Tab w K A3 t.n t.join ∧ Tab w K A4 t.n t.meet

set_option maxHeartbeats 1000000 in
set_option maxRecDepth 100000 in
theorem in_any (p K : Nat) (t : LatT) (x : Int) (w : World) (h : LatR w K p t) :
    Calls Tryz.prog 57 #[.pointer (some ⟨p, 0, none⟩), .int .i64 x] w fun e w' => e = .returned (.bool (decide (0 ≤ x) && decide (x < t.n))) ∧ w' = w := by
  obtain ⟨_, A1, c1, A2, n2, c2, A3, c3, A4, c4, hB, _⟩ := h
  have k0 := hB.cell 0
  by_cases h0 : 0 ≤ x
  · by_cases h1 : x < t.n
    · go_enter Tryz.func57, Tryz.ntmps57
      go_wp2_with fail
      go_ret
      simp [h0, h1]
    · go_enter Tryz.func57, Tryz.ntmps57
      go_wp2_with fail
      go_ret
      simp [h1]
  · go_enter Tryz.func57, Tryz.ntmps57
    go_wp2_with fail
    go_ret
    simp
    intro h
    omega
/-! ## masks -/
theorem u64_nat {a b : Nat} (ha : a < 2 ^ 64) (hb : b < 2 ^ 64) : bits .and .u64 (a : Int) (b : Int) = ((a &&& b : Nat) : Int) ∧ bits .or .u64 (a : Int) (b : Int) = ((a ||| b : Nat) : Int) :=
  bits_nat .u64 64 (by decide) (fun n h0 h1 => wraps_u64 n h0 h1) a b ha hb
theorem shr_nat (m b : Nat) (hb : b < 64) : ((m : Int) / 2 ^ min b 64) = ((m / 2 ^ b : Nat) : Int) := by
  rw [Nat.min_eq_left (by omega)]
  exact_mod_cast rfl
theorem bit_one (m b : Nat) (hm : m < 2 ^ 64) (hb : b < 64) : bits .and .u64 ((m : Int) / 2 ^ min b 64) 1 = (if m.testBit b then 1 else 0) := by
  rw [shr_nat m b hb]
  have h1 : m / 2 ^ b < 2 ^ 64 := Nat.lt_of_le_of_lt (Nat.div_le_self _ _) hm
  have := (u64_nat (a := m / 2 ^ b) (b := 1) h1 (by decide)).1
  rw [show ((1 : Nat) : Int) = 1 from rfl] at this
  rw [this, Nat.and_one_is_mod, Nat.testBit_eq_decide_div_mod_eq]
  rcases Nat.mod_two_eq_zero_or_one (m / 2 ^ b) with h | h <;> simp [h]

set_option maxHeartbeats 1000000 in
set_option maxRecDepth 100000 in
theorem leq_any (p K : Nat) (t : LatT) (a b m : Nat) (w : World) (h : LatR w K p t) (ha : a < t.n) (hb : b < t.n) (hn : t.n ≤ 64) (hm : t.up[a]? = some m) (hm64 : m < 2 ^ 64) :
    Calls Tryz.prog 28 #[.pointer (some ⟨p, 0, none⟩), .int .i64 (a : Int), .int .i64 (b : Int)] w fun e w' => e = .returned (.bool (m.testBit b)) ∧ w' = w := by
  have HI := Lib.hid (fun x => in_any p K t x w h)
  obtain ⟨_, A1, c1, A2, n2, c2, A3, c3, A4, c4, hB, hu, _⟩ := h
  have k0 := hB.cell 0
  obtain ⟨ad, u, rfl, _, hx, hc⟩ := hu.at_ ha
  have hu' : u = .int .u64 (m : Int) := by
    rw [List.getElem?_map, hm] at hx
    exact (Option.some.inj hx).symm
  subst hu'
  have d1 : decide ((0 : Int) ≤ (a : Int)) = true := decide_eq_true (by omega)
  have d2 : decide ((0 : Int) ≤ (b : Int)) = true := decide_eq_true (by omega)
  have d3 : decide ((a : Int) < (t.n : Int)) = true := decide_eq_true (by omega)
  have d4 : decide ((b : Int) < (t.n : Int)) = true := decide_eq_true (by omega)
  have e0 := bit_one m b hm64 (by omega)
  have e1 : bits .and .u64 ((m : Int) / 2 ^ b) 1 = (if m.testBit b then 1 else 0) := by rw [Nat.min_eq_left (by omega)] at e0; exact e0
  clear hx hu
  cases hbt : m.testBit b
  · rw [hbt, if_neg (by decide)] at e0 e1
    clear hbt
    go_enter Tryz.func28, Tryz.ntmps28
    go_wp2_with (go_at_call 57; refine (HI.out _).mono ?_; rintro e w1 ⟨rfl, hw⟩; subst w1)
    go_ret
    exact ⟨rfl, rfl⟩
  · rw [hbt, if_pos rfl] at e0 e1
    clear hbt
    go_enter Tryz.func28, Tryz.ntmps28
    go_wp2_with (go_at_call 57; refine (HI.out _).mono ?_; rintro e w1 ⟨rfl, hw⟩; subst w1)
    go_ret
    exact ⟨rfl, rfl⟩

/-- how many -/
theorem len_any (p K : Nat) (t : LatT) (w : World) (h : LatR w K p t) :
    Calls Tryz.prog 55 #[.pointer (some ⟨p, 0, none⟩)] w fun e w' => e = .returned (.int .i64 (t.n : Int)) ∧ w' = w := by
  obtain ⟨_, A1, c1, A2, n2, c2, A3, c3, A4, c4, hB, hu, _⟩ := h
  have k0 := hB.cell 0
  go_enter Tryz.func55, Tryz.ntmps55
  go_wp2_with fail
  go_ret
  exact ⟨rfl, rfl⟩
set_option maxHeartbeats 1000000 in
set_option maxRecDepth 100000 in
theorem latJoin_any (p K : Nat) (t : LatT) (a b c : Nat) (row : List Nat) (w : World) (h : LatR w K p t) (ha : a < t.n) (hb : b < t.n) (hrow : t.join[a]? = some row) (hc : row[b]? = some c) :
    Calls Tryz.prog 27 #[.pointer (some ⟨p, 0, none⟩), .int .i64 (a : Int), .int .i64 (b : Int)] w fun e w' => e = .returned (.int .i64 (c : Int)) ∧ w' = w := by
  have HI := Lib.hid (fun x => in_any p K t x w h)
  obtain ⟨_, A1, c1, A2, n2, c2, A3, c3, A4, c4, hB, _, ht, _⟩ := h
  have k2 : w.cell? ⟨p, 0 + 2, none⟩ = some (.slice A3 t.n c3) := hB.cell 2
  obtain ⟨_, ad, B, cB, rfl, _, hcell, hr⟩ := ht.2 a row hrow
  obtain ⟨ad2, u, rfl, _, hx, hc2⟩ := hr.at_ hb
  have hu' : u = .int .i64 (c : Int) := by
    rw [List.getElem?_map, hc] at hx
    exact (Option.some.inj hx).symm
  subst hu'
  have d1 : decide ((0 : Int) ≤ (a : Int)) = true := decide_eq_true (by omega)
  have d2 : decide ((0 : Int) ≤ (b : Int)) = true := decide_eq_true (by omega)
  have d3 : decide ((a : Int) < (t.n : Int)) = true := decide_eq_true (by omega)
  have d4 : decide ((b : Int) < (t.n : Int)) = true := decide_eq_true (by omega)
  clear hx hr
  go_enter Tryz.func27, Tryz.ntmps27
  go_wp2_with (go_at_call 57; refine (HI.out _).mono ?_; rintro e w1 ⟨rfl, hw⟩; subst w1)
  go_ret
  exact ⟨rfl, rfl⟩
set_option maxHeartbeats 1000000 in
set_option maxRecDepth 100000 in
theorem latMeet_any (p K : Nat) (t : LatT) (a b c : Nat) (row : List Nat) (w : World) (h : LatR w K p t) (ha : a < t.n) (hb : b < t.n) (hrow : t.meet[a]? = some row) (hc : row[b]? = some c) :
    Calls Tryz.prog 56 #[.pointer (some ⟨p, 0, none⟩), .int .i64 (a : Int), .int .i64 (b : Int)] w fun e w' => e = .returned (.int .i64 (c : Int)) ∧ w' = w := by
  have HI := Lib.hid (fun x => in_any p K t x w h)
  obtain ⟨_, A1, c1, A2, n2, c2, A3, c3, A4, c4, hB, _, _, ht⟩ := h
  have k3 : w.cell? ⟨p, 0 + 3, none⟩ = some (.slice A4 t.n c4) := hB.cell 3
  obtain ⟨_, ad, B, cB, rfl, _, hcell, hr⟩ := ht.2 a row hrow
  obtain ⟨ad2, u, rfl, _, hx, hc2⟩ := hr.at_ hb
  have hu' : u = .int .i64 (c : Int) := by
    rw [List.getElem?_map, hc] at hx
    exact (Option.some.inj hx).symm
  subst hu'
  have d1 : decide ((0 : Int) ≤ (a : Int)) = true := decide_eq_true (by omega)
  have d2 : decide ((0 : Int) ≤ (b : Int)) = true := decide_eq_true (by omega)
  have d3 : decide ((a : Int) < (t.n : Int)) = true := decide_eq_true (by omega)
  have d4 : decide ((b : Int) < (t.n : Int)) = true := decide_eq_true (by omega)
  clear hx hr
  go_enter Tryz.func56, Tryz.ntmps56
  go_wp2_with (go_at_call 57; refine (HI.out _).mono ?_; rintro e w1 ⟨rfl, hw⟩; subst w1)
  go_ret
  exact ⟨rfl, rfl⟩

/-! ## a lattice that is whole: every entry of its tables is there -/
def rowAt (t : List (List Nat)) (a b : Nat) : Nat := ((t[a]?).bind (·[b]?)).getD 0
structure LatOk (t : LatT) : Prop where
  pos : 0 < t.n
  n64 : t.n ≤ 64
  ups : t.up.length = t.n ∧ ∀ m ∈ t.up, m < 2 ^ 64
  joins : ∀ a b, a < t.n → b < t.n → ∃ row, t.join[a]? = some row ∧ row[b]? = some (rowAt t.join a b) ∧ rowAt t.join a b < t.n
  meets : ∀ a b, a < t.n → b < t.n → ∃ row, t.meet[a]? = some row ∧ row[b]? = some (rowAt t.meet a b) ∧ rowAt t.meet a b < t.n
def foldAt (t : List (List Nat)) : Nat → Nat
  | 0 => 0
  | k + 1 => rowAt t (foldAt t k) k
theorem foldAt_lt {t : List (List Nat)} {n : Nat} (h0 : 0 < n) (h : ∀ a b, a < n → b < n → rowAt t a b < n) : ∀ k, k ≤ n → foldAt t k < n
  | 0, _ => h0
  | k + 1, hk => h _ _ (foldAt_lt h0 h k (by omega)) (by omega)
def topT (t : LatT) : Nat := foldAt t.join t.n
def bottomT (t : LatT) : Nat := foldAt t.meet t.n

set_option maxHeartbeats 1000000 in
set_option maxRecDepth 100000 in
theorem top_any (p K : Nat) (t : LatT) (w : World) (h : LatR w K p t) (ok : LatOk t) :
    Calls Tryz.prog 26 #[.pointer (some ⟨p, 0, none⟩)] w fun e w' => e = .returned (.int .i64 (topT t : Int)) ∧ w' = w := by
  have HL := Lib.hid (len_any p K t w h)
  have hlt := foldAt_lt (t := t.join) ok.pos (fun a b ha hb => by obtain ⟨_, _, _, h⟩ := ok.joins a b ha hb; exact h)
  have HJ : Hid (∀ a b, a < t.n → b < t.n → Calls Tryz.prog 27 #[.pointer (some ⟨p, 0, none⟩), .int .i64 (a : Int), .int .i64 (b : Int)] w fun e w' => e = .returned (.int .i64 (rowAt t.join a b : Int)) ∧ w' = w) := Lib.hid fun a b ha hb => by
    obtain ⟨row, e1, e2, _⟩ := ok.joins a b ha hb
    exact latJoin_any p K t a b _ row w h ha hb e1 e2
  have HLT := Lib.hid hlt
  have hpos := ok.pos
  have h64 := ok.n64
  obtain ⟨n, hn⟩ : ∃ n, t.n = n := ⟨_, rfl⟩
  unfold topT
  rw [hn] at HL HJ HLT hpos h64 ⊢
  have x1 : min (n : Int) 1 = 1 := by omega
  clear hlt hn
  go_enter Tryz.func26, Tryz.ntmps26
  go_wp2_with (go_at_call 55; refine HL.out.mono ?_; rintro e w1 ⟨rfl, hw⟩; subst w1)
  go_loop [3, 11] (fun s3 s11 => ∃ k : Nat, k ≤ n ∧ s11 = .int .i64 k ∧ s3 = .int .i64 (foldAt t.join k : Int)) (fun _ s11 => n - (intOf s11).toNat)
  case atStart => exact ⟨0, Nat.zero_le _, rfl, rfl⟩
  case round =>
    obtain ⟨k, hk, rfl, rfl⟩ := hrel
    by_cases hlt : k < n
    · have HC := Lib.hid (HJ.out (foldAt t.join k) k (HLT.out k hk) hlt)
      go_wp2_with (go_at_call 27; refine HC.out.mono ?_; rintro e w1 ⟨rfl, hw⟩; subst w1)
      go_round
      case rel => exact ⟨k + 1, by omega, by go_num, rfl⟩
      case measure => simp [intOf]; omega
    · have hkn : k = n := by omega
      subst hkn
      go_wp2_with fail
      go_ret
      exact ⟨rfl, rfl⟩
set_option maxHeartbeats 1000000 in
set_option maxRecDepth 100000 in
theorem bottom_any (p K : Nat) (t : LatT) (w : World) (h : LatR w K p t) (ok : LatOk t) :
    Calls Tryz.prog 25 #[.pointer (some ⟨p, 0, none⟩)] w fun e w' => e = .returned (.int .i64 (bottomT t : Int)) ∧ w' = w := by
  have HL := Lib.hid (len_any p K t w h)
  have hlt := foldAt_lt (t := t.meet) ok.pos (fun a b ha hb => by obtain ⟨_, _, _, h⟩ := ok.meets a b ha hb; exact h)
  have HJ : Hid (∀ a b, a < t.n → b < t.n → Calls Tryz.prog 56 #[.pointer (some ⟨p, 0, none⟩), .int .i64 (a : Int), .int .i64 (b : Int)] w fun e w' => e = .returned (.int .i64 (rowAt t.meet a b : Int)) ∧ w' = w) := Lib.hid fun a b ha hb => by
    obtain ⟨row, e1, e2, _⟩ := ok.meets a b ha hb
    exact latMeet_any p K t a b _ row w h ha hb e1 e2
  have HLT := Lib.hid hlt
  have hpos := ok.pos
  have h64 := ok.n64
  obtain ⟨n, hn⟩ : ∃ n, t.n = n := ⟨_, rfl⟩
  unfold bottomT
  rw [hn] at HL HJ HLT hpos h64 ⊢
  have x1 : min (n : Int) 1 = 1 := by omega
  clear hlt hn
  go_enter Tryz.func25, Tryz.ntmps25
  go_wp2_with (go_at_call 55; refine HL.out.mono ?_; rintro e w1 ⟨rfl, hw⟩; subst w1)
  go_loop [3, 11] (fun s3 s11 => ∃ k : Nat, k ≤ n ∧ s11 = .int .i64 k ∧ s3 = .int .i64 (foldAt t.meet k : Int)) (fun _ s11 => n - (intOf s11).toNat)
  case atStart => exact ⟨0, Nat.zero_le _, rfl, rfl⟩
  case round =>
    obtain ⟨k, hk, rfl, rfl⟩ := hrel
    by_cases hlt : k < n
    · have HC := Lib.hid (HJ.out (foldAt t.meet k) k (HLT.out k hk) hlt)
      go_wp2_with (go_at_call 56; refine HC.out.mono ?_; rintro e w1 ⟨rfl, hw⟩; subst w1)
      go_round
      case rel => exact ⟨k + 1, by omega, by go_num, rfl⟩
      case measure => simp [intOf]; omega
    · have hkn : k = n := by omega
      subst hkn
      go_wp2_with fail
      go_ret
      exact ⟨rfl, rfl⟩
end Go.Proofs.YtgdnphmannbpgaaGreatDoor
/-
  lattice.New: what it computes, as plain Lean over lists of masks.
-/
namespace Go.Proofs.YtgdnphmannbpgaaGreatDoor
open Go.RowKit
set_option linter.unusedVariables false

def at0 (l : List Nat) (i : Nat) : Nat := l.getD i 0
def initU (n : Nat) : Nat → List Nat
  | 0 => List.replicate n 0
  | k + 1 => (initU n k).set k (2 ^ k)
def edgeU (l : List Nat) (p : Int × Int) : List Nat := l.set p.1.toNat (at0 l p.1.toNat ||| 2 ^ p.2.toNat)
def edgesU (l : List Nat) : List (Int × Int) → List Nat
  | [] => l
  | p :: ps => edgesU (edgeU l p) ps
def closeI (k : Nat) (l : List Nat) : Nat → List Nat
  | 0 => l
  | i + 1 => if (at0 (closeI k l i) i).testBit k then (closeI k l i).set i (at0 (closeI k l i) i ||| at0 (closeI k l i) k) else closeI k l i
def closeK (n : Nat) (l : List Nat) : Nat → List Nat
  | 0 => l
  | k + 1 => closeI k (closeK n l k) n
/-- the masks of those above -/
def upsT (n : Nat) (ps : List (Int × Int)) : List Nat := closeK n (edgesU (initU n n) ps) n
def downB (up : List Nat) (a : Nat) (d : List Nat) : Nat → List Nat
  | 0 => d
  | b + 1 => if (at0 up a).testBit b then (downB up a d b).set b (at0 (downB up a d b) b ||| 2 ^ a) else downB up a d b
def downA (n : Nat) (up : List Nat) : Nat → List Nat
  | 0 => List.replicate n 0
  | a + 1 => downB up a (downA n up a) n
/-- two that are above one another -/
def cycAt (up : List Nat) (a b : Nat) : Bool := (at0 up a).testBit b && decide (a ≠ b) && (at0 up b).testBit a
def cycB (up : List Nat) (a : Nat) : Nat → Bool
  | 0 => false
  | b + 1 => cycB up a b || cycAt up a b
def cycA (n : Nat) (up : List Nat) : Nat → Bool
  | 0 => false
  | a + 1 => cycA n up a || cycB up a n
def foundC (above : List Nat) (both : Nat) : Nat → Option Nat
  | 0 => none
  | c + 1 => if both.testBit c && at0 above c == both then some c else foundC above both c
/-- a row of a table: none if one of its places has no bound -/
def rowB (set above : List Nat) (a : Nat) : Nat → Option (List Nat)
  | 0 => some []
  | b + 1 => match rowB set above a b, foundC above (at0 set a &&& at0 set b) set.length with
    | some r, some c => some (r ++ [c])
    | _, _ => none
def tabA (set above : List Nat) : Nat → Option (List (List Nat))
  | 0 => some []
  | a + 1 => match tabA set above a, rowB set above a set.length with
    | some t, some r => some (t ++ [r])
    | _, _ => none
def newT (n : Nat) (ps : List (Int × Int)) : Option LatT :=
  let up := upsT n ps
  let down := downA n up n
  if cycA n up n then none else match tabA up up n, tabA down down n with
    | some j, some m => some ⟨n, up, j, m⟩
    | _, _ => none
theorem diamond_p : newT 4 [(0, 1), (0, 2), (1, 3), (2, 3)] = some ⟨4, [15, 10, 12, 8], [[0, 1, 2, 3], [1, 1, 3, 3], [2, 3, 2, 3], [3, 3, 3, 3]], [[0, 0, 0, 0], [0, 1, 0, 1], [0, 0, 2, 2], [0, 1, 2, 3]]⟩ := by decide +kernel

/-! ## lengths and sizes -/
theorem initU_len (n k : Nat) : (initU n k).length = n := by
  induction k with
  | zero => simp [initU]
  | succ k ih => rw [initU, List.length_set, ih]
theorem edgesU_len (l : List Nat) (ps : List (Int × Int)) : (edgesU l ps).length = l.length := by
  induction ps generalizing l with
  | nil => rfl
  | cons p ps ih => rw [edgesU, ih, edgeU, List.length_set]
theorem closeI_len (k : Nat) (l : List Nat) (i : Nat) : (closeI k l i).length = l.length := by
  induction i with
  | zero => rfl
  | succ i ih => unfold closeI; split <;> simp [ih]
theorem closeK_len (n : Nat) (l : List Nat) (k : Nat) : (closeK n l k).length = l.length := by
  induction k with
  | zero => rfl
  | succ k ih => rw [closeK, closeI_len, ih]
theorem upsT_len (n : Nat) (ps : List (Int × Int)) : (upsT n ps).length = n := by unfold upsT; rw [closeK_len, edgesU_len, initU_len]
theorem downB_len (up : List Nat) (a : Nat) (d : List Nat) (b : Nat) : (downB up a d b).length = d.length := by
  induction b with
  | zero => rfl
  | succ b ih => unfold downB; split <;> simp [ih]
theorem downA_len (n : Nat) (up : List Nat) (a : Nat) : (downA n up a).length = n := by
  induction a with
  | zero => simp [downA]
  | succ a ih => rw [downA, downB_len, ih]
/-- masks of at most 64 bits -/
def M64 (l : List Nat) : Prop := ∀ m ∈ l, m < 2 ^ 64
theorem M64.at0 {l : List Nat} (h : M64 l) (i : Nat) : at0 l i < 2 ^ 64 := by
  unfold Proofs.YtgdnphmannbpgaaGreatDoor.at0
  rw [List.getD_eq_getElem?_getD]
  cases hi : l[i]? with
  | none => decide
  | some x => exact h x (List.mem_of_getElem? hi)
theorem M64.set {l : List Nat} (h : M64 l) (i : Nat) {x : Nat} (hx : x < 2 ^ 64) : M64 (l.set i x) := fun m hm => by
  rcases List.mem_or_eq_of_mem_set hm with h1 | h1
  · exact h m h1
  · rw [h1]; exact hx
theorem M64.rep (n : Nat) : M64 (List.replicate n 0) := fun m hm => by rw [List.eq_of_mem_replicate hm]; decide
theorem or64 {a b : Nat} (ha : a < 2 ^ 64) (hb : b < 2 ^ 64) : a ||| b < 2 ^ 64 := Nat.or_lt_two_pow ha hb
theorem pow64 {k : Nat} (h : k < 64) : 2 ^ k < 2 ^ 64 := Nat.pow_lt_pow_right (by decide) h
theorem initU_64 (n : Nat) (hn : n ≤ 64) : ∀ k, k ≤ n → M64 (initU n k)
  | 0, _ => M64.rep n
  | k + 1, h => (initU_64 n hn k (by omega)).set k (pow64 (by omega))
theorem edgesU_64 {l : List Nat} (h : M64 l) {ps : List (Int × Int)} (hp : ∀ p ∈ ps, p.2.toNat < 64) : M64 (edgesU l ps) := by
  induction ps generalizing l with
  | nil => exact h
  | cons p ps ih => exact ih (h.set _ (or64 (h.at0 _) (pow64 (hp p (by simp))))) fun q hq => hp q (by simp [hq])
theorem closeI_64 (k : Nat) {l : List Nat} (h : M64 l) (i : Nat) : M64 (closeI k l i) := by
  induction i with
  | zero => exact h
  | succ i ih => unfold closeI; split; exact ih.set _ (or64 (ih.at0 _) (ih.at0 _)); exact ih
theorem closeK_64 (n : Nat) {l : List Nat} (h : M64 l) (k : Nat) : M64 (closeK n l k) := by
  induction k with
  | zero => exact h
  | succ k ih => exact closeI_64 k ih n
theorem downB_64 (up : List Nat) {a : Nat} (ha : a < 64) {d : List Nat} (h : M64 d) (b : Nat) : M64 (downB up a d b) := by
  induction b with
  | zero => exact h
  | succ b ih => unfold downB; split; exact ih.set _ (or64 (ih.at0 _) (pow64 ha)); exact ih
theorem downA_64 (n : Nat) (up : List Nat) (hn : n ≤ 64) : ∀ a, a ≤ n → M64 (downA n up a)
  | 0, _ => M64.rep n
  | a + 1, h => downB_64 up (by omega) (downA_64 n up hn a (by omega)) n
theorem at0_get {l : List Nat} {i : Nat} (h : i < l.length) : l[i]? = some (at0 l i) := by
  unfold at0
  rw [List.getD_eq_getElem?_getD, List.getElem?_eq_getElem h]; rfl
theorem foundC_lt {above : List Nat} {both c k : Nat} (h : foundC above both k = some c) : c < k ∧ both.testBit c = true ∧ at0 above c = both := by
  induction k with
  | zero => cases h
  | succ k ih =>
    unfold foundC at h
    split at h
    · rename_i hc
      rw [← Option.some.inj h]
      simp only [Bool.and_eq_true, beq_iff_eq] at hc
      exact ⟨by omega, hc.1, hc.2⟩
    · obtain ⟨h1, h2⟩ := ih h
      exact ⟨by omega, h2⟩
theorem rowB_len {set above : List Nat} {a b : Nat} {r : List Nat} (h : rowB set above a b = some r) : r.length = b ∧ ∀ i, i < b → ∃ c, r[i]? = some c ∧ foundC above (at0 set a &&& at0 set i) set.length = some c := by
  induction b generalizing r with
  | zero =>
    have : r = [] := (Option.some.inj h).symm
    subst this
    exact ⟨rfl, fun i hi => by omega⟩
  | succ b ih =>
    unfold rowB at h
    split at h
    · rename_i r' c h1 h2
      have e := Option.some.inj h
      obtain ⟨g1, g2⟩ := ih h1
      rw [← e]
      refine ⟨by rw [List.length_append, g1]; rfl, fun i hi => ?_⟩
      rcases Nat.lt_or_ge i b with hb | hb
      · obtain ⟨c', k1, k2⟩ := g2 i hb
        exact ⟨c', by rw [List.getElem?_append_left (by omega)]; exact k1, k2⟩
      · have : i = b := by omega
        subst this
        exact ⟨c, by rw [List.getElem?_append_right (by omega), g1]; simp, h2⟩
    · cases h
theorem tabA_len {set above : List Nat} {k : Nat} {t : List (List Nat)} (h : tabA set above k = some t) : t.length = k ∧ ∀ a, a < k → ∃ r, t[a]? = some r ∧ rowB set above a set.length = some r := by
  induction k generalizing t with
  | zero =>
    have : t = [] := (Option.some.inj h).symm
    subst this
    exact ⟨rfl, fun i hi => by omega⟩
  | succ k ih =>
    unfold tabA at h
    split at h
    · rename_i t' r h1 h2
      have e := Option.some.inj h
      obtain ⟨g1, g2⟩ := ih h1
      rw [← e]
      refine ⟨by rw [List.length_append, g1]; rfl, fun a ha => ?_⟩
      rcases Nat.lt_or_ge a k with hb | hb
      · obtain ⟨c', k1, k2⟩ := g2 a hb
        exact ⟨c', by rw [List.getElem?_append_left (by omega)]; exact k1, k2⟩
      · have : a = k := by omega
        subst this
        exact ⟨r, by rw [List.getElem?_append_right (by omega), g1]; simp, h2⟩
    · cases h
/-- a table's entry, and what it is -/
theorem tab_entry {set above : List Nat} {n : Nat} (hs : set.length = n) {t : List (List Nat)} (h : tabA set above n = some t) {a b : Nat} (ha : a < n) (hb : b < n) :
    ∃ row, t[a]? = some row ∧ row[b]? = some (rowAt t a b) ∧ rowAt t a b < n ∧ foundC above (at0 set a &&& at0 set b) n = some (rowAt t a b) := by
  obtain ⟨_, g⟩ := tabA_len h
  obtain ⟨r, h1, h2⟩ := g a ha
  rw [hs] at h2
  obtain ⟨_, g2⟩ := rowB_len h2
  obtain ⟨c, k1, k2⟩ := g2 b hb
  have hr : rowAt t a b = c := by unfold rowAt; rw [h1]; show (r[b]?).getD 0 = c; rw [k1]; rfl
  rw [hs] at k2
  rw [hr]
  exact ⟨r, h1, k1, (foundC_lt k2).1, k2⟩
theorem newT_some {n : Nat} {ps : List (Int × Int)} {t : LatT} (h : newT n ps = some t) : t.n = n ∧ t.up = upsT n ps ∧ tabA t.up t.up n = some t.join ∧ tabA (downA n t.up n) (downA n t.up n) n = some t.meet ∧ cycA n t.up n = false := by
  unfold newT at h
  simp only at h
  split at h
  · cases h
  · rename_i hc
    split at h
    · rename_i j m h1 h2
      have e := Option.some.inj h
      subst e
      exact ⟨rfl, rfl, h1, h2, by simpa using hc⟩
    · cases h
theorem newT_ok {n : Nat} {ps : List (Int × Int)} {t : LatT} (hn : 1 ≤ n) (h64 : n ≤ 64) (hp : ∀ p ∈ ps, p.2.toNat < 64) (h : newT n ps = some t) : LatOk t := by
  obtain ⟨h1, h2, h3, h4, _⟩ := newT_some h
  refine ⟨by omega, by omega, ⟨by rw [h2, upsT_len, h1], ?_⟩, ?_, ?_⟩
  · rw [h2]; exact closeK_64 n (edgesU_64 (initU_64 n h64 n (Nat.le_refl _)) hp) n
  · intro a b ha hb
    rw [h1] at ha hb ⊢
    obtain ⟨row, e1, e2, e3, _⟩ := tab_entry (by rw [h2, upsT_len]) h3 ha hb
    exact ⟨row, e1, e2, e3⟩
  · intro a b ha hb
    rw [h1] at ha hb ⊢
    obtain ⟨row, e1, e2, e3, _⟩ := tab_entry (by rw [downA_len]) h4 ha hb
    exact ⟨row, e1, e2, e3⟩
end Go.Proofs.YtgdnphmannbpgaaGreatDoor
/-
  lattice.bounds: its contract.
-/
namespace Go.Proofs.YtgdnphmannbpgaaGreatDoor
open Go.RowKit
set_option linter.unusedVariables false

def u64s (l : List Nat) : List Value := l.map fun x : Nat => Value.int .u64 (x : Int)
def i64s (l : List Nat) : List Value := l.map fun x : Nat => Value.int .i64 (x : Int)
theorem u64s_get {l : List Nat} {i : Nat} (h : i < l.length) : (u64s l)[i]? = some (.int .u64 (at0 l i : Int)) := by
  unfold u64s; rw [List.getElem?_map, at0_get h]; rfl
theorem made_one (x : Value) (n : Nat) : madeCells #[x] n = Array.replicate n x := by
  unfold madeCells
  apply Array.ext
  · simp
  · intro i h1 h2
    simp [Nat.mod_one]
theorem Tryz.infoInts : (Tryz.prog.info? 81).map (fun i => (i.zero, i.size, i.bytes)) = some (some (.slice none 0 0), 1, 24) := by kernel_rfl
theorem Tryz.infoInt : (Tryz.prog.info? 3).map (fun i => (i.zero, i.size, i.bytes)) = some (some (.int .i64 0), 1, 8) := by kernel_rfl
theorem Tryz.elInts : Elem Tryz.prog 81 3 1 8 := Elem.mk' Tryz.underlying81 Tryz.infoInt rfl (by decide)
theorem mk_rows (n : Nat) (h : n ≤ 64) (w : World) : (Instr.makeSlice 83 (.int .i64 (n : Int)) (.int .i64 (n : Int))).run Tryz.prog w = .ok (.slice (some ⟨w.heap.size, 0, none⟩) n n) (w.alloc (.cells (Array.replicate n (.slice none 0 0)) 81)) := by
  obtain ⟨i, hi, hz, hs, hb⟩ := info_parts Tryz.infoInts
  have := run_makeSlice w 83 81 i (.slice none 0 0) Tryz.underlying83 hi hz .i64 .i64 (n : Int) (n : Int) (by omega) (Int.le_refl _) (by rw [hs]; simp; omega) (by rw [hb]; omega) (by omega)
  rw [this, Int.toNat_natCast, hs, Nat.mul_one, show (Value.slice none 0 0).cells = #[.slice none 0 0] from rfl, made_one]
/-- rows that are done -/
def Done (w : World) (base lim : Nat) (vs : List Value) (n : Nat) (t : List (List Nat)) : Prop :=
  ∀ (a : Nat) (row : List Nat), t[a]? = some row → row.length = n ∧ ∃ B c, vs[a]? = some (Value.slice B n c) ∧ Own w base 3 1 B n c (i64s row) ∧ ∀ b, B = some b → b.block < lim
theorem add_at (g j : Nat) : (⟨g, 0, none⟩ : Addr).add j = ⟨g, j, none⟩ := by
  unfold Addr.add
  split
  · rename_i h; rw [h]
  · simp
theorem rowB_none {set above : List Nat} {a b : Nat} (h : rowB set above a b = none) : ∀ k, b ≤ k → rowB set above a k = none
  | 0, hk => by have : b = 0 := by omega
                subst this; exact h
  | k + 1, hk => by
    rcases Nat.lt_or_ge k b with hb | hb
    · have : b = k + 1 := by omega
      subst this; exact h
    · unfold rowB; rw [rowB_none h k hb]
theorem tabA_none {set above : List Nat} {a : Nat} (h : tabA set above a = none) : ∀ k, a ≤ k → tabA set above k = none
  | 0, hk => by have : a = 0 := by omega
                subst this; exact h
  | k + 1, hk => by
    rcases Nat.lt_or_ge k a with hb | hb
    · have : a = k + 1 := by omega
      subst this; exact h
    · unfold tabA; rw [tabA_none h k hb]
theorem tab_fails {set above : List Nat} {n a b : Nat} (hs : set.length = n) (ha : a < n) (hb : b < n) (h : foundC above (at0 set a &&& at0 set b) n = none) : tabA set above n = none := by
  have h1 : rowB set above a (b + 1) = none := by
    unfold rowB
    rw [hs, h]
    split
    · rename_i e; cases e
    · rfl
  have h2 := rowB_none h1 n (by omega)
  refine tabA_none (a := a + 1) ?_ n (by omega)
  unfold tabA
  rw [hs, h2]
  split
  · rename_i e; cases e
  · rfl
theorem i64s_snoc (r : List Nat) (x : Nat) : i64s (r ++ [x]) = i64s r ++ [.int .i64 (x : Int)] := by unfold i64s; simp
theorem Done.only {w w' : World} {base lim : Nat} {vs : List Value} {n : Nat} {t : List (List Nat)} {A : Option Addr} (h : Done w base lim vs n t) (ho : Only w w' A) (hA : ∀ a, A = some a → lim ≤ a.block) : Done w' base lim vs n t := fun a row hr => by
  obtain ⟨h1, B, c, h2, h3, h4⟩ := h a row hr
  refine ⟨h1, B, c, h2, h3.only ho (fun x y hx hy => ?_), h4⟩
  have := h4 x hx
  have := hA y hy
  omega
theorem Done.alloc {w : World} {base lim : Nat} {vs : List Value} {n : Nat} {t : List (List Nat)} (h : Done w base lim vs n t) (o : Obj) : Done (w.alloc o) base lim vs n t := fun a row hr => by
  obtain ⟨h1, B, c, h2, h3, h4⟩ := h a row hr
  exact ⟨h1, B, c, h2, h3.alloc o, h4⟩
theorem Done.drewN {w : World} {base lim : Nat} {vs : List Value} {n : Nat} {t : List (List Nat)} (h : Done w base lim vs n t) (k : Nat) : Done (w.drewN k) base lim vs n t := fun a row hr => by
  obtain ⟨h1, B, c, h2, h3, h4⟩ := h a row hr
  exact ⟨h1, B, c, h2, h3.drewN k, h4⟩
/-- another cell of the table is set -/
theorem Done.set {w : World} {base lim go n c : Nat} {vs : List Value} {m : Nat} {t : List (List Nat)} (h : Done w base lim vs m t) (hO : Own w base 81 1 (some ⟨go, 0, none⟩) n c vs) {a : Nat} (ha : t.length ≤ a) (v : Value) : Done (w.setCell ⟨go, a, none⟩ v) base lim (vs.set a v) m t := fun i row hr => by
  obtain ⟨h1, B, cB, h2, h3, h4⟩ := h i row hr
  have hi : i < t.length := (List.getElem?_eq_some_iff.1 hr).1
  exact ⟨h1, B, cB, by rw [List.getElem?_set_ne (by omega)]; exact h2, h3.only (only_setCell w go a v) (h3.sep_ne hO (by decide)), h4⟩

set_option maxHeartbeats 8000000 in
set_option maxRecDepth 100000 in
theorem bounds_any (A A' : Option Addr) (n c c' K : Nat) (set above : List Nat) (w : World) (h1 : 1 ≤ n) (h64 : n ≤ 64) (hr : Reads w K 1 A n (u64s set)) (hr' : Reads w K 1 A' n (u64s above)) (hK : K ≤ w.heap.size) (hs : M64 set) (ha : M64 above) (hl : set.length = n) (hl' : above.length = n) :
    Calls Tryz.prog 51 #[.slice A n c, .slice A' n c'] w fun e w' => Below w.heap.size w w' ∧
      ((tabA set above n = none ∧ e = .returned (.tuple #[.slice none 0 0, .bool false])) ∨ ∃ go t vs, tabA set above n = some t ∧ e = .returned (.tuple #[.slice (some ⟨go, 0, none⟩) n n, .bool true]) ∧ t.length = n ∧ Own w' w.heap.size 81 1 (some ⟨go, 0, none⟩) n n vs ∧ Done w' w.heap.size w'.heap.size vs n t) := by
  have HL := Lib.hid hl
  have HL' := Lib.hid hl'
  have HS := Lib.hid hs
  have HA := Lib.hid ha
  clear hl hl' hs ha
  have hmk := mk_rows n h64
  have hO0 : Own (w.alloc (.cells (Array.replicate n (.slice none 0 0)) 81)) w.heap.size 81 1 (some ⟨w.heap.size, 0, none⟩) n n (List.replicate n (.slice none 0 0)) := by
    have := World.ownsRow_lit (base := w.heap.size) (e := 81) (size := 1) w (Array.replicate n (.slice none 0 0)) n (Nat.le_refl _) (by unfold maxLen; omega) (by simp)
    simpa [Own] using this
  go_enter Tryz.func51, Tryz.ntmps51
  go_upto_region 2 with fail
  have hb0 : Below w.heap.size w (w.alloc (.cells (Array.replicate n (.slice none 0 0)) 81)) := (Below.refl _ _).alloc (Nat.le_refl _) _
  obtain ⟨g0, hg0⟩ : ∃ g0, w.heap.size = g0 := ⟨_, rfl⟩
  have hgo : w.heap.size ≤ g0 := by omega
  rw [hg0] at hO0 hb0
  simp only [hg0]
  generalize w.alloc (.cells (Array.replicate n (.slice none 0 0)) 81) = w0 at *
  rw [hg0] at hK
  clear hmk
  go_wp2_with fail
  go_loopw [17] (fun s wr => ∃ (a : Nat) (t : List (List Nat)) (vs : List Value), a ≤ n ∧ s = .int .i64 a ∧ tabA set above a = some t ∧ t.length = a ∧ vs.length = n ∧ (∀ i, a ≤ i → i < n → vs[i]? = some (.slice none 0 0)) ∧
    Own wr g0 81 1 (some ⟨g0, 0, none⟩) n n vs ∧ Done wr g0 wr.heap.size vs n t ∧ Below g0 w wr) (fun s _ => n - (intOf s).toNat)
  case atStart => exact ⟨0, [], _, Nat.zero_le _, rfl, rfl, rfl, List.length_replicate, fun i _ hi => by rw [List.getElem?_replicate, if_pos hi], hO0, fun a row hr => by simp at hr, hb0⟩
  case round =>
    clear hO0 hb0
    obtain ⟨a, t, vs, hak, rfl, ht, htl, hvl, hnil, hO, hD, hb⟩ := hrel
    have HT := Lib.hid ht
    have HVL := Lib.hid hvl
    have HNIL := Lib.hid hnil
    have HTL := Lib.hid htl
    clear ht hvl hnil htl
    have hzw : g0 ≤ wr.heap.size := by have := hb.size; omega
    by_cases hlt : a < n
    · obtain ⟨lim, hlim⟩ : ∃ lim, wr.heap.size = lim := ⟨_, rfl⟩
      rw [hlim] at hD
      have HLIM := Lib.hid hlim
      have hgl : g0 ≤ lim := by omega
      go_wp2_with fail
      go_loopw [22] (fun s wq => ∃ (b : Nat) (r : List Nat) (vs' : List Value) (B : Option Addr) (cB : Nat), b ≤ n ∧ s = .int .i64 b ∧ rowB set above a b = some r ∧ r.length = b ∧ vs'.length = n ∧ vs'[a]? = some (.slice B b cB) ∧ (∀ i, a < i → i < n → vs'[i]? = some (.slice none 0 0)) ∧
        Own wq g0 81 1 (some ⟨g0, 0, none⟩) n n vs' ∧ Own wq lim 3 1 B b cB (i64s r) ∧ Done wq g0 lim vs' n t ∧ lim ≤ wq.heap.size ∧ Below g0 w wq) (fun s _ => n - (intOf s).toNat)
      case atStart => exact ⟨0, [], vs, none, 0, Nat.zero_le _, rfl, rfl, rfl, HVL.out, HNIL.out a (Nat.le_refl _) hlt, fun i h1 h2 => HNIL.out i (by omega) h2, hO, Own.nil _ _ _ _, hD, by omega, hb⟩
      case round =>
        clear hO hD hb hzw hlim
        obtain ⟨b, r, vs', B, cB, hbk, rfl, hrow, hrl, hvl, hva, hnil, hO, hR, hD, hlw, hb⟩ := hrel
        have HROW := Lib.hid hrow
        have HRL := Lib.hid hrl
        have HVL' := Lib.hid hvl
        have HVA := Lib.hid hva
        have HNIL' := Lib.hid hnil
        clear hrow hrl hvl hva hnil
        by_cases hlt2 : b < n
        · obtain ⟨ad, u, rfl, _, hx, hca⟩ := (hr.below (hb.mono hK)).at_ hlt
          obtain ⟨ad2, u2, hadd, _, hx2, hcb⟩ := (hr.below (hb.mono hK)).at_ hlt2
          have hadd' := Option.some.inj hadd
          subst hadd'
          rw [u64s_get (by rw [HL.out]; exact hlt)] at hx
          rw [u64s_get (by rw [HL.out]; exact hlt2)] at hx2
          have hu := (Option.some.inj hx).symm
          have hu2 := (Option.some.inj hx2).symm
          subst hu hu2
          clear hx hx2 hadd
          have hma := HS.out.at0 a
          have hmb := HS.out.at0 b
          obtain ⟨ma, hmae⟩ : ∃ ma, at0 set a = ma := ⟨_, rfl⟩
          obtain ⟨mb, hmbe⟩ : ∃ mb, at0 set b = mb := ⟨_, rfl⟩
          rw [hmae] at hma hca
          rw [hmbe] at hmb hcb
          obtain ⟨bo, hbo⟩ : ∃ bo, ma &&& mb = bo := ⟨_, rfl⟩
          have hboe : bits .and .u64 (ma : Int) (mb : Int) = (bo : Int) := by rw [← hbo]; exact (u64_nat hma hmb).1
          have hbo64 : bo < 2 ^ 64 := by rw [← hbo]; exact Nat.lt_of_le_of_lt Nat.and_le_left hma
          have HBO : Hid (at0 set a &&& at0 set b = bo) := Lib.hid (by rw [hmae, hmbe, hbo])
          clear hmae hmbe hbo hma hmb
          go_upto_region 8 with fail
          go_quiet (fail)
          have hO2 := hO.drewN nq
          have hR2 := hR.drewN nq
          have hD2 := hD.drewN nq
          have hb2 := below_drewN' hb nq
          have hlw2 : lim ≤ (wr.drewN nq).heap.size := hlw
          generalize wr.drewN nq = w2 at *
          clear hO hR hD hb hlw hca hcb hboe
          go_wp2_with fail
          go_loop [10, 36] (fun s10 s36 => ∃ (q : Nat) (f : Option Nat), q ≤ n ∧ s36 = .int .i64 q ∧ foundC above bo q = f ∧ s10 = .int .i64 (match f with | some x => (x : Int) | none => -1)) (fun _ s36 => n - (intOf s36).toNat)
          case atStart => exact ⟨0, none, Nat.zero_le _, rfl, rfl, rfl⟩
          case round =>
            obtain ⟨q, f, hq, rfl, hf, rfl⟩ := hrel
            have HF := Lib.hid hf
            clear hf
            by_cases hqn : q < n
            · obtain ⟨ad', u', hA', _, hx', hcc⟩ := (hr'.below (hb2.mono hK)).at_ hqn
              subst hA'
              rw [u64s_get (by rw [HL'.out]; exact hqn)] at hx'
              have hu' := (Option.some.inj hx').symm
              subst hu'
              clear hx'
              have e0 := bit_one bo q hbo64 (by omega)
              have e1 : bits .and .u64 ((bo : Int) / 2 ^ q) 1 = (if bo.testBit q then 1 else 0) := by rw [Nat.min_eq_left (by omega)] at e0; exact e0
              have hstep : foundC above bo (q + 1) = if bo.testBit q && at0 above q == bo then some q else f := by rw [foundC, HF.out]
              cases hbt : bo.testBit q
              · rw [hbt] at hstep e0 e1
                rw [if_neg (by decide)] at e0 e1
                have HST : Hid (foundC above bo (q + 1) = f) := Lib.hid (by rw [hstep]; rfl)
                clear hstep hbt hcc
                go_wp2_with fail
                go_round
                case rel => exact ⟨q + 1, f, by omega, by go_num, HST.out, rfl⟩
                case measure => simp [intOf]; omega
              · rw [hbt] at hstep e0 e1
                rw [if_pos rfl] at e0 e1
                by_cases hab : at0 above q = bo
                · have HST : Hid (foundC above bo (q + 1) = some q) := Lib.hid (by rw [hstep, hab]; simp)
                  have q6 : (((at0 above q : Nat) : Int) == (bo : Int)) = true := by rw [hab]; simp
                  clear hstep hbt hab
                  go_wp2_with fail
                  go_round
                  case rel => exact ⟨q + 1, some q, by omega, by go_num, HST.out, rfl⟩
                  case measure => simp [intOf]; omega
                · have HST : Hid (foundC above bo (q + 1) = f) := Lib.hid (by
                    rw [hstep]
                    have : (at0 above q == bo) = false := by simpa using hab
                    rw [this]; rfl)
                  have q6 : (((at0 above q : Nat) : Int) == (bo : Int)) = false := by simp; omega
                  clear hstep hbt hab
                  go_wp2_with fail
                  go_round
                  case rel => exact ⟨q + 1, f, by omega, by go_num, HST.out, rfl⟩
                  case measure => simp [intOf]; omega
            · have hqn' : q = n := by omega
              subst hqn'
              cases f with
              | none =>
                have HNONE := Lib.hid (tab_fails HL.out hlt hlt2 (by rw [HBO.out]; exact HF.out))
                simp only
                go_wp2_with fail
                go_ret2
                exact ⟨hb2.mono (by omega), .inl ⟨HNONE.out, rfl⟩⟩
              | some x =>
                simp only
                have hxq := (foundC_lt HF.out).1
                have y1 : decide ((x : Int) < 0) = false := decide_eq_false (by omega)
                have z2 : w2.cell? ⟨g0, a, none⟩ = some (.slice B b cB) := hO2.cell HVA.out
                go_wp2_with (at_builtin; refine wpList_app1 Tryz.elInts rfl (.tmp 61) (.tmp 63) rfl rfl (by exact hR2.alloc _) rfl (Blk.new' _ _ _ _ (by simp)) rfl (by simp [Value.oneCell']) (by simp only [maxLen]; omega) (by omega) (by simp; omega) ?_
                             intro A4 c4 w5 hR4 ho4 hm4
                             have hO3 := (hO2.alloc (.cells #[.int .i64 (x : Int)] 3)).only ho4 (hO2.sep_ne hR2 (by decide))
                             have z0 : w5.cell? ⟨g0, a, none⟩ = some (.slice B b cB) := hO3.cell HVA.out
                             have z1 : w5.frozen? ⟨g0, a, none⟩ = false := hO3.frozen a)
                go_roundw
                case rel =>
                  have hsz := ho4.size
                  have hsz' : w2.heap.size ≤ w5.heap.size := ho4.of_alloc.size
                  refine ⟨b + 1, r ++ [x], vs'.set a (.slice A4 (b + 1) c4), A4, c4, by omega, by go_num, ?_, by rw [List.length_append, HRL.out]; rfl, by rw [List.length_set]; exact HVL'.out, by rw [List.getElem?_set_self (by rw [HVL'.out]; exact hlt)], fun i hi1 hi2 => by rw [List.getElem?_set_ne (by omega)]; exact HNIL'.out i hi1 hi2, hO3.stored a _, ?_, ?_, by simp [World.setCell]; omega, ?_⟩
                  · rw [rowB, HROW.out, HL.out, HBO.out, HF.out]
                  · have h6 := hR4.only (only_setCell w5 g0 a (.slice A4 (b + 1) c4)) (hR4.sep_ne hO3 (by decide))
                    rw [i64s_snoc]
                    exact h6
                  · have h7 := (hD2.alloc (.cells #[.int .i64 (x : Int)] 3)).only ho4 (fun a ha => (hR2.lt ha).1)
                    exact h7.set hO3 (by rw [HTL.out]; exact Nat.le_refl _) _
                  · exact (hb2.trans (ho4.of_alloc.below (K := g0) (fun a ha => by have := (hR2.lt ha).1; omega) (by omega))).setCell (p := ⟨g0, a, none⟩) (Nat.le_refl _) _
                case measure => simp [intOf]; omega
        · have hbn : b = n := by omega
          subst hbn
          have hva := HVA.out
          go_wp2_with fail
          go_roundw
          case rel =>
            refine ⟨a + 1, t ++ [r], vs', by omega, by go_num, ?_, by rw [List.length_append, HTL.out]; rfl, HVL'.out, fun i h1 h2 => HNIL'.out i (by omega) h2, hO, ?_, hb⟩
            · rw [tabA, HT.out, HL.out, HROW.out]
            · intro i row hrow
              rcases Nat.lt_or_ge i a with hi | hi
              · rw [List.getElem?_append_left (by rw [HTL.out]; exact hi)] at hrow
                obtain ⟨k1, B1, c1, k2, k3, k4⟩ := hD i row hrow
                exact ⟨k1, B1, c1, k2, k3, fun x hx => by have := k4 x hx; omega⟩
              · rw [List.getElem?_append_right (by rw [HTL.out]; exact hi), HTL.out] at hrow
                have hia : i = a := by
                  have := (List.getElem?_eq_some_iff.1 hrow).1
                  simp at this; omega
                subst hia
                have hre : r = row := by simpa using hrow
                subst hre
                exact ⟨HRL.out, B, cB, HVA.out, hR.base_le hgl, fun x hx => (hR.lt hx).2⟩
          case measure => simp [intOf]; omega
    · have han : a = n := by omega
      subst han
      go_wp2_with fail
      go_ret2
      rw [hg0]
      exact ⟨hb, .inr ⟨g0, t, vs, HT.out, rfl, HTL.out, hO, hD⟩⟩
/-- the table of rows that are done -/
theorem Done.tab {w : World} {base go n c : Nat} {vs : List Value} {t : List (List Nat)} (hO : Own w base 81 1 (some ⟨go, 0, none⟩) n c vs) (hD : Done w base w.heap.size vs n t) (hl : t.length = n) : Tab w w.heap.size (some ⟨go, 0, none⟩) n t := by
  refine ⟨hl, fun i row hrow => ?_⟩
  obtain ⟨k1, B1, c1, k2, k3, k4⟩ := hD i row hrow
  exact ⟨k1, ⟨go, 0, none⟩, B1, c1, rfl, (hO.lt rfl).2, by rw [add_at]; exact hO.cell k2, k3.reads⟩
end Go.Proofs.YtgdnphmannbpgaaGreatDoor
