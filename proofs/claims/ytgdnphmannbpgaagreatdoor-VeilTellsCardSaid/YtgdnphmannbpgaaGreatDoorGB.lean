/- Joined texts: Build, LineB, SameTexts, Line, StepApp, Frame. -/
import Derived.Shelf.Strings.BuilderK
import Derived.Test.YtgdnphmannbpgaaGreatDoorShelf
import Derived.Test.YtgdnphmannbpgaaGreatDoorGA
import Derived.Test.YtgdnphmannbpgaaGreatDoorChecked
import Derived.Shelf.Strings.SlTrimAscii
import Derived.Deep.RegionLaw
import Derived.Test.YtgdnphmannbpgaaGreatDoorRows
import Derived.Deep.Slices
import Derived.Deep.Fields
import Derived.ChangeSame
import Derived.ProofKit
import Derived.SizedLaws
/-
  The library's contracts for strings.Builder that the one command passes over at this dump, laid by hand.
-/
namespace Go.Proofs.YtgdnphmannbpgaaGreatDoor
open Go.Shelf Go.RowKit
def Tryz.renBf (n : Nat) : Nat := if n = 166 then 61 else if n = 240 then 81 else if n = 276 then 105
  else if n = 167 then 62
  else n
def Tryz.renBt (n : Nat) : Nat := match n with
  | 0 => 0
  | 3 => 3
  | 4 => 4
  | 5 => 5
  | 9 => 9
  | 20 => 20
  | 37 => 109
  | 70 => 108
  | 72 => 111
  | 75 => 113
  | 80 => 118
  | 164 => 148
  | n => n
def Tryz.renB : Go.Shelf.Ren := ⟨Tryz.renBf, Tryz.renBt, fun n => n⟩
theorem Tryz.lays166 : Go.Proofs.Lays.n166 Tryz.prog Tryz.renB := {
  mixed := by kernel_rfl
  f166 := Tryz.func61.trans (congrArg some (by kernel_rfl))
  f240 := Tryz.func81.trans (congrArg some (by kernel_rfl))
  f276 := Tryz.func105.trans (congrArg some (by kernel_rfl))
  t0 := Tryz.underlying0, a0 := Tryz.isAgg0, z0 := Tryz.sizeOf0, v0 := Tryz.zeroValue0
  t3 := Tryz.underlying3, a3 := Tryz.isAgg3, z3 := Tryz.sizeOf3, v3 := Tryz.zeroValue3
  t4 := Tryz.underlying4, a4 := Tryz.isAgg4, z4 := Tryz.sizeOf4, v4 := Tryz.zeroValue4
  t9 := Tryz.underlying9, a9 := Tryz.isAgg9, z9 := Tryz.sizeOf9, v9 := Tryz.zeroValue9
  t20 := Tryz.underlying20, a20 := Tryz.isAgg20, z20 := Tryz.sizeOf20, v20 := Tryz.zeroValue20
  t37 := Tryz.underlying109, a37 := Tryz.isAgg109, z37 := Tryz.sizeOf109, v37 := Tryz.zeroValue109
  t70 := Tryz.underlying108, a70 := Tryz.isAgg108, z70 := Tryz.sizeOf108, v70 := Tryz.zeroValue108
  t72 := Tryz.underlying111, a72 := Tryz.isAgg111, z72 := Tryz.sizeOf111, v72 := Tryz.zeroValue111
  t75 := Tryz.underlying113, a75 := Tryz.isAgg113, z75 := Tryz.sizeOf113, v75 := Tryz.zeroValue113
  t164 := Tryz.underlying148, a164 := Tryz.isAgg148, z164 := Tryz.sizeOf148, v164 := Tryz.zeroValue148 }
theorem Tryz.extraB : Builder.Extra Tryz.prog Tryz.renB := {
  sizeBuilder := by kernel_rfl
  liesBuilder := by kernel_rfl
  t5 := Tryz.underlying5
  a5 := Tryz.isAgg5
  z5 := Tryz.sizeOf5
  v5 := Tryz.zeroValue5
  infoByte := by kernel_rfl
  cellsByte := by kernel_rfl
  sizeByte := by kernel_rfl
  neB5 := by decide }

theorem Tryz.lays167 : Go.Proofs.Lays.n167 Tryz.prog Tryz.renB := {
  mixed := by kernel_rfl
  f167 := Tryz.func62.trans (congrArg some (by kernel_rfl))
  f240 := Tryz.func81.trans (congrArg some (by kernel_rfl))
  f276 := Tryz.func105.trans (congrArg some (by kernel_rfl))
  t0 := Tryz.underlying0, a0 := Tryz.isAgg0, z0 := Tryz.sizeOf0, v0 := Tryz.zeroValue0
  t4 := Tryz.underlying4, a4 := Tryz.isAgg4, z4 := Tryz.sizeOf4, v4 := Tryz.zeroValue4
  t5 := Tryz.underlying5, a5 := Tryz.isAgg5, z5 := Tryz.sizeOf5, v5 := Tryz.zeroValue5
  t9 := Tryz.underlying9, a9 := Tryz.isAgg9, z9 := Tryz.sizeOf9, v9 := Tryz.zeroValue9
  t20 := Tryz.underlying20, a20 := Tryz.isAgg20, z20 := Tryz.sizeOf20, v20 := Tryz.zeroValue20
  t37 := Tryz.underlying109, a37 := Tryz.isAgg109, z37 := Tryz.sizeOf109, v37 := Tryz.zeroValue109
  t70 := Tryz.underlying108, a70 := Tryz.isAgg108, z70 := Tryz.sizeOf108, v70 := Tryz.zeroValue108
  t72 := Tryz.underlying111, a72 := Tryz.isAgg111, z72 := Tryz.sizeOf111, v72 := Tryz.zeroValue111
  t75 := Tryz.underlying113, a75 := Tryz.isAgg113, z75 := Tryz.sizeOf113, v75 := Tryz.zeroValue113
  t164 := Tryz.underlying148, a164 := Tryz.isAgg148, z164 := Tryz.sizeOf148, v164 := Tryz.zeroValue148 }
/-- a builder that holds bytes -/
def Bld (B b : Nat) (l : List UInt8) (w : World) : Prop := Lib.IsBuilderF 111 5 B b (Lib.byteCells l) w

/-- b.WriteString(s) -/
theorem writeString_any (B b : Nat) (l : List UInt8) (s : ByteArray) (w : World) (h : Bld B b l w) (hlen : l.length + s.size ≤ 140737488355328) (hBw : B ≤ w.heap.size) :
    Calls Tryz.prog 61 #[.pointer (some ⟨b, 0, none⟩), .string s] w fun e w' => e = .returned (.tuple #[.int .i64 s.size, .nilIface]) ∧
      Bld B b (l ++ L s) w' ∧ Below B w w' ∧ Lib.OthersKept 5 (some b) w w' := by
  refine (Any.Builder_WriteString_k Tryz.lays166 Tryz.extraB B b (Lib.byteCells l) s w h (by rw [Lib.byteCells_length]; exact hlen) hBw).mono ?_
  rintro e w' ⟨he, h1, h2, h3⟩
  refine ⟨he, Or.inr ?_, h2, h3⟩
  rw [Lib.byteCells_append]
  exact h1
/-- b.WriteByte(c) -/
theorem writeByte_any (B b : Nat) (l : List UInt8) (c : UInt8) (w : World) (h : Bld B b l w) (hlen : l.length + 1 ≤ 140737488355328) (hBw : B ≤ w.heap.size) :
    Calls Tryz.prog 62 #[.pointer (some ⟨b, 0, none⟩), .int .u8 (c.toNat : Int)] w fun e w' => e = .returned .nilIface ∧
      Bld B b (l ++ [c]) w' ∧ Below B w w' ∧ Lib.OthersKept 5 (some b) w w' := by
  refine (Any.Builder_WriteByte_k Tryz.lays167 Tryz.extraB B b (Lib.byteCells l) (c.toNat : Int) w h (by rw [Lib.byteCells_length]; exact hlen) hBw).mono ?_
  rintro e w' ⟨he, h1, h2, h3⟩
  refine ⟨he, Or.inr ?_, h2, h3⟩
  rw [Lib.byteCells_append]
  exact h1
/-- b.String() -/
theorem string_any (B b : Nat) (l : List UInt8) (w : World) (h : Bld B b l w) (hBw : B ≤ w.heap.size) :
    Calls Tryz.prog 64 #[.pointer (some ⟨b, 0, none⟩)] w fun e w' => e = .returned (.string (S l)) ∧ Bld B b l w' ∧ Below B w w' ∧ Lib.OthersKept 5 (some b) w w' :=
  (Tryz.Builder_String_any_k B b l w h hBw)
theorem Bld.new (w : World) : Bld w.heap.size w.heap.size [] (w.alloc (.cells #[.pointer none, .slice none 0 0] 111)) := Lib.IsBuilderF.of (Lib.fresh_isBuilder 111 5 w)
theorem Bld.new' (w : World) (B : Nat) (h : w.heap.size = B) : Bld B B [] (w.alloc (.cells #[.pointer none, .slice none 0 0] 111)) := by subst h; exact Bld.new w

section
variable {w w' : World} {B b : Nat} {l : List UInt8}
theorem Bld.of_blocks (h : Bld B b l w) (hk : ∀ k, k < w.heap.size → w'.heap[k]? = w.heap[k]?) : Bld B b l w' := by
  have step : ∀ p, Lib.BuilderAtF 111 5 B b p (Lib.byteCells l) w → Lib.BuilderAtF 111 5 B b p (Lib.byteCells l) w' := by
    rintro p ⟨hB, v, hb, ⟨hl, hown⟩, hne⟩
    refine ⟨hB, v, (hk _ (Array.getElem?_eq_some_iff.1 hb).1).trans hb, ⟨hl, ?_⟩, hne⟩
    rcases hown with hn | ⟨g, cap, cur, fz, hv, hbg, hg, rest⟩
    · exact .inl hn
    · exact .inr ⟨g, cap, cur, fz, hv, hbg, (hk _ (Array.getElem?_eq_some_iff.1 hg).1).trans hg, rest⟩
  rcases h with h | h
  · exact .inl (step _ h)
  · exact .inr (step _ h)
theorem Bld.below {K : Nat} (h : Bld B b l w) (hb : Below K w w') (hK : w.heap.size ≤ K) : Bld B b l w' := h.of_blocks fun k hk => hb.block k (by omega)
theorem Bld.drew (h : Bld B b l w) : Bld B b l w.drew := h
theorem Bld.drewN (h : Bld B b l w) (n : Nat) : Bld B b l (w.drewN n) := h
theorem Bld.alloc (h : Bld B b l w) (o : Obj) : Bld B b l (w.alloc o) := h.of_blocks fun k hk => Below.heap_alloc w o k hk
theorem Bld.at_ (h : Bld B b l w) : ∃ p v, w.heap[b]? = some (.cells #[p, v] 111 (0, 0)) := by
  rcases h with ⟨_, v, h, _⟩ | ⟨_, v, h, _⟩ <;> exact ⟨_, _, h⟩
theorem Bld.lt (h : Bld B b l w) : b < w.heap.size := by
  obtain ⟨p, v, h⟩ := h.at_
  exact (Array.getElem?_eq_some_iff.1 h).1
theorem Own.others {base e size n c : Nat} {A : Option Addr} {xs : List Value} (h : Own w base e size A n c xs) (hb : Bld B b l w) (ho : Lib.OthersKept 5 (some b) w w') (he : e ≠ 5) (hT : e ≠ 111) :
    Own w' base e size A n c xs := by
  refine ⟨h.1, ?_⟩
  rcases h.2 with hn | ⟨g, cap, cur, hv, hb', hh, r⟩
  · exact .inl hn
  · refine .inr ⟨g, cap, cur, hv, hb', ho g _ hh (fun e1 => ?_) (fun c fz e1 => ?_), r⟩
    · injection e1 with e1
      obtain ⟨p, v, hbb⟩ := hb.at_
      rw [← e1, hh] at hbb
      injection hbb with hbb; injection hbb with _ hbb
      exact hT hbb
    · injection e1 with _ e1
      exact he e1
theorem Blk.others {g : Nat} {t : TypeId} {cs : Array Value} (h : Blk w g t cs) (hb : Bld B b l w) (ho : Lib.OthersKept 5 (some b) w w') (he : t ≠ 5) (hT : t ≠ 111) : Blk w' g t cs := by
  refine ho g _ h (fun e1 => ?_) (fun c fz e1 => ?_)
  · injection e1 with e1
    obtain ⟨p, v, hbb⟩ := hb.at_
    unfold Blk at h
    rw [← e1, h] at hbb
    injection hbb with hbb; injection hbb with _ hbb
    exact hT hbb
  · injection e1 with _ e1
    exact he e1
theorem Own.iterAt {base e size n c : Nat} {A : Option Addr} {xs : List Value} (h : Own w base e size A n c xs) {q pos : Nat} {s : ByteArray} (hq : w.heap[q]? = some (.stringIter s pos)) (pos' : Nat) :
    Own (w.iterAt q s pos') base e size A n c xs := by
  refine ⟨h.1, ?_⟩
  rcases h.2 with hn | ⟨g, cap, cur, hv, hb', hh, r⟩
  · exact .inl hn
  · refine .inr ⟨g, cap, cur, hv, hb', (Lib.iterAt_other w q g s pos' (fun e1 => ?_)).trans hh, r⟩
    rw [e1, hq] at hh
    cases hh
theorem Bld.iterAt (h : Bld B b l w) {q pos : Nat} {s : ByteArray} (hq : w.heap[q]? = some (.stringIter s pos)) (pos' : Nat) : Bld B b l (w.iterAt q s pos') := Lib.IsBuilderF.iterAt h hq pos'
/-- a builder stays one while a row of another kind grows -/
theorem Bld.only {base e size n c : Nat} {A : Option Addr} {xs : List Value} (h : Bld B b l w) (hA : Own w base e size A n c xs) (ho : Only w w' A) (he : e ≠ 5) (hT : e ≠ 111) : Bld B b l w' := by
  have key : ∀ (k : Nat) (o : Obj), w.heap[k]? = some o → (∀ cur fz, o ≠ Obj.cells cur e fz) → w'.heap[k]? = some o := by
    intro k o hk hne
    rw [ho.block k (Array.getElem?_eq_some_iff.1 hk).1 ?_]
    · exact hk
    · intro e1
      rcases hA.2 with ⟨h0, _⟩ | ⟨g, cap, cur, hv, _, hh, _⟩
      · injection h0 with h0; rw [h0] at e1; cases e1
      · injection hv with hv; rw [hv] at e1
        injection e1 with e1
        have e1 : k = g := e1
        subst e1
        rw [hk] at hh
        injection hh with hh
        exact hne _ _ hh
  have step : ∀ p, Lib.BuilderAtF 111 5 B b p (Lib.byteCells l) w → Lib.BuilderAtF 111 5 B b p (Lib.byteCells l) w' := by
    rintro p ⟨hB, v, hb, ⟨hl, hown⟩, hne⟩
    refine ⟨hB, v, key _ _ hb (fun cur fz e1 => ?_), ⟨hl, ?_⟩, hne⟩
    · injection e1 with _ e1; exact hT e1.symm
    rcases hown with hn | ⟨g, cap, cur, fz, hv, hbg, hg, rest⟩
    · exact .inl hn
    · exact .inr ⟨g, cap, cur, fz, hv, hbg, key _ _ hg (fun cur fz e1 => by injection e1 with _ e1; exact he e1.symm), rest⟩
  rcases h with h | h
  · exact .inl (step _ h)
  · exact .inr (step _ h)
end
end Go.Proofs.YtgdnphmannbpgaaGreatDoor
/-
  line: the contract of Blank.
-/
namespace Go.Proofs.YtgdnphmannbpgaaGreatDoor
open Go.RowKit

/-! ## blanks -/
def blankT (l : List UInt8) : Bool := l.all (fun b => b == 32 || b == 9)
theorem dropW_nil {p : UInt8 → Bool} (l : List UInt8) : l.dropWhile p = [] ↔ ∀ x ∈ l, p x = true := by
  induction l with
  | nil => simp
  | cons x l ih =>
    rw [List.dropWhile_cons]
    split
    · rename_i h; rw [ih]; simp [h]
    · rename_i h; simp [h]
theorem has_blank (b : UInt8) : ([32, 9] : List UInt8).contains b = (b == 32 || b == 9) := by
  by_cases h1 : b = 32 <;> by_cases h2 : b = 9 <;> simp [h1, h2]
theorem trimS_blank (l : List UInt8) : Lib.trimS l [32, 9] = [] ↔ blankT l = true := by
  have e : (fun b : UInt8 => ([32, 9] : List UInt8).contains b) = (fun b => b == 32 || b == 9) := funext has_blank
  unfold Lib.trimS Lib.trimLeftS Lib.trimRightS blankT
  rw [e]
  constructor
  · intro h
    rw [List.all_eq_true]
    intro x hx
    have h1 := (dropW_nil _).1 h
    by_cases hm : x ∈ (List.dropWhile (fun b => b == 32 || b == 9) l.reverse).reverse
    · exact h1 x hm
    · have hs := List.takeWhile_append_dropWhile (p := fun b : UInt8 => b == 32 || b == 9) (l := l.reverse)
      have : x ∈ l.reverse := by simpa using hx
      rw [← hs] at this
      rcases List.mem_append.1 this with h2 | h2
      · have := List.all_eq_true.1 (List.all_takeWhile (p := fun b : UInt8 => b == 32 || b == 9) (l := l.reverse)) x h2
        exact this
      · exact absurd (by simpa using h2) hm
  · intro h
    rw [List.all_eq_true] at h
    have h1 : List.dropWhile (fun b : UInt8 => b == 32 || b == 9) l.reverse = [] := (dropW_nil _).2 fun x hx => h x (by simpa using hx)
    rw [h1]; rfl

end Go.Proofs.YtgdnphmannbpgaaGreatDoor
/-
  bowdlerbook.SameTexts: its contract: whether two lists of texts are alike.
-/
namespace Go.Proofs.YtgdnphmannbpgaaGreatDoor
open Go.RowKit

theorem take_eq_succ {α : Type} {a b : List α} {k : Nat} {x y : α} (hx : a[k]? = some x) (hy : b[k]? = some y) (h : a.take k = b.take k) : a.take (k + 1) = b.take (k + 1) ↔ x = y := by
  rw [List.take_add_one, List.take_add_one, hx, hy, h]
  simp
abbrev txCells (xs : List ByteArray) : List Value := xs.map Value.string

set_option maxHeartbeats 400000 in
set_option maxRecDepth 100000 in
theorem sameTexts_any (A A' : Option Addr) (n n' c c' K : Nat) (xs ys : List ByteArray) (w : World) (ha : Reads w K 1 A n (txCells xs)) (hb : Reads w K 1 A' n' (txCells ys)) (hn : n ≤ 1099511627776) (hn' : n' ≤ 1099511627776) :
    Calls Tryz.prog 45 #[.slice A n c, .slice A' n' c'] w fun e w' => e = .returned (.bool (decide (xs = ys))) ∧ ∃ m, w' = w.drewN m := by
  have hl : xs.length = n := by have := ha.1; simpa using this
  have hl' : ys.length = n' := by have := hb.1; simpa using this
  have HL := Lib.hid hl
  have HL' := Lib.hid hl'
  clear hl hl'
  by_cases hnn : n = n'
  · subst hnn
    go_enter Tryz.func45, Tryz.ntmps45
    go_wp2_with fail
    go_loopw [5] (fun i wr => ∃ k m : Nat, k ≤ n ∧ i = .int .i64 k ∧ xs.take k = ys.take k ∧ wr = w.drewN m) (fun i _ => n - (intOf i).toNat)
    case atStart => exact ⟨0, 0, Nat.zero_le _, rfl, rfl, rfl⟩
    case round =>
      obtain ⟨k, m, hk, rfl, heq, rfl⟩ := hrel
      have HE := Lib.hid heq
      clear heq
      by_cases hlt : k < n
      · obtain ⟨ad, u, rfl, _, hx0, hc⟩ := ha.at_ hlt
        obtain ⟨ad', u', rfl, _, hy0, hc'⟩ := hb.at_ hlt
        obtain ⟨x, hx, rfl⟩ : ∃ x, xs[k]? = some x ∧ Value.string x = u := by simpa using hx0
        obtain ⟨y, hy, rfl⟩ : ∃ y, ys[k]? = some y ∧ Value.string y = u' := by simpa using hy0
        have HT := Lib.hid (take_eq_succ hx hy HE.out)
        clear hx hy hx0 hy0
        by_cases hxy : x = y
        · subst hxy
          go_wp2_with fail
          go_quiet (fail)
          go_wp2_with fail
          go_roundw
          case rel => exact ⟨k + 1, m + nq, by omega, by go_num, HT.out.2 (by first | rfl | trivial), rfl⟩
          case measure => simp [intOf]; omega
        · obtain ⟨q1, q2, q3⟩ := bytes_ne hxy
          have hne : ¬ xs = ys := fun h => hxy (HT.out.1 (by rw [h]))
          have HD := Lib.hid (decide_eq_false hne)
          clear hne HT hxy
          go_wp2_with fail
          go_quiet (fail)
          go_wp2_with fail
          go_ret
          refine ⟨?_, _, World.drewN_drewN _ _ _⟩
          rw [HD.out]
          rfl
      · have hkn : k = n := by omega
        subst hkn
        have hxy : xs = ys := by
          have := HE.out
          rwa [List.take_of_length_le (by rw [HL.out]; omega), List.take_of_length_le (by rw [HL'.out]; omega)] at this
        go_wp2_with fail
        go_ret
        rw [decide_eq_true hxy]
        exact ⟨rfl, m, rfl⟩
  · go_enter Tryz.func45, Tryz.ntmps45
    go_wp2_with fail
    go_ret
    have hne : ¬ xs = ys := fun h => hnn (by rw [← HL.out, ← HL'.out, h])
    rw [decide_eq_false hne]
    exact ⟨rfl, 0, rfl⟩
end Go.Proofs.YtgdnphmannbpgaaGreatDoor
/-
  line: the contracts of its functions.
-/
namespace Go.Proofs.YtgdnphmannbpgaaGreatDoor
open Go.RowKit

theorem Tryz.infoStr : (Tryz.prog.info? 9).map (fun i => (i.zero, i.size, i.bytes)) = some (some (.string ⟨#[]⟩), 1, 16) := by kernel_rfl
theorem Tryz.elTexts : Elem Tryz.prog 22 9 1 16 := Elem.mk' Tryz.underlying22 Tryz.infoStr rfl (by decide)
theorem tx_one (l : List ByteArray) : ∀ u ∈ txCells l, u.oneCell' = true := by
  intro u hu
  obtain ⟨x, _, rfl⟩ := List.mem_map.1 hu
  rfl

/-- the library's own variable holds some number -/
def Glb (w : World) : Prop := ∃ m, w.cell? ⟨0, 0, none⟩ = some (.int .i64 m)
theorem Glb.lt {w : World} (h : Glb w) : 0 < w.heap.size := by
  obtain ⟨m, hm⟩ := h
  exact World.block_lt_of_cell? w _ hm
theorem Glb.below {w w' : World} (h : Glb w) (hb : Below w.heap.size w w') : Glb w' := by
  have hl := h.lt
  obtain ⟨m, hm⟩ := h
  exact ⟨m, (hb.cell (p := ⟨0, 0, none⟩) hl).trans hm⟩
theorem Glb.alloc {w : World} (h : Glb w) (o : Obj) : Glb (w.alloc o) := h.below ((Below.refl _ _).alloc (Nat.le_refl _) _)

def linesB (s : ByteArray) : List ByteArray := (linesT (L s)).map S
theorem map_S_L (xs : List ByteArray) : (xs.map L).map S = xs := by
  rw [List.map_map]
  conv => rhs; rw [← List.map_id xs]
  congr 1

set_option maxHeartbeats 1000000 in
set_option maxRecDepth 100000 in
theorem split_any (s : ByteArray) (w : World) (hg : Glb w) (hs : s.size ≤ 1048576) :
    Calls Tryz.prog 30 #[.string s] w fun e w' => ∃ A n c, e = .returned (.slice A n c) ∧ Own w' w.heap.size 9 1 A n c (txCells (linesB s)) ∧ Below w.heap.size w w' := by
  obtain ⟨m, hm⟩ := hg
  have hsp := Tryz.strings_Split s ⟨#[10]⟩ m w (by omega) hm (Nat.le_refl _)
  have hk := split_kit _ s rfl
  have hlen := Lib.splitB_all ⟨#[10]⟩ (Nat.le_refl _) 0 _ s rfl
  have hcl := Lib.countB_le ⟨#[10]⟩ (Nat.le_refl _) s.size s (Nat.le_refl _)
  generalize Lib.splitB ⟨#[10]⟩ 0 (Lib.countB s ⟨#[10]⟩) s = xs at *
  generalize Lib.countB s ⟨#[10]⟩ = k at *
  have HS := Lib.hid hsp
  have HK := Lib.hid hk
  have HL := Lib.hid hlen
  clear hsp hk hm hlen
  obtain ⟨last, hla⟩ : ∃ last, xs[k]? = some last := ⟨_, List.getElem?_eq_getElem (by rw [HL.out]; omega)⟩
  have hgl : (split10 (L s)).getLast? = some (L last) := by
    rw [← HK.out, List.getLast?_map, List.getLast?_eq_getElem?, HL.out, show k + 1 - 1 = k by omega, hla]; rfl
  have hown : Own (w.alloc (.cells (xs.map Value.string).toArray 9)) w.heap.size 9 1 (some ⟨w.heap.size, 0, none⟩) (k + 1) (k + 1) (txCells xs) := by
    have := World.ownsRow_lit (base := w.heap.size) (e := 9) (size := 1) w (xs.map Value.string).toArray (k + 1) (Nat.le_refl _) (by unfold maxLen; omega) (by simp [HL.out])
    simpa [Own, txCells] using this
  have hc := hown.cell (j := k) (u := .string last) (by simp [txCells, hla])
  have bb : Below w.heap.size w (w.alloc (.cells (xs.map Value.string).toArray 9)) := (Below.refl _ _).alloc (Nat.le_refl _) _
  go_enter Tryz.func30, Tryz.ntmps30
  go_wp2_with fail
  refine HS.out.mono ?_
  rintro e w1 ⟨rfl, rfl⟩
  generalize w.alloc (.cells (xs.map Value.string).toArray 9) = w1 at *
  clear hla
  by_cases hl : last.size = 0
  · have hle : L last = [] := List.eq_nil_of_length_eq_zero (by simpa using hl)
    have hT : txCells (linesB s) = (txCells xs).take k := by
      have e1 : linesT (L s) = (split10 (L s)).dropLast := by unfold linesT; rw [if_pos (by rw [hgl, hle])]
      rw [linesB, e1, ← HK.out, ← List.map_dropLast, map_S_L, txCells, txCells, ← List.map_take, List.dropLast_eq_take, HL.out]; rfl
    have HT := Lib.hid hT
    have hlz := bytes_none hl
    rw [hlz] at hc
    clear hgl hle hT hlz hl
    go_wp2_with fail
    go_ret
    refine ⟨_, k, _, rfl, ?_, bb⟩
    rw [HT.out]
    have := hown.take (m := k) (by omega)
    rwa [Nat.mul_one] at this
  · have hT : txCells (linesB s) = txCells xs := by
      have e1 : linesT (L s) = split10 (L s) := by
        unfold linesT; rw [if_neg]
        rw [hgl]
        intro e
        injection e with e
        exact hl (by have := congrArg List.length e; simpa using this)
      rw [linesB, e1, ← HK.out, map_S_L]
    have HT := Lib.hid hT
    obtain ⟨t1, t2, t3⟩ := bytes_some hl
    clear hgl hT hl
    go_wp2_with fail
    go_ret
    refine ⟨_, k + 1, _, rfl, ?_, bb⟩
    rw [HT.out]
    exact hown

theorem joinT_take (xs : List ByteArray) {k : Nat} {x : ByteArray} (hx : xs[k]? = some x) : joinT ((xs.take (k + 1)).map L) = joinT ((xs.take k).map L) ++ (L x ++ [10]) := by
  rw [List.take_add_one, hx, Option.toList_some, List.map_append, joinT_app]; simp [joinT]
theorem joinT_take_le (xs : List ByteArray) (k : Nat) : (joinT ((xs.take k).map L)).length ≤ (joinT (xs.map L)).length := by
  conv => rhs; rw [← List.take_append_drop k xs, List.map_append, joinT_app, List.length_append]
  omega

set_option maxHeartbeats 1000000 in
set_option maxRecDepth 100000 in
theorem join_any (A : Option Addr) (n c K : Nat) (xs : List ByteArray) (w : World) (hr : Reads w K 1 A n (txCells xs)) (hK : K ≤ w.heap.size) (hb : (joinT (xs.map L)).length ≤ 140737488355328) :
    Calls Tryz.prog 34 #[.slice A n c] w fun e w' => e = .returned (.string (S (joinT (xs.map L)))) ∧ Below w.heap.size w w' := by
  have hlen : xs.length = n := by have := hr.1; simpa using this
  have hn : n ≤ 140737488355328 := by
    have h1 : xs.length ≤ (joinT (xs.map L)).length := by
      rw [joinT_len]
      clear hb hr hlen
      induction xs with
      | nil => simp
      | cons x xs ih => simp only [List.map_cons, List.sum_cons, List.length_cons] at *; omega
    omega
  have HL := Lib.hid hlen
  clear hlen
  go_enter Tryz.func34, Tryz.ntmps34
  go_wp2_with fail
  go_loopw [8] (fun i wr => ∃ k : Nat, k ≤ n ∧ i = .int .i64 k ∧ Bld w.heap.size w.heap.size (joinT ((xs.take k).map L)) wr ∧ Below w.heap.size w wr) (fun i _ => n - (intOf i).toNat)
  case atStart => exact ⟨0, Nat.zero_le _, rfl, Bld.new w, (Below.refl _ _).alloc (Nat.le_refl _) _⟩
  case round =>
    obtain ⟨k, hk, rfl, hB, hbw⟩ := hrel
    by_cases hlt : k < n
    · obtain ⟨ad, u, rfl, _, hx0, hc⟩ := (hr.keep (w' := wr) fun p hp => hbw.cell (by omega)).at_ hlt
      obtain ⟨x, hx, rfl⟩ : ∃ x, xs[k]? = some x ∧ Value.string x = u := by simpa using hx0
      have HT := Lib.hid (joinT_take xs hx)
      have hle := joinT_take_le xs (k + 1)
      rw [HT.out, List.length_append, List.length_append] at hle
      simp only [length_L, List.length_singleton] at hle
      clear hx hx0
      generalize joinT ((xs.take k).map L) = kl at *
      have hbs := hbw.size
      go_wp2_with fail
      refine (writeString_any w.heap.size w.heap.size kl _ _ hB (by simp only [ByteArray.size_append, size_lit, List.size_toArray, List.length_cons, List.length_nil]; omega) hbs).mono ?_
      rintro e w1 ⟨rfl, hB1, b1, k1⟩
      go_wp2_with fail
      go_roundw
      case rel =>
        refine ⟨k + 1, by omega, by go_num, ?_, hbw.trans b1⟩
        rw [HT.out]
        simpa only [L_append, L_lit] using hB1
      case measure => simp [intOf]; omega
    · have hkn : k = n := by omega
      subst hkn
      rw [List.take_of_length_le (by rw [HL.out]; omega)] at hB
      go_wp2_with fail
      refine (string_any w.heap.size w.heap.size _ _ hB hbw.size).mono ?_
      rintro e w1 ⟨rfl, hB1, b1, k1⟩
      go_wp2_with fail
      go_ret
      exact ⟨rfl, hbw.trans b1⟩
end Go.Proofs.YtgdnphmannbpgaaGreatDoor
/-
  An append of one element inside a region that draws.
-/
namespace Go.Proofs.YtgdnphmannbpgaaGreatDoor
open Go.RowKit

theorem Own.blk_ne {w : World} {base e size n c g t : Nat} {A : Option Addr} {xs : List Value} {cs : Array Value} (h : Own w base e size A n c xs) (hb : Blk w g t cs) (hne : e ≠ t) : ∀ a, A = some a → a.block ≠ g := by
  intro a ha e0
  rcases h.2 with ⟨h0, _⟩ | ⟨g', cap, cur, hv, _, hh, _⟩
  · injection h0 with h0; rw [h0] at ha; cases ha
  · injection hv with hv
    rw [hv] at ha; injection ha with ha
    rw [← ha] at e0
    have e1 : g' = g := e0
    rw [e1, hb] at hh
    injection hh with hh; injection hh with _ hh
    exact hne hh.symm

/-- 'append(s, x)' of one element, inside a region that draws -/
theorem step_app1 {P : Program} {w : World} {ops : Array Oper} {E' : Prop} {o : Oper} {a : Act} {K : Act → World → Prop} {Q : Exit → Act → World → Prop} {t e size bytes : Nat} (E : Elem P t e size bytes) (hgd : o.guard = none) (s x : Operand)
    (ho : o.op = .call { callee := .builtin .append, args := #[s, x], argTypes := #[t, t] })
    {base : Nat} {A : Option Addr} {n c : Nat} {xs : List Value} (hs : a.eval s = .slice A n c) (hown : Own w base e size A n c xs)
    {g : Nat} {cs : Array Value} (hx : a.eval x = .slice (some ⟨g, 0, none⟩) 1 1) (hg : Blk w g e cs) (hcs : cs.size = size) (h1 : ∀ u ∈ cs.toList, u.oneCell' = true)
    (h63 : n + 1 ≤ maxLen) (hbytes : (n + 1) * bytes ≤ 140737488355328) (hbase : base ≤ w.heap.size)
    (h : ∀ A' c' w', Own w' base e size A' (n + 1) c' (xs ++ cs.toList) → Only w w' A → Moved w A A' → K (a.put o.dst (.slice A' (n + 1) c')) w') :
    if Region.wanted o (yielded ops a.tmps) = true then Oper.wp P o a w K Q else E' := by
  have hw : Region.wanted o (yielded ops a.tmps) = true := by simp [Region.wanted, hgd]
  rw [if_pos hw]
  obtain ⟨i, z, hi, hz, hsize, hby, hzs⟩ := E.info
  have hr : Reads w w.heap.size size (some ⟨g, 0, none⟩) 1 cs.toList := ⟨by simp [hcs], fun _ => ⟨_, rfl, hg.lt, fun j u hu => by
    have : (⟨g, 0, none⟩ : Addr).add j = ⟨g, j, none⟩ := by unfold Addr.add; split <;> simp_all
    rw [this, hg.cell j]
    simpa using hu⟩⟩
  refine wp_append_any w s x t ho base e i z size bytes E.und hi hz hsize hby hzs E.pos _ n xs hs hown w.heap.size (some ⟨g, 0, none⟩) 1 1 cs.toList hx hr h1 h63 hbytes hbase (fun v' w' h2 h3 h4 => ?_)
  obtain ⟨A', c', rfl⟩ := slice_of_own h2
  rw [ownBlock_slice] at h3 h4
  rw [ownBlock_slice] at h4
  exact h A' c' w' h2 h3 h4

end Go.Proofs.YtgdnphmannbpgaaGreatDoor
/-
  Opening arguments that lie in memory: a slice of structs becomes a list of plain data. (open_slice_fields is turned from the guide's worked block.)
-/
namespace Go.Proofs.YtgdnphmannbpgaaGreatDoor
open Go.RowKit Go.ChangeShapes Go.WideShapes Go.Deep

section
variable {H : Type} {enc : TypeId × Value → H} {P : Program} {w : World} {base : Nat} {spare : Nat → Bool} {held : Bool}
theorem open_slice_fields {t e : TypeId} {fs : Array Field} {fuel : Nat} {cs : List Value} {x : DataW H × List MemPlace} (ht : P.underlying t = some (.slice e)) (he : P.underlying e = some (.struct fs))
    (hone : oneCellFields P fs = true) (hC : P.cellsOf e = fs.size) (h : DataW.trod enc P w base spare held fuel t cs = some x) :
    (cs = [.slice none 0 0] ∧ x = (.nil, [])) ∨
    ∃ (a : Addr) (len cap m : Nat) (D : Nat → DataW H) (Pl : Nat → List MemPlace), cs = [.slice (some a) len cap] ∧ base ≤ a.block ∧ len ≤ cap ∧ cap ≤ maxLen ∧ m = (if spare a.block then cap else len) ∧
      x = (.slice ((List.range len).map D) ((List.range (m - len)).map fun j => D (len + j)), MemPlace.row a (m * fs.size) ++ (List.range m).flatMap Pl) ∧
      ∀ i, i < m → ∃ (ys : List (DataW H × List MemPlace)) (n : Nat), D i = .agg (ys.map (·.1)) ∧ Pl i = ys.flatMap (·.2) ∧ ys.length = fs.size ∧
        ∀ (j : Nat) (f : Field), fs[j]? = some f → ∃ (v : Value) (y : DataW H × List MemPlace), w.cell? (a.add (i * fs.size + j)) = some v ∧ ys[j]? = some y ∧ DataW.trod enc P w base spare held n f.type [v] = some y := by
  rcases open_slice ht h with h0 | ⟨a, len, cap, m, n, D, Pl, hcs, hb, hl, hm, hmm, hx, hi⟩
  · exact .inl h0
  · refine .inr ⟨a, len, cap, m, D, Pl, hcs, hb, hl, hm, hmm, by rw [hC] at hx; exact hx, fun i him => ?_⟩
    obtain ⟨cs', hc, ht'⟩ := hi i him
    rw [hC] at hc
    obtain ⟨ys, n', hn', hy, hlen, hyl, hf⟩ := DataW.trod_struct he ht'
    obtain ⟨_, hcl, hat⟩ := World.cells?_some hc
    simp only [Prod.mk.injEq] at hy
    refine ⟨ys, n', hy.1, hy.2, hyl, fun j f hj => ?_⟩
    obtain ⟨ho, hk⟩ := hone_of hone j f hj
    have hjl : j < fs.size := (Array.getElem?_eq_some_iff.1 hj).1
    have hcell := hat j hjl
    have hv : cs'[j]? = some (cs'[j]'(by omega)) := List.getElem?_eq_getElem (by omega)
    have h1 := hf j f hj
    rw [ho, hk] at h1
    have hone' : (cs'.drop j).take 1 = [cs'[j]'(by omega)] := by
      rw [List.drop_eq_getElem_cons (by omega)]
      rfl
    rw [hone'] at h1
    have hys : ys[j]? = some (ys[j]'(by omega)) := List.getElem?_eq_getElem (by omega)
    refine ⟨_, _, ?_, hys, h1.trans hys⟩
    rw [← Go.Deep.add_add, hcell, hv]
end

theorem choose_list {α : Type} {n : Nat} {P : Nat → α → Prop} (h : ∀ i, i < n → ∃ x, P i x) : ∃ l : List α, l.length = n ∧ ∀ i x, l[i]? = some x → P i x := by
  induction n with
  | zero => exact ⟨[], rfl, fun i x hx => by simp at hx⟩
  | succ n ih =>
    obtain ⟨l, hl, hp⟩ := ih (fun i hi => h i (by omega))
    obtain ⟨x, hx⟩ := h n (by omega)
    refine ⟨l ++ [x], by simp [hl], fun i y hy => ?_⟩
    rcases Nat.lt_or_ge i n with hi | hi
    · rw [List.getElem?_append_left (by omega)] at hy
      exact hp i y hy
    · rw [List.getElem?_append_right (by omega)] at hy
      have hi0 : i - l.length = 0 := by
        have := (List.getElem?_eq_some_iff.1 hy).1
        simp at this; omega
      rw [hi0] at hy
      simp at hy
      subst hy
      have : i = n := by omega
      subst this
      exact hx

/-- what a reading weighs: each text, each slice -/
theorem weights_all {H : Type} {P : Program} {e : TypeId} : ∀ {l : List (DataW H)} {d : DataW H}, d ∈ l → ∀ n ∈ d.weights P e, n ∈ DataW.weightsAll P e l
  | d' :: r, d, hd, n, hn => by
    simp only [DataW.weightsAll, List.mem_append]
    rcases List.mem_cons.1 hd with rfl | h
    · exact Or.inl hn
    · exact Or.inr (weights_all h n hn)
theorem reach_eq : reachBytes = 140737488351232 := rfl

theorem bulk_all {H : Type} {d : DataW H} {l : List (DataW H)} (h : d ∈ l) : Rows.uptoBulk d ≤ Rows.uptoBulkAll l := by
  induction l with
  | nil => cases h
  | cons x r ih =>
    simp only [Rows.uptoBulkAll]
    cases List.mem_cons.1 h with
    | inl e => subst e; omega
    | inr e => have := ih e; omega
theorem bulk_pos {H : Type} (d : DataW H) : 1 ≤ Rows.uptoBulk d := by
  cases d with
  | lit l => cases l <;> simp [Rows.uptoBulk]
  | _ => simp [Rows.uptoBulk]
theorem bulk_len {H : Type} (l : List (DataW H)) : l.length ≤ Rows.uptoBulkAll l := by
  induction l with
  | nil => simp
  | cons x r ih => have := bulk_pos x; simp only [Rows.uptoBulkAll, List.length_cons]; omega
end Go.Proofs.YtgdnphmannbpgaaGreatDoor
