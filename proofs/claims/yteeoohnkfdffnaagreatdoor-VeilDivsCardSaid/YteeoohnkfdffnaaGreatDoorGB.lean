/- Joined texts: Build, LineB, SameTexts, Line. -/
import Derived.Shelf.Strings.BuilderK
import Derived.Test.YteeoohnkfdffnaaGreatDoorShelf
import Derived.Test.YteeoohnkfdffnaaGreatDoorGA
import Derived.Test.YteeoohnkfdffnaaGreatDoorChecked
import Derived.Shelf.Strings.SlTrimAscii
/-
  The library's contracts for strings.Builder that the one command passes over at this dump, laid by hand.
-/
namespace Go.Proofs.YteeoohnkfdffnaaGreatDoor
open Go.Shelf Go.RowKit
def Tryz.renBf (n : Nat) : Nat := if n = 166 then 59 else if n = 240 then 87 else if n = 276 then 109
  else if n = 167 then 60
  else n
def Tryz.renBt (n : Nat) : Nat := match n with
  | 0 => 0
  | 3 => 3
  | 4 => 4
  | 5 => 5
  | 9 => 9
  | 20 => 20
  | 37 => 103
  | 70 => 102
  | 72 => 105
  | 75 => 107
  | 80 => 112
  | 164 => 153
  | n => n
def Tryz.renB : Go.Shelf.Ren := ⟨Tryz.renBf, Tryz.renBt, fun n => n⟩
theorem Tryz.lays166 : Go.Proofs.Lays.n166 Tryz.prog Tryz.renB := {
  mixed := by kernel_rfl
  f166 := Tryz.func59.trans (congrArg some (by kernel_rfl))
  f240 := Tryz.func87.trans (congrArg some (by kernel_rfl))
  f276 := Tryz.func109.trans (congrArg some (by kernel_rfl))
  t0 := Tryz.underlying0, a0 := Tryz.isAgg0, z0 := Tryz.sizeOf0, v0 := Tryz.zeroValue0
  t3 := Tryz.underlying3, a3 := Tryz.isAgg3, z3 := Tryz.sizeOf3, v3 := Tryz.zeroValue3
  t4 := Tryz.underlying4, a4 := Tryz.isAgg4, z4 := Tryz.sizeOf4, v4 := Tryz.zeroValue4
  t9 := Tryz.underlying9, a9 := Tryz.isAgg9, z9 := Tryz.sizeOf9, v9 := Tryz.zeroValue9
  t20 := Tryz.underlying20, a20 := Tryz.isAgg20, z20 := Tryz.sizeOf20, v20 := Tryz.zeroValue20
  t37 := Tryz.underlying103, a37 := Tryz.isAgg103, z37 := Tryz.sizeOf103, v37 := Tryz.zeroValue103
  t70 := Tryz.underlying102, a70 := Tryz.isAgg102, z70 := Tryz.sizeOf102, v70 := Tryz.zeroValue102
  t72 := Tryz.underlying105, a72 := Tryz.isAgg105, z72 := Tryz.sizeOf105, v72 := Tryz.zeroValue105
  t75 := Tryz.underlying107, a75 := Tryz.isAgg107, z75 := Tryz.sizeOf107, v75 := Tryz.zeroValue107
  t164 := Tryz.underlying153, a164 := Tryz.isAgg153, z164 := Tryz.sizeOf153, v164 := Tryz.zeroValue153 }
theorem Tryz.extraB : Builder.Extra Tryz.prog Tryz.renB := {
  sizeBuilder := by kernel_rfl
  liesBuilder := by kernel_rfl
  t5 := Tryz.underlying5
  a5 := Tryz.isAgg5
  z5 := Tryz.sizeOf5
  v5 := Tryz.zeroValue5
  infoByte := by kernel_rfl
  cellsByte := by kernel_rfl
  sizeByte := by kernel_rfl
  neB5 := by decide }

theorem Tryz.lays167 : Go.Proofs.Lays.n167 Tryz.prog Tryz.renB := {
  mixed := by kernel_rfl
  f167 := Tryz.func60.trans (congrArg some (by kernel_rfl))
  f240 := Tryz.func87.trans (congrArg some (by kernel_rfl))
  f276 := Tryz.func109.trans (congrArg some (by kernel_rfl))
  t0 := Tryz.underlying0, a0 := Tryz.isAgg0, z0 := Tryz.sizeOf0, v0 := Tryz.zeroValue0
  t4 := Tryz.underlying4, a4 := Tryz.isAgg4, z4 := Tryz.sizeOf4, v4 := Tryz.zeroValue4
  t5 := Tryz.underlying5, a5 := Tryz.isAgg5, z5 := Tryz.sizeOf5, v5 := Tryz.zeroValue5
  t9 := Tryz.underlying9, a9 := Tryz.isAgg9, z9 := Tryz.sizeOf9, v9 := Tryz.zeroValue9
  t20 := Tryz.underlying20, a20 := Tryz.isAgg20, z20 := Tryz.sizeOf20, v20 := Tryz.zeroValue20
  t37 := Tryz.underlying103, a37 := Tryz.isAgg103, z37 := Tryz.sizeOf103, v37 := Tryz.zeroValue103
  t70 := Tryz.underlying102, a70 := Tryz.isAgg102, z70 := Tryz.sizeOf102, v70 := Tryz.zeroValue102
  t72 := Tryz.underlying105, a72 := Tryz.isAgg105, z72 := Tryz.sizeOf105, v72 := Tryz.zeroValue105
  t75 := Tryz.underlying107, a75 := Tryz.isAgg107, z75 := Tryz.sizeOf107, v75 := Tryz.zeroValue107
  t164 := Tryz.underlying153, a164 := Tryz.isAgg153, z164 := Tryz.sizeOf153, v164 := Tryz.zeroValue153 }
/-- a builder that holds bytes -/
def Bld (B b : Nat) (l : List UInt8) (w : World) : Prop := Lib.IsBuilderF 105 5 B b (Lib.byteCells l) w

/-- b.WriteString(s) -/
theorem writeString_any (B b : Nat) (l : List UInt8) (s : ByteArray) (w : World) (h : Bld B b l w) (hlen : l.length + s.size ≤ 140737488355328) (hBw : B ≤ w.heap.size) :
    Calls Tryz.prog 59 #[.pointer (some ⟨b, 0, none⟩), .string s] w fun e w' => e = .returned (.tuple #[.int .i64 s.size, .nilIface]) ∧
      Bld B b (l ++ L s) w' ∧ Below B w w' ∧ Lib.OthersKept 5 (some b) w w' := by
  refine (Any.Builder_WriteString_k Tryz.lays166 Tryz.extraB B b (Lib.byteCells l) s w h (by rw [Lib.byteCells_length]; exact hlen) hBw).mono ?_
  rintro e w' ⟨he, h1, h2, h3⟩
  refine ⟨he, Or.inr ?_, h2, h3⟩
  rw [Lib.byteCells_append]
  exact h1
/-- b.WriteByte(c) -/
theorem writeByte_any (B b : Nat) (l : List UInt8) (c : UInt8) (w : World) (h : Bld B b l w) (hlen : l.length + 1 ≤ 140737488355328) (hBw : B ≤ w.heap.size) :
    Calls Tryz.prog 60 #[.pointer (some ⟨b, 0, none⟩), .int .u8 (c.toNat : Int)] w fun e w' => e = .returned .nilIface ∧
      Bld B b (l ++ [c]) w' ∧ Below B w w' ∧ Lib.OthersKept 5 (some b) w w' := by
  refine (Any.Builder_WriteByte_k Tryz.lays167 Tryz.extraB B b (Lib.byteCells l) (c.toNat : Int) w h (by rw [Lib.byteCells_length]; exact hlen) hBw).mono ?_
  rintro e w' ⟨he, h1, h2, h3⟩
  refine ⟨he, Or.inr ?_, h2, h3⟩
  rw [Lib.byteCells_append]
  exact h1
/-- b.String() -/
theorem string_any (B b : Nat) (l : List UInt8) (w : World) (h : Bld B b l w) (hBw : B ≤ w.heap.size) :
    Calls Tryz.prog 62 #[.pointer (some ⟨b, 0, none⟩)] w fun e w' => e = .returned (.string (S l)) ∧ Bld B b l w' ∧ Below B w w' ∧ Lib.OthersKept 5 (some b) w w' :=
  (Tryz.Builder_String_any_k B b l w h hBw)
theorem Bld.new (w : World) : Bld w.heap.size w.heap.size [] (w.alloc (.cells #[.pointer none, .slice none 0 0] 105)) := Lib.IsBuilderF.of (Lib.fresh_isBuilder 105 5 w)
theorem Bld.new' (w : World) (B : Nat) (h : w.heap.size = B) : Bld B B [] (w.alloc (.cells #[.pointer none, .slice none 0 0] 105)) := by subst h; exact Bld.new w

section
variable {w w' : World} {B b : Nat} {l : List UInt8}
theorem Bld.of_blocks (h : Bld B b l w) (hk : ∀ k, k < w.heap.size → w'.heap[k]? = w.heap[k]?) : Bld B b l w' := by
  have step : ∀ p, Lib.BuilderAtF 105 5 B b p (Lib.byteCells l) w → Lib.BuilderAtF 105 5 B b p (Lib.byteCells l) w' := by
    rintro p ⟨hB, v, hb, ⟨hl, hown⟩, hne⟩
    refine ⟨hB, v, (hk _ (Array.getElem?_eq_some_iff.1 hb).1).trans hb, ⟨hl, ?_⟩, hne⟩
    rcases hown with hn | ⟨g, cap, cur, fz, hv, hbg, hg, rest⟩
    · exact .inl hn
    · exact .inr ⟨g, cap, cur, fz, hv, hbg, (hk _ (Array.getElem?_eq_some_iff.1 hg).1).trans hg, rest⟩
  rcases h with h | h
  · exact .inl (step _ h)
  · exact .inr (step _ h)
theorem Bld.below {K : Nat} (h : Bld B b l w) (hb : Below K w w') (hK : w.heap.size ≤ K) : Bld B b l w' := h.of_blocks fun k hk => hb.block k (by omega)
theorem Bld.drew (h : Bld B b l w) : Bld B b l w.drew := h
theorem Bld.drewN (h : Bld B b l w) (n : Nat) : Bld B b l (w.drewN n) := h
theorem Bld.alloc (h : Bld B b l w) (o : Obj) : Bld B b l (w.alloc o) := h.of_blocks fun k hk => Below.heap_alloc w o k hk
theorem Bld.at_ (h : Bld B b l w) : ∃ p v, w.heap[b]? = some (.cells #[p, v] 105 (0, 0)) := by
  rcases h with ⟨_, v, h, _⟩ | ⟨_, v, h, _⟩ <;> exact ⟨_, _, h⟩
theorem Bld.lt (h : Bld B b l w) : b < w.heap.size := by
  obtain ⟨p, v, h⟩ := h.at_
  exact (Array.getElem?_eq_some_iff.1 h).1
theorem Own.others {base e size n c : Nat} {A : Option Addr} {xs : List Value} (h : Own w base e size A n c xs) (hb : Bld B b l w) (ho : Lib.OthersKept 5 (some b) w w') (he : e ≠ 5) (hT : e ≠ 105) :
    Own w' base e size A n c xs := by
  refine ⟨h.1, ?_⟩
  rcases h.2 with hn | ⟨g, cap, cur, hv, hb', hh, r⟩
  · exact .inl hn
  · refine .inr ⟨g, cap, cur, hv, hb', ho g _ hh (fun e1 => ?_) (fun c fz e1 => ?_), r⟩
    · injection e1 with e1
      obtain ⟨p, v, hbb⟩ := hb.at_
      rw [← e1, hh] at hbb
      injection hbb with hbb; injection hbb with _ hbb
      exact hT hbb
    · injection e1 with _ e1
      exact he e1
theorem Blk.others {g : Nat} {t : TypeId} {cs : Array Value} (h : Blk w g t cs) (hb : Bld B b l w) (ho : Lib.OthersKept 5 (some b) w w') (he : t ≠ 5) (hT : t ≠ 105) : Blk w' g t cs := by
  refine ho g _ h (fun e1 => ?_) (fun c fz e1 => ?_)
  · injection e1 with e1
    obtain ⟨p, v, hbb⟩ := hb.at_
    unfold Blk at h
    rw [← e1, h] at hbb
    injection hbb with hbb; injection hbb with _ hbb
    exact hT hbb
  · injection e1 with _ e1
    exact he e1
theorem Own.iterAt {base e size n c : Nat} {A : Option Addr} {xs : List Value} (h : Own w base e size A n c xs) {q pos : Nat} {s : ByteArray} (hq : w.heap[q]? = some (.stringIter s pos)) (pos' : Nat) :
    Own (w.iterAt q s pos') base e size A n c xs := by
  refine ⟨h.1, ?_⟩
  rcases h.2 with hn | ⟨g, cap, cur, hv, hb', hh, r⟩
  · exact .inl hn
  · refine .inr ⟨g, cap, cur, hv, hb', (Lib.iterAt_other w q g s pos' (fun e1 => ?_)).trans hh, r⟩
    rw [e1, hq] at hh
    cases hh
theorem Bld.iterAt (h : Bld B b l w) {q pos : Nat} {s : ByteArray} (hq : w.heap[q]? = some (.stringIter s pos)) (pos' : Nat) : Bld B b l (w.iterAt q s pos') := Lib.IsBuilderF.iterAt h hq pos'
/-- a builder stays one while a row of another kind grows -/
theorem Bld.only {base e size n c : Nat} {A : Option Addr} {xs : List Value} (h : Bld B b l w) (hA : Own w base e size A n c xs) (ho : Only w w' A) (he : e ≠ 5) (hT : e ≠ 105) : Bld B b l w' := by
  have key : ∀ (k : Nat) (o : Obj), w.heap[k]? = some o → (∀ cur fz, o ≠ Obj.cells cur e fz) → w'.heap[k]? = some o := by
    intro k o hk hne
    rw [ho.block k (Array.getElem?_eq_some_iff.1 hk).1 ?_]
    · exact hk
    · intro e1
      rcases hA.2 with ⟨h0, _⟩ | ⟨g, cap, cur, hv, _, hh, _⟩
      · injection h0 with h0; rw [h0] at e1; cases e1
      · injection hv with hv; rw [hv] at e1
        injection e1 with e1
        have e1 : k = g := e1
        subst e1
        rw [hk] at hh
        injection hh with hh
        exact hne _ _ hh
  have step : ∀ p, Lib.BuilderAtF 105 5 B b p (Lib.byteCells l) w → Lib.BuilderAtF 105 5 B b p (Lib.byteCells l) w' := by
    rintro p ⟨hB, v, hb, ⟨hl, hown⟩, hne⟩
    refine ⟨hB, v, key _ _ hb (fun cur fz e1 => ?_), ⟨hl, ?_⟩, hne⟩
    · injection e1 with _ e1; exact hT e1.symm
    rcases hown with hn | ⟨g, cap, cur, fz, hv, hbg, hg, rest⟩
    · exact .inl hn
    · exact .inr ⟨g, cap, cur, fz, hv, hbg, key _ _ hg (fun cur fz e1 => by injection e1 with _ e1; exact he e1.symm), rest⟩
  rcases h with h | h
  · exact .inl (step _ h)
  · exact .inr (step _ h)
end
end Go.Proofs.YteeoohnkfdffnaaGreatDoor
/-
  line: the contract of Blank.
-/
namespace Go.Proofs.YteeoohnkfdffnaaGreatDoor
open Go.RowKit

/-! ## blanks -/
def blankT (l : List UInt8) : Bool := l.all (fun b => b == 32 || b == 9)
theorem dropW_nil {p : UInt8 → Bool} (l : List UInt8) : l.dropWhile p = [] ↔ ∀ x ∈ l, p x = true := by
  induction l with
  | nil => simp
  | cons x l ih =>
    rw [List.dropWhile_cons]
    split
    · rename_i h; rw [ih]; simp [h]
    · rename_i h; simp [h]
theorem has_blank (b : UInt8) : ([32, 9] : List UInt8).contains b = (b == 32 || b == 9) := by
  by_cases h1 : b = 32 <;> by_cases h2 : b = 9 <;> simp [h1, h2]
theorem trimS_blank (l : List UInt8) : Lib.trimS l [32, 9] = [] ↔ blankT l = true := by
  have e : (fun b : UInt8 => ([32, 9] : List UInt8).contains b) = (fun b => b == 32 || b == 9) := funext has_blank
  unfold Lib.trimS Lib.trimLeftS Lib.trimRightS blankT
  rw [e]
  constructor
  · intro h
    rw [List.all_eq_true]
    intro x hx
    have h1 := (dropW_nil _).1 h
    by_cases hm : x ∈ (List.dropWhile (fun b => b == 32 || b == 9) l.reverse).reverse
    · exact h1 x hm
    · have hs := List.takeWhile_append_dropWhile (p := fun b : UInt8 => b == 32 || b == 9) (l := l.reverse)
      have : x ∈ l.reverse := by simpa using hx
      rw [← hs] at this
      rcases List.mem_append.1 this with h2 | h2
      · have := List.all_eq_true.1 (List.all_takeWhile (p := fun b : UInt8 => b == 32 || b == 9) (l := l.reverse)) x h2
        exact this
      · exact absurd (by simpa using h2) hm
  · intro h
    rw [List.all_eq_true] at h
    have h1 : List.dropWhile (fun b : UInt8 => b == 32 || b == 9) l.reverse = [] := (dropW_nil _).2 fun x hx => h x (by simpa using hx)
    rw [h1]; rfl

end Go.Proofs.YteeoohnkfdffnaaGreatDoor
/-
  bowdlerbook.SameTexts: its contract: whether two lists of texts are alike.
-/
namespace Go.Proofs.YteeoohnkfdffnaaGreatDoor
open Go.RowKit

theorem take_eq_succ {α : Type} {a b : List α} {k : Nat} {x y : α} (hx : a[k]? = some x) (hy : b[k]? = some y) (h : a.take k = b.take k) : a.take (k + 1) = b.take (k + 1) ↔ x = y := by
  rw [List.take_add_one, List.take_add_one, hx, hy, h]
  simp
abbrev txCells (xs : List ByteArray) : List Value := xs.map Value.string

set_option maxHeartbeats 400000 in
set_option maxRecDepth 100000 in
theorem sameTexts_any (A A' : Option Addr) (n n' c c' K : Nat) (xs ys : List ByteArray) (w : World) (ha : Reads w K 1 A n (txCells xs)) (hb : Reads w K 1 A' n' (txCells ys)) (hn : n ≤ 1099511627776) (hn' : n' ≤ 1099511627776) :
    Calls Tryz.prog 53 #[.slice A n c, .slice A' n' c'] w fun e w' => e = .returned (.bool (decide (xs = ys))) ∧ ∃ m, w' = w.drewN m := by
  have hl : xs.length = n := by have := ha.1; simpa using this
  have hl' : ys.length = n' := by have := hb.1; simpa using this
  have HL := Lib.hid hl
  have HL' := Lib.hid hl'
  clear hl hl'
  by_cases hnn : n = n'
  · subst hnn
    go_enter Tryz.func53, Tryz.ntmps53
    go_wp2_with fail
    go_loopw [5] (fun i wr => ∃ k m : Nat, k ≤ n ∧ i = .int .i64 k ∧ xs.take k = ys.take k ∧ wr = w.drewN m) (fun i _ => n - (intOf i).toNat)
    case atStart => exact ⟨0, 0, Nat.zero_le _, rfl, rfl, rfl⟩
    case round =>
      obtain ⟨k, m, hk, rfl, heq, rfl⟩ := hrel
      have HE := Lib.hid heq
      clear heq
      by_cases hlt : k < n
      · obtain ⟨ad, u, rfl, _, hx0, hc⟩ := ha.at_ hlt
        obtain ⟨ad', u', rfl, _, hy0, hc'⟩ := hb.at_ hlt
        obtain ⟨x, hx, rfl⟩ : ∃ x, xs[k]? = some x ∧ Value.string x = u := by simpa using hx0
        obtain ⟨y, hy, rfl⟩ : ∃ y, ys[k]? = some y ∧ Value.string y = u' := by simpa using hy0
        have HT := Lib.hid (take_eq_succ hx hy HE.out)
        clear hx hy hx0 hy0
        by_cases hxy : x = y
        · subst hxy
          go_wp2_with fail
          go_quiet (fail)
          go_wp2_with fail
          go_roundw
          case rel => exact ⟨k + 1, m + nq, by omega, by go_num, HT.out.2 (by first | rfl | trivial), rfl⟩
          case measure => simp [intOf]; omega
        · obtain ⟨q1, q2, q3⟩ := bytes_ne hxy
          have hne : ¬ xs = ys := fun h => hxy (HT.out.1 (by rw [h]))
          have HD := Lib.hid (decide_eq_false hne)
          clear hne HT hxy
          go_wp2_with fail
          go_quiet (fail)
          go_wp2_with fail
          go_ret
          refine ⟨?_, _, World.drewN_drewN _ _ _⟩
          rw [HD.out]
          rfl
      · have hkn : k = n := by omega
        subst hkn
        have hxy : xs = ys := by
          have := HE.out
          rwa [List.take_of_length_le (by rw [HL.out]; omega), List.take_of_length_le (by rw [HL'.out]; omega)] at this
        go_wp2_with fail
        go_ret
        rw [decide_eq_true hxy]
        exact ⟨rfl, m, rfl⟩
  · go_enter Tryz.func53, Tryz.ntmps53
    go_wp2_with fail
    go_ret
    have hne : ¬ xs = ys := fun h => hnn (by rw [← HL.out, ← HL'.out, h])
    rw [decide_eq_false hne]
    exact ⟨rfl, 0, rfl⟩
end Go.Proofs.YteeoohnkfdffnaaGreatDoor
/-
  line: the contracts of its functions.
-/
namespace Go.Proofs.YteeoohnkfdffnaaGreatDoor
open Go.RowKit

theorem Tryz.infoStr : (Tryz.prog.info? 9).map (fun i => (i.zero, i.size, i.bytes)) = some (some (.string ⟨#[]⟩), 1, 16) := by kernel_rfl
theorem Tryz.elTexts : Elem Tryz.prog 22 9 1 16 := Elem.mk' Tryz.underlying22 Tryz.infoStr rfl (by decide)
theorem tx_one (l : List ByteArray) : ∀ u ∈ txCells l, u.oneCell' = true := by
  intro u hu
  obtain ⟨x, _, rfl⟩ := List.mem_map.1 hu
  rfl

/-- the library's own variable holds some number -/
def Glb (w : World) : Prop := ∃ m, w.cell? ⟨0, 0, none⟩ = some (.int .i64 m)
theorem Glb.lt {w : World} (h : Glb w) : 0 < w.heap.size := by
  obtain ⟨m, hm⟩ := h
  exact World.block_lt_of_cell? w _ hm
theorem Glb.below {w w' : World} (h : Glb w) (hb : Below w.heap.size w w') : Glb w' := by
  have hl := h.lt
  obtain ⟨m, hm⟩ := h
  exact ⟨m, (hb.cell (p := ⟨0, 0, none⟩) hl).trans hm⟩
theorem Glb.alloc {w : World} (h : Glb w) (o : Obj) : Glb (w.alloc o) := h.below ((Below.refl _ _).alloc (Nat.le_refl _) _)

def linesB (s : ByteArray) : List ByteArray := (linesT (L s)).map S
theorem map_S_L (xs : List ByteArray) : (xs.map L).map S = xs := by
  rw [List.map_map]
  conv => rhs; rw [← List.map_id xs]
  congr 1

set_option maxHeartbeats 1000000 in
set_option maxRecDepth 100000 in
theorem split_any (s : ByteArray) (w : World) (hg : Glb w) (hs : s.size ≤ 1048576) :
    Calls Tryz.prog 27 #[.string s] w fun e w' => ∃ A n c, e = .returned (.slice A n c) ∧ Own w' w.heap.size 9 1 A n c (txCells (linesB s)) ∧ Below w.heap.size w w' := by
  obtain ⟨m, hm⟩ := hg
  have hsp := Tryz.strings_Split s ⟨#[10]⟩ m w (by omega) hm (Nat.le_refl _)
  have hk := split_kit _ s rfl
  have hlen := Lib.splitB_all ⟨#[10]⟩ (Nat.le_refl _) 0 _ s rfl
  have hcl := Lib.countB_le ⟨#[10]⟩ (Nat.le_refl _) s.size s (Nat.le_refl _)
  generalize Lib.splitB ⟨#[10]⟩ 0 (Lib.countB s ⟨#[10]⟩) s = xs at *
  generalize Lib.countB s ⟨#[10]⟩ = k at *
  have HS := Lib.hid hsp
  have HK := Lib.hid hk
  have HL := Lib.hid hlen
  clear hsp hk hm hlen
  obtain ⟨last, hla⟩ : ∃ last, xs[k]? = some last := ⟨_, List.getElem?_eq_getElem (by rw [HL.out]; omega)⟩
  have hgl : (split10 (L s)).getLast? = some (L last) := by
    rw [← HK.out, List.getLast?_map, List.getLast?_eq_getElem?, HL.out, show k + 1 - 1 = k by omega, hla]; rfl
  have hown : Own (w.alloc (.cells (xs.map Value.string).toArray 9)) w.heap.size 9 1 (some ⟨w.heap.size, 0, none⟩) (k + 1) (k + 1) (txCells xs) := by
    have := World.ownsRow_lit (base := w.heap.size) (e := 9) (size := 1) w (xs.map Value.string).toArray (k + 1) (Nat.le_refl _) (by unfold maxLen; omega) (by simp [HL.out])
    simpa [Own, txCells] using this
  have hc := hown.cell (j := k) (u := .string last) (by simp [txCells, hla])
  have bb : Below w.heap.size w (w.alloc (.cells (xs.map Value.string).toArray 9)) := (Below.refl _ _).alloc (Nat.le_refl _) _
  go_enter Tryz.func27, Tryz.ntmps27
  go_wp2_with fail
  refine HS.out.mono ?_
  rintro e w1 ⟨rfl, rfl⟩
  generalize w.alloc (.cells (xs.map Value.string).toArray 9) = w1 at *
  clear hla
  by_cases hl : last.size = 0
  · have hle : L last = [] := List.eq_nil_of_length_eq_zero (by simpa using hl)
    have hT : txCells (linesB s) = (txCells xs).take k := by
      have e1 : linesT (L s) = (split10 (L s)).dropLast := by unfold linesT; rw [if_pos (by rw [hgl, hle])]
      rw [linesB, e1, ← HK.out, ← List.map_dropLast, map_S_L, txCells, txCells, ← List.map_take, List.dropLast_eq_take, HL.out]; rfl
    have HT := Lib.hid hT
    have hlz := bytes_none hl
    rw [hlz] at hc
    clear hgl hle hT hlz hl
    go_wp2_with fail
    go_ret
    refine ⟨_, k, _, rfl, ?_, bb⟩
    rw [HT.out]
    have := hown.take (m := k) (by omega)
    rwa [Nat.mul_one] at this
  · have hT : txCells (linesB s) = txCells xs := by
      have e1 : linesT (L s) = split10 (L s) := by
        unfold linesT; rw [if_neg]
        rw [hgl]
        intro e
        injection e with e
        exact hl (by have := congrArg List.length e; simpa using this)
      rw [linesB, e1, ← HK.out, map_S_L]
    have HT := Lib.hid hT
    obtain ⟨t1, t2, t3⟩ := bytes_some hl
    clear hgl hT hl
    go_wp2_with fail
    go_ret
    refine ⟨_, k + 1, _, rfl, ?_, bb⟩
    rw [HT.out]
    exact hown

theorem joinT_take (xs : List ByteArray) {k : Nat} {x : ByteArray} (hx : xs[k]? = some x) : joinT ((xs.take (k + 1)).map L) = joinT ((xs.take k).map L) ++ (L x ++ [10]) := by
  rw [List.take_add_one, hx, Option.toList_some, List.map_append, joinT_app]; simp [joinT]
theorem joinT_take_le (xs : List ByteArray) (k : Nat) : (joinT ((xs.take k).map L)).length ≤ (joinT (xs.map L)).length := by
  conv => rhs; rw [← List.take_append_drop k xs, List.map_append, joinT_app, List.length_append]
  omega

set_option maxHeartbeats 1000000 in
set_option maxRecDepth 100000 in
theorem join_any (A : Option Addr) (n c K : Nat) (xs : List ByteArray) (w : World) (hr : Reads w K 1 A n (txCells xs)) (hK : K ≤ w.heap.size) (hb : (joinT (xs.map L)).length ≤ 140737488355328) :
    Calls Tryz.prog 42 #[.slice A n c] w fun e w' => e = .returned (.string (S (joinT (xs.map L)))) ∧ Below w.heap.size w w' := by
  have hlen : xs.length = n := by have := hr.1; simpa using this
  have hn : n ≤ 140737488355328 := by
    have h1 : xs.length ≤ (joinT (xs.map L)).length := by
      rw [joinT_len]
      clear hb hr hlen
      induction xs with
      | nil => simp
      | cons x xs ih => simp only [List.map_cons, List.sum_cons, List.length_cons] at *; omega
    omega
  have HL := Lib.hid hlen
  clear hlen
  go_enter Tryz.func42, Tryz.ntmps42
  go_wp2_with fail
  go_loopw [8] (fun i wr => ∃ k : Nat, k ≤ n ∧ i = .int .i64 k ∧ Bld w.heap.size w.heap.size (joinT ((xs.take k).map L)) wr ∧ Below w.heap.size w wr) (fun i _ => n - (intOf i).toNat)
  case atStart => exact ⟨0, Nat.zero_le _, rfl, Bld.new w, (Below.refl _ _).alloc (Nat.le_refl _) _⟩
  case round =>
    obtain ⟨k, hk, rfl, hB, hbw⟩ := hrel
    by_cases hlt : k < n
    · obtain ⟨ad, u, rfl, _, hx0, hc⟩ := (hr.keep (w' := wr) fun p hp => hbw.cell (by omega)).at_ hlt
      obtain ⟨x, hx, rfl⟩ : ∃ x, xs[k]? = some x ∧ Value.string x = u := by simpa using hx0
      have HT := Lib.hid (joinT_take xs hx)
      have hle := joinT_take_le xs (k + 1)
      rw [HT.out, List.length_append, List.length_append] at hle
      simp only [length_L, List.length_singleton] at hle
      clear hx hx0
      generalize joinT ((xs.take k).map L) = kl at *
      have hbs := hbw.size
      go_wp2_with fail
      refine (writeString_any w.heap.size w.heap.size kl _ _ hB (by simp only [ByteArray.size_append, size_lit, List.size_toArray, List.length_cons, List.length_nil]; omega) hbs).mono ?_
      rintro e w1 ⟨rfl, hB1, b1, k1⟩
      go_wp2_with fail
      go_roundw
      case rel =>
        refine ⟨k + 1, by omega, by go_num, ?_, hbw.trans b1⟩
        rw [HT.out]
        simpa only [L_append, L_lit] using hB1
      case measure => simp [intOf]; omega
    · have hkn : k = n := by omega
      subst hkn
      rw [List.take_of_length_le (by rw [HL.out]; omega)] at hB
      go_wp2_with fail
      refine (string_any w.heap.size w.heap.size _ _ hB hbw.size).mono ?_
      rintro e w1 ⟨rfl, hB1, b1, k1⟩
      go_wp2_with fail
      go_ret
      exact ⟨rfl, hbw.trans b1⟩
end Go.Proofs.YteeoohnkfdffnaaGreatDoor
