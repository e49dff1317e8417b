/-
  The library's contracts for strings.Builder that the one command passes over at this dump, laid by hand.
-/
import Derived.Shelf.Strings.BuilderK
import Derived.Test.YtfjapjoomnallaaGreatDoorShelf
import Derived.Test.YtfjapjoomnallaaGreatDoorMem
import Derived.Test.YtfjapjoomnallaaGreatDoorPlain
namespace Go.Proofs.YtfjapjoomnallaaGreatDoor
open Go.Shelf Go.RowKit
def Tryz.renBf (n : Nat) : Nat := if n = 166 then 24 else if n = 240 then 63 else if n = 276 then 93
  else n
def Tryz.renBt (n : Nat) : Nat := match n with
  | 0 => 0
  | 3 => 3
  | 4 => 4
  | 5 => 5
  | 9 => 9
  | 20 => 20
  | 37 => 48
  | 70 => 47
  | 72 => 50
  | 75 => 52
  | 80 => 55
  | 164 => 125
  | n => n
def Tryz.renB : Go.Shelf.Ren := ⟨Tryz.renBf, Tryz.renBt, fun n => n⟩
theorem Tryz.lays166 : Go.Proofs.Lays.n166 Tryz.prog Tryz.renB := {
  mixed := by kernel_rfl
  f166 := Tryz.func24.trans (congrArg some (by kernel_rfl))
  f240 := Tryz.func63.trans (congrArg some (by kernel_rfl))
  f276 := Tryz.func93.trans (congrArg some (by kernel_rfl))
  t0 := Tryz.underlying0, a0 := Tryz.isAgg0, z0 := Tryz.sizeOf0, v0 := Tryz.zeroValue0
  t3 := Tryz.underlying3, a3 := Tryz.isAgg3, z3 := Tryz.sizeOf3, v3 := Tryz.zeroValue3
  t4 := Tryz.underlying4, a4 := Tryz.isAgg4, z4 := Tryz.sizeOf4, v4 := Tryz.zeroValue4
  t9 := Tryz.underlying9, a9 := Tryz.isAgg9, z9 := Tryz.sizeOf9, v9 := Tryz.zeroValue9
  t20 := Tryz.underlying20, a20 := Tryz.isAgg20, z20 := Tryz.sizeOf20, v20 := Tryz.zeroValue20
  t37 := Tryz.underlying48, a37 := Tryz.isAgg48, z37 := Tryz.sizeOf48, v37 := Tryz.zeroValue48
  t70 := Tryz.underlying47, a70 := Tryz.isAgg47, z70 := Tryz.sizeOf47, v70 := Tryz.zeroValue47
  t72 := Tryz.underlying50, a72 := Tryz.isAgg50, z72 := Tryz.sizeOf50, v72 := Tryz.zeroValue50
  t75 := Tryz.underlying52, a75 := Tryz.isAgg52, z75 := Tryz.sizeOf52, v75 := Tryz.zeroValue52
  t164 := Tryz.underlying125, a164 := Tryz.isAgg125, z164 := Tryz.sizeOf125, v164 := Tryz.zeroValue125 }
theorem Tryz.extraB : Builder.Extra Tryz.prog Tryz.renB := {
  sizeBuilder := by kernel_rfl
  liesBuilder := by kernel_rfl
  t5 := Tryz.underlying5
  a5 := Tryz.isAgg5
  z5 := Tryz.sizeOf5
  v5 := Tryz.zeroValue5
  infoByte := by kernel_rfl
  cellsByte := by kernel_rfl
  sizeByte := by kernel_rfl
  neB5 := by decide }

/-- a builder that holds bytes -/
def Bld (B b : Nat) (l : List UInt8) (w : World) : Prop := Lib.IsBuilderF 50 5 B b (Lib.byteCells l) w

/-- b.WriteString(s) -/
theorem writeString_any (B b : Nat) (l : List UInt8) (s : ByteArray) (w : World) (h : Bld B b l w) (hlen : l.length + s.size ≤ 140737488355328) (hBw : B ≤ w.heap.size) :
    Calls Tryz.prog 24 #[.pointer (some ⟨b, 0, none⟩), .string s] w fun e w' => e = .returned (.tuple #[.int .i64 s.size, .nilIface]) ∧
      Bld B b (l ++ L s) w' ∧ Below B w w' ∧ Lib.OthersKept 5 (some b) w w' := by
  refine (Any.Builder_WriteString_k Tryz.lays166 Tryz.extraB B b (Lib.byteCells l) s w h (by rw [Lib.byteCells_length]; exact hlen) hBw).mono ?_
  rintro e w' ⟨he, h1, h2, h3⟩
  refine ⟨he, Or.inr ?_, h2, h3⟩
  rw [Lib.byteCells_append]
  exact h1
/-- b.String() -/
theorem string_any (B b : Nat) (l : List UInt8) (w : World) (h : Bld B b l w) (hBw : B ≤ w.heap.size) :
    Calls Tryz.prog 25 #[.pointer (some ⟨b, 0, none⟩)] w fun e w' => e = .returned (.string (S l)) ∧ Bld B b l w' ∧ Below B w w' ∧ Lib.OthersKept 5 (some b) w w' :=
  (Tryz.Builder_String_any_k B b l w h hBw)
/-- strings.Repeat(s, c) -/
theorem repeat_any (s : ByteArray) (c : Int) (w : World) (h0 : 0 ≤ c) (hlen : s.size * c.toNat ≤ 140737488355328) (hc : c ≤ 9223372036854775807) :
    Calls Tryz.prog 28 #[.string s, .int .i64 c] w fun e w' => e = .returned (.string (S (Lib.repeatL (L s) c.toNat))) ∧ Below w.heap.size w w' := by
  obtain ⟨n, rfl⟩ := Int.eq_ofNat_of_zero_le h0
  rw [Int.toNat_natCast] at *
  exact Tryz.strings_Repeat s n w (by omega) hlen
theorem Bld.new (w : World) : Bld w.heap.size w.heap.size [] (w.alloc (.cells #[.pointer none, .slice none 0 0] 50)) := Lib.IsBuilderF.of (Lib.fresh_isBuilder 50 5 w)
theorem Bld.new' (w : World) (B : Nat) (h : w.heap.size = B) : Bld B B [] (w.alloc (.cells #[.pointer none, .slice none 0 0] 50)) := by subst h; exact Bld.new w

section
variable {w w' : World} {B b : Nat} {l : List UInt8}
theorem Bld.of_blocks (h : Bld B b l w) (hk : ∀ k, k < w.heap.size → w'.heap[k]? = w.heap[k]?) : Bld B b l w' := by
  have step : ∀ p, Lib.BuilderAtF 50 5 B b p (Lib.byteCells l) w → Lib.BuilderAtF 50 5 B b p (Lib.byteCells l) w' := by
    rintro p ⟨hB, v, hb, ⟨hl, hown⟩, hne⟩
    refine ⟨hB, v, (hk _ (Array.getElem?_eq_some_iff.1 hb).1).trans hb, ⟨hl, ?_⟩, hne⟩
    rcases hown with hn | ⟨g, cap, cur, fz, hv, hbg, hg, rest⟩
    · exact .inl hn
    · exact .inr ⟨g, cap, cur, fz, hv, hbg, (hk _ (Array.getElem?_eq_some_iff.1 hg).1).trans hg, rest⟩
  rcases h with h | h
  · exact .inl (step _ h)
  · exact .inr (step _ h)
theorem Bld.below {K : Nat} (h : Bld B b l w) (hb : Below K w w') (hK : w.heap.size ≤ K) : Bld B b l w' := h.of_blocks fun k hk => hb.block k (by omega)
theorem Bld.drew (h : Bld B b l w) : Bld B b l w.drew := h
theorem Bld.drewN (h : Bld B b l w) (n : Nat) : Bld B b l (w.drewN n) := h
theorem Bld.alloc (h : Bld B b l w) (o : Obj) : Bld B b l (w.alloc o) := h.of_blocks fun k hk => Below.heap_alloc w o k hk
theorem Bld.at_ (h : Bld B b l w) : ∃ p v, w.heap[b]? = some (.cells #[p, v] 50 (0, 0)) := by
  rcases h with ⟨_, v, h, _⟩ | ⟨_, v, h, _⟩ <;> exact ⟨_, _, h⟩
theorem Bld.lt (h : Bld B b l w) : b < w.heap.size := by
  obtain ⟨p, v, h⟩ := h.at_
  exact (Array.getElem?_eq_some_iff.1 h).1
theorem Own.others {base e size n c : Nat} {A : Option Addr} {xs : List Value} (h : Own w base e size A n c xs) (hb : Bld B b l w) (ho : Lib.OthersKept 5 (some b) w w') (he : e ≠ 5) (hT : e ≠ 50) :
    Own w' base e size A n c xs := by
  refine ⟨h.1, ?_⟩
  rcases h.2 with hn | ⟨g, cap, cur, hv, hb', hh, r⟩
  · exact .inl hn
  · refine .inr ⟨g, cap, cur, hv, hb', ho g _ hh (fun e1 => ?_) (fun c fz e1 => ?_), r⟩
    · injection e1 with e1
      obtain ⟨p, v, hbb⟩ := hb.at_
      rw [← e1, hh] at hbb
      injection hbb with hbb; injection hbb with _ hbb
      exact hT hbb
    · injection e1 with _ e1
      exact he e1
theorem Blk.others {g : Nat} {t : TypeId} {cs : Array Value} (h : Blk w g t cs) (hb : Bld B b l w) (ho : Lib.OthersKept 5 (some b) w w') (he : t ≠ 5) (hT : t ≠ 50) : Blk w' g t cs := by
  refine ho g _ h (fun e1 => ?_) (fun c fz e1 => ?_)
  · injection e1 with e1
    obtain ⟨p, v, hbb⟩ := hb.at_
    unfold Blk at h
    rw [← e1, h] at hbb
    injection hbb with hbb; injection hbb with _ hbb
    exact hT hbb
  · injection e1 with _ e1
    exact he e1
theorem Own.iterAt {base e size n c : Nat} {A : Option Addr} {xs : List Value} (h : Own w base e size A n c xs) {q pos : Nat} {s : ByteArray} (hq : w.heap[q]? = some (.stringIter s pos)) (pos' : Nat) :
    Own (w.iterAt q s pos') base e size A n c xs := by
  refine ⟨h.1, ?_⟩
  rcases h.2 with hn | ⟨g, cap, cur, hv, hb', hh, r⟩
  · exact .inl hn
  · refine .inr ⟨g, cap, cur, hv, hb', (Lib.iterAt_other w q g s pos' (fun e1 => ?_)).trans hh, r⟩
    rw [e1, hq] at hh
    cases hh
theorem Bld.iterAt (h : Bld B b l w) {q pos : Nat} {s : ByteArray} (hq : w.heap[q]? = some (.stringIter s pos)) (pos' : Nat) : Bld B b l (w.iterAt q s pos') := Lib.IsBuilderF.iterAt h hq pos'
/-- a builder stays one while a row of another kind grows -/
theorem Bld.only {base e size n c : Nat} {A : Option Addr} {xs : List Value} (h : Bld B b l w) (hA : Own w base e size A n c xs) (ho : Only w w' A) (he : e ≠ 5) (hT : e ≠ 50) : Bld B b l w' := by
  have key : ∀ (k : Nat) (o : Obj), w.heap[k]? = some o → (∀ cur fz, o ≠ Obj.cells cur e fz) → w'.heap[k]? = some o := by
    intro k o hk hne
    rw [ho.block k (Array.getElem?_eq_some_iff.1 hk).1 ?_]
    · exact hk
    · intro e1
      rcases hA.2 with ⟨h0, _⟩ | ⟨g, cap, cur, hv, _, hh, _⟩
      · injection h0 with h0; rw [h0] at e1; cases e1
      · injection hv with hv; rw [hv] at e1
        injection e1 with e1
        have e1 : k = g := e1
        subst e1
        rw [hk] at hh
        injection hh with hh
        exact hne _ _ hh
  have step : ∀ p, Lib.BuilderAtF 50 5 B b p (Lib.byteCells l) w → Lib.BuilderAtF 50 5 B b p (Lib.byteCells l) w' := by
    rintro p ⟨hB, v, hb, ⟨hl, hown⟩, hne⟩
    refine ⟨hB, v, key _ _ hb (fun cur fz e1 => ?_), ⟨hl, ?_⟩, hne⟩
    · injection e1 with _ e1; exact hT e1.symm
    rcases hown with hn | ⟨g, cap, cur, fz, hv, hbg, hg, rest⟩
    · exact .inl hn
    · exact .inr ⟨g, cap, cur, fz, hv, hbg, key _ _ hg (fun cur fz e1 => by injection e1 with _ e1; exact he e1.symm), rest⟩
  rcases h with h | h
  · exact .inl (step _ h)
  · exact .inr (step _ h)
end
end Go.Proofs.YtfjapjoomnallaaGreatDoor
